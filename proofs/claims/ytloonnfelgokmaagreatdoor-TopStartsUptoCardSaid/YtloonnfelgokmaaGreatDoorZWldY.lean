/- Where fields lie: lay.slots, lay.Types. Condition: the world was read. -/
import Derived.Maps.RangeWalk
import Derived.Test.YtloonnfelgokmaaGreatDoorZWldZ
import Derived.Test.YtloonnfelgokmaaGreatDoorZNum1
import Derived.Laws.CopyOwn
import Derived.Laws.CopyRow
set_option maxRecDepth 100000
set_option maxHeartbeats 16000000
set_option linter.unusedSimpArgs false
set_option linter.unusedVariables false
namespace Go.Proofs.YtloonnfelgokmaaGreatDoor.worlds
open Go.RowKit lib maps classes errs
structure Wd (w : World) (b : Nat) (W : WL) : Prop where
 at_ : WAt w b W
 good : GoodW W
 most : most W ≤ 13000001
theorem Wd.below {w w' : World} {b : Nat} {W : WL} (h : Wd w b W) (hb : Below w.heap.size w w') : Wd w' b W := ⟨h.at_.below hb, h.good, h.most⟩
theorem GoodW.faces' {W : WL} (h : GoodW W) (x : ByteArray) : (cAt W x).faces.length ≤ 1048576 := by
 unfold cAt
 cases hg : getK W x with
 | none => simp [zeroC]
 | some c => have := h.faces x c hg; simp only [Option.getD_some]; omega
theorem rev_any {w0 w : World} {v : Value} {l : List ByteArray} (ho : Out w0 w 9 1 v l.length (l.map .string)) (h1 : 1 ≤ l.length) (hsz : l.length ≤ 1000000000) :
  Calls Tryz.prog 22 #[v] w fun e w' => e = .returned (.tuple #[]) ∧ Sl w' v l.length 1 (l.reverse.map .string) ∧ Below w0.heap.size w0 w' := by
 rcases ho.own.2 with ⟨_, h0⟩ | ⟨g, cap, cur, rfl, hg, hrow, hc, _, hcs, hxs⟩
 ·omega
 rw [Nat.mul_one] at hxs
 obtain ⟨ss, hss⟩ : ∃ ss, l.map (fun x => x.data.toList) = ss := ⟨_, rfl⟩
 have hsl : ss.length = l.length := by rw [← hss, List.length_map]
 have hgl : g < w.heap.size := (zh hrow).1
 have hH : Go.Sort.Holds Go.Proofs.encStr w g 0 ss.toArray := by
  intro j hj
  have hjl : j < l.length := by rw [← hsl]; simpa using hj
  refine ⟨?_, ?_⟩
  ·rw [Nat.zero_add, cell_of_row _ _ _ _ _ _ hrow]
   have e1 : (cur.toList.take l.length)[j]? = cur[j]? := by rw [List.getElem?_take, if_pos hjl, Array.getElem?_toList]
   rw [← e1, hxs, List.getElem?_map, List.getElem?_eq_getElem hjl]
   have e2 : ss.toArray[j]! = l[j].data.toList := by
    subst hss
    simp [hjl]
   rw [e2]
   simp [Go.Proofs.encStr]
  ·exact frozen_of_row _ _ _ _ _ hrow
 have hrun := Tryz.slices_Reverse_string g 0 cap ss w hH (by omega)
 rw [hsl] at hrun
 refine hrun.mono ?_
 rintro e w' ⟨rfl, n, rfl⟩
 have hB := below_sorted ho.below hg n ss.reverse.toArray #[]
 rw [Go.Sort.grow_empty] at hB
 refine ⟨rfl, ?_, hB⟩
 obtain ⟨d, hd⟩ : ∃ d, ss.reverse = d := ⟨_, rfl⟩
 rw [hd]
 have hdl : d.length = ss.length := by rw [← hd, List.length_reverse]
 have hG := Go.Sort.holds_putRow Go.Proofs.encStr (Go.Sort.ahead w n) g 0 ss.toArray d.toArray hH (by simpa using hdl)
 have hsb : l.reverse = d.map fun x => ⟨x.toArray⟩ := by
  rw [← hd, ← hss, List.map_reverse, List.map_map]
  congr 1
  have : ((fun x : List UInt8 => (⟨x.toArray⟩ : ByteArray)) ∘ fun x : ByteArray => x.data.toList) = id := by funext x; rfl
  rw [this, List.map_id]
 refine ⟨by rw [List.length_map, List.length_reverse, Nat.mul_one], _, _, rfl, hc, .inr ⟨g, 0, rfl, fun j u hj => ?_⟩⟩
 rw [hsb, List.map_map, List.getElem?_map] at hj
 have hjd : j < d.length := by
  rcases Nat.lt_or_ge j d.length with h | h
  ·exact h
  ·rw [List.getElem?_eq_none h] at hj; cases hj
 rw [List.getElem?_eq_getElem hjd] at hj
 have := (hG j (by simpa using hjd)).1
 rw [this]
 have e3 : d.toArray[j]! = d[j] := by simp [hjd]
 rw [e3]
 simpa [Go.Proofs.encStr] using hj
abbrev SF := ByteArray × classes.Fd
def fieldsOf (W : WL) (c : ByteArray) : List SF := (cAt W c).fields.map fun f => (c, f)
theorem run_fields (v0 v1 v2 v3 v5 : Value) (a : Option Addr) (n c : Nat) (w : World) : (Instr.field 28 (.agg #[v0, v1, v2, v3, .slice a n c, v5]) 4).run Tryz.prog w = .ok (.slice a n c) w := by
 simp [Instr.field, run_underlying Tryz.underlying28]
 first | rfl | kernel_rfl | (go_simp; done) | (go_simp; rfl)
open Go.RowKit lib maps classes errs grow nums descs
theorem hdoes_any (W : WL) (b : Nat) (vt : Value) (H : List Th) (k n : Int) (t : ByteArray) (w : World) (hW : Wd w b W) (hH : Ths w vt H) (hty : ∀ x ∈ H, isTy x.ty.data.toList = true) (ht : isTy t.data.toList = true) (hn : H.length ≤ 1048576) :
  Calls Tryz.prog 28 #[.map (some b), .agg #[vt], .agg #[.int .i64 k, .int .i64 n], .string t] w fun e w' => e = .returned (.bool (doesV W H ⟨k, n⟩ t.data.toList)) ∧ Below w.heap.size w w' := by
 obtain ⟨ah, ch, rfl⟩ := hH.sl.val
 have HW := hid hW; have HH := hid hH; have HTY := hid hty; have HT := hid ht
 obtain ⟨W1, hW1⟩ : ∃ W1, w.alloc (.cells #[.slice ah H.length ch] 77) = W1 := ⟨_, rfl⟩
 have HB1 : Hid (Below w.heap.size w W1) := hid (hW1 ▸ ext_alloc _ _)
 have hlt1 : w.heap.size < W1.heap.size := by rw [← hW1]; simp
 have hr1 : W1.heap[w.heap.size]? = some (.cells #[.slice ah H.length ch] 77 (0, 0)) := hW1 ▸ heap_alloc_new _ _
 obtain ⟨W2, hW2⟩ : ∃ W2, W1.alloc (.cells #[.int .i64 k, .int .i64 n] 36) = W2 := ⟨_, rfl⟩
 have HB12 : Hid (Below W1.heap.size W1 W2) := hid (hW2 ▸ ext_alloc _ _)
 have HB2 := hid (HB1.out.trans (HB12.out.mono HB1.out.size))
 have hlt2 : W1.heap.size < W2.heap.size := by rw [← hW2]; simp
 have hr2 : W2.heap[W1.heap.size]? = some (.cells #[.int .i64 k, .int .i64 n] 36 (0, 0)) := hW2 ▸ heap_alloc_new _ _
 have HV : Hid (∀ u, Below W2.heap.size W2 u → u.cell? ⟨W1.heap.size, 0, none⟩ = some (.int .i64 k) ∧ u.cell? ⟨W1.heap.size, 1, none⟩ = some (.int .i64 n)) := hid (fun u hu => by
  have h := (hu.block _ hlt2).trans hr2
  refine ⟨?_, ?_⟩ <;> (rw [cell_of_row _ _ _ _ _ _ h]; rfl))
 have HK : Hid (∀ u, Below W2.heap.size W2 u → u.cell? ⟨w.heap.size, 0, none⟩ = some (.slice ah H.length ch)) := hid (fun u hu => by
  have h := (hu.block _ (Nat.lt_trans hlt1 hlt2)).trans ((HB12.out.block _ hlt1).trans hr1)
  rw [cell_of_row _ _ _ _ _ _ h]; rfl)
 obtain ⟨x0, x1⟩ := HV.out _ (Below.refl _ _)
 have x2 := HK.out _ (Below.refl _ _)
 clear hH hty hr1 hr2 hW
 by_cases h1 : k = 1
 ·subst h1
  by_cases hI : t.data.toList = [73]
  ·have HZ : Hid (doesV W H ⟨1, n⟩ t.data.toList = decide (n = wrap32 n)) := hid (by rw [hI]; unfold doesV; simp)
   obtain rfl : t = ⟨#[73]⟩ := (int_letters t).2 hI
   clear hI
   go_enter Tryz.func28, Tryz.ntmps28
   go_wp2_with fail
   refine wp_region_ext [(7, is (.int .i64 (wrap32 n)))] ⟨is_stays _, trivial⟩ (by kernel_rfl) (by kernel_rfl) ?_
   refine zgc 1 ?_
   go_frame
   refine wpG_calc (v := .bool true) 2 rfl rfl rfl (fun u => by first | (go_simp; done) | (go_simp; rfl)) ?_
   go_frame
   refine zgc 3 ?_
   go_frame
   refine zgc 4 ?_
   go_frame
   refine wpG_read 5 rfl rfl (.int .i64 n) rfl ?_ ?_
   ·intro u hu hh
    obtain ⟨y0, y1⟩ := HV.out u hu
    go_simp
   go_frame
   refine zgc 6 ?_
   go_frame
   refine wpG_read 7 rfl rfl (.int .i64 n) rfl ?_ ?_
   ·intro u hu hh
    obtain ⟨y0, y1⟩ := HV.out u hu
    go_simp
   go_frame
   refine wpG_rel 8 rfl rfl rfl ?_ ?_
   ·intro u hu hh
    go_simp
    refine (word_any n u).mono ?_
    rintro e w2 ⟨rfl, rfl⟩
    exact ⟨_, rfl, rfl, Below.refl _ _⟩
   intro vC ⟨uC, _, hrC⟩
   obtain rfl : vC = .int .i64 (wrap32 n) := hrC
   go_frame
   refine zgc 9 ?_
   go_frame
   refine zgc 10 ?_
   go_frame
   refine zgc 11 ?_
   go_frame
   refine wpG_nil fun w' hb' hF => ?_
   clear hF
   have HBf := hid (HB2.out.trans (hb'.mono HB2.out.size))
   clear hb'
   go_wp2
   go_ret
   exact ⟨by rw [HZ.out]; first | rfl | (simp; done), HBf.out⟩
  ·have HZ : Hid (doesV W H ⟨1, n⟩ t.data.toList = false) := hid (by unfold doesV; simp [hI])
   have g1 : ¬ t.toList = [73] := fun h => hI (str_list.1 h)
   have hf1 : (t.toList == [73]) = false := beq_eq_false_iff_ne.2 g1
   clear hI
   go_enter Tryz.func28, Tryz.ntmps28
   go_wp2_with fail
   refine wp_region_ext [] trivial (by kernel_rfl) (by kernel_rfl) ?_
   refine zgc 1 ?_
   go_frame
   refine wpG_calc (v := .bool false) 2 rfl rfl rfl (fun u => by first | (go_simp; done) | (go_simp; simp [hf1])) ?_
   go_frame
   refine zgc 3 ?_
   go_frame
   refine wpG_skip 4 rfl rfl ?_
   go_frame
   refine wpG_skip 5 rfl rfl ?_
   go_frame
   refine wpG_skip 6 rfl rfl ?_
   go_frame
   refine wpG_skip 7 rfl rfl ?_
   go_frame
   refine wpG_skip 8 rfl rfl ?_
   go_frame
   refine wpG_skip 9 rfl rfl ?_
   go_frame
   refine zgc 10 ?_
   go_frame
   refine zgc 11 ?_
   go_frame
   refine wpG_nil fun w' hb' hF => ?_
   clear hF
   have HBf := hid (HB2.out.trans (hb'.mono HB2.out.size))
   clear hb'
   go_wp2
   go_ret
   exact ⟨by rw [HZ.out]; rfl, HBf.out⟩
 by_cases h2 : k = 2
 ·subst h2
  by_cases hI : t.data.toList = [74]
  ·have HZ : Hid (doesV W H ⟨2, n⟩ t.data.toList = true) := hid (by rw [hI]; unfold doesV; simp)
   have g1 : t.toList = [74] := str_list.2 hI
   have hf1 : (t.toList == [74]) = true := by rw [g1]; rfl
   clear hI
   go_enter Tryz.func28, Tryz.ntmps28
   go_wp2
   go_ret
   exact ⟨by rw [HZ.out]; first | rfl | (simp [hf1]; done), HB2.out⟩
  ·have HZ : Hid (doesV W H ⟨2, n⟩ t.data.toList = false) := hid (by unfold doesV; simp [hI])
   have g1 : ¬ t.toList = [74] := fun h => hI (str_list.1 h)
   have hf1 : (t.toList == [74]) = false := beq_eq_false_iff_ne.2 g1
   clear hI
   go_enter Tryz.func28, Tryz.ntmps28
   go_wp2
   go_ret
   exact ⟨by rw [HZ.out]; first | rfl | (simp [hf1]; done), HB2.out⟩
 by_cases h3 : k = 3
 ·subst h3
  have HRT := hid (refs_any t)
  cases hr : refs t.data.toList with
  | false =>
   have HZ : Hid (doesV W H ⟨3, n⟩ t.data.toList = false) := hid (by unfold doesV; simp [hr])
   rw [hr] at HRT
   clear hr
   go_enter Tryz.func28, Tryz.ntmps28
   go_wp2_with fail
   refine (HRT.out _).mono ?_
   rintro e w3 ⟨rfl, rfl⟩
   go_wp2
   go_ret
   exact ⟨by rw [HZ.out]; rfl, HB2.out⟩
  | true =>
   rw [hr] at HRT
   by_cases hn0 : n < 0
   ·have HZ : Hid (doesV W H ⟨3, n⟩ t.data.toList = false) := hid (by unfold doesV; simp [hr, hn0])
    clear hr
    go_enter Tryz.func28, Tryz.ntmps28
    go_wp2_with fail
    refine (HRT.out _).mono ?_
    rintro e w3 ⟨rfl, rfl⟩
    go_wp2
    go_ret
    exact ⟨by rw [HZ.out]; rfl, HB2.out⟩
   by_cases hn1 : (H.length : Int) < n
   ·have HZ : Hid (doesV W H ⟨3, n⟩ t.data.toList = false) := hid (by unfold doesV; simp [hr, hn1])
    clear hr
    go_enter Tryz.func28, Tryz.ntmps28
    go_wp2_with fail
    refine (HRT.out _).mono ?_
    rintro e w3 ⟨rfl, rfl⟩
    go_wp2
    go_ret
    exact ⟨by rw [HZ.out]; rfl, HB2.out⟩
   by_cases hnz : n = 0
   ·subst hnz
    have HZ : Hid (doesV W H ⟨3, 0⟩ t.data.toList = true) := hid (by unfold doesV; simp [hr])
    clear hr
    go_enter Tryz.func28, Tryz.ntmps28
    go_wp2_with fail
    refine (HRT.out _).mono ?_
    rintro e w3 ⟨rfl, rfl⟩
    go_wp2
    go_ret
    exact ⟨by rw [HZ.out]; rfl, HB2.out⟩
   obtain ⟨m, rfl⟩ : ∃ m : Nat, n = (m : Int) + 1 := ⟨(n - 1).toNat, by omega⟩
   have hm : m < H.length := by omega
   obtain ⟨bb, off, hab, hd0, _⟩ := th_at (HH.out.below HB2.out) hm
   subst hab
   have HZ : Hid (doesV W H ⟨3, (m : Int) + 1⟩ t.data.toList = doesL W H[m].ty.data.toList t.data.toList) := hid (by
    unfold doesV
    have e1 : ((m : Int) + 1 - 1).toNat = m := by omega
    simp only [e1, List.getElem?_eq_getElem hm]
    rw [if_neg (by omega), if_neg (by omega), if_pos trivial, if_neg (by rintro (h | h | h); exact absurd (hr ▸ h) (by simp); omega; omega), if_neg (by omega)])
   have HD := hid (does_any W b (fun x => HW.out.good.faces' x) HW.out.most H[m].ty.size H[m].ty t W2 (Nat.le_refl _) (HTY.out _ (List.getElem_mem hm)) HT.out (HW.out.at_.below HB2.out))
   generalize H[m] = x at hd0 HZ HD
   have hw : wrap64 ((m : Int) + 1 - 1) = (m : Int) := by unfold wrap64; omega
   have hz0 : ¬ (m : Int) + 1 = 0 := by omega
   have hm0 : (0 : Int) ≤ (m : Int) := by omega
   have hm1 : (m : Int) < (H.length : Int) := by omega
   have hm2 : ¬ (m : Int) + 1 < 0 := by omega
   have hm3 : ¬ (H.length : Int) < (m : Int) + 1 := by omega
   clear hr
   go_enter Tryz.func28, Tryz.ntmps28
   go_wp2_with fail
   refine (HRT.out _).mono ?_
   rintro e w3 ⟨rfl, rfl⟩
   go_wp2_with fail
   refine HD.out.mono ?_
   rintro e w4 ⟨rfl, hb4⟩
   have HB4 := hid (HB2.out.trans (hb4.mono HB2.out.size))
   clear hb4
   go_wp2
   go_ret
   exact ⟨by rw [HZ.out]; rfl, HB4.out⟩
 ·have HZ : Hid (doesV W H ⟨k, n⟩ t.data.toList = false) := hid (by unfold doesV; simp [h1, h2, h3])
  have e1 : (k == 1) = false := by simpa using h1
  have e2 : (k == 2) = false := by simpa using h2
  have e3 : (k == 3) = false := by simpa using h3
  go_enter Tryz.func28, Tryz.ntmps28
  go_wp2
  go_ret
  exact ⟨by rw [HZ.out]; rfl, HB2.out⟩
open Go.RowKit lib maps classes errs ins
theorem load_mem : ∀ {l : List CV} {W V : WL} {f : Int}, load W l = (f, V) → ∀ p ∈ V, p ∈ W ∨ p.2 ∈ l
 | [], W, V, f, h, p, hp => by
  simp only [load, Prod.mk.injEq] at h
  obtain ⟨_, rfl⟩ := h
  exact .inl hp
 | c :: r, W, V, f, h, p, hp => by
  unfold load at h
  by_cases h1 : clsFault c ≠ 0
  ·rw [if_pos h1] at h
   simp only [Prod.mk.injEq] at h
   obtain ⟨_, rfl⟩ := h
   exact .inl hp
  rw [if_neg h1] at h
  by_cases h2 : (getK W c.nm).isSome = true
  ·rw [if_pos h2] at h
   simp only [Prod.mk.injEq] at h
   obtain ⟨_, rfl⟩ := h
   exact .inl hp
  rw [if_neg h2] at h
  rcases load_mem h p hp with h3 | h3
  ·rcases mem_set h3 with h4 | rfl
   ·exact .inl h4
   ·exact .inr (List.mem_cons_self ..)
  ·exact .inr (List.mem_cons_of_mem _ h3)
theorem read_inv {l : List CV} {W : WL} (h : readW l = (0, W)) : load firstW l = (0, W) ∧ l.length ≤ 10 := by
 unfold readW at h
 by_cases h0 : 10 < l.length
 ·rw [if_pos h0] at h; simp at h
 rw [if_neg h0] at h
 obtain ⟨f, V, hV⟩ : ∃ f V, load firstW l = (f, V) := ⟨_, _, rfl⟩
 rw [hV] at h
 simp only at h
 by_cases h1 : f ≠ 0
 ·rw [if_pos h1] at h
  simp only [Prod.mk.injEq] at h
  exact absurd h.1 h1
 rw [if_neg h1] at h
 obtain rfl : f = 0 := by simpa using h1
 by_cases h2 : firstF (joinFault V) l ≠ 0
 ·rw [if_pos h2] at h
  simp only [Prod.mk.injEq] at h
  exact absurd h.1 h2
 rw [if_neg h2] at h
 by_cases h3 : firstF (roundFault V) l ≠ 0
 ·rw [if_pos h3] at h
  simp at h
 rw [if_neg h3] at h
 simp only [Prod.mk.injEq, true_and] at h
 subst h
 exact ⟨hV, by omega⟩
theorem read_wd {l : List CV} {W : WL} {w : World} {b : Nat} (h : readW l = (0, W)) (hs : ∀ c ∈ l, SmallC c) (hw : WAt w b W) : Wd w b W := by
 obtain ⟨h1, h2⟩ := read_inv h
 have h3 := load_len h1
 have e : firstW.length = 2 := rfl
 refine ⟨hw, read_good h, Nat.le_trans (most_small (by omega) (fun p hp => ?_)) (by omega)⟩
 rcases load_mem h1 p hp with h4 | h4
 ·rcases List.mem_cons.1 h4 with rfl | h4
  ·simp [objC, zeroC]
  ·obtain rfl := List.mem_singleton.1 h4
   simp [fltC, zeroC]
 ·exact (hs _ h4).flen
def ReadWd (w : World) (l : List CV) (e : Ending) (w' : World) : Prop :=
 Below w.heap.size w w' ∧ (if (readW l).1 = 0 then e = .returned (.tuple #[.map (some w.heap.size), .nilIface]) ∧ Wd w' w.heap.size (readW l).2 else e = .returned (.tuple #[.map none, errVal (readW l).1]))
theorem readwd_any (va : Value) (l : List CV) (w : World) (hl : Clss w va l) (hf : FormsAt w) (hsm : ∀ c ∈ l, SmallC c) (hn : l.length ≤ 1048576) :
  Calls Tryz.prog 20 #[va] w (ReadWd w l) := by
 refine (read_any va l w hl hf hsm hn).mono ?_
 rintro e w' ⟨hb, h⟩
 refine ⟨hb, ?_⟩
 by_cases h0 : (readW l).1 = 0
 ·rw [if_pos h0] at h ⊢
  refine ⟨h.1, read_wd ?_ hsm h.2⟩
  obtain ⟨f, V, hV⟩ : ∃ f V, readW l = (f, V) := ⟨_, _, rfl⟩
  rw [hV] at h0 ⊢
  simp only at h0
  rw [h0]
 ·rw [if_neg h0] at h ⊢
  exact h
open Go.RowKit lib maps classes errs descs
open Go.RowKit lib maps classes errs descs names grow
theorem run_face (v0 v1 v2 v4 v5 : Value) (f : Bool) (w : World) : (Instr.field 28 (.agg #[v0, v1, v2, .bool f, v4, v5]) 3).run Tryz.prog w = .ok (.bool f) w := by
 simp [Instr.field, run_underlying Tryz.underlying28]
 first | rfl | kernel_rfl | (go_simp; done) | (go_simp; rfl)
end Go.Proofs.YtloonnfelgokmaaGreatDoor.worlds
