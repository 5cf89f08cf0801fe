/- What the reference marks live, in plain words. No condition. -/
import Derived.Test.YtlhobhnbgdicjaaGreatDoorZWldQ
import Derived.Deep.LoopGhost
import Derived.Test.YtlhobhnbgdicjaaGreatDoorZInts
import Derived.Test.YtlhobhnbgdicjaaGreatDoorZRWldB
import Derived.Deep.WholeRow
import Derived.Test.YtlhobhnbgdicjaaGreatDoorZRWldA
namespace Go.Proofs.YtlhobhnbgdicjaaGreatDoor.worlds
open Go.RowKit lib maps classes descs
structure LS (H : List Th) (R : List Vl) (S : List Bool) (A : List Vl) (i : Nat) : Prop where
 len : S.length = H.length + 1
 roots : ∀ v ∈ R, v ∈ A
 true_ : ∀ j, isM S j → Marks H R j
 all : ∀ v ∈ A, Leads v → Marks H R v.n.toNat
 has : ∀ p x, isM S (p + 1) → H[p]? = some x → ∀ v ∈ x.has, v ∈ A
 done : ∀ v ∈ A.take i, Leads v → isM S v.n.toNat
 pts : ∀ v ∈ A, Points H v
theorem ls_start {H : List Th} {R : List Vl} (hp : ∀ v ∈ R, Points H v) : LS H R (List.replicate (H.length + 1) false) R 0 := by
 have hno : ∀ i, ¬ isM (List.replicate (H.length + 1) false) i := fun i hi => by
  unfold isM at hi
  rw [List.getElem?_replicate] at hi
  split at hi <;> simp at hi
 exact ⟨by simp, fun _ h => h, fun j h => absurd h (hno j), fun v hv hl => .root hv hl, fun p x h => absurd h (hno _), by simp, hp⟩
theorem ls_skip {H : List Th} {R : List Vl} {S : List Bool} {A : List Vl} {i : Nat} (h : LS H R S A i) (hi : i < A.length) (hv : Leads A[i] → isM S A[i].n.toNat) : LS H R S A (i + 1) := by
 refine ⟨h.len, h.roots, h.true_, h.all, h.has, fun v hv2 hl => ?_, h.pts⟩
 rw [List.take_succ_eq_append_getElem hi] at hv2
 rcases List.mem_append.1 hv2 with h2 | h2
 ·exact h.done v h2 hl
 ·obtain rfl := List.mem_singleton.1 h2
  exact hv hl
theorem ls_go {H : List Th} {R : List Vl} {S : List Bool} {A : List Vl} {i : Nat} (h : LS H R S A i) (hi : i < A.length) (hl : Leads A[i]) {x : Th} (hx : H[A[i].n.toNat - 1]? = some x) (hlt : A[i].n.toNat < S.length) (hp : ∀ v ∈ x.has, Points H v) :
  LS H R (S.set A[i].n.toNat true) (A ++ x.has) (i + 1) := by
 have hm := h.all _ (List.getElem_mem hi) hl
 have hpp : A[i].n.toNat - 1 + 1 = A[i].n.toNat := by have := hl.2; omega
 refine ⟨by rw [List.length_set, h.len], fun v hv => List.mem_append_left _ (h.roots v hv), fun j hj => ?_, fun v hv hlv => ?_, fun p y hy hpx v hv => ?_, fun v hv hlv => ?_, fun v hv => ?_⟩
 ·rcases (isM_set hlt).1 hj with rfl | hj
  ·exact hm
  ·exact h.true_ j hj
 ·rcases List.mem_append.1 hv with hv | hv
  ·exact h.all v hv hlv
  ·exact .step (by rw [hpp]; exact hm) hx hv hlv
 ·rcases (isM_set hlt).1 hy with h2 | h2
  ·have : p = A[i].n.toNat - 1 := by omega
   subst this
   rw [hx] at hpx
   cases hpx
   exact List.mem_append_right _ hv
  ·exact List.mem_append_left _ (h.has p y h2 hpx v hv)
 ·rw [List.take_append_of_le_length (by omega), List.take_succ_eq_append_getElem hi] at hv
  rcases List.mem_append.1 hv with h2 | h2
  ·exact (isM_set hlt).2 (.inr (h.done v h2 hlv))
  ·obtain rfl := List.mem_singleton.1 h2
   exact (isM_set hlt).2 (.inl rfl)
 ·rcases List.mem_append.1 hv with hv | hv
  ·exact h.pts v hv
  ·exact hp v hv
theorem ls_end {H : List Th} {R : List Vl} {S : List Bool} {A : List Vl} {i : Nat} (h : LS H R S A i) (hi : A.length ≤ i) : ∃ bs, S = false :: bs ∧ Done H R bs := by
 have hd : ∀ v ∈ A, Leads v → isM S v.n.toNat := fun v hv hl => h.done v (by rw [List.take_of_length_le hi]; exact hv) hl
 have hm : ∀ j, isM S j ↔ Marks H R j := fun j => ⟨h.true_ j, fun hj => by
  induction hj with
  | root hv hl => exact hd _ (h.roots _ hv) hl
  | step _ hx hv hl ih => exact hd _ (h.has _ _ ih hx _ hv) hl⟩
 have hl := h.len
 cases S with
 | nil => simp at hl
 | cons b bs =>
  have h0 : b = false := by
   cases b with
   | false => rfl
   | true => exact absurd (no_zero ((hm 0).1 rfl)) (Nat.lt_irrefl _)
  subst h0
  refine ⟨bs, rfl, by simpa using hl, fun i => ?_⟩
  rw [← hm (i + 1)]
  unfold isM
  simp
end Go.Proofs.YtlhobhnbgdicjaaGreatDoor.worlds
set_option linter.unusedSimpArgs false
set_option linter.unusedVariables false
namespace Go.Proofs.YtlhobhnbgdicjaaGreatDoor.worlds
open Go.RowKit lib maps classes errs descs names grow ins
structure LM (w0 w : World) (g : Nat) (va : Value) (S : List Bool) (A : List Vl) : Prop where
 row : w.heap[g]? = some (.cells (S.map Value.bool).toArray 4 (0, 0))
 out : Out w0 w 49 2 va A.length (A.flatMap Vl.cells)
 ne : va.ownBlock ≠ some g
 ge : w0.heap.size ≤ g
theorem LM.later {w0 w w' : World} {g : Nat} {va : Value} {S : List Bool} {A : List Vl} (h : LM w0 w g va S A) (hb : Below w.heap.size w w') : LM w0 w' g va S A :=
 ⟨(hb.block _ (Array.getElem?_eq_some_iff.1 h.row).1).trans h.row, h.out.later hb, h.ne, h.ge⟩
theorem LM.put {w0 w : World} {g : Nat} {va : Value} {S : List Bool} {A : List Vl} (h : LM w0 w g va S A) (j : Nat) : LM w0 (w.setCell ⟨g, j, none⟩ (.bool true)) g va (S.set j true) A := by
 refine ⟨?_, ⟨h.out.own.kept (grown_set w ⟨g, j, none⟩ _) (.inr fun he => h.ne he), h.out.below.setCell h.ge _⟩, h.ne, h.ge⟩
 rw [← map_set_bool]
 simp [World.setCell, Array.getElem?_modify, h.row]
theorem LM.app {w0 w w' : World} {g : Nat} {va va' : Value} {S : List Bool} {A B : List Vl} (h : LM w0 w g va S A) (ho : Out w0 w' 49 2 va' (A.length + B.length) (A.flatMap Vl.cells ++ B.flatMap Vl.cells)) (hg : w.grownBy w' va.ownBlock)
  (hat : va'.ownBlock = va.ownBlock ∨ ∃ k, va'.ownBlock = some k ∧ w.heap.size ≤ k) : LM w0 w' g va' S (A ++ B) := by
 have hlt := (Array.getElem?_eq_some_iff.1 h.row).1
 refine ⟨(hg.block g hlt fun e => h.ne e.symm).trans h.row, by rw [List.length_append, List.flatMap_append]; exact ho, fun e => ?_, h.ge⟩
 rcases hat with hat | ⟨k, hk, hle⟩
 ·exact h.ne (by rw [← hat]; exact e)
 ·rw [hk] at e
  have := Option.some.inj e
  omega
theorem LM.at_ {w0 w : World} {g : Nat} {va : Value} {S : List Bool} {A : List Vl} (h : LM w0 w g va S A) {j : Nat} (hj : j < S.length) : w.cell? ⟨g, j, none⟩ = some (.bool S[j]) ∧ w.frozen? ⟨g, j, none⟩ = false := by
 refine ⟨?_, frozen_of_row _ _ _ _ _ h.row⟩
 rw [cell_of_row _ _ _ _ _ _ h.row]
 simp [hj]
theorem LM.sl {w0 w : World} {g : Nat} {va : Value} {S : List Bool} {A : List Vl} (h : LM w0 w g va S A) {n : Nat} (hn : S.length = n) : Sl w (.slice (some ⟨g, 0, none⟩) n n) S.length 1 (S.map .bool) := by
 refine ⟨by rw [List.length_map, Nat.mul_one], _, _, ?_, Nat.le_of_eq hn, .inr ⟨g, 0, rfl, fun j u hj => ?_⟩⟩
 ·rw [hn]
 ·rw [Nat.zero_add, cell_of_row _ _ _ _ _ _ h.row]
  simpa using hj
theorem one_vls (l : List Vl) : ∀ u ∈ l.flatMap Vl.cells, u.oneCell' = true := fun u hu => by
 obtain ⟨x, _, hx⟩ := List.mem_flatMap.1 hu
 simp [Vl.cells] at hx
 rcases hx with rfl | rfl <;> rfl
theorem left_none (n : Nat) : left (List.replicate n false) = n := by simp [left]
set_option maxRecDepth 100000 in
set_option maxHeartbeats 8000000 in
theorem rlive_any (vt vr : Value) (H : List Th) (R : List Vl) (w : World) (hH : Ths w vt H) (hR : Vls w vr R) (hp : ∀ x ∈ H, ∀ v ∈ x.has, Points H v) (hl : ∀ x ∈ H, x.has.length ≤ 1048576) (hRp : ∀ v ∈ R, Points H v) (hRl : R.length ≤ 50) (hn : H.length ≤ 50) :
  Calls Tryz.prog 10 #[.agg #[vt], vr] w fun e w' => ∃ v bs, e = .returned v ∧ Done H R bs ∧ Sl w' v (false :: bs).length 1 ((false :: bs).map .bool) ∧ Below w.heap.size w w' := by
 obtain ⟨ah, ch, rfl⟩ := hH.sl.val
 obtain ⟨ar, cr, rfl⟩ := hR.val
 obtain ⟨bh, hbh⟩ : ∃ bh, w.heap.size = bh := ⟨_, rfl⟩
 obtain ⟨W1, hW1⟩ : ∃ W1, w.alloc (.cells #[.slice ah H.length ch] 25) = W1 := ⟨_, rfl⟩
 have HB1 : Hid (Below w.heap.size w W1) := hid (hW1 ▸ ext_alloc _ _)
 have hr1 : W1.heap[bh]? = some (.cells #[.slice ah H.length ch] 25 (0, 0)) := by rw [← hW1, ← hbh]; exact heap_alloc_new _ _
 have hlt1 := (Array.getElem?_eq_some_iff.1 hr1).1
 have HX : Hid (∀ u, Below W1.heap.size W1 u → u.cell? ⟨bh, 0, none⟩ = some (.slice ah H.length ch)) := hid (fun u hu => by
  have h := (hu.block _ hlt1).trans hr1
  rw [cell_of_row _ _ _ _ _ _ h]; rfl)
 have x0 := HX.out _ (Below.refl _ _)
 obtain ⟨n, hnn⟩ : ∃ n, H.length + 1 = n := ⟨_, rfl⟩
 have hn1 : (H.length : Int) + 1 = (n : Int) := by omega
 have hnm : n ≤ 51 := by omega
 obtain ⟨M, hM⟩ : ∃ M, madeCells #[.bool false] n = M := ⟨_, rfl⟩
 have hMr : M = ((List.replicate n false).map Value.bool).toArray := by
  rw [← hM, madeCells_one, List.map_replicate, List.toArray_replicate]
 obtain ⟨si, hsi, hz, hsz, hby⟩ := info_parts (show (Tryz.prog.info? 4).map (fun i => (i.zero, i.size, i.bytes)) = some (some (.bool false), 1, 1) by kernel_rfl)
 have hmk : (Instr.makeSlice 39 (.int .i64 (n : Int)) (.int .i64 (n : Int))).run Tryz.prog W1 = .ok (.slice (some ⟨W1.heap.size, 0, none⟩) n n) (W1.alloc (.cells M 4)) := by
  have := run_makeSlice (P := Tryz.prog) W1 39 4 si _ Tryz.underlying39 hsi hz .i64 .i64 (n : Int) (n : Int) (by omega) (by omega) (by rw [hsz]; simp; omega) (by rw [hby]; omega) (by omega)
  rw [hsz] at this
  simp only [Int.toNat_natCast, Nat.mul_one] at this
  rw [show madeCells (Value.bool false).cells n = M from hM] at this
  exact this
 obtain ⟨g, hg⟩ : ∃ g, W1.heap.size = g := ⟨_, rfl⟩
 obtain ⟨W2, hW2⟩ : ∃ W2, W1.alloc (.cells M 4) = W2 := ⟨_, rfl⟩
 have HB12 : Hid (Below W1.heap.size W1 W2) := hid (hW2 ▸ ext_alloc _ _)
 have hr2 : W2.heap[g]? = some (.cells ((List.replicate n false).map Value.bool).toArray 4 (0, 0)) := by rw [← hW2, ← hg, ← hMr]; exact heap_alloc_new _ _
 have HL0 : Hid (LM W1 (W2.alloc (.cells #[] 49)) g (.slice (some ⟨W2.heap.size, 0, none⟩) 0 0) (List.replicate n false) []) := hid (by
  have hlt := (Array.getElem?_eq_some_iff.1 hr2).1
  refine ⟨((ext_alloc W2 _).block _ hlt).trans hr2, Out.since HB12.out (Out.made W2 49 2), fun e => ?_, Nat.le_of_eq hg⟩
  simp only [Value.ownBlock, Option.some.injEq] at e
  omega)
 have HR0 : Hid (Vls (W2.alloc (.cells #[] 49)) (.slice ar R.length cr) R) := hid (hR.below (HB1.out.trans (HL0.out.out.below.mono HB1.out.size)))
 have HS0 : Hid (LS H R (List.replicate n false) R 0) := hid (by rw [← hnn]; exact ls_start hRp)
 have HH := hid hH; have HP := hid hp; have HL := hid hl
 have HNN := hid hnn
 clear hH hR hp hl hRp hM hsi hz hsz hby hr1 hr2 hMr hnn hlt1
 go_enter Tryz.func10, Tryz.ntmps10
 go_wp2_with (at_builtin; refine wpList_append_src_at W1 _ rfl _ _ 26 rfl 49 _ 2 16 R.length Tryz.underlying26 infoVl rfl (by decide) _ _ _ HL0.out.out rfl _ _ HR0.out rfl (one_vls R) (by simp only [List.length_nil]; omega) (by simp only [List.length_nil]; omega) ?_)
 intro v5 w5 ho5 hg5 hat5
 have HL5 : Hid (LM W1 w5 g v5 (List.replicate n false) R) := hid (by have := HL0.out.app (B := R) (by simpa using ho5) hg5 (by rw [World.size_alloc]; exact hat5); rwa [List.nil_append] at this)
 clear ho5 hg5 hat5 x0
 go_wp2_with fail
 go_loopg [6, 7] (R.length + n * 1048577) (fun k v6 v7 wr => ∃ (i : Nat) (S : List Bool) (A : List Vl), i ≤ A.length ∧ v7 = .int .i64 (i : Int) ∧ k = (A.length - i) + left S * 1048577 ∧ Hid (LM W1 wr g v6 S A) ∧ Hid (LS H R S A i) ∧ Hid (A.length + left S * 1048576 ≤ 50 + 51 * 1048576))
 case atStart => exact ⟨0, _, R, Nat.zero_le _, rfl, by rw [left_none]; omega, HL5, HS0, hid (by rw [left_none]; omega)⟩
 case round =>
  obtain ⟨i, S, A, hi, rfl, hgk, HM, HS, HBD⟩ := hrel
  have HGK := hid hgk
  clear hgk HL5 HS0 HL0 HR0
  obtain ⟨wb, hwb⟩ : ∃ wb, wb = wr := ⟨_, rfl⟩
  subst hwb
  have hi0 : (0 : Int) ≤ (i : Int) := by omega
  have hAl : A.length ≤ 50 + 51 * 1048576 := by have := HBD.out; omega
  obtain ⟨a6, c6, hv6⟩ := HM.out.out.sl.val
  subst hv6
  by_cases hlt : i < A.length
  ·have hi1 : (i : Int) < (A.length : Int) := by omega
   obtain ⟨bb, off, hab, hd0, hd1⟩ := vl_at HM.out.out.sl hlt
   subst hab
   have HSK := hid (fun h => ls_skip HS.out hlt h)
   have HSG := hid (fun hl x hx h2 hp => ls_go HS.out hlt hl (x := x) hx h2 hp)
   have HPV := hid (HS.out.pts _ (List.getElem_mem hlt))
   generalize A[i] = v at hd0 hd1 HSK HSG HPV
   obtain ⟨vk, vn⟩ := v
   simp only at hd0 hd1
   obtain ⟨W3, hW3⟩ : ∃ W3, wb.alloc (.cells #[.int .i64 vk, .int .i64 vn] 49) = W3 := ⟨_, rfl⟩
   have HBa : Hid (Below wb.heap.size wb W3) := hid (hW3 ▸ ext_alloc _ _)
   have HM3 := hid (HM.out.later HBa.out)
   have hr3 : W3.heap[wb.heap.size]? = some (.cells #[.int .i64 vk, .int .i64 vn] 49 (0, 0)) := hW3 ▸ heap_alloc_new _ _
   have x0 : W3.cell? ⟨wb.heap.size, 0, none⟩ = some (.int .i64 vk) := by rw [cell_of_row _ _ _ _ _ _ hr3]; rfl
   have x1 : W3.cell? ⟨wb.heap.size, 1, none⟩ = some (.int .i64 vn) := by rw [cell_of_row _ _ _ _ _ _ hr3]; rfl
   have HGB : Hid (g < wb.heap.size) := hid (Array.getElem?_eq_some_iff.1 HM.out.row).1
   have HR3 := hid hr3
   clear hr3
   by_cases h3 : vk = 3
   ·subst h3
    by_cases h0 : 0 < vn
    ·obtain ⟨p, hpn, hpl⟩ := points_at HPV.out rfl h0
     simp only at hpn
     subst hpn
     have hpS : p + 1 < S.length := by have := HS.out.len; omega
     have hn2 : (p : Int) + 1 < (n : Int) := by have := HNN.out; omega
     have hn0 : (0 : Int) ≤ (p : Int) + 1 := by omega
     obtain ⟨hg0, hg1⟩ := HM3.out.at_ hpS
     cases hb : S[p + 1] with
     | true =>
      rw [hb] at hg0
      have HS2 := hid (HSK.out fun _ => by
       show isM S ((p : Int) + 1).toNat
       rw [show ((p : Int) + 1).toNat = p + 1 from by omega]
       unfold isM
       rw [List.getElem?_eq_getElem hpS, hb])
      clear hb
      go_wp2_with fail
      go_roundg ((A.length - (i + 1)) + left S * 1048577)
      case measure => have := HGK.out; omega
      case rel => exact ⟨i + 1, S, A, by omega, by simp, rfl, HM3, HS2, HBD⟩
     | false =>
      rw [hb] at hg0
      have HTP : Hid (S[p + 1]? = some false) := hid (by rw [List.getElem?_eq_getElem hpS, hb])
      have HPL := hid hpl; have HPS := hid hpS
      have hw : wrap64 ((p : Int) + 1 - 1) = (p : Int) := by unfold wrap64; omega
      have hp0 : (0 : Int) ≤ (p : Int) := by omega
      have hp1 : (p : Int) < (H.length : Int) := by omega
      clear hb
      obtain ⟨W4, hW4⟩ : ∃ W4, W3.setCell ⟨g, p + 1, none⟩ (.bool true) = W4 := ⟨_, rfl⟩
      have HM4 : Hid (LM W1 W4 g (.slice (some ⟨bb, off, none⟩) A.length c6) (S.set (p + 1) true) A) := hid (hW4 ▸ HM3.out.put (p + 1))
      have hr4 : W4.heap[wb.heap.size]? = some (.cells #[.int .i64 3, .int .i64 ((p : Int) + 1)] 49 (0, 0)) := by
       rw [← hW4]
       simp only [World.setCell, Array.getElem?_modify]
       rw [if_neg (by have := HGB.out; omega)]
       exact HR3.out
      obtain ⟨hb, ho, hab, he0, he1⟩ := th_at (HH.out.below (HB1.out.trans (HM4.out.out.below.mono HB1.out.size))) hpl
      have HVX := hid (HH.out.at_ _ (List.getElem_mem hpl))
      have HPX := hid (HP.out _ (List.getElem_mem hpl))
      have HLX := hid (HL.out _ (List.getElem_mem hpl))
      have HXG : Hid (H[((⟨3, (p : Int) + 1⟩ : Vl).n.toNat - 1)]? = some H[p]) := hid (by
       show H[((p : Int) + 1).toNat - 1]? = _
       rw [show ((p : Int) + 1).toNat - 1 = p from by omega]
       exact List.getElem?_eq_getElem hpl)
      have HLT : Hid ((⟨3, (p : Int) + 1⟩ : Vl).n.toNat < S.length) := hid (by show ((p : Int) + 1).toNat < _; omega)
      have HSE : Hid (S.set (⟨3, (p : Int) + 1⟩ : Vl).n.toNat true = S.set (p + 1) true) := hid (by show S.set ((p : Int) + 1).toNat true = _; rw [show ((p : Int) + 1).toNat = p + 1 from by omega])
      have y0 := HX.out _ HM4.out.out.below
      rw [hab] at y0
      generalize H[p] = x at he0 he1 HVX HPX HXG HLX
      obtain ⟨ax, cx, hvh⟩ := HVX.out.val
      rw [hvh] at he1
      have HVX2 : Hid (Vls W4 (.slice ax x.has.length cx) x.has) := hid (by have := HVX.out.below (HB1.out.trans (HM4.out.out.below.mono HB1.out.size)); rwa [hvh] at this)
      have z0 : W4.cell? ⟨wb.heap.size, 0, none⟩ = some (.int .i64 3) := by rw [cell_of_row _ _ _ _ _ _ hr4]; rfl
      have z1 : W4.cell? ⟨wb.heap.size, 1, none⟩ = some (.int .i64 ((p : Int) + 1)) := by rw [cell_of_row _ _ _ _ _ _ hr4]; rfl
      have hxl : x.has.length ≤ 1048576 := HLX.out
      clear hvh hab hr4
      go_wp2_with (at_builtin; refine wpList_append_src_at W1 W4 rfl _ _ 26 rfl 49 _ 2 16 x.has.length Tryz.underlying26 infoVl rfl (by decide) _ _ _ HM4.out.out rfl _ _ HVX2.out rfl (one_vls x.has) (by omega) (by omega) ?_)
      intro v7 w7 ho7 hg7 hat7
      have HM7 := hid (HM4.out.app ho7 hg7 hat7)
      have HS7 := hid (HSG.out ⟨rfl, by show (0 : Int) < (p : Int) + 1; omega⟩ x HXG.out HLT.out HPX.out)
      rw [HSE.out] at HS7
      have HLF := hid (left_set HTP.out)
      clear ho7 hg7 hat7
      go_wp2_with fail
      go_roundg (((A ++ x.has).length - (i + 1)) + left (S.set (p + 1) true) * 1048577)
      case measure => have := HGK.out; have := HLF.out; have := HLX.out; rw [List.length_append]; omega
      case rel => exact ⟨i + 1, S.set (p + 1) true, A ++ x.has, by rw [List.length_append]; omega, by simp, rfl, HM7, HS7, hid (by have := HBD.out; have := HLF.out; have := HLX.out; rw [List.length_append]; omega)⟩
    ·have HS2 := hid (HSK.out fun hl => absurd hl.2 h0)
     go_wp2_with fail
     go_roundg ((A.length - (i + 1)) + left S * 1048577)
     case measure => have := HGK.out; omega
     case rel => exact ⟨i + 1, S, A, by omega, by simp, rfl, HM3, HS2, HBD⟩
   ·have HS2 := hid (HSK.out fun hl => absurd hl.1 h3)
    have h4 : (vk == 3) = false := by simpa using h3
    go_wp2_with fail
    go_roundg ((A.length - (i + 1)) + left S * 1048577)
    case measure => have := HGK.out; omega
    case rel => exact ⟨i + 1, S, A, by omega, by simp, rfl, HM3, HS2, HBD⟩
  ·obtain ⟨bs, hbs, hD⟩ := ls_end HS.out (by omega)
   have HD := hid hD
   have HSL : Hid (Sl wb (.slice (some ⟨g, 0, none⟩) n n) (false :: bs).length 1 ((false :: bs).map .bool)) := hid (by have := HM.out.sl (n := n) (by rw [HS.out.len, HNN.out]); rwa [hbs] at this)
   have HBW := hid (HB1.out.trans (HM.out.out.below.mono HB1.out.size))
   clear hbs hD
   go_wp2
   go_ret
   exact ⟨_, bs, rfl, HD.out, HSL.out, HBW.out⟩
end Go.Proofs.YtlhobhnbgdicjaaGreatDoor.worlds
namespace Go.Proofs.YtlhobhnbgdicjaaGreatDoor.worlds
open Go.RowKit lib maps classes errs descs names grow ins
theorem rank_yes2 {S : List Bool} {j : Nat} (h : S[j]? = some true) : rankOf S j = (cnt1 (S.take j) : Int) + 1 := by
 have hj : j < S.length := (List.getElem?_eq_some_iff.1 h).1
 have he : S[j] = true := (List.getElem?_eq_some_iff.1 h).2
 unfold rankOf
 rw [if_pos (by rw [List.getD_eq_getElem?_getD, h]; rfl)]
 have := cnt_step hj
 rw [he, if_pos rfl] at this
 unfold cnt1 at this ⊢
 rw [this]; omega
theorem cnt_mono {S : List Bool} {i j : Nat} (h : i ≤ j) : cnt1 (S.take i) ≤ cnt1 (S.take j) := by
 obtain ⟨d, rfl⟩ : ∃ d, j = i + d := ⟨j - i, by omega⟩
 have : S.take i = (S.take (i + d)).take i := by rw [List.take_take, Nat.min_eq_left (by omega)]
 rw [this]
 exact (List.Sublist.filter _ (List.take_sublist _ _)).length_le
theorem rank_less {S : List Bool} {i j : Nat} (hi : S[i]? = some true) (h : i < j) : cnt1 (S.take i) < cnt1 (S.take j) := by
 have h1 : i < S.length := (List.getElem?_eq_some_iff.1 hi).1
 have he : S[i] = true := (List.getElem?_eq_some_iff.1 hi).2
 have := cnt_step h1
 rw [he, if_pos rfl] at this
 have := cnt_mono (S := S) (i := i + 1) (j := j) h
 omega
theorem places_at (S : List Bool) : ∀ (m : Nat), m ≤ S.length → ∀ k, k < (placesL (S.take m)).length → ∃ j : Nat, j < m ∧ (placesL (S.take m))[k]? = some (j : Int) ∧ S[j]? = some true ∧ cnt1 (S.take j) = k
 | 0, _, k, hk => by simp [placesL] at hk
 | m + 1, hm, k, hk => by
  rw [places_step (by omega)] at hk ⊢
  by_cases h : k < (placesL (S.take m)).length
  ·obtain ⟨j, h1, h2, h3, h4⟩ := places_at S m (by omega) k h
   exact ⟨j, by omega, by rw [List.getElem?_append_left h]; exact h2, h3, h4⟩
  ·rw [List.length_append] at hk
   have hl := places_len S m (by omega)
   by_cases hb : S[m] = true
   ·rw [if_pos hb] at hk ⊢
    have hk2 : k = (placesL (S.take m)).length := by simp only [List.length_singleton] at hk; omega
    subst hk2
    refine ⟨m, by omega, by rw [List.getElem?_append_right (Nat.le_refl _), Nat.sub_self]; rfl, by rw [List.getElem?_eq_getElem (by omega), hb], hl.symm⟩
   ·rw [if_neg hb] at hk
    simp only [List.length_nil] at hk
    omega
def atF (S : List Bool) (k n : Nat) : List Int := (List.range n).map fun j => if S[j]? = some true ∧ cnt1 (S.take j) < k then (cnt1 (S.take j) : Int) + 1 else 0
theorem at_none (S : List Bool) (n : Nat) : atF S 0 n = List.replicate n 0 := by
 unfold atF
 apply List.ext_getElem (by simp)
 intro i h1 h2
 simp
theorem at_set {S : List Bool} {k n j : Nat} (hj : S[j]? = some true) (hk : cnt1 (S.take j) = k) : (atF S k n).set j ((k : Int) + 1) = atF S (k + 1) n := by
 apply List.ext_getElem (by simp [atF])
 intro i h1 h2
 simp only [atF, List.length_map, List.length_range] at h2
 rw [List.getElem_set]
 simp only [atF, List.getElem_map, List.getElem_range]
 by_cases e : j = i
 ·subst e
  rw [if_pos rfl, if_pos ⟨hj, by omega⟩, hk]
 ·rw [if_neg e]
  by_cases hi : S[i]? = some true
  ·have hne : cnt1 (S.take i) ≠ k := fun h => by
    rcases Nat.lt_or_gt_of_ne e with h3 | h3
    ·have := rank_less hj h3; omega
    ·have := rank_less hi h3; omega
   by_cases hlt : cnt1 (S.take i) < k
   ·rw [if_pos ⟨hi, hlt⟩, if_pos ⟨hi, by omega⟩]
   ·rw [if_neg (fun h => hlt h.2), if_neg (fun h => by omega)]
  ·rw [if_neg (fun h => hi h.1), if_neg (fun h => hi h.1)]
theorem at_end {S : List Bool} {n : Nat} : atF S (cnt1 S) n = (List.range n).map (rankOf S) := by
 unfold atF
 refine List.map_congr_left fun j _ => ?_
 by_cases h : S[j]? = some true
 ·have h1 : j < S.length := (List.getElem?_eq_some_iff.1 h).1
  have := rank_less h h1
  rw [List.take_length] at this
  rw [if_pos ⟨h, this⟩, rank_yes2 h]
 ·rw [if_neg (fun h2 => h h2.1)]
  unfold rankOf
  rw [if_neg]
  rw [List.getD_eq_getElem?_getD]
  cases hb : S[j]? with
  | none => simp
  | some b => rw [hb] at h; simpa using h
theorem places_cnt (S : List Bool) : (placesL S).length = cnt1 S := by
 have := places_len S S.length (Nat.le_refl _)
 rwa [List.take_length] at this
theorem places_get {S : List Bool} {k : Nat} (hk : k < (placesL S).length) : ∃ j : Nat, j < S.length ∧ (placesL S)[k] = (j : Int) ∧ S[j]? = some true ∧ cnt1 (S.take j) = k := by
 have := places_at S S.length (Nat.le_refl _) k (by rw [List.take_length]; exact hk)
 rw [List.take_length] at this
 obtain ⟨j, h1, h2, h3⟩ := this
 exact ⟨j, h1, by rw [List.getElem?_eq_getElem hk] at h2; exact Option.some.inj h2, h3⟩
theorem keep_place {bs : List Bool} {H : List Th} (hl : bs.length = H.length) {p k : Nat} {x : Th} (hb : (false :: bs)[p + 1]? = some true) (hc : cnt1 ((false :: bs).take (p + 1)) = k) (hx : H[p]? = some x) : (keepB bs H)[k]? = some x := by
 have h1 : bs[p]? = some true := by simpa using hb
 have h2 : cnt1 (bs.take p) = k := by
  rw [← hc]; simp [cnt1]
 rw [← h2, keep_at hl h1, hx]
theorem keep_cnt {bs : List Bool} {H : List Th} (hl : bs.length = H.length) : (placesL (false :: bs)).length = (keepB bs H).length := by
 rw [places_cnt, keep_len hl]; simp [cnt1]
structure TV (w1 w : World) (b3 : Nat) (v va vp : Value) (L : List Th) (n m : Nat) (xs ps : List Value) : Prop where
 own : OwnTh w1 w v L
 r3 : w.heap[b3]? = some (.cells #[v] 25 (0, 0))
 le3 : w1.heap.size ≤ b3
 ia : Out w1 w 3 1 va n xs
 pl : Out w1 w 3 1 vp m ps
theorem thing_int : (42 : TypeId) ≠ 3 := by decide
theorem int_heap : (3 : TypeId) ≠ 25 := by decide
theorem TV.later {w1 w w' : World} {b3 n m : Nat} {v va vp : Value} {L : List Th} {xs ps : List Value} (h : TV w1 w b3 v va vp L n m xs ps) (hb : Below w.heap.size w w') : TV w1 w' b3 v va vp L n m xs ps :=
 ⟨h.own.later hb, (hb.block _ (Array.getElem?_eq_some_iff.1 h.r3).1).trans h.r3, h.le3, h.ia.later hb, h.pl.later hb⟩
theorem TV.step {w1 W w' : World} {b3 n m : Nat} {v v' va vp : Value} {L : List Th} {xs ps : List Value} {x : Th} (h : TV w1 W b3 v va vp L n m xs ps) (hx : Out w1 W 49 2 x.vh x.has.length (x.has.flatMap Vl.cells))
  (ho : Out w1 w' 42 2 v' (L.length + 1) (L.flatMap Th.cells ++ [.string x.ty, x.vh])) (hg : W.grownBy w' v.ownBlock) :
  w'.cell? ⟨b3, 0, none⟩ = some v ∧ w'.frozen? ⟨b3, 0, none⟩ = false ∧ TV w1 (w'.setCell ⟨b3, 0, none⟩ v') b3 v' va vp (L ++ [x]) n m xs ps := by
 have h3 := row_grown h.own.own h.r3 thing_heap hg
 have hn := h.own.snoc hx ho hg
 refine ⟨by rw [cell_of_row _ _ _ _ _ _ h3]; rfl, frozen_of_row _ _ _ _ _ h3, hn.put h3 h.le3, setCell_row h3, h.le3, ?_, ?_⟩
 ·exact out_put_other (Out.beside h.own.own h.ia (own_apart h.own.own h.ia thing_int) hg) h3 int_heap h.le3
 ·exact out_put_other (Out.beside h.own.own h.pl (own_apart h.own.own h.pl thing_int) hg) h3 int_heap h.le3
set_option maxRecDepth 100000 in
set_option maxHeartbeats 8000000 in
theorem rmoved_any (va vt : Value) (R : List Vl) (bs : List Bool) (n : Nat) (w : World) (hR : Vls w va R) (ht : Sl w vt n 1 (((List.range n).map (rankOf (false :: bs))).map (.int .i64))) (hp : ∀ v ∈ R, v.k = 3 → 0 ≤ v.n ∧ v.n < (n : Int)) (hn : R.length ≤ 2000000) :
  Calls Tryz.prog 11 #[va, vt] w fun e w' => ∃ v, e = .returned v ∧ Out w w' 49 2 v R.length ((R.map (movedV (false :: bs))).flatMap Vl.cells) := by
 obtain ⟨ar, cr, rfl⟩ := hR.val
 obtain ⟨XS, hXS⟩ : ∃ XS, (List.range n).map (rankOf (false :: bs)) = XS := ⟨_, rfl⟩
 have hxl : XS.length = n := by rw [← hXS]; simp
 rw [hXS] at ht
 have ht2 : Sl w vt XS.length 1 (XS.map (.int .i64)) := by rw [hxl]; exact ht
 obtain ⟨at_, ct, hvt⟩ := ht.val
 subst hvt
 have HR := hid hR; have HT := hid ht2; have HP := hid hp; have HXS := hid hXS; have HXL := hid hxl
 clear hR ht hp ht2 hXS hxl
 go_enter Tryz.func11, Tryz.ntmps11
 go_wp2_with fail
 go_loopw [5, 6] (fun v4 v9 wr => ∃ k : Nat, k ≤ R.length ∧ v9 = .int .i64 (k : Int) ∧ Hid (Out w wr 49 2 v4 k (((R.take k).map (movedV (false :: bs))).flatMap Vl.cells))) (fun _ v _ => R.length - (intOf v).toNat)
 case atStart => exact ⟨0, Nat.zero_le _, rfl, hid (by rw [List.take_zero]; exact Out.nil _ _ _)⟩
 case round =>
  obtain ⟨k, hk, rfl, HO⟩ := hrel
  obtain ⟨wb, hwb⟩ : ∃ wb, wb = wr := ⟨_, rfl⟩
  subst hwb
  have hk0 : (0 : Int) ≤ (k : Int) := by omega
  by_cases hlt : k < R.length
  ·have hk1 : (k : Int) < (R.length : Int) := by omega
   obtain ⟨bb, off, hab, hd0, hd1⟩ := vl_at (HR.out.below HO.out.below) hlt
   cases hab
   have HTS : Hid (((R.take (k + 1)).map (movedV (false :: bs))).flatMap Vl.cells = ((R.take k).map (movedV (false :: bs))).flatMap Vl.cells ++ Vl.cells (movedV (false :: bs) R[k])) := hid (by
    rw [List.take_succ_eq_append_getElem hlt, List.map_append, List.flatMap_append]; simp)
   have HPV := hid (HP.out _ (List.getElem_mem hlt))
   generalize R[k] = x at hd0 hd1 HTS HPV
   obtain ⟨vk, vn⟩ := x
   simp only at hd0 hd1
   obtain ⟨a4, c4, hv4⟩ := HO.out.sl.val
   subst hv4
   obtain ⟨bv, hbv⟩ : ∃ bv, wb.heap.size = bv := ⟨_, rfl⟩
   obtain ⟨W3, hW3⟩ : ∃ W3, wb.alloc (.cells #[.int .i64 vk, .int .i64 vn] 49) = W3 := ⟨_, rfl⟩
   have HBa : Hid (Below wb.heap.size wb W3) := hid (hW3 ▸ ext_alloc _ _)
   have HO3 := hid (HO.out.later HBa.out)
   have hr3 : W3.heap[bv]? = some (.cells #[.int .i64 vk, .int .i64 vn] 49 (0, 0)) := by rw [← hW3, ← hbv]; exact heap_alloc_new _ _
   have x0 : W3.cell? ⟨bv, 0, none⟩ = some (.int .i64 vk) := by rw [cell_of_row _ _ _ _ _ _ hr3]; rfl
   have x1 : W3.cell? ⟨bv, 1, none⟩ = some (.int .i64 vn) := by rw [cell_of_row _ _ _ _ _ _ hr3]; rfl
   have f1 : W3.frozen? ⟨bv, 1, none⟩ = false := frozen_of_row _ _ _ _ _ hr3
   have HOW : Hid (w.heap.size ≤ bv) := hid (by have := HO.out.below.size; omega)
   by_cases h3 : vk = 3
   ·subst h3
    by_cases h0 : 0 < vn
    ·obtain ⟨p, hpn⟩ : ∃ p : Nat, vn = (p : Int) := ⟨vn.toNat, by omega⟩
     subst hpn
     have hpn2 : (p : Int) < (n : Int) := (HPV.out rfl).2
     have hp0 : (0 : Int) ≤ (p : Int) := by omega
     have hpx : p < XS.length := by have := HXL.out; omega
     have hslt : Sl W3 (.slice at_ n ct) n 1 (XS.map (.int .i64)) := by have := HT.out.below HO3.out.below; rwa [HXL.out] at this
     obtain ⟨bt, ot, hat, hct⟩ := Sl.ints hslt hpx
     subst hat
     have HXP : Hid (rankOf (false :: bs) p = XS[p]'(by have := HXL.out; omega)) := hid (by
      have := HXS.out
      subst this
      simp)
     obtain ⟨rk, hrk⟩ : ∃ rk, XS[p]'(by have := HXL.out; omega) = rk := ⟨_, rfl⟩
     rw [hrk] at hct HXP
     obtain ⟨W4, hW4⟩ : ∃ W4, W3.setCell ⟨bv, 1, none⟩ (.int .i64 rk) = W4 := ⟨_, rfl⟩
     have HCV : Hid (Vl.cells (movedV (false :: bs) ⟨3, (p : Int)⟩) = [.int .i64 3, .int .i64 rk]) := hid (by rw [← HXP.out]; unfold movedV; simp [Vl.cells])
     have hr4 : W4.heap[bv]? = some (.cells #[.int .i64 3, .int .i64 rk] 49 (0, 0)) := by rw [← hW4]; exact setCell_row hr3
     have y0 : W4.cell? ⟨bv, 0, none⟩ = some (.int .i64 3) := by rw [cell_of_row _ _ _ _ _ _ hr4]; rfl
     have y1 : W4.cell? ⟨bv, 1, none⟩ = some (.int .i64 rk) := by rw [cell_of_row _ _ _ _ _ _ hr4]; rfl
     have HO4 : Hid (Out w W4 49 2 (.slice a4 k c4) k (((R.take k).map (movedV (false :: bs))).flatMap Vl.cells)) := hid (by
      refine ⟨HO3.out.own.kept (hW4 ▸ grown_set W3 ⟨bv, 1, none⟩ _) ?_, hW4 ▸ HO3.out.below.setCell HOW.out _⟩
      cases hv : (Value.slice a4 k c4).ownBlock with
      | none => exact .inl rfl
      | some q => exact .inr (fun he => by
        have h1 := (HO.out.own.lt q hv).2
        have h2 := Option.some.inj he
        simp only at h2
        omega))
     clear hr3 hr4 HO3 hrk
     go_wp2_with (at_builtin; refine wpList_append_lit w W4 _ rfl _ _ 26 rfl 49 _ 2 16 1 Tryz.underlying26 infoVl rfl (by decide) _ _ _ HO4.out rfl rfl rfl (by simp [Value.oneCell']) (by omega) (by omega) ?_)
     intro v5 w5 ho5 hg5
     have HN : Hid (Out w w5 49 2 v5 (k + 1) (((R.take (k + 1)).map (movedV (false :: bs))).flatMap Vl.cells)) := hid (by
      rw [HTS.out, HCV.out]; rw [← List.map_take] at ho5; exact ho5)
     clear ho5 hg5
     go_wp2_with fail
     go_roundw
     case rel => exact ⟨k + 1, by omega, by simp, HN⟩
     case measure => simp [intOf]; omega
    ·have HCV : Hid (Vl.cells (movedV (false :: bs) ⟨3, vn⟩) = [.int .i64 3, .int .i64 vn]) := hid (by
      have hz : vn = 0 := by have := (HPV.out rfl).1; simp only at this; omega
      subst hz
      unfold movedV
      rw [if_pos rfl]
      show [Value.int .i64 3, Value.int .i64 (rankOf (false :: bs) (Int.toNat 0))] = _
      rw [show Int.toNat 0 = 0 from rfl, rank_zero])
     clear hr3 f1
     go_wp2_with (at_builtin; refine wpList_append_lit w W3 _ rfl _ _ 26 rfl 49 _ 2 16 1 Tryz.underlying26 infoVl rfl (by decide) _ _ _ HO3.out rfl rfl rfl (by simp [Value.oneCell']) (by omega) (by omega) ?_)
     intro v5 w5 ho5 hg5
     have HN : Hid (Out w w5 49 2 v5 (k + 1) (((R.take (k + 1)).map (movedV (false :: bs))).flatMap Vl.cells)) := hid (by
      rw [HTS.out, HCV.out]; rw [← List.map_take] at ho5; exact ho5)
     clear ho5 hg5
     go_wp2_with fail
     go_roundw
     case rel => exact ⟨k + 1, by omega, by simp, HN⟩
     case measure => simp [intOf]; omega
   ·have HCV : Hid (Vl.cells (movedV (false :: bs) ⟨vk, vn⟩) = [.int .i64 vk, .int .i64 vn]) := hid (by unfold movedV; rw [if_neg h3]; rfl)
    have h4 : (vk == 3) = false := by simpa using h3
    clear hr3 f1
    go_wp2_with (at_builtin; refine wpList_append_lit w W3 _ rfl _ _ 26 rfl 49 _ 2 16 1 Tryz.underlying26 infoVl rfl (by decide) _ _ _ HO3.out rfl rfl rfl (by simp [Value.oneCell']) (by omega) (by omega) ?_)
    intro v5 w5 ho5 hg5
    have HN : Hid (Out w w5 49 2 v5 (k + 1) (((R.take (k + 1)).map (movedV (false :: bs))).flatMap Vl.cells)) := hid (by
     rw [HTS.out, HCV.out]; rw [← List.map_take] at ho5; exact ho5)
    clear ho5 hg5
    go_wp2_with fail
    go_roundw
    case rel => exact ⟨k + 1, by omega, by simp, HN⟩
    case measure => simp [intOf]; omega
  ·obtain rfl : k = R.length := by omega
   have HN : Hid (Out w wb 49 2 u5 R.length ((R.map (movedV (false :: bs))).flatMap Vl.cells)) := hid (by have := HO.out; rwa [List.take_length] at this)
   obtain ⟨a9, c9, hv9⟩ := HO.out.sl.val
   subst hv9
   clear HO hlt
   go_wp2
   go_ret
   exact ⟨_, rfl, HN.out⟩
end Go.Proofs.YtlhobhnbgdicjaaGreatDoor.worlds
namespace Go.Proofs.YtlhobhnbgdicjaaGreatDoor.worlds
open Go.RowKit lib maps classes errs descs names grow ins
theorem done_one {H : List Th} {R : List Vl} {bs cs : List Bool} (h : Done H R bs) (k : Done H R cs) : bs = cs := by
 apply List.ext_getElem (by rw [h.len, k.len])
 intro i h1 h2
 have e := (h.is i).trans (k.is i).symm
 rw [List.getElem?_eq_getElem h1, List.getElem?_eq_getElem h2] at e
 cases hb : bs[i] <;> cases hc : cs[i] <;> simp_all
theorem sw_heap (bs : List Bool) (H : List Th) : ((keepB bs H).map (bareT (false :: bs))) = sweptH (false :: bs) H := by unfold sweptH; rw [List.drop_succ_cons, List.drop_zero]
section
variable {P : Program}
theorem step_store_own {ops : Array Oper} {o : Oper} {a : Act} {w : World} {K : Act → World → Prop} {Q : Exit → Act → World → Prop} {E : Prop} (hgd : o.guard = none) (ty : TypeId) (x y : Operand) (ho : o.op = .store ty x y)
  (g : Nat) (cells : Array Value) (hx : a.eval x = .pointer (some ⟨g, 0, none⟩)) (hy : a.eval y = .agg cells)
  (t : TypeId) (cur : Array Value) (hg : w.heap[g]? = some (.cells cur t (0, 0))) (hi : (P.info? ty).map (·.size) = some cells.size) (hl : cur.size = cells.size) (h1 : ∀ v ∈ cells.toList, v.oneCell' = true)
  (h : K (a.put o.dst undef) (w.setRow g cells)) : if Region.wanted o (yielded ops a.tmps) = true then Oper.wp P o a w K Q else E := by
 have hw : Region.wanted o (yielded ops a.tmps) = true := by simp [Region.wanted, hgd]
 rw [if_pos hw]
 have hst := run_storeCells_at (P := P) g 0 t cells.toList 0 cur w hg (by simp [hl]) h1
 have hnew : (cur.toList.take (0 + 0) ++ cells.toList ++ cur.toList.drop (0 + 0 + cells.toList.length)).toArray = cells := by
  rw [List.drop_eq_nil_of_le (by simp [hl])]
  simp
 rw [hnew] at hst
 have hsv : (storeVar ty ⟨g, 0, none⟩ (.agg cells)).run P w = .ok () (w.setRow g cells) := by
  cases hq : P.info? ty with
  | none => simp [hq] at hi
  | some i =>
   have hs : cells.size = i.size := by simp [hq] at hi; omega
   simp [storeVar, sizeOf, typeInfo, hq, Value.cells, hs, hst]
 unfold Oper.wp execOp
 simp only [ho, hx, hy, Instr.storeAt, Instr.sureAddr, Sem.run_bind, Sem.run_pure, Result.andThen_ok, hsv]
 exact h
end
set_option maxRecDepth 100000 in
set_option maxHeartbeats 32000000 in
theorem sweeptells_any (va vt vr : Value) (l : List CV) (H : List Th) (R : List Vl) (w : World) (hl : Clss w va l) (hf : FormsAt w) (hsm : ∀ c ∈ l, SmallC c) (hn : l.length ≤ 1048576) (hH : Ths w vt H) (hs : SmallH H) (hm : H.length ≤ 1048576) (hR : Vls w vr R) :
  Calls Tryz.prog 3 #[va, .agg #[vt], vr] w fun e w' => e = .returned (.bool true) ∧ Below w.heap.size w w' := by
 obtain ⟨ah, ch, rfl⟩ := hH.sl.val
 obtain ⟨al, cl, rfl⟩ := hl.val
 obtain ⟨ar, cr, rfl⟩ := hR.val
 obtain ⟨b1, hb1⟩ : ∃ b1, w.heap.size = b1 := ⟨_, rfl⟩
 obtain ⟨w1, hw1⟩ : ∃ w1, w.alloc (.cells #[.slice ah H.length ch] 25) = w1 := ⟨_, rfl⟩
 have HB1 : Hid (Below w.heap.size w w1) := hid (hw1 ▸ ext_alloc _ _)
 have hr1 : w1.heap[b1]? = some (.cells #[.slice ah H.length ch] 25 (0, 0)) := by rw [← hw1, ← hb1]; exact heap_alloc_new _ _
 have hlt1 := (Array.getElem?_eq_some_iff.1 hr1).1
 have HX : Hid (∀ u, Below w1.heap.size w1 u → u.cell? ⟨b1, 0, none⟩ = some (.slice ah H.length ch)) := hid (fun u hu => by
  have h := (hu.block _ hlt1).trans hr1
  rw [cell_of_row _ _ _ _ _ _ h]; rfl)
 have HL := hid hl; have HF := hid hf; have HSM := hid hsm; have HN := hid hn; have HH := hid hH; have HS := hid hs; have HM := hid hm; have HR := hid hR
 have HSW0 := hid (swept_any w1 (hf.below HB1.out))
 clear hl hf hsm hn hH hs hm hR hr1
 go_enter Tryz.func3, Tryz.ntmps3
 go_wp2_with fail
 refine HSW0.out.mono ?_
 rintro e w2 ⟨rfl, hb2⟩
 have H12 := hid hb2
 have HB2 := hid (HB1.out.trans (hb2.mono HB1.out.size))
 have x0 := HX.out _ hb2
 clear hb2
 go_wp2_with fail
 refine (rroots_any _ _ _ l H R w2 (HL.out.below HB2.out) HSM.out HN.out (HH.out.below HB2.out) HS.out HM.out (HR.out.below HB2.out)).mono ?_
 rintro e w3 ⟨rfl, hb3⟩
 have H13 := hid (H12.out.trans (hb3.mono H12.out.size))
 have HB3 := hid (HB2.out.trans (hb3.mono HB2.out.size))
 clear x0
 have x0 := HX.out _ H13.out
 clear hb3
 obtain ⟨z, hz⟩ : ∃ z, rootsF l H R = z := ⟨_, rfl⟩
 have HZ := hid hz
 rw [hz]
 clear hz
 go_wp2_with fail
 refine (slive_any _ _ _ l H R w3 (HL.out.below HB3.out) (HF.out.below HB3.out) HSM.out HN.out (HH.out.below HB3.out) HS.out HM.out (HR.out.below HB3.out)).mono ?_
 intro e w4 h4
 unfold LiveBy at h4
 rw [HZ.out] at h4
 by_cases h0 : z = 0
 ·subst h0
  rw [if_pos rfl] at h4
  obtain ⟨v4, bs, rfl, hd4, ho4⟩ := h4
  have HZ0 := hid HZ.out
  obtain ⟨hn50, hlp, hrp, hr50⟩ := roots_ok HZ.out
  have HN50 := hid hn50; have HLP := hid hlp; have HRP := hid hrp; have HR50 := hid hr50
  have HD4 := hid hd4
  have HO4 := hid ho4.sl
  obtain ⟨PL, hPL⟩ : ∃ PL, placesL (false :: bs) = PL := ⟨_, rfl⟩
  have HPL := hid hPL
  rw [hPL] at HO4
  obtain ⟨m, hm⟩ : ∃ m, PL.length = m := ⟨_, rfl⟩
  rw [hm] at HO4
  have HMM := hid hm
  have HM50 : Hid (m ≤ 50) := hid (by
   rw [← hm, ← hPL, keep_cnt hd4.len]
   exact Nat.le_trans (keep_le _ _) hn50)
  have H14 := hid (H13.out.trans (ho4.below.mono H13.out.size))
  have HB4 := hid (HB3.out.trans (ho4.below.mono HB3.out.size))
  obtain ⟨a4, c4, hv4⟩ := HO4.out.val
  subst hv4
  clear hd4 ho4 hlp hrp hn50 hr50 hPL hm x0
  have x0 := HX.out _ H14.out
  go_wp2_with fail
  refine (sweep_any _ _ _ l H R w4 (HL.out.below HB4.out) (HF.out.below HB4.out) HSM.out HN.out (HH.out.below HB4.out) HS.out HM.out (HR.out.below HB4.out)).mono ?_
  intro e w5 h5
  unfold SweepBy at h5
  rw [if_pos HZ.out] at h5
  obtain ⟨v5, vr5, L5, bs5, rfl, hd5, ho5, hL5, hr5⟩ := h5
  obtain rfl := done_one HD4.out hd5
  have HL5 := hid hL5
  have HO5 := hid ho5.ths
  have HV5 : Hid (Vls w5 vr5 (R.map (movedV (false :: bs)))) := hid (by have := hr5.sl; rw [← List.length_map (f := movedV (false :: bs))] at this; exact this)
  have H45 := hid hr5.below
  have H15 := hid (H14.out.trans (hr5.below.mono H14.out.size))
  have HB5 := hid (HB4.out.trans (hr5.below.mono HB4.out.size))
  obtain ⟨av5, cv5, hv5⟩ := ho5.own.sl.val
  subst hv5
  obtain ⟨ar5, cr5, hv6⟩ := hr5.sl.val
  subst hv6
  have HL5L : Hid (L5.length ≤ 50) := hid (by
   have := swept_len bs H
   have e := congrArg List.length hL5
   rw [List.length_map] at e
   have := HN50.out
   omega)
  clear hd5 ho5 hL5 hr5 x0
  obtain ⟨b2, hb2⟩ : ∃ b2, w5.heap.size = b2 := ⟨_, rfl⟩
  obtain ⟨W6, hW6⟩ : ∃ W6, w5.alloc (.cells #[.slice av5 L5.length cv5] 25) = W6 := ⟨_, rfl⟩
  have H56 : Hid (Below w5.heap.size w5 W6) := hid (hW6 ▸ ext_alloc _ _)
  have H16 := hid (H15.out.trans (H56.out.mono H15.out.size))
  have HB6 := hid (HB5.out.trans (H56.out.mono HB5.out.size))
  have hr2 : W6.heap[b2]? = some (.cells #[.slice av5 L5.length cv5] 25 (0, 0)) := by rw [← hW6, ← hb2]; exact heap_alloc_new _ _
  have hlt2 := (Array.getElem?_eq_some_iff.1 hr2).1
  have HX2 : Hid (∀ u, Below W6.heap.size W6 u → u.cell? ⟨b2, 0, none⟩ = some (.slice av5 L5.length cv5)) := hid (fun u hu => by
   have h := (hu.block _ hlt2).trans hr2
   rw [cell_of_row _ _ _ _ _ _ h]; rfl)
  have x0 := HX.out _ H16.out
  have HER := hid (fun u => error_same 0 u)
  rw [show errVal 0 = .nilIface from rfl] at HER
  clear hr2
  go_wp2_with fail
  refine (HER.out W6).mono ?_
  rintro e w6' ⟨rfl, rfl⟩
  go_wp2_with fail
  refine (HER.out W6).mono ?_
  rintro e w6' ⟨rfl, rfl⟩
  obtain ⟨b3, hb3⟩ : ∃ b3, W6.heap.size = b3 := ⟨_, rfl⟩
  obtain ⟨W7, hW7⟩ : ∃ W7, W6.alloc (.cells #[.slice none 0 0] 25) = W7 := ⟨_, rfl⟩
  have H67 : Hid (Below W6.heap.size W6 W7) := hid (hW7 ▸ ext_alloc _ _)
  have H17 := hid (H16.out.trans (H67.out.mono H16.out.size))
  have HB7 := hid (HB6.out.trans (H67.out.mono HB6.out.size))
  have HR3 : Hid (W7.heap[b3]? = some (.cells #[.slice none 0 0] 25 (0, 0))) := hid (by rw [← hW7, ← hb3]; exact heap_alloc_new _ _)
  clear x0
  have x0 := HX.out _ H17.out
  go_wp2_with fail
  refine (rlive_any _ _ H R W7 (HH.out.below HB7.out) (HR.out.below HB7.out) HLP.out (fun x hx => (HS.out x hx).2) HRP.out HR50.out HN50.out).mono ?_
  rintro e w8 ⟨v8, bs8, rfl, hd8, hs8, hb8⟩
  obtain rfl := done_one HD4.out hd8
  have HS8 := hid hs8
  have H78 := hid hb8
  have H68 := hid (H67.out.trans (hb8.mono H67.out.size))
  obtain ⟨a8, c8, hv8⟩ := hs8.val
  subst hv8
  have HBL : Hid ((false :: bs).length ≤ 51) := hid (by rw [List.length_cons, HD4.out.len]; have := HN50.out; omega)
  have HPO := hid (places_any _ (false :: bs) w8 hs8 (by have := HBL.out; omega))
  rw [HPL.out, HMM.out] at HPO
  clear hd8 hs8 hb8 x0
  obtain ⟨nS, hnS⟩ : ∃ nS, (false :: bs).length = nS := ⟨_, rfl⟩
  rw [hnS] at HPO
  have HNS := hid hnS
  rw [hnS]
  clear hnS
  go_wp2_with fail
  refine HPO.out.mono ?_
  rintro e w9 ⟨v9, rfl, ho9⟩
  have HO9 := hid (Out.since H68.out ho9)
  have H69 := hid (H68.out.trans (ho9.below.mono H68.out.size))
  have H79 := hid (H78.out.trans (ho9.below.mono H78.out.size))
  have H19 := hid (H16.out.trans (H69.out.mono H16.out.size))
  obtain ⟨a9, c9, hv9⟩ := ho9.sl.val
  subst hv9
  have HR39 := hid ((H79.out.block _ (Array.getElem?_eq_some_iff.1 HR3.out).1).trans HR3.out)
  have x9 := HX.out _ H19.out
  clear ho9
  obtain ⟨n, hnn⟩ : ∃ n, H.length + 1 = n := ⟨_, rfl⟩
  have hn1 : (H.length : Int) + 1 = (n : Int) := by omega
  have hnm : n ≤ 51 := by have := HN50.out; omega
  obtain ⟨M, hM⟩ : ∃ M, madeCells #[.int .i64 0] n = M := ⟨_, rfl⟩
  have hMr : M = Array.replicate n (.int .i64 0) := by rw [← hM, madeCells_one]
  obtain ⟨si, hsi, hz, hsz, hby⟩ := info_parts infoI
  have hmk : (Instr.makeSlice 30 (.int .i64 (n : Int)) (.int .i64 (n : Int))).run Tryz.prog w9 = .ok (.slice (some ⟨w9.heap.size, 0, none⟩) n n) (w9.alloc (.cells M 3)) := by
   have := run_makeSlice (P := Tryz.prog) w9 30 3 si _ Tryz.underlying30 hsi hz .i64 .i64 (n : Int) (n : Int) (by omega) (by omega) (by rw [hsz]; simp; omega) (by rw [hby]; omega) (by omega)
   rw [hsz] at this
   simp only [Int.toNat_natCast, Nat.mul_one] at this
   rw [show madeCells (Value.int .i64 0).cells n = M from hM] at this
   exact this
  obtain ⟨gA, hgA⟩ : ∃ gA, w9.heap.size = gA := ⟨_, rfl⟩
  have HA0 : Hid (Out w9 (w9.alloc (.cells M 3)) 3 1 (.slice (some ⟨gA, 0, none⟩) n n) n ((atF (false :: bs) 0 n).map (.int .i64))) := hid (by
   rw [at_none, List.map_replicate, hMr, ← hgA]
   exact Out.row w9 (.int .i64 0) 3 n (by unfold maxLen; omega))
  rw [hgA] at hmk
  have HNN := hid hnn; have HNM := hid hnm
  have HMLE := hid (show m ≤ 1000000 by have := HM50.out; omega)
  have hmle := HMLE.out
  clear hM hMr hsi hz hsz hby hnn
  go_wp2_with fail
  clear x9 hmk hn1 hnm
  go_loopw [20] (fun v wr => ∃ k : Nat, k ≤ m ∧ v = .int .i64 (k : Int) ∧ Hid (Out w9 wr 3 1 (.slice (some ⟨gA, 0, none⟩) n n) n ((atF (false :: bs) k n).map (.int .i64)))) (fun v _ => m - (intOf v).toNat)
  case atStart => exact ⟨0, Nat.zero_le _, rfl, HA0⟩
  case round =>
   obtain ⟨k, hk, rfl, HA⟩ := hrel
   clear HA0
   obtain ⟨wb, hwb⟩ : ∃ wb, wb = wr := ⟨_, rfl⟩
   subst hwb
   have hk0 : (0 : Int) ≤ (k : Int) := by omega
   by_cases hlt : k < m
   ·have hk1 : (k : Int) < (m : Int) := by omega
    have HPK : Hid (k < PL.length) := hid (by rw [HMM.out]; exact hlt)
    obtain ⟨j, hj1, hj2, hj3, hj4⟩ := places_get (S := false :: bs) (k := k) (by rw [HPL.out]; exact HPK.out)
    have HJ2 : Hid (PL[k]'HPK.out = (j : Int)) := hid (by
     have h := HPL.out
     subst h
     exact hj2)
    have hsl9 : Sl wb (.slice a9 m c9) m 1 (PL.map (.int .i64)) := HO9.out.sl.below HA.out.below
    obtain ⟨bp, op, hap, hcp⟩ := Sl.ints hsl9 HPK.out
    rw [HJ2.out] at hcp
    subst hap
    have hjn : j < n := by have := HNS.out; have := HNN.out; have := HD4.out.len; rw [List.length_cons] at hj1; omega
    have hj0 : (0 : Int) ≤ (j : Int) := by omega
    have hjn1 : (j : Int) < (n : Int) := by omega
    obtain ⟨g', cap', u', hv', _, hcu, hfu, hset⟩ := HA.out.store hjn
    simp only [Value.slice.injEq, Option.some.injEq, Addr.mk.injEq, and_true, true_and] at hv'
    obtain ⟨hgg, hcc⟩ := hv'
    subst hgg hcc
    have HN1 : Hid (Out w9 (wb.setCell ⟨gA, j, none⟩ (.int .i64 ((k : Int) + 1))) 3 1 (.slice (some ⟨gA, 0, none⟩) n n) n ((atF (false :: bs) (k + 1) n).map (.int .i64))) := hid (by
     have := hset (.int .i64 ((k : Int) + 1))
     rw [← at_set hj3 hj4, List.map_set]; exact this)
    clear hset hsl9 hj1 hj2 hj3 hj4
    go_wp2_with fail
    go_roundw
    case rel => exact ⟨k + 1, by omega, by simp, HN1⟩
    case measure => simp [intOf]; omega
   ·obtain rfl : k = m := by omega
    have HAE : Hid (Out w9 wb 3 1 (.slice (some ⟨gA, 0, none⟩) n n) n (((List.range n).map (rankOf (false :: bs))).map (.int .i64))) := hid (by
     have h := HA.out
     rw [← HMM.out, ← HPL.out, places_cnt, at_end] at h
     exact h)
    have HTV0 : Hid (TV W6 wb b3 (.slice none 0 0) (.slice (some ⟨gA, 0, none⟩) n n) (.slice a9 k c9) [] n k (((List.range n).map (rankOf (false :: bs))).map (.int .i64)) (PL.map (.int .i64))) := hid (by
     have H9b := HA.out.below
     have h7b := H79.out.trans (H9b.mono H79.out.size)
     refine ⟨(OwnTh.nil W6).later (H69.out.trans (H9b.mono H69.out.size)), (h7b.block _ (Array.getElem?_eq_some_iff.1 HR3.out).1).trans HR3.out, Nat.le_of_eq hb3, Out.since H69.out HAE.out, HO9.out.later H9b⟩)
    clear HA HAE hlt hk hk0
    go_wp2_with fail
    go_loopw [21] (fun v wr => ∃ (i : Nat) (v3 : Value) (L : List Th), i ≤ k ∧ v = .int .i64 (i : Int) ∧ Hid (TV W6 wr b3 v3 (.slice (some ⟨gA, 0, none⟩) n n) (.slice a9 k c9) L n k (((List.range n).map (rankOf (false :: bs))).map (.int .i64)) (PL.map (.int .i64))) ∧ Hid (L.map bare = ((keepB bs H).take i).map (bareT (false :: bs)))) (fun v _ => k - (intOf v).toNat)
    case atStart => exact ⟨0, _, [], Nat.zero_le _, rfl, HTV0, hid rfl⟩
    case round =>
     obtain ⟨i, v3, L, hi, rfl, HT, HLB⟩ := hrel
     clear HTV0
     obtain ⟨wa, hwa⟩ : ∃ wa, wa = wr := ⟨_, rfl⟩
     subst hwa
     have hi0 : (0 : Int) ≤ (i : Int) := by omega
     have HKL : Hid (k = (keepB bs H).length) := hid (by rw [← keep_cnt HD4.out.len, HPL.out, HMM.out])
     obtain ⟨q, hqq⟩ : ∃ q, L.length = q := ⟨_, rfl⟩
     have HQQ := hid hqq
     have HQL : Hid (q ≤ 50) := hid (by
      have := congrArg List.length HLB.out
      rw [List.length_map, List.length_map, List.length_take] at this
      have := HM50.out
      omega)
     obtain ⟨a3, c3, hv3⟩ := HT.out.own.own.sl.val
     rw [hqq] at hv3
     subst hv3
     clear hqq
     have HB1a := hid (HB6.out.trans (HT.out.own.own.below.mono HB6.out.size))
     have H1a := hid (H16.out.trans (HT.out.own.own.below.mono H16.out.size))
     by_cases hlt : i < k
     ·have hi1 : (i : Int) < (k : Int) := by omega
      have HPK : Hid (i < PL.length) := hid (by rw [HMM.out]; exact hlt)
      obtain ⟨j, hj1, hj2, hj3, hj4⟩ := places_get (S := false :: bs) (k := i) (by rw [HPL.out]; exact HPK.out)
      obtain ⟨p, rfl⟩ : ∃ p, j = p + 1 := by
       cases j with
       | zero => simp at hj3
       | succ p => exact ⟨p, rfl⟩
      have HJ2 : Hid (PL[i]'HPK.out = ((p + 1 : Nat) : Int)) := hid (by
       have h := HPL.out
       subst h
       exact hj2)
      have hpl : p < H.length := by have := HD4.out.len; rw [List.length_cons] at hj1; omega
      have hsl9 : Sl wa (.slice a9 k c9) k 1 (PL.map (.int .i64)) := HT.out.pl.sl
      obtain ⟨bp, op, hap, hcp⟩ := Sl.ints hsl9 HPK.out
      rw [HJ2.out, show ((p + 1 : Nat) : Int) = (p : Int) + 1 from by omega] at hcp
      subst hap
      have HKT : Hid ((keepB bs H).take (i + 1) = (keepB bs H).take i ++ [H[p]]) := hid (by
       have h := keep_place HD4.out.len hj3 hj4 (List.getElem?_eq_getElem hpl)
       have h2 : i < (keepB bs H).length := (List.getElem?_eq_some_iff.1 h).1
       rw [List.take_succ_eq_append_getElem h2, (List.getElem?_eq_some_iff.1 h).2])
      obtain ⟨hb, ho, hab, he0, he1⟩ := th_at (HH.out.below HB1a.out) hpl
      have HVX0 := hid (HH.out.at_ _ (List.getElem_mem hpl))
      have HSX := hid (HS.out _ (List.getElem_mem hpl)).2
      have HPX := hid (HLP.out _ (List.getElem_mem hpl))
      have y0 := HX.out _ H1a.out
      rw [hab] at y0
      have HAB := hid hab
      generalize H[p] = x at he0 he1 HVX0 HSX HPX HKT
      obtain ⟨ty, vh, has⟩ := x
      simp only at he0 he1 HSX HPX
      obtain ⟨ax, cx, hvh⟩ := HVX0.out.val
      simp only at hvh
      subst hvh
      have hp0 : (0 : Int) ≤ (p : Int) := by omega
      have hp1 : (p : Int) < (H.length : Int) := by omega
      have hwp : IntKind.i64.wrap (p : Int) = (p : Int) := by rw [IntKind.wrap_i64]; have := HN50.out; omega
      have HWP := hid hwp
      clear hwp hj1 hj2 hj3 hj4 hsl9 hab
      obtain ⟨WA, hWA⟩ : ∃ WA, wa.drew = WA := ⟨_, rfl⟩
      have HTA : Hid (TV W6 WA b3 (.slice a3 q c3) (.slice (some ⟨gA, 0, none⟩) n n) (.slice (some ⟨bp, op, none⟩) k c9) L n k (((List.range n).map (rankOf (false :: bs))).map (.int .i64)) (PL.map (.int .i64))) := hid (by rw [← hWA]; exact HT.out.later (Below.refl _ _).drew)
      have HD22 : Hid (WA.cell? ⟨b1, 0, none⟩ = some (.slice (some ⟨hb, ho, none⟩) H.length ch) ∧ WA.cell? ⟨bp, op + i, none⟩ = some (.int .i64 ((p : Int) + 1)) ∧ WA.cell? ⟨hb, ho + p * 2, none⟩ = some (.string ty) ∧ WA.cell? ⟨hb, ho + p * 2 + 1, none⟩ = some (.slice ax has.length cx)) := hid (by rw [← hWA]; exact ⟨y0, hcp, he0, he1⟩)
      clear y0 hcp he0 he1
      go_wp2_with fail
      refine wp_region_s (fun u => u.cell? ⟨b1, 0, none⟩ = some (.slice (some ⟨hb, ho, none⟩) H.length ch) ∧ u.cell? ⟨bp, op + i, none⟩ = some (.int .i64 ((p : Int) + 1)) ∧ u.cell? ⟨hb, ho + p * 2, none⟩ = some (.string ty) ∧ u.cell? ⟨hb, ho + p * 2 + 1, none⟩ = some (.slice ax has.length cx)) 10 (by kernel_rfl) ?_
      show grow.wpAnyS _ _ _ _ _ _ _ _ _ wa.drew
      rw [hWA]
      refine s_calc 0 _ _ rfl (by kernel_rfl) (by kernel_rfl) (by kernel_rfl) (by kernel_rfl) (by decide) rfl (fun c a' w' h => ⟨(putS_defers _ _ _).symm.trans h.1, h.2⟩) (fun _ => HD22.out) (fun u => by go_simp; rfl) ?_
      simp only [List.getElem_toArray, List.getElem_cons_zero, List.getElem_cons_succ, Act.put, List.setIfInBounds_toArray, List.set_cons_zero, List.set_cons_succ]
      refine s_take 1 _ _ rfl (by kernel_rfl) (by kernel_rfl) (by kernel_rfl) (by kernel_rfl) (by kernel_rfl) (by decide) rfl (fun c a' w' h => ⟨(putS_defers _ _ _).symm.trans h.1, h.2⟩) (fun _ => HD22.out) (fun u hu => by obtain ⟨r0, r1, r2, r3⟩ := hu; go_simp; rfl) ?_
      simp only [List.getElem_toArray, List.getElem_cons_zero, List.getElem_cons_succ, Act.put, List.setIfInBounds_toArray, List.set_cons_zero, List.set_cons_succ]
      refine s_calc 2 _ _ rfl (by kernel_rfl) (by kernel_rfl) (by kernel_rfl) (by kernel_rfl) (by decide) rfl (fun c a' w' h => ⟨(putS_defers _ _ _).symm.trans h.1, h.2⟩) (fun _ => HD22.out) (fun u => by go_simp; rfl) ?_
      simp only [List.getElem_toArray, List.getElem_cons_zero, List.getElem_cons_succ, Act.put, List.setIfInBounds_toArray, List.set_cons_zero, List.set_cons_succ]
      refine s_calc 3 _ _ rfl (by kernel_rfl) (by kernel_rfl) (by kernel_rfl) (by kernel_rfl) (by decide) rfl (fun c a' w' h => ⟨(putS_defers _ _ _).symm.trans h.1, h.2⟩) (fun _ => HD22.out) (fun u => by go_simp; rfl) ?_
      simp only [List.getElem_toArray, List.getElem_cons_zero, List.getElem_cons_succ, Act.put, List.setIfInBounds_toArray, List.set_cons_zero, List.set_cons_succ]
      refine s_calc 4 _ _ rfl (by kernel_rfl) (by kernel_rfl) (by kernel_rfl) (by kernel_rfl) (by decide) rfl (fun c a' w' h => ⟨(putS_defers _ _ _).symm.trans h.1, h.2⟩) (fun _ => HD22.out) (fun u => by go_simp; rfl) ?_
      simp only [List.getElem_toArray, List.getElem_cons_zero, List.getElem_cons_succ, Act.put, List.setIfInBounds_toArray, List.set_cons_zero, List.set_cons_succ]
      refine s_take 5 _ _ rfl (by kernel_rfl) (by kernel_rfl) (by kernel_rfl) (by kernel_rfl) (by kernel_rfl) (by decide) rfl (fun c a' w' h => ⟨(putS_defers _ _ _).symm.trans h.1, h.2⟩) (fun _ => HD22.out) (fun u hu => by obtain ⟨r0, r1, r2, r3⟩ := hu; go_simp; rfl) ?_
      simp only [List.getElem_toArray, List.getElem_cons_zero, List.getElem_cons_succ, Act.put, List.setIfInBounds_toArray, List.set_cons_zero, List.set_cons_succ]
      refine s_calc 6 _ (.int .i64 (p : Int)) rfl (by kernel_rfl) (by kernel_rfl) (by kernel_rfl) (by kernel_rfl) (by decide) rfl (fun c a' w' h => ⟨(putS_defers _ _ _).symm.trans h.1, h.2⟩) (fun _ => HD22.out) (fun u => by have hw2 := HWP.out; first | (go_simp; done) | (go_simp; exact hw2)) ?_
      simp only [List.getElem_toArray, List.getElem_cons_zero, List.getElem_cons_succ, Act.put, List.setIfInBounds_toArray, List.set_cons_zero, List.set_cons_succ]
      refine s_calc 7 _ _ rfl (by kernel_rfl) (by kernel_rfl) (by kernel_rfl) (by kernel_rfl) (by decide) rfl (fun c a' w' h => ⟨(putS_defers _ _ _).symm.trans h.1, h.2⟩) (fun _ => HD22.out) (fun u => by go_simp; rfl) ?_
      simp only [List.getElem_toArray, List.getElem_cons_zero, List.getElem_cons_succ, Act.put, List.setIfInBounds_toArray, List.set_cons_zero, List.set_cons_succ]
      refine s_take 8 _ _ rfl (by kernel_rfl) (by kernel_rfl) (by kernel_rfl) (by kernel_rfl) (by kernel_rfl) (by decide) rfl (fun c a' w' h => ⟨(putS_defers _ _ _).symm.trans h.1, h.2⟩) (fun _ => HD22.out) (fun u hu => by obtain ⟨r0, r1, r2, r3⟩ := hu; go_simp; rfl) ?_
      simp only [List.getElem_toArray, List.getElem_cons_zero, List.getElem_cons_succ, Act.put, List.setIfInBounds_toArray, List.set_cons_zero, List.set_cons_succ]
      refine s_only 9 _ rfl (by kernel_rfl) ?_
      obtain ⟨bx, hbx⟩ : ∃ bx, WA.heap.size = bx := ⟨_, rfl⟩
      obtain ⟨W5, hW5⟩ : ∃ W5, WA.alloc (.cells #[.string { data := #[] }, .slice none 0 0] 42) = W5 := ⟨_, rfl⟩
      have H5x : Hid (Below WA.heap.size WA W5) := hid (hW5 ▸ ext_alloc _ _)
      have HR5x : Hid (W5.heap[bx]? = some (.cells #[.string { data := #[] }, .slice none 0 0] 42 (0, 0))) := hid (by rw [← hW5, ← hbx]; exact heap_alloc_new _ _)
      have HDX : Hid (W5.cell? ⟨b1, 0, none⟩ = some (.slice (some ⟨hb, ho, none⟩) H.length ch) ∧ W5.cell? ⟨bp, op + i, none⟩ = some (.int .i64 ((p : Int) + 1)) ∧ W5.cell? ⟨hb, ho + p * 2, none⟩ = some (.string ty) ∧ W5.cell? ⟨hb, ho + p * 2 + 1, none⟩ = some (.slice ax has.length cx)) := hid (by
       obtain ⟨r0, r1, r2, r3⟩ := HD22.out
       exact ⟨(H5x.out.cell (World.block_lt_of_cell? _ _ r0)).trans r0, (H5x.out.cell (World.block_lt_of_cell? _ _ r1)).trans r1, (H5x.out.cell (World.block_lt_of_cell? _ _ r2)).trans r2, (H5x.out.cell (World.block_lt_of_cell? _ _ r3)).trans r3⟩)
      go_simp
      try rw [hW5, hbx]
      refine ⟨fun _ => HDX.out, ?_⟩
      try simp only [List.getElem_toArray, List.getElem_cons_zero, List.getElem_cons_succ, Act.put, List.setIfInBounds_toArray, List.set_cons_zero, List.set_cons_succ]
      refine s_only 10 _ rfl (by kernel_rfl) ?_
      refine step_store_own rfl 42 (.tmp 22) (.tmp 93) rfl bx _ rfl rfl 42 _ HR5x.out (by kernel_rfl) (by rfl) (by simp [Value.oneCell']) ?_
      refine ⟨fun h => absurd h (by decide), ?_⟩
      try simp only [List.getElem_toArray, List.getElem_cons_zero, List.getElem_cons_succ, Act.put, List.setIfInBounds_toArray, List.set_cons_zero, List.set_cons_succ]
      refine s_end (by kernel_rfl) ?_
      obtain ⟨W6x, hW6x⟩ : ∃ W6x, WA.alloc (.cells #[.string ty, .slice ax has.length cx] 42) = W6x := ⟨_, rfl⟩
      have HSR : Hid (W5.setRow bx #[.string ty, .slice ax has.length cx] = W6x) := hid (by rw [← hW5, ← hbx, World.setRow_alloc_new, hW6x])
      rw [HSR.out]
      have HBx : Hid (Below WA.heap.size WA W6x) := hid (hW6x ▸ ext_alloc _ _)
      have HRX : Hid (W6x.heap[bx]? = some (.cells #[.string ty, .slice ax has.length cx] 42 (0, 0))) := hid (by rw [← hW6x, ← hbx]; exact heap_alloc_new _ _)
      have HT5 := hid (HTA.out.later HBx.out)
      have HTD := hid (HT5.out.later (Below.refl _ _).drew)
      have HRXD : Hid (W6x.drew.heap[bx]? = some (.cells #[.string ty, .slice ax has.length cx] 42 (0, 0))) := hid HRX.out
      obtain ⟨WD, hWD⟩ : ∃ WD, W6x.drew = WD := ⟨_, rfl⟩
      rw [hWD] at HTD HRXD
      have HDA : Hid (∀ u, Below WD.heap.size WD u → u.cell? ⟨b3, 0, none⟩ = some (.slice a3 q c3) ∧ u.cell? ⟨bx, 0, none⟩ = some (.string ty) ∧ u.cell? ⟨bx, 1, none⟩ = some (.slice ax has.length cx)) := hid (fun u hu => by
       have h3 := (HTD.out.later hu).r3
       have hx := (hu.block _ (Array.getElem?_eq_some_iff.1 HRXD.out).1).trans HRXD.out
       refine ⟨by rw [cell_of_row _ _ _ _ _ _ h3]; rfl, row_cell2 hx⟩)
      have HD := hid (HDA.out WD (Below.refl _ _))
      have HVX2 : Hid (Vls w (.slice ax has.length cx) has) := hid HVX0.out
      have HVX := hid (HVX2.out.below (HB6.out.trans (HTD.out.own.own.below.mono HB6.out.size)))
      have HOB : Hid (∀ g, (Value.slice a3 q c3).ownBlock = some g → g < bx) := hid (fun g hg => by have := (HTA.out.own.own.own.lt g hg).2; omega)
      have HPT : Hid (∀ v ∈ has, v.k = 3 → 0 ≤ v.n ∧ v.n < (n : Int)) := hid (fun v hv hk => by have := HPX.out v hv hk; have := HNN.out; omega)
      clear HVX0 HDX HR5x
      go_wp2_with fail
      refine wp_region_s (fun u => u.cell? ⟨b3, 0, none⟩ = some (.slice a3 q c3) ∧ u.cell? ⟨bx, 0, none⟩ = some (.string ty) ∧ u.cell? ⟨bx, 1, none⟩ = some (.slice ax has.length cx)) 12 (by kernel_rfl) ?_
      show grow.wpAnyS _ _ _ _ _ _ _ _ _ W6x.drew
      rw [hWD]
      refine s_calc 0 _ _ rfl (by kernel_rfl) (by kernel_rfl) (by kernel_rfl) (by kernel_rfl) (by decide) rfl (fun c a' w' h => ⟨(putS_defers _ _ _).symm.trans h.1, h.2⟩) (fun _ => HD.out) (fun u => by go_simp; rfl) ?_
      simp only [List.getElem_toArray, List.getElem_cons_zero, List.getElem_cons_succ, Act.put, List.setIfInBounds_toArray, List.set_cons_zero, List.set_cons_succ]
      refine s_take 1 _ _ rfl (by kernel_rfl) (by kernel_rfl) (by kernel_rfl) (by kernel_rfl) (by kernel_rfl) (by decide) rfl (fun c a' w' h => ⟨(putS_defers _ _ _).symm.trans h.1, h.2⟩) (fun _ => HD.out) (fun u hu => by obtain ⟨r0, r1, r2⟩ := hu; go_simp; rfl) ?_
      simp only [List.getElem_toArray, List.getElem_cons_zero, List.getElem_cons_succ, Act.put, List.setIfInBounds_toArray, List.set_cons_zero, List.set_cons_succ]
      refine s_calc 2 _ _ rfl (by kernel_rfl) (by kernel_rfl) (by kernel_rfl) (by kernel_rfl) (by decide) rfl (fun c a' w' h => ⟨(putS_defers _ _ _).symm.trans h.1, h.2⟩) (fun _ => HD.out) (fun u => by go_simp; rfl) ?_
      simp only [List.getElem_toArray, List.getElem_cons_zero, List.getElem_cons_succ, Act.put, List.setIfInBounds_toArray, List.set_cons_zero, List.set_cons_succ]
      refine s_take 3 _ _ rfl (by kernel_rfl) (by kernel_rfl) (by kernel_rfl) (by kernel_rfl) (by kernel_rfl) (by decide) rfl (fun c a' w' h => ⟨(putS_defers _ _ _).symm.trans h.1, h.2⟩) (fun _ => HD.out) (fun u hu => by obtain ⟨r0, r1, r2⟩ := hu; go_simp; rfl) ?_
      simp only [List.getElem_toArray, List.getElem_cons_zero, List.getElem_cons_succ, Act.put, List.setIfInBounds_toArray, List.set_cons_zero, List.set_cons_succ]
      refine s_calc 4 _ _ rfl (by kernel_rfl) (by kernel_rfl) (by kernel_rfl) (by kernel_rfl) (by decide) rfl (fun c a' w' h => ⟨(putS_defers _ _ _).symm.trans h.1, h.2⟩) (fun _ => HD.out) (fun u => by go_simp; rfl) ?_
      simp only [List.getElem_toArray, List.getElem_cons_zero, List.getElem_cons_succ, Act.put, List.setIfInBounds_toArray, List.set_cons_zero, List.set_cons_succ]
      refine s_take 5 _ _ rfl (by kernel_rfl) (by kernel_rfl) (by kernel_rfl) (by kernel_rfl) (by kernel_rfl) (by decide) rfl (fun c a' w' h => ⟨(putS_defers _ _ _).symm.trans h.1, h.2⟩) (fun _ => HD.out) (fun u hu => by obtain ⟨r0, r1, r2⟩ := hu; go_simp; rfl) ?_
      simp only [List.getElem_toArray, List.getElem_cons_zero, List.getElem_cons_succ, Act.put, List.setIfInBounds_toArray, List.set_cons_zero, List.set_cons_succ]
      refine s_calc 6 _ _ rfl (by kernel_rfl) (by kernel_rfl) (by kernel_rfl) (by kernel_rfl) (by decide) rfl (fun c a' w' h => ⟨(putS_defers _ _ _).symm.trans h.1, h.2⟩) (fun _ => HD.out) (fun u => by go_simp; rfl) ?_
      simp only [List.getElem_toArray, List.getElem_cons_zero, List.getElem_cons_succ, Act.put, List.setIfInBounds_toArray, List.set_cons_zero, List.set_cons_succ]
      refine s_only 7 _ rfl (by kernel_rfl) ?_
      go_simp
      refine (rmoved_any _ _ has bs n _ HVX.out HTD.out.ia.sl HPT.out (by have := HSX.out; omega)).mono ?_
      rintro e w2' ⟨v2, rfl, ho2⟩
      have HB2' := hid ho2.below
      have HT2 := hid (HTD.out.later ho2.below)
      have HO2 := hid (Out.since HTD.out.own.own.below ho2)
      have HD2 : Hid (w2'.cell? ⟨b3, 0, none⟩ = some (.slice a3 q c3) ∧ w2'.cell? ⟨bx, 0, none⟩ = some (.string ty) ∧ w2'.cell? ⟨bx, 1, none⟩ = some (.slice ax has.length cx)) := hid (HDA.out w2' ho2.below)
      obtain ⟨av, cv, hv⟩ := ho2.sl.val
      subst hv
      clear ho2
      refine ⟨fun _ => HD2.out, ?_⟩
      try simp only [List.getElem_toArray, List.getElem_cons_zero, List.getElem_cons_succ, Act.put, List.setIfInBounds_toArray, List.set_cons_zero, List.set_cons_succ]
      refine s_calc 8 _ _ rfl (by kernel_rfl) (by kernel_rfl) (by kernel_rfl) (by kernel_rfl) (by decide) rfl (fun c a' w' h => ⟨(putS_defers _ _ _).symm.trans h.1, h.2⟩) (fun _ => HD2.out) (fun u => by go_simp; rfl) ?_
      simp only [List.getElem_toArray, List.getElem_cons_zero, List.getElem_cons_succ, Act.put, List.setIfInBounds_toArray, List.set_cons_zero, List.set_cons_succ]
      refine s_only 9 _ rfl (by kernel_rfl) ?_
      go_simp
      refine ⟨fun _ => HDA.out _ (HB2'.out.alloc HB2'.out.size _), ?_⟩
      try simp only [List.getElem_toArray, List.getElem_cons_zero, List.getElem_cons_succ, Act.put, List.setIfInBounds_toArray, List.set_cons_zero, List.set_cons_succ]
      refine s_only 10 _ rfl (by kernel_rfl) ?_
      have HTN : Hid (Out W6 w2' 42 2 (.slice a3 q c3) q (L.flatMap Th.cells)) := hid (by have := HT2.out.own.own; rwa [HQQ.out] at this)
      have HRX2 : Hid (w2'.heap[bx]? = some (.cells #[.string ty, .slice ax has.length cx] 42 (0, 0))) := hid ((HB2'.out.block _ (Array.getElem?_eq_some_iff.1 HRXD.out).1).trans HRXD.out)
      refine step_append_out W6 w2' _ rfl _ _ 23 rfl 42 (.agg #[.string { data := #[] }, .slice none 0 0]) 2 40 1 Tryz.underlying23 infoTh rfl (by decide) _ _ _ HTN.out rfl rfl rfl ?_ (by have := HQL.out; omega) (by have := HQL.out; omega) ?_
      ·simp [Value.oneCell']
      intro v4 w4 ho4 hg4
      obtain ⟨hc4, hf4, hT4⟩ := HT2.out.step (x := ⟨ty, .slice av has.length cv, has.map (movedV (false :: bs))⟩) (by show Out W6 w2' _ 2 (.slice av has.length cv) (has.map (movedV (false :: bs))).length _; rw [List.length_map]; exact HO2.out) (by have := ho4; rw [← HQQ.out] at this; exact this) hg4
      have HT4 := hid hT4
      have HD4 := hid (by exact (⟨hc4, row_cell2 ((hg4.block bx (Array.getElem?_eq_some_iff.1 HRX2.out).1 (fun e => Nat.lt_irrefl _ (HOB.out bx e.symm))).trans HRX2.out)⟩ : w4.cell? ⟨b3, 0, none⟩ = some (.slice a3 q c3) ∧ w4.cell? ⟨bx, 0, none⟩ = some (.string ty) ∧ w4.cell? ⟨bx, 1, none⟩ = some (.slice ax has.length cx)))
      have HF4 := hid hf4
      obtain ⟨a4, c4, rfl⟩ := ho4.sl.val
      clear ho4 hg4 hT4
      refine ⟨fun _ => HD4.out, ?_⟩
      try simp only [List.getElem_toArray, List.getElem_cons_zero, List.getElem_cons_succ, Act.put, List.setIfInBounds_toArray, List.set_cons_zero, List.set_cons_succ]
      refine s_calc 11 _ _ rfl (by kernel_rfl) (by kernel_rfl) (by kernel_rfl) (by kernel_rfl) (by decide) rfl (fun c a' w' h => ⟨(putS_defers _ _ _).symm.trans h.1, h.2⟩) (fun _ => HD4.out) (fun u => by go_simp; rfl) ?_
      simp only [List.getElem_toArray, List.getElem_cons_zero, List.getElem_cons_succ, Act.put, List.setIfInBounds_toArray, List.set_cons_zero, List.set_cons_succ]
      refine s_only 12 _ rfl (by kernel_rfl) ?_
      go_simp
      refine ⟨fun h => absurd h (by decide), ?_⟩
      refine s_end (by kernel_rfl) ?_
      go_wp2_with fail
      go_roundw
      case rel => exact ⟨i + 1, _, _, by omega, by simp, HT4, hid (by rw [List.map_append, HLB.out, HKT.out, List.map_append]; rfl)⟩
      case measure => simp [intOf]; omega
     ·obtain rfl : i = k := by omega
      have HLE : Hid (L5.map bare = L.map bare) := hid (by
       rw [HL5.out, ← sw_heap, HLB.out, HKL.out, List.take_length])
      have x0 := HX.out _ H1a.out
      have HTF := hid HT.out
      have HVR := hid (HR.out.below HB1a.out)
      have HPR : Hid (∀ v ∈ R, v.k = 3 → 0 ≤ v.n ∧ v.n < (n : Int)) := hid (fun v hv hk => by have := HRP.out v hv hk; have := HNN.out; omega)
      have HMV := hid (rmoved_any _ _ R bs n wa HVR.out HTF.out.ia.sl HPR.out (by have := HR50.out; omega))
      clear hlt HT x0
      go_wp2_with fail
      refine HMV.out.mono ?_
      rintro e wm ⟨vm, rfl, hom⟩
      have HVM : Hid (Vls wm vm (R.map (movedV (false :: bs)))) := hid (by have := hom.sl; rw [← List.length_map (f := movedV (false :: bs))] at this; exact this)
      have HTM := hid (HTF.out.later hom.below)
      have H6m := hid HTM.out.own.own.below
      have H56m := hid (H56.out.trans (H6m.out.mono H56.out.size))
      have H46m := hid (H45.out.trans (H56m.out.mono H45.out.size))
      have HBm := hid (HB6.out.trans (H6m.out.mono HB6.out.size))
      obtain ⟨avm, cvm, hvm⟩ := hom.sl.val
      subst hvm
      have HI1 : Hid (Sl wm (.slice a4 i c4) PL.length 1 (PL.map (.int .i64))) := hid (by rw [HMM.out]; exact HO4.out.below H46m.out)
      have HI2 : Hid (Sl wm (.slice a9 i c9) PL.length 1 (PL.map (.int .i64))) := hid (by rw [HMM.out]; exact HTM.out.pl.sl)
      clear hom
      go_wp2_with fail
      refine (ints.ints_any _ _ PL PL wm HI1.out HI2.out (by rw [HMM.out]; have := HM50.out; omega)).mono ?_
      rintro e wn ⟨rfl, hbn⟩
      rw [decide_eq_true rfl]
      have HTN := hid (HTM.out.later hbn)
      have H6n := hid HTN.out.own.own.below
      have H5n := hid (H56.out.trans (H6n.out.mono H56.out.size))
      have HBn := hid (HB6.out.trans (H6n.out.mono HB6.out.size))
      have HVN := hid (HVM.out.below hbn)
      clear hbn
      have c2 := HX2.out _ H6n.out
      have c3_ : wn.cell? ⟨b3, 0, none⟩ = some (.slice a3 q c3) := by rw [cell_of_row _ _ _ _ _ _ HTN.out.r3]; rfl
      go_wp2_with fail
      refine (sheap_same _ _ L5 L wn (HO5.out.below H5n.out) HTN.out.own.ths HLE.out (fun x hx => ?_) (by have := HL5L.out; omega)).mono ?_
      ·have h := small_same (G := L5) (H := sweptH (false :: bs) H) (by rw [HL5.out, swept_bare]) (small_swept bs HS.out)
       have := (h x hx).2
       omega
      rintro e wo ⟨rfl, hbo⟩
      have HBo := hid (HBn.out.trans (hbo.mono HBn.out.size))
      have H5o := hid (H5n.out.trans (hbo.mono H5n.out.size))
      have HVO := hid (HVN.out.below hbo)
      have HV5o := hid (HV5.out.below H5o.out)
      clear hbo c2 c3_
      go_wp2_with fail
      refine (svals_same _ _ (R.map (movedV (false :: bs))) wo HV5o.out HVO.out (by rw [List.length_map]; have := HR50.out; omega)).mono ?_
      rintro e wp ⟨rfl, hbp⟩
      have HBp := hid (HBo.out.trans (hbp.mono HBo.out.size))
      clear hbp
      go_wp2
      go_ret
      exact ⟨by first | rfl | simp, HBp.out⟩
 ·rw [if_neg h0] at h4
  obtain ⟨rfl, hb4⟩ := h4
  have HEV : Hid (errVal z = .iface 28 (.int .i64 z)) := hid (by unfold errVal; rw [if_neg h0])
  have H14 := hid (H13.out.trans (hb4.mono H13.out.size))
  have HB4 := hid (HB3.out.trans (hb4.mono HB3.out.size))
  have HER : Hid (∀ u, Calls Tryz.prog 8 #[.iface 28 (.int .i64 z), .int .i64 z] u fun e w' => e = .returned (.bool true) ∧ u = w') := hid (fun u => by have := error_same z u; rwa [HEV.out] at this)
  rw [HEV.out]
  clear hb4 x0
  have x0 := HX.out _ H14.out
  have H0 := hid h0
  clear h0
  go_wp2_with fail
  refine (sweep_any _ _ _ l H R w4 (HL.out.below HB4.out) (HF.out.below HB4.out) HSM.out HN.out (HH.out.below HB4.out) HS.out HM.out (HR.out.below HB4.out)).mono ?_
  intro e w5 h5
  unfold SweepBy at h5
  rw [HZ.out, if_neg H0.out, HEV.out] at h5
  obtain ⟨rfl, hb5⟩ := h5
  have HB5 := hid (HB4.out.trans (hb5.mono HB4.out.size))
  clear hb5 x0
  obtain ⟨b2, hb2⟩ : ∃ b2, w5.heap.size = b2 := ⟨_, rfl⟩
  obtain ⟨W6, hW6⟩ : ∃ W6, w5.alloc (.cells #[.slice none 0 0] 25) = W6 := ⟨_, rfl⟩
  have H56 : Hid (Below w5.heap.size w5 W6) := hid (hW6 ▸ ext_alloc _ _)
  have HB6 := hid (HB5.out.trans (H56.out.mono HB5.out.size))
  have HR2 : Hid (W6.heap[b2]? = some (.cells #[.slice none 0 0] 25 (0, 0))) := hid (by rw [← hW6, ← hb2]; exact heap_alloc_new _ _)
  subst hW6
  go_wp2_with fail
  refine (HER.out _).mono ?_
  rintro e w6' ⟨rfl, hw6'⟩
  subst hw6'
  go_wp2_with fail
  refine (HER.out _).mono ?_
  rintro e w6'' ⟨rfl, hw6''⟩
  subst hw6''
  obtain ⟨W6, hW6⟩ : ∃ W6, w5.alloc (.cells #[.slice none 0 0] 25) = W6 := ⟨_, rfl⟩
  rw [hW6] at HB6 HR2 H56
  rw [hW6]
  obtain ⟨b3, hb3⟩ : ∃ b3, W6.heap.size = b3 := ⟨_, rfl⟩
  obtain ⟨W7, hW7⟩ : ∃ W7, W6.alloc (.cells #[.slice none 0 0] 25) = W7 := ⟨_, rfl⟩
  have H67 : Hid (Below W6.heap.size W6 W7) := hid (hW7 ▸ ext_alloc _ _)
  have HB7 := hid (HB6.out.trans (H67.out.mono HB6.out.size))
  have HR3 : Hid (W7.heap[b3]? = some (.cells #[.slice none 0 0] 25 (0, 0))) := hid (by rw [← hW7, ← hb3]; exact heap_alloc_new _ _)
  have HR27 : Hid (W7.heap[b2]? = some (.cells #[.slice none 0 0] 25 (0, 0))) := hid ((H67.out.block _ (Array.getElem?_eq_some_iff.1 HR2.out).1).trans HR2.out)
  have HXX : Hid (∀ u, Below W7.heap.size W7 u → u.cell? ⟨b2, 0, none⟩ = some (.slice none 0 0) ∧ u.cell? ⟨b3, 0, none⟩ = some (.slice none 0 0)) := hid (fun u hu => by
   have h2 := (hu.block _ (Array.getElem?_eq_some_iff.1 HR27.out).1).trans HR27.out
   have h3 := (hu.block _ (Array.getElem?_eq_some_iff.1 HR3.out).1).trans HR3.out
   exact ⟨by rw [cell_of_row _ _ _ _ _ _ h2]; rfl, by rw [cell_of_row _ _ _ _ _ _ h3]; rfl⟩)
  have HZE : Hid ((z == 0) = false ∧ ¬ z = 0) := hid ⟨by simpa using H0.out, H0.out⟩
  obtain ⟨hz1, hz2⟩ := HZE.out
  go_wp2_with fail
  refine (ints.ints_any (.slice none 0 0) (.slice none 0 0) [] [] W7 (slN _ 1) (slN _ 1) (by decide)).mono ?_
  rintro e wn ⟨rfl, hbn⟩
  rw [decide_eq_true rfl]
  obtain ⟨c2, c3⟩ := HXX.out wn hbn
  have H7n := hid hbn
  have HBn := hid (HB7.out.trans (hbn.mono HB7.out.size))
  clear hbn
  go_wp2_with fail
  refine (sheap_same (.slice none 0 0) (.slice none 0 0) [] [] wn ⟨slN _ 2, fun _ h => absurd h List.not_mem_nil⟩ ⟨slN _ 2, fun _ h => absurd h List.not_mem_nil⟩ rfl (fun _ h => absurd h List.not_mem_nil) (by decide)).mono ?_
  rintro e wo ⟨rfl, hbo⟩
  have HBo := hid (HBn.out.trans (hbo.mono HBn.out.size))
  clear hbo c2 c3
  go_wp2_with fail
  refine (svals_same (.slice none 0 0) (.slice none 0 0) [] wo (slN _ 2) (slN _ 2) (by decide)).mono ?_
  rintro e wp ⟨rfl, hbp⟩
  have HBp := hid (HBo.out.trans (hbp.mono HBo.out.size))
  clear hbp
  go_wp2
  go_ret
  exact ⟨by first | rfl | simp, HBp.out⟩
end Go.Proofs.YtlhobhnbgdicjaaGreatDoor.worlds
