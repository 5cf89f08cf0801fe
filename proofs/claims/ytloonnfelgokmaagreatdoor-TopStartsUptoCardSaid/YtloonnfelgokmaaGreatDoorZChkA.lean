/- check.First = firstFr, for a static method. Conditions: the method's type is right and it has room for the arguments. -/
import Derived.Maps.RangeWalk
import Derived.Test.YtloonnfelgokmaaGreatDoorZStpC
import Derived.Test.YtloonnfelgokmaaGreatDoorZVmZ
import Derived.Deep.LoopGhost
import Derived.Test.YtloonnfelgokmaaGreatDoorZOwn
set_option maxRecDepth 100000
set_option maxHeartbeats 16000000
set_option linter.unusedSimpArgs false
set_option linter.unusedVariables false
namespace Go.Proofs.YtloonnfelgokmaaGreatDoor.worlds
open Go.RowKit lib maps classes errs descs names grow keep ins
structure FO (w0 w : World) (b3 b4 b9 : Nat) (R : Array Value) (vL : Value) (M : List ByteArray) : Prop where
 r3 : w.heap[b3]? = some (.cells R 44 (0, 0))
 r4 : w.heap[b4]? = some (.cells #[.slice none 0 0, .slice none 0 0] 163 (0, 0))
 r9 : w.heap[b9]? = some (.cells #[vL, .slice none 0 0] 163 (0, 0))
 oL : Out w0 w 9 1 vL M.length (M.map .string)
 le : w0.heap.size ≤ b4 ∧ w0.heap.size ≤ b9
 ne : b3 ≠ b9 ∧ b4 ≠ b9
section
variable {w0 w w' : World} {b3 b4 b9 : Nat} {R : Array Value} {vL v' : Value} {M M' : List ByteArray}
theorem FO.put (h : FO w0 w b3 b4 b9 R vL M) (hg : w.grownBy w' vL.ownBlock) (ho : Out w0 w' 9 1 v' M'.length (M'.map .string)) :
  FO w0 (w'.setCell ⟨b9, 0, none⟩ v') b3 b4 b9 R v' M' ∧ w'.cell? ⟨b9, 0, none⟩ = some vL ∧ w'.frozen? ⟨b9, 0, none⟩ = false := by
 have q3 := row_grown h.oL h.r3 (by decide) hg
 have q4 := row_grown h.oL h.r4 (by decide) hg
 have q9 := row_grown h.oL h.r9 (by decide) hg
 exact ⟨⟨(setCell_other h.ne.1).trans q3, (setCell_other h.ne.2).trans q4, setCell_row q9, out_put_other ho q9 (by decide) h.le.2, h.le, h.ne⟩, by rw [cell_of_row _ _ _ _ _ _ q9]; rfl, frozen_of_row _ _ _ _ _ q9⟩
end
theorem pad_step (ts : List (List UInt8)) {k : Nat} (h : ts.length ≤ k) : ts.map bs ++ List.replicate (k + 1 - ts.length) tT = (ts.map bs ++ List.replicate (k - ts.length) tT) ++ [tT] := by
 rw [List.append_assoc]
 congr 1
 rw [show k + 1 - ts.length = (k - ts.length) + 1 by omega, List.replicate_succ']
theorem pad_len (ts : List (List UInt8)) {k : Nat} (h : ts.length ≤ k) : (ts.map bs ++ List.replicate (k - ts.length) tT).length = k := by
 rw [List.length_append, List.length_map, List.length_replicate]; omega
theorem cfirst_any (cls nm ty : ByteArray) (ab pr : Bool) (lo : Int) (ac ah : Option Addr) (nc cc nh ch : Nat) (ts : List (List UInt8)) (g : List UInt8) (w : World) (hm : methodOf ty.data.toList = some (ts, g)) (h0 : 0 ≤ lo) (h8 : lo ≤ 8) (hlo : ts.length ≤ lo.toNat) :
  Calls Tryz.prog 90 #[.string cls, .agg #[.string nm, .string ty, .bool true, .bool ab, .bool pr, .int .i64 lo, .slice ac nc cc, .slice ah nh ch]] w fun e w' => ∃ vL, e = .returned (.tuple #[.agg #[vL, .slice none 0 0], .string (bs g)]) ∧ Out w w' 9 1 vL lo.toNat ((ts.map bs ++ List.replicate (lo.toNat - ts.length) tT).map .string) := by
 obtain ⟨q, rfl⟩ : ∃ q : Nat, lo = (q : Int) := ⟨lo.toNat, by omega⟩
 rw [Int.toNat_natCast] at hlo ⊢
 have hsm := text_small (make_method hm).1
 have htz : ty.size ≤ 10000000 := by
  have h1 := (make_method hm).2
  have h2 := hsm.2.2.2.1
  rw [h1] at h2
  have : ty.data.toList.length = ty.size := Array.length_toList
  omega
 obtain ⟨b3, hb3⟩ : ∃ b3, w.heap.size = b3 := ⟨_, rfl⟩
 obtain ⟨A1, hA1⟩ : ∃ A1, w.alloc (.cells #[.string nm, .string ty, .bool true, .bool ab, .bool pr, .int .i64 q, .slice ac nc cc, .slice ah nh ch] 44) = A1 := ⟨_, rfl⟩
 obtain ⟨b4, hb4⟩ : ∃ b4, A1.heap.size = b4 := ⟨_, rfl⟩
 obtain ⟨A2, hA2⟩ : ∃ A2, A1.alloc (.cells #[.slice none 0 0, .slice none 0 0] 163) = A2 := ⟨_, rfl⟩
 have B1 : Below w.heap.size w A1 := hA1 ▸ ext_alloc _ _
 have B2 : Below A1.heap.size A1 A2 := hA2 ▸ ext_alloc _ _
 have r3 : A1.heap[b3]? = some (.cells #[.string nm, .string ty, .bool true, .bool ab, .bool pr, .int .i64 q, .slice ac nc cc, .slice ah nh ch] 44 (0, 0)) := by rw [← hA1, ← hb3]; exact heap_alloc_new _ _
 have r4 : A2.heap[b4]? = some (.cells #[.slice none 0 0, .slice none 0 0] 163 (0, 0)) := by rw [← hA2, ← hb4]; exact heap_alloc_new _ _
 have HA := hid (B1.trans (B2.mono B1.size))
 have HR3 := hid ((B2.block _ (zh r3).1).trans r3)
 have HR4 := hid r4
 have HLE : Hid (w.heap.size ≤ b4) := hid (by rw [← hb4]; exact B1.size)
 have y1 : A2.cell? ⟨b3, 1, none⟩ = some (.string ty) := by rw [cell_of_row _ _ _ _ _ _ HR3.out]; rfl
 have HMO := hid hm
 have HTZ := hid htz
 have HTS : Hid (ts.length ≤ 5) := hid hsm.1
 have HQ := hid hlo
 have hq8 : (q : Int) ≤ 8 := h8
 clear B1 B2 r3 r4 hm hsm htz h0 h8 hlo
 go_enter Tryz.func90, Tryz.ntmps90
 go_wp2_with fail
 refine (method_any ty _ HTZ.out).mono ?_
 intro e w3 h3
 unfold MethodBy at h3
 rw [HMO.out] at h3
 obtain ⟨v, rfl, ho3⟩ := h3
 rw [map_sv] at ho3
 obtain ⟨b9, hb9⟩ : ∃ b9, w3.heap.size = b9 := ⟨_, rfl⟩
 obtain ⟨A4, hA4⟩ : ∃ A4, w3.alloc (.cells #[.slice none 0 0, .slice none 0 0] 163) = A4 := ⟨_, rfl⟩
 have HE4 : Hid (Below w3.heap.size w3 A4) := hid (hA4 ▸ ext_alloc _ _)
 have HFO : Hid (FO w A4 b3 b4 b9 #[.string nm, .string ty, .bool true, .bool ab, .bool pr, .int .i64 q, .slice ac nc cc, .slice ah nh ch] (.slice none 0 0) []) := hid (by
  have hb := ho3.below.trans (HE4.out.mono ho3.below.size)
  have hb0 := HA.out.trans (hb.mono HA.out.size)
  have n3 := (zh HR3.out).1
  have n4 := (zh HR4.out).1
  have n5 := ho3.below.size
  exact ⟨(hb.block _ n3).trans HR3.out, (hb.block _ n4).trans HR4.out, (by rw [← hA4, ← hb9]; exact heap_alloc_new _ _), nil_own hb0 _ _, ⟨HLE.out, (by rw [← hb9]; exact Nat.le_trans HA.out.size n5)⟩, (by omega), (by omega)⟩)
 have HSV := hid ((ho3.later HE4.out).sl)
 obtain ⟨av, cv, hv⟩ := ho3.sl.val
 subst hv
 have HON : Hid (Out w A4 9 1 (.slice none 0 0) 0 []) := hid HFO.out.oL
 have x9 : A4.cell? ⟨b9, 0, none⟩ = some (.slice none 0 0) := by rw [cell_of_row _ _ _ _ _ _ HFO.out.r9]; rfl
 have x3 : A4.cell? ⟨b3, 2, none⟩ = some (.bool true) := by rw [cell_of_row _ _ _ _ _ _ HFO.out.r3]; rfl
 have hts : ts.length ≤ 5 := HTS.out
 clear ho3 y1 HA HR3 HR4 HLE hA1 hA2
 go_wp2_with (at_builtin; (refine wpList_append_src_at w _ rfl _ _ 24 rfl 9 (.string { data := #[] }) 1 16 ts.length Tryz.underlying24 infoS rfl (by decide) _ _ _ HON.out rfl _ _ HSV.out rfl (by intro u hu; obtain ⟨z, _, rfl⟩ := List.mem_map.1 hu; rfl) (by omega) (by omega) ?_))
 intro v2 w2 ho2 hg2 hat2
 try rw [Nat.zero_add, List.nil_append] at ho2
 try rw [← List.map_map] at ho2
 have hPUT := HFO.out.put (w' := w2) (v' := v2) (M' := ts.map bs) hg2 (by rw [List.length_map]; exact ho2)
 obtain ⟨a2, c2, hv2⟩ := ho2.sl.val
 subst hv2
 obtain ⟨hF2, y9, f9⟩ := hPUT
 have HF2 := hid hF2
 clear ho2 hg2 hat2 hF2 x9 x3 HON HSV HFO
 go_wp2_with fail
 clear hA4
 go_loopg [] (q - ts.length) (fun gh wr => ∃ (k : Nat) (vO : Value), gh = q - k ∧ ts.length ≤ k ∧ k ≤ q ∧ Hid (FO w wr b3 b4 b9 #[.string nm, .string ty, .bool true, .bool ab, .bool pr, .int .i64 q, .slice ac nc cc, .slice ah nh ch] vO (ts.map bs ++ List.replicate (k - ts.length) tT)))
 case atStart => exact ⟨ts.length, _, rfl, Nat.le_refl _, HQ.out, hid (by rw [Nat.sub_self, List.replicate_zero, List.append_nil]; exact HF2.out)⟩
 case round =>
  obtain ⟨k, vO, hgh, hk1, hk2, HF⟩ := hrel
  have HGH := hid hgh
  have HST := hid (pad_step ts hk1)
  have HLN := hid (pad_len ts hk1)
  have HK1 := hid hk1
  obtain ⟨ao, co, hvo⟩ := HF.out.oL.sl.val
  rw [HLN.out] at hvo
  subst hvo
  obtain ⟨wb, hwb⟩ : ∃ wb, wb = wr := ⟨_, rfl⟩
  subst hwb
  have HON : Hid (Out w wb 9 1 (.slice ao k co) k ((ts.map bs ++ List.replicate (k - ts.length) tT).map .string)) := hid (by have := HF.out.oL; rwa [HLN.out] at this)
  have x9 : wb.cell? ⟨b9, 0, none⟩ = some (.slice ao k co) := by rw [cell_of_row _ _ _ _ _ _ HF.out.r9]; rfl
  have x9b : wb.cell? ⟨b9, 1, none⟩ = some (.slice none 0 0) := by rw [cell_of_row _ _ _ _ _ _ HF.out.r9]; rfl
  have x3 : wb.cell? ⟨b3, 5, none⟩ = some (.int .i64 (q : Int)) := by rw [cell_of_row _ _ _ _ _ _ HF.out.r3]; rfl
  have hk8 : k ≤ 8 := by omega
  clear hgh hk1
  by_cases hlt : k < q
  ·have hlt1 : (k : Int) < (q : Int) := by omega
   go_wp2_with (at_builtin; (refine wpList_append_lit_at w _ _ rfl _ _ 24 rfl 9 (.string { data := #[] }) 1 16 1 Tryz.underlying24 infoS rfl (by decide) _ _ _ HON.out rfl rfl rfl (by simp [Value.oneCell']) (by omega) (by omega) ?_))
   intro v3 w4 ho4 hg4 hat4
   have hPUT := HF.out.put (w' := w4) (v' := v3) (M' := ts.map bs ++ List.replicate (k + 1 - ts.length) tT) hg4 (by
    have e : (ts.map bs ++ List.replicate (k + 1 - ts.length) tT).map Value.string = ts.map (Value.string ∘ bs) ++ (List.replicate (k - ts.length) (.string tT) ++ [.string tT]) := by rw [HST.out, List.map_append, List.map_append, List.map_map, List.map_replicate, List.append_assoc]; rfl
    rw [e, HST.out, List.length_append, HLN.out]
    exact ho4)
   obtain ⟨a4, c4, hv4⟩ := ho4.sl.val
   subst hv4
   obtain ⟨hF5, y9, f9⟩ := hPUT
   have HF5 := hid hF5
   clear ho4 hg4 hat4 hF5 x9 x9b x3 HON
   go_wp2_with fail
   go_roundg (q - (k + 1))
   case rel => exact ⟨k + 1, _, rfl, by have := HK1.out; omega, by omega, HF5⟩
   case measure => have := HGH.out; omega
  ·obtain rfl : q = k := by omega
   have z0 : wb.cell? ⟨b4, 0, none⟩ = some (.slice none 0 0) := by rw [cell_of_row _ _ _ _ _ _ HF.out.r4]; rfl
   have z1 : wb.cell? ⟨b4, 1, none⟩ = some (.slice none 0 0) := by rw [cell_of_row _ _ _ _ _ _ HF.out.r4]; rfl
   have g0 : wb.frozen? ⟨b4, 0, none⟩ = false := frozen_of_row _ _ _ _ _ HF.out.r4
   have g1 : wb.frozen? ⟨b4, 1, none⟩ = false := frozen_of_row _ _ _ _ _ HF.out.r4
   have h1 := heap_set HF.out.r4 0 (.slice ao q co)
   have h2 := heap_set h1 1 (.slice none 0 0)
   have HFR := hid h2
   have HFA := hid (out_put_other (j := 1) (x := .slice none 0 0) (out_put_other (j := 0) (x := .slice ao q co) HON.out HF.out.r4 (by decide) HF.out.le.1) h1 (by decide) HF.out.le.1)
   clear h1 h2 hlt
   go_wp2_with fail
   refine bodyPost_ret (results_cell_at rfl _ _ b4 _ _ _ _ rfl HFR.out Tryz.underlying163 rfl (by kernel_rfl)) rfl ?_
   exact ⟨_, rfl, HFA.out⟩
end Go.Proofs.YtloonnfelgokmaaGreatDoor.worlds
namespace Go.Proofs.YtloonnfelgokmaaGreatDoor.lib
open Go.RowKit
def OffOwn (w : World) (e : TypeId) (v : Value) (xs : List Value) : Prop :=
 (v = .slice none 0 0 ∧ xs = []) ∨
 ∃ g off cap cur, v = .slice (some ⟨g, off, none⟩) xs.length cap ∧ w.heap[g]? = some (.cells cur e (0, 0)) ∧ xs.length ≤ cap ∧ cap ≤ maxLen ∧ off + cap ≤ cur.size ∧ (cur.toList.drop off).take xs.length = xs
theorem OffOwn.nil (w : World) (e : TypeId) : OffOwn w e (.slice none 0 0) [] := .inl ⟨rfl, rfl⟩
theorem OffOwn.keep {w w' : World} {e : TypeId} {v : Value} {xs : List Value} (h : OffOwn w e v xs) (hk : ∀ g, v.ownBlock = some g → w'.heap[g]? = w.heap[g]?) : OffOwn w' e v xs := by
 rcases h with h | ⟨g, off, cap, cur, rfl, h1, h2⟩
 ·exact .inl h
 ·exact .inr ⟨g, off, cap, cur, rfl, by rw [hk g rfl, h1], h2⟩
theorem OffOwn.lt {w : World} {e : TypeId} {v : Value} {xs : List Value} (h : OffOwn w e v xs) {g : Nat} (hg : v.ownBlock = some g) : g < w.heap.size := by
 rcases h with ⟨rfl, _⟩ | ⟨g', off, cap, cur, rfl, h1, h2⟩
 ·cases hg
 ·cases hg
  exact (zh h1).1
theorem OffOwn.cells {w : World} {e : TypeId} {v : Value} {xs : List Value} (h : OffOwn w e v xs) : ∃ a c, v = .slice a xs.length c ∧ xs.length ≤ c ∧ (xs = [] ∨ ∃ b off, a = some ⟨b, off, none⟩ ∧ ∀ j u, xs[j]? = some u → w.cell? ⟨b, off + j, none⟩ = some u) := by
 rcases h with ⟨rfl, rfl⟩ | ⟨g, off, cap, cur, rfl, h1, h2, h3, h4, h5⟩
 ·exact ⟨none, 0, rfl, Nat.le_refl _, .inl rfl⟩
 ·refine ⟨_, _, rfl, h2, .inr ⟨g, off, rfl, fun j u hu => ?_⟩⟩
  have hj : j < xs.length := (List.getElem?_eq_some_iff.1 hu).1
  rw [← h5, List.getElem?_take, if_pos hj, List.getElem?_drop] at hu
  simp [World.cell?, h1]
  simpa using hu
theorem OffOwn.tail {w : World} {e : TypeId} {a : Option Addr} {n c : Nat} {x : Value} {xs : List Value} (h : OffOwn w e (.slice a n c) (x :: xs)) :
  ∃ g off, a = some ⟨g, off, none⟩ ∧ n = xs.length + 1 ∧ n ≤ c ∧ w.cell? ⟨g, off, none⟩ = some x ∧ OffOwn w e (.slice (if c = 1 then a else a.map (·.add 1)) xs.length (c - 1)) xs := by
 have hc := h.cells
 rcases h with ⟨_, h⟩ | ⟨g, off, cap, cur, hv, h1, h2, h3, h4, h5⟩
 ·cases h
 ·simp only [Value.slice.injEq] at hv
  obtain ⟨rfl, rfl, rfl⟩ := hv
  obtain ⟨a', c', he, _, hc⟩ := hc
  simp only [Value.slice.injEq] at he
  obtain ⟨rfl, _, rfl⟩ := he
  rcases hc with hc | ⟨b, o, hb, hc⟩
  ·cases hc
  ·cases hb
   refine ⟨g, off, rfl, rfl, h2, by have := hc 0 x rfl; rwa [Nat.add_zero] at this, ?_⟩
   rw [List.length_cons] at h2 h5
   have ht : (cur.toList.drop (off + 1)).take xs.length = xs := by
    have hlt : off < cur.toList.length := by rw [Array.length_toList]; omega
    rw [List.drop_eq_getElem_cons hlt, List.take_succ_cons] at h5
    exact (List.cons.inj h5).2
   by_cases h6 : c = 1
   ·have hx : xs = [] := List.eq_nil_of_length_eq_zero (by omega)
    subst hx
    rw [if_pos h6]
    exact .inr ⟨g, off, c - 1, cur, rfl, h1, by simp, by omega, by omega, by simp⟩
   ·rw [if_neg h6]
    exact .inr ⟨g, off + 1, c - 1, cur, by simp [Addr.add], h1, by omega, by omega, by omega, ht⟩
section
variable {P : Program} (w : World)
theorem run_append_off (t ty e : TypeId) (i : TypeInfo) (z : Value) (bytes : Nat) (ht : P.underlying t = some (.slice e)) (hi : P.info? e = some i) (hz : i.zero = some z)
  (hsize : i.size = 1) (hby : i.bytes = bytes) (hzs : z.cells.size = 1) (v : Value) (xs : List Value) (hown : OffOwn w e v xs)
  (a : Addr) (c : Nat) (x : Value) (hx : w.cell? a = some x) (h1 : x.oneCell' = true)
  (h63 : xs.length + 1 ≤ maxLen) (hbytes : (xs.length + 1) * bytes ≤ 140737488355328) :
  ∃ v' w', (Builtin.append_ #[t, t] ty #[v, .slice (some a) 1 c]).run P w = .ok v' w' ∧ OffOwn w' e v' (xs ++ [x]) ∧ w.grownBy w' v.ownBlock ∧
   (v'.ownBlock = v.ownBlock ∨ ∃ k, v'.ownBlock = some k ∧ w.heap.size ≤ k) := by
 subst hby
 have hnews : ∀ j u, ([x] : List Value)[j]? = some u → w.cell? (a.add j) = some u := by
  intro j u hu
  cases j with
  | zero => simp at hu; subst hu; simpa [Addr.add] using hx
  | succ j => simp at hu
 have hl : ([x] : List Value).length = 1 * i.size := by rw [hsize]; rfl
 have grown : ∀ (old : Nat), old < xs.length + 1 → ∀ (row : Option Nat),
   OffOwn (w.drew.alloc (.cells (xs.toArray ++ [x].toArray ++ Builtin.zeroCells z.cells (grownCap w (xs.length + 1) old e - (xs.length + 1))) e)) e
    (.slice (some ⟨w.heap.size, 0, none⟩) (xs.length + 1) (grownCap w (xs.length + 1) old e)) (xs ++ [x]) ∧
   w.grownBy (w.drew.alloc (.cells (xs.toArray ++ [x].toArray ++ Builtin.zeroCells z.cells (grownCap w (xs.length + 1) old e - (xs.length + 1))) e)) row := by
  intro old ho row
  have hge := grownCap_ge w (xs.length + 1) old e
  have hcm : grownCap w (xs.length + 1) old e ≤ maxLen := grownCap_le_maxLen w (xs.length + 1) old e h63
  have hlx : (xs ++ [x]).length = xs.length + 1 := by simp
  refine ⟨.inr ⟨w.heap.size, 0, _, _, by rw [hlx], heap_alloc_new w.drew _, by rw [hlx]; exact hge, hcm, ?_, ?_⟩, ⟨rfl, rfl, rfl, by simp, fun k hk _ => Below.heap_alloc w.drew _ _ hk⟩⟩
  ·simp only [Array.size_append, List.size_toArray, size_zeroCells, hzs, List.length_singleton]
   omega
  ·simp only [Array.toList_append, List.drop_zero]
   exact List.take_left
 rcases hown with ⟨rfl, rfl⟩ | ⟨g, off, cap, cur, rfl, hg, hnc, hcm, hcs, htake⟩
 ·have hb := hbytes
  simp only [List.length_nil, Nat.zero_add, Nat.one_mul] at hb
  have hr := run_append_nil (P := P) w t ty e i z ht hi hz a 1 c [x] hl hnews (by omega) (by omega) (by omega)
  have hgr := grown 0 (by simp) (Value.ownBlock (.slice none 0 0))
  simp only [List.length_nil, Nat.zero_add, List.nil_append, Array.empty_append] at hgr ⊢
  exact ⟨_, _, hr, hgr.1, hgr.2, .inr ⟨_, rfl, Nat.le_refl _⟩⟩
 ·by_cases hroom : xs.length + 1 ≤ cap
  ·have hf := run_firstCells_some (P := P) w i.size 1 a 1 c [x] hl hnews
   have hst := run_storeCells_at P g (off + xs.length) e [x] 0 cur w hg (by simp; omega) (by intro u hu; rw [List.mem_singleton.1 hu]; exact h1)
   simp only [Nat.add_zero, List.length_singleton] at hst
   have hr : (Builtin.append_ #[t, t] ty #[.slice (some ⟨g, off, none⟩) xs.length cap, .slice (some a) 1 c]).run P w =
    .ok (.slice (some ⟨g, off, none⟩) (xs.length + 1) cap) (w.setRow g (cur.toList.take (off + xs.length) ++ [x] ++ cur.toList.drop (off + xs.length + 1)).toArray) := by
    rw [hsize] at hf
    simp [Builtin.append_, run_underlying ht, sizeOf, typeInfo, hi, Builtin.lenOf, hroom, hf, hsize, Addr.add_lit]
    simp at hst
    simp [hst]
   refine ⟨_, _, hr, .inr ⟨g, off, cap, _, by simp, setRow_heap w g cur _ e _ hg, by simpa using hroom, hcm, ?_, ?_⟩, ⟨rfl, rfl, rfl, by simp, fun k _ hk => setRow_other w g k _ (fun e => hk (by simp [Value.ownBlock, e]))⟩, .inl rfl⟩
   ·simp only [List.size_toArray, List.length_append, List.length_take, List.length_drop, Array.length_toList, List.length_singleton]
    omega
   ·have hlo : (cur.toList.take off).length = off := by rw [List.length_take, Array.length_toList]; omega
    have e1 : cur.toList.take (off + xs.length) = cur.toList.take off ++ xs := by
     rw [List.take_add, htake]
    rw [e1, List.append_assoc, List.append_assoc, List.drop_append, hlo, Nat.sub_self, List.drop_zero]
    rw [List.drop_eq_nil_of_le (by omega), List.nil_append, ← List.append_assoc]
    exact List.take_left
  ·have holds : ∀ j u, xs[j]? = some u → w.cell? ((⟨g, off, none⟩ : Addr).add j) = some u := by
    intro j u hu
    have hj : j < xs.length := (List.getElem?_eq_some_iff.1 hu).1
    rw [← htake, List.getElem?_take, if_pos hj, List.getElem?_drop] at hu
    rw [Addr.add_lit]
    simp [World.cell?, hg]
    simpa using hu
   have hr := run_append_grow (P := P) w t ty e i z ht hi hz ⟨g, off, none⟩ xs.length cap xs (by rw [hsize]; simp) holds a 1 c [x] hl hnews (by omega) (by unfold maxLen at h63; omega) (growslice_fits (by omega) hbytes)
   have hgr := grown cap (by omega) (Value.ownBlock (.slice (some ⟨g, off, none⟩) xs.length cap))
   exact ⟨_, _, hr, hgr.1, hgr.2, .inr ⟨_, rfl, Nat.le_refl _⟩⟩
theorem wpList_append_off (arr : Array Value) {ops : Array Oper} {rest : List Oper} {o : Oper} {a : Act} {Q : Exit → Act → World → Prop} (hgd : o.guard = none) (s x : Operand) (t : TypeId)
  (ho : o.op = .call { callee := .builtin .append, args := #[s, x], argTypes := #[t, t] })
  (e : TypeId) (z : Value) (bytes B : Nat) (ht : P.underlying t = some (.slice e)) (hinfo : (P.info? e).map (fun i => (i.zero, i.size, i.bytes)) = some (some z, 1, bytes)) (hzs : z.cells.size = 1)
  (v : Value) (xs : List Value) (u : Value) (hown : OffOwn w e v xs) (hs : a.eval s = v) (hx : a.eval x = .slice (some ⟨B, 0, none⟩) 1 1) (hB : w.heap.size = B) (harr : arr = #[u]) (h1 : u.oneCell' = true)
  (h63 : xs.length + 1 ≤ maxLen) (hbytes : (xs.length + 1) * bytes ≤ 140737488355328)
  (h : ∀ v' w', OffOwn w' e v' (xs ++ [u]) → w.grownBy w' v.ownBlock → (v'.ownBlock = v.ownBlock ∨ ∃ k, v'.ownBlock = some k ∧ w.heap.size ≤ k) → wpList P ops Q rest (a.put o.dst v') w') : wpList P ops Q (o :: rest) a (w.alloc (.cells arr e)) := by
 subst harr
 subst hB
 obtain ⟨i, hi, hz, hsize, hby⟩ := info_parts hinfo
 have ho1 : OffOwn (w.alloc (.cells #[u] e)) e v xs := hown.keep fun g hg => Below.heap_alloc w _ _ (hown.lt hg)
 obtain ⟨v', w', hr, r1, r2, r3⟩ := run_append_off (P := P) (w.alloc (.cells #[u] e)) t o.type e i z bytes ht hi hz hsize hby hzs v xs ho1 ⟨w.heap.size, 0, none⟩ 1 u (by rw [World.cell?_alloc_at _ _ _ _ rfl]; rfl) h1 h63 hbytes
 refine wpList_plain hgd fun K hK' => ?_
 unfold Oper.wp
 simp [execOp, ho, resolve, invoke, builtin, hs, hx, hr, Result.andThen]
 refine hK' _ _ (h v' w' r1 ⟨r2.os, r2.tape, r2.output, Nat.le_trans (by simp) r2.size, fun k hk hne => ?_⟩ ?_)
 ·rw [r2.block k (by simp; omega) hne]
  exact Below.heap_alloc w _ _ hk
 ·rcases r3 with r3 | ⟨k, r3, hk⟩
  ·exact .inl r3
  ·exact .inr ⟨k, r3, by simp at hk; omega⟩
end
end Go.Proofs.YtloonnfelgokmaaGreatDoor.lib
namespace Go.Proofs.YtloonnfelgokmaaGreatDoor.worlds
open Go.RowKit lib maps classes errs descs names grow keep ins
structure FV where
 vL : Value
 vS : Value
 f : Fr
abbrev QM := List (Int × FV)
def fmOf (Q : QM) : FM := Q.map fun p => (p.1, p.2.f)
def fvV (x : FV) : Value := .agg #[x.vL, x.vS]
def fmVals (Q : QM) : List (Int × Value) := Q.map fun p => (p.1, fvV p.2)
theorem fm_get (Q : QM) (k : Int) : getK (fmOf Q) k = (getK Q k).map FV.f := getK_map FV.f Q k
theorem fm_set (Q : QM) (k : Int) (x : FV) : fmOf (setK Q k x) = setK (fmOf Q) k x.f := (setK_map FV.f Q k x).symm
theorem fv_get (Q : QM) (k : Int) : getK (fmVals Q) k = (getK Q k).map fvV := getK_map fvV Q k
theorem fv_set (Q : QM) (k : Int) (x : FV) : fmVals (setK Q k x) = setK (fmVals Q) k (fvV x) := (setK_map fvV Q k x).symm
structure FOut (w0 w : World) (x : FV) : Prop where
 oL : Out w0 w 9 1 x.vL x.f.L.length (x.f.L.map .string)
 oS : Out w0 w 9 1 x.vS x.f.S.length (x.f.S.map .string)
theorem FOut.later {w0 w w' : World} {x : FV} (h : FOut w0 w x) (hb : Below w.heap.size w w') : FOut w0 w' x := ⟨h.oL.later hb, h.oS.later hb⟩
theorem FOut.since {w0 w1 w : World} {x : FV} (hb : Below w0.heap.size w0 w1) (h : FOut w1 w x) : FOut w0 w x := ⟨Out.since hb h.oL, Out.since hb h.oS⟩
structure MR where
 nm : ByteArray
 ty : ByteArray
 st : Bool
 ab : Bool
 pr : Bool
 lo : Int
 ac : Option Addr
 nc : Nat
 cc : Nat
 ah : Option Addr
 nh : Nat
 ch : Nat
structure LK (w0 w : World) (K M b : Nat) (W : WL) (r : MR) (vT : Value) (Q : QM) (T : List Int) : Prop where
 row : w.heap[K]? = some (.cells #[.map (some b), .string r.nm, .string r.ty, .bool r.st, .bool r.ab, .bool r.pr, .int .i64 r.lo, .slice r.ac r.nc r.cc, .slice r.ah r.nh r.ch, .map (some M), vT] 161 (0, 0))
 wd : Wd w0 b W
 map : MapIs intKey w M (fmVals Q)
 frs : ∀ p ∈ Q, FOut w0 w p.2
 todo : OffOwn w 3 vT (T.map (.int .i64))
 tb : ∀ g, vT.ownBlock = some g → w0.heap.size ≤ g
 below : Below w0.heap.size w0 w
 le : w0.heap.size ≤ K ∧ w0.heap.size ≤ M
def Ot2 (K : Nat) (B : Option Nat) (w w' : World) : Prop := w.heap.size ≤ w'.heap.size ∧ ∀ X cs t, w.heap[X]? = some (.cells cs t (0, 0)) → B ≠ some X → X ≠ K → w'.heap[X]? = some (.cells cs t (0, 0))
theorem Ot2.refl (K : Nat) (B : Option Nat) (w : World) : Ot2 K B w w := ⟨Nat.le_refl _, fun _ _ _ h _ _ => h⟩
theorem Ot2.trans {K : Nat} {B : Option Nat} {w w1 w2 : World} (h : Ot2 K B w w1) (k : Ot2 K B w1 w2) : Ot2 K B w w2 := ⟨Nat.le_trans h.1 k.1, fun X cs t h1 h2 h3 => k.2 X cs t (h.2 X cs t h1 h2 h3) h2 h3⟩
theorem Ot2.next {K : Nat} {B B' : Option Nat} {w w1 w2 : World} (h : Ot2 K B w w1) (k : Ot2 K B' w1 w2) (hB : B' = B ∨ ∃ j, B' = some j ∧ w.heap.size ≤ j) : Ot2 K B w w2 := ⟨Nat.le_trans h.1 k.1, fun X cs t h1 h2 h3 => k.2 X cs t (h.2 X cs t h1 h2 h3) (fun e => by
 rcases hB with q | ⟨j, q, hj⟩
 ·exact h2 (by rw [← q]; exact e)
 ·rw [e] at q
  have := Option.some.inj q
  have := (zh h1).1
  omega) h3⟩
theorem Ot2.of_below {K : Nat} {B : Option Nat} {w w' : World} (h : Below w.heap.size w w') : Ot2 K B w w' := ⟨h.size, fun X cs t h1 _ _ => (h.block X (zh h1).1).trans h1⟩
theorem Ot2.setK {K : Nat} {B : Option Nat} (w : World) (j : Nat) (v : Value) : Ot2 K B w (w.setCell ⟨K, j, none⟩ v) := ⟨by simp [World.setCell], fun X cs t h1 _ h3 => (setCell_other h3).trans h1⟩
theorem Ot2.grownM {K M : Nat} {B : Option Nat} {w w' : World} {l : List (Int × Value)} (hm : MapIs intKey w M l) (hg : w.grownBy w' (some M)) : Ot2 K B w w' :=
 ⟨hg.size, fun X cs t h1 _ _ => (hg.block X (zh h1).1 fun e => by
  obtain ⟨es, c, hb, _⟩ := hm
  obtain rfl := Option.some.inj e
  rw [h1] at hb
  cases hb).trans h1⟩
theorem off_row {w : World} {e : TypeId} {v : Value} {xs : List Value} (h : OffOwn w e v xs) {g : Nat} (hg : v.ownBlock = some g) : ∃ cur, w.heap[g]? = some (.cells cur e (0, 0)) := by
 rcases h with ⟨rfl, _⟩ | ⟨g', off, cap, cur, rfl, h1, _⟩
 ·cases hg
 ·obtain rfl := Option.some.inj hg
  exact ⟨cur, h1⟩
theorem Ot2.grownT {K : Nat} {w w' : World} {v : Value} (hg : w.grownBy w' v.ownBlock) : Ot2 K v.ownBlock w w' :=
 ⟨hg.size, fun X cs t h1 h2 _ => (hg.block X (zh h1).1 fun e => h2 e.symm).trans h1⟩
section
variable {w0 w w' : World} {K M b : Nat} {W : WL} {r : MR} {vT v' : Value} {Q : QM} {T : List Int}
theorem LK.later (h : LK w0 w K M b W r vT Q T) (hb : Below w.heap.size w w') : LK w0 w' K M b W r vT Q T := by
 have hm : M < w.heap.size := by obtain ⟨es, c, h1, _⟩ := h.map; exact (zh h1).1
 exact ⟨(hb.block _ (zh h.row).1).trans h.row, h.wd, map_keep _ h.map (hb.block _ hm), fun p hp => (h.frs p hp).later hb, h.todo.keep fun g hg => hb.block g (h.todo.lt hg), h.tb, h.below.trans (hb.mono h.below.size), h.le⟩
theorem LK.cells (h : LK w0 w K M b W r vT Q T) : w.cell? ⟨K, 0, none⟩ = some (.map (some b)) ∧ w.cell? ⟨K, 7, none⟩ = some (.slice r.ac r.nc r.cc) ∧ w.cell? ⟨K, 8, none⟩ = some (.slice r.ah r.nh r.ch) ∧ w.cell? ⟨K, 9, none⟩ = some (.map (some M)) ∧ w.cell? ⟨K, 10, none⟩ = some vT := by
 refine ⟨?_, ?_, ?_, ?_, ?_⟩ <;> (rw [cell_of_row _ _ _ _ _ _ h.row]; rfl)
theorem LK.wd' (h : LK w0 w K M b W r vT Q T) : Wd w b W := h.wd.below h.below
theorem LK.neM (h : LK w0 w K M b W r vT Q T) : K ≠ M := fun e => by
 obtain ⟨es, c, h1, _⟩ := h.map
 have := h.row
 rw [e, h1] at this
 cases this
theorem map_set {α : Type} {Q : List (Int × α)} {k : Int} {v : α} {p : Int × α} (h : p ∈ setK Q k v) : p ∈ Q ∨ p = (k, v) := by
 induction Q with
 | nil => right; simpa [setK] using h
 | cons q r ih =>
  obtain ⟨j, u⟩ := q
  unfold setK at h
  split at h
  ·rcases List.mem_cons.1 h with rfl | h
   ·rename_i e; subst e; exact .inr rfl
   ·exact .inl (List.mem_cons_of_mem _ h)
  ·rcases List.mem_cons.1 h with rfl | h
   ·exact .inl (List.mem_cons_self ..)
   ·rcases ih h with h | h
    ·exact .inl (List.mem_cons_of_mem _ h)
    ·exact .inr h
theorem out_grownM {e : TypeId} {v : Value} {n : Nat} {xs : List Value} {l : List (Int × Value)} (h : Out w0 w e 1 v n xs) (hm : MapIs intKey w M l) (hle : w0.heap.size ≤ M) (hg : w.grownBy w' (some M)) : Out w0 w' e 1 v n xs := by
 refine ⟨h.own.kept hg ?_, h.below.grown hg h.below.size (fun k hk => by obtain rfl := Option.some.inj hk; exact hle)⟩
 cases hv : v.ownBlock with
 | none => exact .inl rfl
 | some k =>
  refine .inr fun e2 => ?_
  obtain rfl := Option.some.inj e2
  obtain ⟨cur, hc⟩ := own_row h hv
  obtain ⟨es, c, h1, _⟩ := hm
  rw [h1] at hc
  cases hc
theorem LK.upd (h : LK w0 w K M b W r vT Q T) {k : Int} {x : FV} (hx : FOut w0 w x) (hm : MapIs intKey w' M (setK (fmVals Q) k (fvV x))) (hg : w.grownBy w' (some M)) : LK w0 w' K M b W r vT (setK Q k x) T := by
 refine ⟨(hg.block K (zh h.row).1 fun e => h.neM (Option.some.inj e)).trans h.row, h.wd, by rw [fv_set]; exact hm, fun p hp => ?_, h.todo.keep fun g hq => hg.block g (h.todo.lt hq) fun e => ?_, h.tb, h.below.grown hg h.below.size (fun k hk => by obtain rfl := Option.some.inj hk; exact h.le.2), h.le⟩
 ·rcases map_set hp with hp | rfl
  ·exact ⟨out_grownM (h.frs p hp).oL h.map h.le.2 hg, out_grownM (h.frs p hp).oS h.map h.le.2 hg⟩
  ·exact ⟨out_grownM hx.oL h.map h.le.2 hg, out_grownM hx.oS h.map h.le.2 hg⟩
 ·obtain rfl := Option.some.inj e
  obtain ⟨cur, hc⟩ := off_row h.todo hq
  obtain ⟨es, c, h1, _⟩ := h.map
  rw [h1] at hc
  cases hc
theorem out_grownT {e : TypeId} {v vq : Value} {n : Nat} {xs ys : List Value} (h : Out w0 w e 1 v n xs) (hq : OffOwn w 3 vq ys) (he : e ≠ 3) (hle : ∀ g, vq.ownBlock = some g → w0.heap.size ≤ g) (hg : w.grownBy w' vq.ownBlock) : Out w0 w' e 1 v n xs := by
 refine ⟨h.own.kept hg ?_, h.below.grown hg h.below.size hle⟩
 cases hv : v.ownBlock with
 | none => exact .inl rfl
 | some k =>
  refine .inr fun e2 => ?_
  obtain ⟨cur, hc⟩ := own_row h hv
  obtain ⟨cur2, hc2⟩ := off_row hq e2.symm
  rw [hc2] at hc
  injection hc with hc
  injection hc with _ hc _
  exact he hc.symm
theorem LK.push (h : LK w0 w K M b W r vT Q T) {T' : List Int} (ho : OffOwn w' 3 v' (T'.map (.int .i64))) (hg : w.grownBy w' vT.ownBlock) (hat : v'.ownBlock = vT.ownBlock ∨ ∃ k, v'.ownBlock = some k ∧ w.heap.size ≤ k) :
  LK w0 (w'.setCell ⟨K, 10, none⟩ v') K M b W r v' Q T' ∧ w'.cell? ⟨K, 10, none⟩ = some vT ∧ w'.frozen? ⟨K, 10, none⟩ = false := by
 have hKT : ∀ g, vT.ownBlock = some g → g ≠ K := fun g hq e => by
  obtain ⟨cur, hc⟩ := off_row h.todo hq
  rw [e, h.row] at hc
  injection hc with hc
  injection hc with _ hc _
  exact absurd hc (by decide)
 have hKT' : ∀ g, v'.ownBlock = some g → g ≠ K := fun g hq e => by
  rcases hat with q | ⟨k, q, hk⟩
  ·exact hKT g (by rw [← q]; exact hq) e
  ·rw [hq] at q
   have := Option.some.inj q
   have := (zh h.row).1
   omega
 have hr : w'.heap[K]? = _ := (hg.block K (zh h.row).1 fun e => hKT K e.symm rfl).trans h.row
 have hm : w'.heap[M]? = w.heap[M]? := by
  obtain ⟨es, c, h1, _⟩ := h.map
  refine hg.block M (zh h1).1 fun e => ?_
  obtain ⟨cur, hc⟩ := off_row h.todo e.symm
  rw [h1] at hc
  cases hc
 have hbl : Below w0.heap.size w0 w' := h.below.grown hg h.below.size h.tb
 refine ⟨⟨setCell_row hr, h.wd, map_keep _ (map_keep _ h.map hm) (setCell_other h.neM.symm), fun p hp => ⟨out_put_other (out_grownT (h.frs p hp).oL h.todo (by decide) h.tb hg) hr (by decide) h.le.1, out_put_other (out_grownT (h.frs p hp).oS h.todo (by decide) h.tb hg) hr (by decide) h.le.1⟩, ho.keep fun g hq => setCell_other (hKT' g hq), fun g hq => ?_, hbl.setCell h.le.1 _, h.le⟩, by rw [cell_of_row _ _ _ _ _ _ hr]; rfl, frozen_of_row _ _ _ _ _ hr⟩
 rcases hat with q | ⟨k, q, hk⟩
 ·exact h.tb g (by rw [← q]; exact hq)
 ·rw [hq] at q
  have := Option.some.inj q
  have := h.below.size
  omega
theorem grown_setRowB (w : World) (g : Nat) (cs : Array Value) : w.grownBy (w.setRow g cs) (some g) :=
 ⟨rfl, rfl, rfl, by rw [size_setRow]; exact Nat.le_refl _, fun k _ hk => heap_setRow_other w g k cs fun e => hk (by rw [e])⟩
theorem out_setRowB {e eg : TypeId} {v : Value} {n size g : Nat} {xs : List Value} {cur new : Array Value} (h : Out w0 w e size v n xs) (hg : w.heap[g]? = some (.cells cur eg (0, 0))) (hle : w0.heap.size ≤ g) (hne : e ≠ eg) : Out w0 (w.setRow g new) e size v n xs := by
 refine ⟨h.own.kept (grown_setRowB w g new) ?_, below_setRow h.below hle new⟩
 cases hv : v.ownBlock with
 | none => exact .inl rfl
 | some k =>
  refine .inr fun e2 => ?_
  obtain rfl := Option.some.inj e2
  obtain ⟨cur2, hc⟩ := own_row h hv
  rw [hg] at hc
  injection hc with hc
  injection hc with _ hc _
  exact hne hc.symm
theorem FOut.setRow {x : FV} {g : Nat} {cur new : Array Value} (h : FOut w0 w x) (hg : w.heap[g]? = some (.cells cur 163 (0, 0))) (hle : w0.heap.size ≤ g) : FOut w0 (w.setRow g new) x := ⟨out_setRowB h.oL hg hle (by decide), out_setRowB h.oS hg hle (by decide)⟩
theorem FOut.other {x : FV} {g j : Nat} {cur : Array Value} {v : Value} (h : FOut w0 w x) (hg : w.heap[g]? = some (.cells cur 163 (0, 0))) (hle : w0.heap.size ≤ g) : FOut w0 (w.setCell ⟨g, j, none⟩ v) x := ⟨out_put_other h.oL hg (by decide) hle, out_put_other h.oS hg (by decide) hle⟩
theorem LK.other (h : LK w0 w K M b W r vT Q T) {X j : Nat} {cur : Array Value} {v : Value} (hX : w.heap[X]? = some (.cells cur 163 (0, 0))) (hle : w0.heap.size ≤ X) : LK w0 (w.setCell ⟨X, j, none⟩ v) K M b W r vT Q T := by
 have hK : K ≠ X := fun e => by
  have := h.row
  rw [e, hX] at this
  injection this with this
  injection this with _ this _
  exact absurd this (by decide)
 have hM : M ≠ X := fun e => by
  obtain ⟨es, c, h1, _⟩ := h.map
  rw [e, hX] at h1
  cases h1
 refine ⟨(setCell_other hK).trans h.row, h.wd, map_keep _ h.map (setCell_other hM), fun p hp => (h.frs p hp).other hX hle, h.todo.keep fun g hg => setCell_other fun e => ?_, h.tb, h.below.setCell hle _, h.le⟩
 obtain ⟨cur2, hc⟩ := off_row h.todo hg
 rw [e, hX] at hc
 injection hc with hc
 injection hc with _ hc _
 exact absurd hc (by decide)
theorem Ot2.box {X j : Nat} {v : Value} {B : Option Nat} (ws : World) (h : Ot2 K B ws w) (hX : ws.heap.size ≤ X) : Ot2 K B ws (w.setCell ⟨X, j, none⟩ v) :=
 ⟨by simpa [World.setCell] using h.1, fun Y cs t h1 h2 h3 => (setCell_other (by have := (zh h1).1; omega)).trans (h.2 Y cs t h1 h2 h3)⟩
end
def MeetBy (w0 w : World) (K M b : Nat) (W : WL) (r : MR) (vT : Value) (o : Option (FM × List Int)) (e : Ending) (w' : World) : Prop := Ot2 K vT.ownBlock w w' ∧ Below w0.heap.size w0 w' ∧ match o with
 | none => e = .returned (.bool false)
 | some p => e = .returned (.bool true) ∧ ∃ v' Q, LK w0 w' K M b W r v' Q p.2 ∧ fmOf Q = p.1 ∧ (v'.ownBlock = vT.ownBlock ∨ ∃ j, v'.ownBlock = some j ∧ w.heap.size ≤ j)
theorem meet_no {w0 w w' : World} {K M b : Nat} {W : WL} {r : MR} {vT : Value} {o : Option (FM × List Int)} (ho : o = none) (h1 : Ot2 K vT.ownBlock w w') (h2 : Below w0.heap.size w0 w') : MeetBy w0 w K M b W r vT o (.returned (.bool false)) w' := by subst ho; exact ⟨h1, h2, rfl⟩
theorem meet_yes {w0 w w' : World} {K M b : Nat} {W : WL} {r : MR} {o : Option (FM × List Int)} {vT v' : Value} {Q : QM} {T : List Int} (ho : o = some (fmOf Q, T)) (h1 : Ot2 K vT.ownBlock w w') (h2 : LK w0 w' K M b W r v' Q T) (h3 : v'.ownBlock = vT.ownBlock ∨ ∃ j, v'.ownBlock = some j ∧ w.heap.size ≤ j) : MeetBy w0 w K M b W r vT o (.returned (.bool true)) w' := by subst ho; exact ⟨h1, h2.below, rfl, v', Q, h2, rfl, h3⟩
theorem infoInt8 : (Tryz.prog.info? 3).map (fun i => (i.zero, i.size, i.bytes)) = some (some (.int .i64 0), 1, 8) := by kernel_rfl
theorem zero_frame (w : World) : (zeroValue 163).run Tryz.prog w = .ok (.agg #[.slice none 0 0, .slice none 0 0]) w := by
 go_simp
theorem frames_look {w0 w : World} {K M b : Nat} {W : WL} {r : MR} {vT : Value} {Q : QM} {T : List Int} (h : LK w0 w K M b W r vT Q T) (k : Int) :
  (Instr.lookup 108 (.map (some M)) (.int .i64 k) true).run Tryz.prog w = .ok (.tuple #[((getK Q k).map fvV).getD (.agg #[.slice none 0 0, .slice none 0 0]), .bool (getK Q k).isSome]) w ∧
  (Instr.lookup 108 (.map (some M)) (.int .i64 k) false).run Tryz.prog w = .ok (((getK Q k).map fvV).getD (.agg #[.slice none 0 0, .slice none 0 0])) w := by
 have h1 := run_look_ok (P := Tryz.prog) (E := intKey) Tryz.underlying108 Tryz.underlying3 h.map k (zero_frame w)
 have h2 := run_look (P := Tryz.prog) (E := intKey) Tryz.underlying108 Tryz.underlying3 h.map k (zero_frame w)
 rw [show intKey.kv k = .int .i64 k from rfl] at h1 h2
 rw [fv_get] at h1 h2
 exact ⟨by rw [h1, Option.isSome_map], h2⟩
theorem meet_any {w0 w : World} {K M b : Nat} {W : WL} {r : MR} {vT : Value} {Q : QM} {T : List Int} (at_ : Int) (x : FV) (h : LK w0 w K M b W r vT Q T) (hC : Closed W) (hR : ∀ k f, getK (fmOf Q) k = some f → RightF W f ∧ f.L.length ≤ 1000000)
  (hf : RightF W x.f) (hn : x.f.L.length ≤ 1000000) (hx : FOut w0 w x) (hT : T.length ≤ 1000000000000) :
  Calls Tryz.prog 92 #[.pointer (some ⟨K, 0, none⟩), .int .i64 at_, .agg #[x.vL, x.vS]] w (MeetBy w0 w K M b W r vT (meetF W (fmOf Q, T) at_ x.f)) := by
 obtain ⟨aT, cT, hvT, _, _⟩ := h.todo.cells
 rw [List.length_map] at hvT
 subst hvT
 obtain ⟨Z, hZ⟩ : ∃ Z, meetF W (fmOf Q, T) at_ x.f = Z := ⟨_, rfl⟩
 rw [hZ]
 obtain ⟨vx, vy, f⟩ := x
 simp only at hZ hf hn ⊢
 obtain ⟨ax, cx, hvx⟩ := hx.oL.sl.val
 obtain ⟨ay, cy, hvy⟩ := hx.oS.sl.val
 simp only at hvx hvy
 subst hvx
 subst hvy
 obtain ⟨nx, hnx⟩ : ∃ n, f.L.length = n := ⟨_, rfl⟩
 obtain ⟨ny, hny⟩ : ∃ n, f.S.length = n := ⟨_, rfl⟩
 have HNX := hid hnx; have HNY := hid hny
 rw [hnx, hny] at hx
 rw [hnx, hny]
 clear hnx hny
 obtain ⟨b5, hb5⟩ : ∃ b5, w.heap.size = b5 := ⟨_, rfl⟩
 obtain ⟨A1, hA1⟩ : ∃ A1, w.alloc (.cells #[.slice ax nx cx, .slice ay ny cy] 163) = A1 := ⟨_, rfl⟩
 have B1 : Below w.heap.size w A1 := hA1 ▸ ext_alloc _ _
 have r5 : A1.heap[b5]? = some (.cells #[.slice ax nx cx, .slice ay ny cy] 163 (0, 0)) := by rw [← hA1, ← hb5]; exact heap_alloc_new _ _
 have HL1 := hid (h.later B1)
 have HX1 := hid (hx.later B1)
 have HO1 : Hid (Ot2 K (Value.slice aT T.length cT).ownBlock w A1) := hid (Ot2.of_below B1)
 have HR5 := hid r5
 have HK5 : Hid (b5 ≠ K) := hid (by have := (zh h.row).1; omega)
 have HLE5 : Hid (w0.heap.size ≤ b5) := hid (by rw [← hb5]; exact h.below.size)
 have HZ := hid hZ; have HC := hid hC; have HR := hid hR; have HRF := hid hf
 obtain ⟨k0, k7, k8, k9, k10⟩ := HL1.out.cells
 have hlk := (frames_look HL1.out at_).1
 obtain ⟨b7, hb7⟩ : ∃ b7, A1.heap.size = b7 := ⟨_, rfl⟩
 clear h B1 r5 hZ hC hR hf hx
 cases hg : getK Q at_ with
 | none =>
  have HZY : Hid (Z = some (setK (fmOf Q) at_ f, T ++ [at_])) := hid (by rw [← HZ.out]; unfold meetF; simp only [fm_get, hg]; rfl)
  rw [hg] at hlk
  simp only [Option.map_none, Option.getD_none, Option.isSome_none] at hlk
  obtain ⟨A2, hA2⟩ : ∃ A2, A1.alloc (.cells #[.slice none 0 0, .slice none 0 0] 163) = A2 := ⟨_, rfl⟩
  have HB2 : Hid (Below A1.heap.size A1 A2) := hid (hA2 ▸ ext_alloc _ _)
  have HL2 := hid (HL1.out.later HB2.out)
  have HF2 : Hid (FOut w0 A2 ⟨.slice ax nx cx, .slice ay ny cy, f⟩) := hid (HX1.out.later HB2.out)
  have HO2 := hid (HO1.out.trans (Ot2.of_below HB2.out))
  have HR52 := hid ((HB2.out.block _ (zh HR5.out).1).trans HR5.out)
  have HA2 := hid hA2
  clear hg hA2
  go_enter Tryz.func92, Tryz.ntmps92
  go_wp2_with fail
  try rw [HA2.out]
  clear hlk hA1 k0 k7 k8 k9 k10
  have HX : Hid (∀ u, Below (A2).heap.size A2 u → u.cell? ⟨K, 9, none⟩ = some (.map (some M)) ∧ u.heap[b5]? = some (.cells #[.slice ax nx cx, .slice ay ny cy] 163 (0, 0))) := hid (fun u hu => ⟨(HL2.out.later hu).cells.2.2.2.1, (hu.block _ (zh HR52.out).1).trans HR52.out⟩)
  go_wp2_with fail
  refine wp_region_ext_tail 6 [] trivial (by kernel_rfl) (by kernel_rfl) ?_
  refine zgc 1 ?_
  go_frame
  refine zgc 2 ?_
  go_frame
  refine zgc 3 ?_
  go_frame
  refine wpG_read 4 rfl rfl (.map (some M)) rfl ?_ ?_
  ·intro u hu hh
   have q := (HX.out u hu).1
   go_simp
  go_frame
  refine zgc 5 ?_
  go_frame
  refine wpG_read 6 rfl rfl (.agg #[.slice ax nx cx, .slice ay ny cy]) rfl ?_ ?_
  ·intro u hu hh
   have hR := (HX.out u hu).2
   exact (by have hl := run_loadVar_row (P := Tryz.prog) u b5 163 163 #[.slice ax nx cx, .slice ay ny cy] (0, 0) _ hR Tryz.underlying163 rfl (by kernel_rfl); (try simp only [List.getElem_toArray, List.getElem_cons_zero, List.getElem_cons_succ]); unfold execOp; simp only [Act.eval, Instr.loadAt, Instr.sureAddr, Sem.run_bind, Sem.run_pure]; change ((Sem.run Tryz.prog (loadVar 163 ⟨b5, 0, none⟩) u).andThen fun a w' => Result.ok (Next.value a) w') = _; rw [hl]; rfl)
  go_frame
  refine wpG_nil fun w' hb' hF => ?_
  have HLu := hid (HL2.out.later hb')
  have HFu := hid (HF2.out.later hb')
  have HOu := hid (HO2.out.trans (Ot2.of_below hb'))
  clear hb' hF HX
  simp only [List.drop_succ_cons, List.drop_zero, List.getElem_toArray, List.getElem_cons_zero, List.getElem_cons_succ]
  refine wpList_update (E := intKey) (t := 108) Tryz.underlying108 Tryz.underlying3 _ rfl _ _ _ rfl HLu.out.map at_ (.agg #[.slice ax nx cx, .slice ay ny cy]) rfl rfl rfl ?_
  intro w8 hm8 hg8
  have HL8 := hid (HLu.out.upd (x := ⟨.slice ax nx cx, .slice ay ny cy, f⟩) HFu.out hm8 hg8)
  have HO8 := hid (HOu.out.trans (Ot2.grownM HLu.out.map hg8))
  obtain ⟨c0, c7, c8, c9, c10⟩ := HL8.out.cells
  have HTD : Hid (OffOwn w8 3 (.slice aT T.length cT) (T.map (.int .i64))) := HL8.out.todo |> hid
  clear hm8 hg8 HLu HFu HOu
  go_wp2_with (at_builtin; refine wpList_append_off _ _ rfl _ _ 88 rfl 3 (.int .i64 0) 8 _ Tryz.underlying88 infoInt8 rfl _ _ _ HTD.out rfl rfl rfl rfl rfl (by rw [List.length_map]; unfold maxLen; omega) (by rw [List.length_map]; omega) ?_)
  intro v9 w9 ho9 hg9 hat9
  have hPU := HL8.out.push (w' := w9) (v' := v9) (T' := T ++ [at_]) (by rw [List.map_append]; exact ho9) hg9 hat9
  have HO9 := hid (HO8.out.trans ((Ot2.grownT (v := .slice aT T.length cT) hg9).trans (Ot2.setK (K := K) w9 10 v9)))
  obtain ⟨a9, c9', hv9⟩ := ho9.cells
  obtain ⟨hv9, _⟩ := hv9
  rw [show (T.map (Value.int .i64) ++ [Value.int .i64 at_]).length = T.length + 1 by rw [List.length_append, List.length_map]; rfl] at hv9
  subst hv9
  obtain ⟨hL9, y9, f9⟩ := hPU
  have HL9 := hid hL9
  have HAT9 : Hid ((Value.slice a9 (T.length + 1) c9').ownBlock = (Value.slice aT T.length cT).ownBlock ∨ ∃ j, (Value.slice a9 (T.length + 1) c9').ownBlock = some j ∧ w.heap.size ≤ j) := hid (by
   rcases hat9 with q | ⟨j, q, hj⟩
   ·exact .inl q
   ·exact .inr ⟨j, q, Nat.le_trans HO8.out.1 hj⟩)
  clear hL9 ho9 hg9 hat9 HL8 HTD c7 c8 c9 c0 c10
  go_wp2_with fail
  go_ret
  exact meet_yes (by rw [fm_set]; exact HZY.out) HO9.out HL9.out HAT9.out
 | some q =>
  obtain ⟨uL, uS, g⟩ := q
  obtain ⟨hgR, hgn⟩ := HR.out at_ g (by rw [fm_get, hg]; rfl)
  have hmem := getK_mem hg
  have HGO := hid (HL1.out.frs _ hmem)
  simp only at HGO
  obtain ⟨aL, cL, hvL⟩ := HGO.out.oL.sl.val
  obtain ⟨aS, cS, hvS⟩ := HGO.out.oS.sl.val
  simp only at hvL hvS
  subst hvL
  subst hvS
  have HZM : Hid (Z = match bothF W g f with
   | none => none
   | some k => if k = g then some (fmOf Q, T) else some (setK (fmOf Q) at_ k, T ++ [at_])) := hid (by rw [← HZ.out]; unfold meetF; simp only [fm_get, hg, Option.map_some]; rfl)
  have HGR := hid hgR
  have HGN := hid hgn
  obtain ⟨nL, hnL⟩ : ∃ n, g.L.length = n := ⟨_, rfl⟩
  obtain ⟨nS, hnS⟩ : ∃ n, g.S.length = n := ⟨_, rfl⟩
  rw [hg] at hlk
  simp only [Option.map_some, Option.getD_some, Option.isSome_some, fvV] at hlk
  have HNL := hid hnL; have HNS := hid hnS
  rw [hnL, hnS] at hlk HGO
  clear hmem hg hgR hgn hnL hnS
  obtain ⟨A2, hA2⟩ : ∃ A2, A1.alloc (.cells #[.slice aL nL cL, .slice aS nS cS] 163) = A2 := ⟨_, rfl⟩
  have HB2 : Hid (Below A1.heap.size A1 A2) := hid (hA2 ▸ ext_alloc _ _)
  have HR7 : Hid (A2.heap[b7]? = some (.cells #[.slice aL nL cL, .slice aS nS cS] 163 (0, 0))) := hid (by rw [← hA2, ← hb7]; exact heap_alloc_new _ _)
  have HL2 := hid (HL1.out.later HB2.out)
  have HF2 : Hid (FOut w0 A2 ⟨.slice ax nx cx, .slice ay ny cy, f⟩) := hid (HX1.out.later HB2.out)
  have HG2 : Hid (FOut w0 A2 ⟨.slice aL nL cL, .slice aS nS cS, g⟩) := hid (HGO.out.later HB2.out)
  have HO2 := hid (HO1.out.trans (Ot2.of_below HB2.out))
  have HR52 := hid ((HB2.out.block _ (zh HR5.out).1).trans HR5.out)
  have HX : Hid (∀ u, Below A2.heap.size A2 u → u.cell? ⟨K, 0, none⟩ = some (.map (some b)) ∧ u.heap[b7]? = some (.cells #[.slice aL nL cL, .slice aS nS cS] 163 (0, 0)) ∧ u.heap[b5]? = some (.cells #[.slice ax nx cx, .slice ay ny cy] 163 (0, 0)) ∧ Calls Tryz.prog 154 #[.map (some b), .agg #[.slice aL nL cL, .slice aS nS cS], .agg #[.slice ax nx cx, .slice ay ny cy]] u (AfterBy u (bothF W g f))) := hid (fun u hu =>
   ⟨(HL2.out.later hu).cells.1, (hu.block _ (zh HR7.out).1).trans HR7.out, (hu.block _ (zh HR52.out).1).trans HR52.out,
    both_any W b g f _ _ _ _ u (HL2.out.later hu).wd' HC.out HGR.out HRF.out (by have := (HG2.out.oL.later hu).sl; simp only [HNL.out] at this ⊢; exact this) (by have := (HF2.out.oL.later hu).sl; simp only [HNX.out] at this ⊢; exact this) (by have := (HG2.out.oS.later hu).sl; simp only [HNS.out] at this ⊢; exact this) (by have := (HF2.out.oS.later hu).sl; simp only [HNY.out] at this ⊢; exact this) HGN.out hn⟩)
  have HBW2 : Hid (Below w0.heap.size w0 A2) := hid HL2.out.below
  have HB7 : Hid (w.heap.size ≤ b5 ∧ b5 < A1.heap.size) := hid ⟨by omega, (zh HR5.out).1⟩
  cases hbo : bothF W g f with
  | none =>
   rw [hbo] at HX
   have HZN : Hid (Z = none) := hid (by rw [HZM.out, hbo])
   clear hbo
   go_enter Tryz.func92, Tryz.ntmps92
   go_wp2_with fail
   clear hlk hA1 hA2 k0 k7 k8 k9 k10
   obtain ⟨WD, hwd⟩ : ∃ WD, World.drew A2 = WD := ⟨_, rfl⟩
   have HWD : Hid (Below (A2).heap.size A2 WD) := hid (hwd ▸ (Below.refl _ _).drew)
   go_wp2_with fail
   refine wp_region_s (fun u => Below WD.heap.size WD u) 6 (by kernel_rfl) ?_
   show grow.wpAnyS _ _ _ _ _ _ _ _ _ (World.drew _)
   rw [hwd]
   refine zsd 0 _ _ rfl (fun _ => Below.refl _ _) ?_
   simp only [zg1, zg2, zg3, Act.put, zg4, zg5, zg6]
   refine zsd 1 _ _ rfl (fun _ => Below.refl _ _) ?_
   simp only [zg1, zg2, zg3, Act.put, zg4, zg5, zg6]
   refine zsd 2 _ _ rfl (fun _ => Below.refl _ _) ?_
   simp only [zg1, zg2, zg3, Act.put, zg4, zg5, zg6]
   refine zst 3 _ _ rfl (fun _ => Below.refl _ _) (fun u hu => by have q := (HX.out u (HWD.out.trans (hu.mono HWD.out.size))).1; go_simp; rfl) ?_
   simp only [zg1, zg2, zg3, Act.put, zg4, zg5, zg6]
   refine zst 4 _ (.agg #[.slice aL nL cL, .slice aS nS cS]) rfl (fun _ => Below.refl _ _) (fun u hu => by have hR := (HX.out u (HWD.out.trans (hu.mono HWD.out.size))).2.1; exact (by have hl := run_loadVar_row (P := Tryz.prog) u b7 163 163 #[.slice aL nL cL, .slice aS nS cS] (0, 0) _ hR Tryz.underlying163 rfl (by kernel_rfl); (try simp only [List.getElem_toArray, List.getElem_cons_zero, List.getElem_cons_succ]); unfold execOp; simp only [Act.eval, Instr.loadAt, Instr.sureAddr, Sem.run_bind, Sem.run_pure]; change ((Sem.run Tryz.prog (loadVar 163 ⟨b7, 0, none⟩) u).andThen fun a w' => Result.ok (Next.value a) w') = _; rw [hl]; rfl)) ?_
   simp only [zg1, zg2, zg3, Act.put, zg4, zg5, zg6]
   refine zst 5 _ (.agg #[.slice ax nx cx, .slice ay ny cy]) rfl (fun _ => Below.refl _ _) (fun u hu => by have hR := (HX.out u (HWD.out.trans (hu.mono HWD.out.size))).2.2.1; exact (by have hl := run_loadVar_row (P := Tryz.prog) u b5 163 163 #[.slice ax nx cx, .slice ay ny cy] (0, 0) _ hR Tryz.underlying163 rfl (by kernel_rfl); (try simp only [List.getElem_toArray, List.getElem_cons_zero, List.getElem_cons_succ]); unfold execOp; simp only [Act.eval, Instr.loadAt, Instr.sureAddr, Sem.run_bind, Sem.run_pure]; change ((Sem.run Tryz.prog (loadVar 163 ⟨b5, 0, none⟩) u).andThen fun a w' => Result.ok (Next.value a) w') = _; rw [hl]; rfl)) ?_
   simp only [zg1, zg2, zg3, Act.put, zg4, zg5, zg6]
   refine s_two 6 10 _ _ rfl rfl (by kernel_rfl) ?_ ?_
   ·go_simp
    refine (HX.out WD (HWD.out.trans ((Below.refl _ _).mono HWD.out.size))).2.2.2.mono ?_
    rintro e wz ⟨hbz, rfl⟩
    have HBZ : Hid (Below WD.heap.size WD wz) := hid hbz
    refine ⟨(fun h => absurd h (by decide)), ?_⟩
    try simp only [zg1, zg2, zg3, Act.put, zg4, zg5, zg6]
    clear hbz
    refine zsd 7 _ _ rfl (fun h => absurd h (by decide)) ?_
    simp only [zg1, zg2, zg3, Act.put, zg4, zg5, zg6]
    refine zsd 8 _ _ rfl (fun h => absurd h (by decide)) ?_
    simp only [zg1, zg2, zg3, Act.put, zg4, zg5, zg6]
    refine zsd 9 _ _ rfl (fun h => absurd h (by decide)) ?_
    simp only [zg1, zg2, zg3, Act.put, zg4, zg5, zg6]
    refine s_only 10 _ rfl (by kernel_rfl) ?_
    obtain ⟨wy, hnx⟩ : ∃ wn, wz.alloc (.cells #[.slice none 0 0, .slice none 0 0] 163) = wn := ⟨_, rfl⟩
    obtain ⟨bz, hbz0⟩ : ∃ bz, wz.heap.size = bz := ⟨_, rfl⟩
    have HRZ : Hid (wy.heap[bz]? = some (.cells #[.slice none 0 0, .slice none 0 0] 163 (0, 0))) := hid (hnx ▸ hbz0 ▸ heap_alloc_new _ _)
    have HBA : Hid (Below WD.heap.size WD wy) := hid (hnx ▸ (HBZ.out).alloc (HBZ.out).size _)
    have HLE : Hid (WD.heap.size ≤ bz) := hid (hbz0 ▸ (HBZ.out).size)
    go_simp
    try rw [hnx, hbz0]
    refine ⟨(fun h => absurd h (by decide)), ?_⟩
    try simp only [zg1, zg2, zg3, Act.put, zg4, zg5, zg6]
    have HRY := HRZ
    have HBY := HBA
    refine s_only 11 _ rfl (by kernel_rfl) ?_
    try rw [if_pos (by rfl)]
    refine wp_store_row 163 (.tmp 9) (.tmp 29) rfl bz #[.slice none 0 0, .slice none 0 0] rfl rfl 163 _ HRY.out (by kernel_rfl) rfl (by simp [Value.oneCell']) ?_
    obtain ⟨WE, hWE⟩ : ∃ WE, wy.setRow bz #[.slice none 0 0, .slice none 0 0] = WE := ⟨_, rfl⟩
    have HRE : Hid (WE.heap[bz]? = some (.cells #[.slice none 0 0, .slice none 0 0] 163 (0, 0))) := hid (hWE ▸ setRow_heap _ _ _ _ _ _ HRY.out)
    have HBE : Hid (Below WD.heap.size WD WE) := hid (hWE ▸ below_setRow HBY.out HLE.out _)
    try rw [hWE]
    refine ⟨(fun h => absurd h (by decide)), ?_⟩
    try simp only [zg1, zg2, zg3, Act.put, zg4, zg5, zg6]
    refine zsd 12 _ _ rfl (fun h => absurd h (by decide)) ?_
    simp only [zg1, zg2, zg3, Act.put, zg4, zg5, zg6]
    refine s_end (by kernel_rfl) ?_
    clear hnx hbz0 hWE HRZ HBA HRY HBY HBZ hwd
    have HL3 := hid (HL2.out.later (HWD.out.trans (HBE.out.mono HWD.out.size)))
    have HO3 := hid (HO2.out.trans (Ot2.of_below (HWD.out.trans (HBE.out.mono HWD.out.size))))
    clear HX
    go_wp2_with fail
    go_ret
    exact meet_no HZN.out HO3.out HL3.out.below
   ·obtain ⟨wx, hnx⟩ : ∃ wn, WD.alloc (.cells #[.slice none 0 0, .slice none 0 0] 163) = wn := ⟨_, rfl⟩
    obtain ⟨bz, hbz0⟩ : ∃ bz, WD.heap.size = bz := ⟨_, rfl⟩
    have HRZ : Hid (wx.heap[bz]? = some (.cells #[.slice none 0 0, .slice none 0 0] 163 (0, 0))) := hid (hnx ▸ hbz0 ▸ heap_alloc_new _ _)
    have HBA : Hid (Below WD.heap.size WD wx) := hid (hnx ▸ ((Below.refl WD.heap.size WD)).alloc ((Below.refl WD.heap.size WD)).size _)
    have HLE : Hid (WD.heap.size ≤ bz) := hid (hbz0 ▸ ((Below.refl WD.heap.size WD)).size)
    go_simp
    try rw [hnx, hbz0]
    refine ⟨fun _ => (by first | exact HBA.out | (show Below _ WD wx; rw [← hbz0]; exact HBA.out)), ?_⟩
    try simp only [zg1, zg2, zg3, Act.put, zg4, zg5, zg6]
    refine s_only 6 _ rfl (by kernel_rfl) ?_
    go_simp
    refine (HX.out wx (HWD.out.trans (HBA.out.mono HWD.out.size))).2.2.2.mono ?_
    rintro e wz ⟨hbz, rfl⟩
    have HRY := hid ((hbz.block bz (zh HRZ.out).1).trans HRZ.out)
    have HBY := hid (HBA.out.trans (hbz.mono HBA.out.size))
    refine ⟨(fun h => absurd h (by decide)), ?_⟩
    try simp only [zg1, zg2, zg3, Act.put, zg4, zg5, zg6]
    clear hbz
    refine zsd 7 _ _ rfl (fun h => absurd h (by decide)) ?_
    simp only [zg1, zg2, zg3, Act.put, zg4, zg5, zg6]
    refine zsd 8 _ _ rfl (fun h => absurd h (by decide)) ?_
    simp only [zg1, zg2, zg3, Act.put, zg4, zg5, zg6]
    refine zsd 9 _ _ rfl (fun h => absurd h (by decide)) ?_
    simp only [zg1, zg2, zg3, Act.put, zg4, zg5, zg6]
    refine s_only 11 _ rfl (by kernel_rfl) ?_
    try rw [if_pos (by rfl)]
    refine wp_store_row 163 (.tmp 9) (.tmp 29) rfl bz #[.slice none 0 0, .slice none 0 0] rfl rfl 163 _ HRY.out (by kernel_rfl) rfl (by simp [Value.oneCell']) ?_
    obtain ⟨WE, hWE⟩ : ∃ WE, wz.setRow bz #[.slice none 0 0, .slice none 0 0] = WE := ⟨_, rfl⟩
    have HRE : Hid (WE.heap[bz]? = some (.cells #[.slice none 0 0, .slice none 0 0] 163 (0, 0))) := hid (hWE ▸ setRow_heap _ _ _ _ _ _ HRY.out)
    have HBE : Hid (Below WD.heap.size WD WE) := hid (hWE ▸ below_setRow HBY.out HLE.out _)
    try rw [hWE]
    refine ⟨(fun h => absurd h (by decide)), ?_⟩
    try simp only [zg1, zg2, zg3, Act.put, zg4, zg5, zg6]
    refine zsd 12 _ _ rfl (fun h => absurd h (by decide)) ?_
    simp only [zg1, zg2, zg3, Act.put, zg4, zg5, zg6]
    refine s_end (by kernel_rfl) ?_
    clear hnx hbz0 hWE HRZ HBA HRY HBY hwd
    have HL3 := hid (HL2.out.later (HWD.out.trans (HBE.out.mono HWD.out.size)))
    have HO3 := hid (HO2.out.trans (Ot2.of_below (HWD.out.trans (HBE.out.mono HWD.out.size))))
    clear HX
    go_wp2_with fail
    go_ret
    exact meet_no HZN.out HO3.out HL3.out.below
  | some k =>
   rw [hbo] at HX
   have HZS : Hid (Z = if k = g then some (fmOf Q, T) else some (setK (fmOf Q) at_ k, T ++ [at_])) := hid (by rw [HZM.out, hbo])
   obtain ⟨_, _⟩ := HGR.out
   have HKN : Hid (k.L.length ≤ 1000000 ∧ k.S.length ≤ 8) := hid (by
    obtain ⟨q1, q2, _⟩ := both_some HC.out HGR.out HRF.out hbo
    exact ⟨by rw [← fits_len q2.L, HNL.out]; have := HGN.out; rw [← HNL.out]; exact this, q1.S.len⟩)
   clear hbo
   go_enter Tryz.func92, Tryz.ntmps92
   go_wp2_with fail
   clear hlk hA1 hA2 k0 k7 k8 k9 k10
   obtain ⟨WD, hwd⟩ : ∃ WD, World.drew A2 = WD := ⟨_, rfl⟩
   have HWD : Hid (Below (A2).heap.size A2 WD) := hid (hwd ▸ (Below.refl _ _).drew)
   go_wp2_with fail
   refine wp_region_s (fun u => Below WD.heap.size WD u) 6 (by kernel_rfl) ?_
   show grow.wpAnyS _ _ _ _ _ _ _ _ _ (World.drew _)
   rw [hwd]
   refine zsd 0 _ _ rfl (fun _ => Below.refl _ _) ?_
   simp only [zg1, zg2, zg3, Act.put, zg4, zg5, zg6]
   refine zsd 1 _ _ rfl (fun _ => Below.refl _ _) ?_
   simp only [zg1, zg2, zg3, Act.put, zg4, zg5, zg6]
   refine zsd 2 _ _ rfl (fun _ => Below.refl _ _) ?_
   simp only [zg1, zg2, zg3, Act.put, zg4, zg5, zg6]
   refine zst 3 _ _ rfl (fun _ => Below.refl _ _) (fun u hu => by have q := (HX.out u (HWD.out.trans (hu.mono HWD.out.size))).1; go_simp; rfl) ?_
   simp only [zg1, zg2, zg3, Act.put, zg4, zg5, zg6]
   refine zst 4 _ (.agg #[.slice aL nL cL, .slice aS nS cS]) rfl (fun _ => Below.refl _ _) (fun u hu => by have hR := (HX.out u (HWD.out.trans (hu.mono HWD.out.size))).2.1; exact (by have hl := run_loadVar_row (P := Tryz.prog) u b7 163 163 #[.slice aL nL cL, .slice aS nS cS] (0, 0) _ hR Tryz.underlying163 rfl (by kernel_rfl); (try simp only [List.getElem_toArray, List.getElem_cons_zero, List.getElem_cons_succ]); unfold execOp; simp only [Act.eval, Instr.loadAt, Instr.sureAddr, Sem.run_bind, Sem.run_pure]; change ((Sem.run Tryz.prog (loadVar 163 ⟨b7, 0, none⟩) u).andThen fun a w' => Result.ok (Next.value a) w') = _; rw [hl]; rfl)) ?_
   simp only [zg1, zg2, zg3, Act.put, zg4, zg5, zg6]
   refine zst 5 _ (.agg #[.slice ax nx cx, .slice ay ny cy]) rfl (fun _ => Below.refl _ _) (fun u hu => by have hR := (HX.out u (HWD.out.trans (hu.mono HWD.out.size))).2.2.1; exact (by have hl := run_loadVar_row (P := Tryz.prog) u b5 163 163 #[.slice ax nx cx, .slice ay ny cy] (0, 0) _ hR Tryz.underlying163 rfl (by kernel_rfl); (try simp only [List.getElem_toArray, List.getElem_cons_zero, List.getElem_cons_succ]); unfold execOp; simp only [Act.eval, Instr.loadAt, Instr.sureAddr, Sem.run_bind, Sem.run_pure]; change ((Sem.run Tryz.prog (loadVar 163 ⟨b5, 0, none⟩) u).andThen fun a w' => Result.ok (Next.value a) w') = _; rw [hl]; rfl)) ?_
   simp only [zg1, zg2, zg3, Act.put, zg4, zg5, zg6]
   refine s_two 6 10 _ _ rfl rfl (by kernel_rfl) ?_ ?_
   ·go_simp
    refine (HX.out WD (HWD.out.trans ((Below.refl _ _).mono HWD.out.size))).2.2.2.mono ?_
    rintro e wz ⟨hbz, kL, kS, rfl, ok1, ok2⟩
    obtain ⟨aK, cK, hvK⟩ := ok1.sl.val
    subst hvK
    obtain ⟨aJ, cJ, hvJ⟩ := ok2.sl.val
    subst hvJ
    have HKZ : Hid (FOut w0 wz ⟨.slice aK k.L.length cK, .slice aJ k.S.length cJ, k⟩) := hid (FOut.since (HBW2.out.trans ((HWD.out.trans ((Below.refl _ _).mono HWD.out.size)).mono HBW2.out.size)) ⟨ok1, ok2⟩)
    clear ok1 ok2
    have HBZ : Hid (Below WD.heap.size WD wz) := hid hbz
    refine ⟨(fun h => absurd h (by decide)), ?_⟩
    try simp only [zg1, zg2, zg3, Act.put, zg4, zg5, zg6]
    clear hbz
    refine zsd 7 _ _ rfl (fun h => absurd h (by decide)) ?_
    simp only [zg1, zg2, zg3, Act.put, zg4, zg5, zg6]
    refine zsd 8 _ _ rfl (fun h => absurd h (by decide)) ?_
    simp only [zg1, zg2, zg3, Act.put, zg4, zg5, zg6]
    refine zsd 9 _ _ rfl (fun h => absurd h (by decide)) ?_
    simp only [zg1, zg2, zg3, Act.put, zg4, zg5, zg6]
    refine s_only 10 _ rfl (by kernel_rfl) ?_
    obtain ⟨wy, hnx⟩ : ∃ wn, wz.alloc (.cells #[.slice none 0 0, .slice none 0 0] 163) = wn := ⟨_, rfl⟩
    obtain ⟨bz, hbz0⟩ : ∃ bz, wz.heap.size = bz := ⟨_, rfl⟩
    have HRZ : Hid (wy.heap[bz]? = some (.cells #[.slice none 0 0, .slice none 0 0] 163 (0, 0))) := hid (hnx ▸ hbz0 ▸ heap_alloc_new _ _)
    have HBA : Hid (Below WD.heap.size WD wy) := hid (hnx ▸ (HBZ.out).alloc (HBZ.out).size _)
    have HLE : Hid (WD.heap.size ≤ bz) := hid (hbz0 ▸ (HBZ.out).size)
    go_simp
    try rw [hnx, hbz0]
    refine ⟨(fun h => absurd h (by decide)), ?_⟩
    try simp only [zg1, zg2, zg3, Act.put, zg4, zg5, zg6]
    have HRY := HRZ
    have HBY := HBA
    have HKZ := hid (HKZ.out.later (hnx ▸ ext_alloc _ _))
    refine s_only 11 _ rfl (by kernel_rfl) ?_
    try rw [if_pos (by rfl)]
    refine wp_store_row 163 (.tmp 9) (.tmp 29) rfl bz #[.slice aK k.L.length cK, .slice aJ k.S.length cJ] rfl rfl 163 _ HRY.out (by kernel_rfl) rfl (by simp [Value.oneCell']) ?_
    obtain ⟨WE, hWE⟩ : ∃ WE, wy.setRow bz #[.slice aK k.L.length cK, .slice aJ k.S.length cJ] = WE := ⟨_, rfl⟩
    have HRE : Hid (WE.heap[bz]? = some (.cells #[.slice aK k.L.length cK, .slice aJ k.S.length cJ] 163 (0, 0))) := hid (hWE ▸ setRow_heap _ _ _ _ _ _ HRY.out)
    have HBE : Hid (Below WD.heap.size WD WE) := hid (hWE ▸ below_setRow HBY.out HLE.out _)
    have HKE : Hid (FOut w0 WE ⟨.slice aK k.L.length cK, .slice aJ k.S.length cJ, k⟩) := hid (hWE ▸ HKZ.out.setRow HRY.out (Nat.le_trans HBW2.out.size (Nat.le_trans HWD.out.size HLE.out)))
    try rw [hWE]
    refine ⟨(fun h => absurd h (by decide)), ?_⟩
    try simp only [zg1, zg2, zg3, Act.put, zg4, zg5, zg6]
    refine zsd 12 _ _ rfl (fun h => absurd h (by decide)) ?_
    simp only [zg1, zg2, zg3, Act.put, zg4, zg5, zg6]
    refine s_end (by kernel_rfl) ?_
    clear hnx hbz0 hWE HRZ HBA HRY HBY HBZ hwd
    have HBX := hid (HWD.out.trans (HBE.out.mono HWD.out.size))
    have HL3 := hid (HL2.out.later HBX.out)
    have HO3 := hid (HO2.out.trans (Ot2.of_below HBX.out))
    have HG3 := hid (HG2.out.later HBX.out)
    have HR73 := hid ((HBX.out.block _ (zh HR7.out).1).trans HR7.out)
    have HR53 := hid ((HBX.out.block _ (zh HR52.out).1).trans HR52.out)
    have e0 : WE.cell? ⟨bz, 0, none⟩ = some (.slice aK k.L.length cK) := by rw [cell_of_row _ _ _ _ _ _ HRE.out]; rfl
    have e1 : WE.cell? ⟨bz, 1, none⟩ = some (.slice aJ k.S.length cJ) := by rw [cell_of_row _ _ _ _ _ _ HRE.out]; rfl
    have e2 : WE.cell? ⟨b7, 0, none⟩ = some (.slice aL nL cL) := by rw [cell_of_row _ _ _ _ _ _ HR73.out]; rfl
    have e3 : WE.cell? ⟨b7, 1, none⟩ = some (.slice aS nS cS) := by rw [cell_of_row _ _ _ _ _ _ HR73.out]; rfl
    have HSM := hid (same_any k g (.slice aK k.L.length cK) (.slice aJ k.S.length cJ) (.slice aL nL cL) (.slice aS nS cS) WE HKE.out.oL.sl HKE.out.oS.sl (by have := HG3.out.oL.sl; simp only [HNL.out] at this ⊢; exact this) (by have := HG3.out.oS.sl; simp only [HNS.out] at this ⊢; exact this) HKN.out.1 (by have := HKN.out.2; omega) HGN.out (by have := HGR.out.S.len; omega))
    clear HX
    go_wp2_with fail
    refine HSM.out.mono ?_
    rintro e wS ⟨rfl, hbS⟩
    have HL4 := hid (HL3.out.later hbS)
    have HO4 := hid (HO3.out.trans (Ot2.of_below hbS))
    have HK4 := hid (HKE.out.later hbS)
    have HR54 := hid ((hbS.block _ (zh HR53.out).1).trans HR53.out)
    have HRE4 := hid ((hbS.block _ (zh HRE.out).1).trans HRE.out)
    clear e0 e1 e2 e3 hbS HSM
    by_cases hkg : k = g
    ·have HZY : Hid (Z = some (fmOf Q, T)) := hid (by rw [HZS.out, if_pos hkg])
     rw [decide_eq_true hkg]
     clear hkg
     go_wp2_with fail
     go_ret
     exact meet_yes HZY.out HO4.out HL4.out (.inl rfl)
    ·have HZY : Hid (Z = some (setK (fmOf Q) at_ k, T ++ [at_])) := hid (by rw [HZS.out, if_neg hkg])
     rw [decide_eq_false hkg]
     have e0 : wS.cell? ⟨bz, 0, none⟩ = some (.slice aK k.L.length cK) := by rw [cell_of_row _ _ _ _ _ _ HRE4.out]; rfl
     have e1 : wS.cell? ⟨bz, 1, none⟩ = some (.slice aJ k.S.length cJ) := by rw [cell_of_row _ _ _ _ _ _ HRE4.out]; rfl
     have e2 : wS.cell? ⟨b5, 0, none⟩ = some (.slice ax nx cx) := by rw [cell_of_row _ _ _ _ _ _ HR54.out]; rfl
     have e3 : wS.cell? ⟨b5, 1, none⟩ = some (.slice ay ny cy) := by rw [cell_of_row _ _ _ _ _ _ HR54.out]; rfl
     have g0 : wS.frozen? ⟨b5, 0, none⟩ = false := frozen_of_row _ _ _ _ _ HR54.out
     have g1 : wS.frozen? ⟨b5, 1, none⟩ = false := frozen_of_row _ _ _ _ _ HR54.out
     have q1 := heap_set HR54.out 0 (.slice aK k.L.length cK)
     have q2 := heap_set q1 1 (.slice aJ k.S.length cJ)
     obtain ⟨A5, hA5⟩ : ∃ A5, (wS.setCell ⟨b5, 0, none⟩ (.slice aK k.L.length cK)).setCell ⟨b5, 1, none⟩ (.slice aJ k.S.length cJ) = A5 := ⟨_, rfl⟩
     have HR55 : Hid (A5.heap[b5]? = some (.cells #[.slice aK k.L.length cK, .slice aJ k.S.length cJ] 163 (0, 0))) := hid (hA5 ▸ q2)
     have HL5 : Hid (LK w0 A5 K M b W r (.slice aT T.length cT) Q T) := hid (hA5 ▸ (HL4.out.other HR54.out HLE5.out).other q1 HLE5.out)
     have HK5' : Hid (FOut w0 A5 ⟨.slice aK k.L.length cK, .slice aJ k.S.length cJ, k⟩) := hid (hA5 ▸ (HK4.out.other HR54.out HLE5.out).other q1 HLE5.out)
     have HO5 : Hid (Ot2 K (Value.slice aT T.length cT).ownBlock w A5) := hid (hA5 ▸ Ot2.box w (Ot2.box w HO4.out HB7.out.1) HB7.out.1)
     clear hkg q1 q2
     go_wp2_with fail
     try rw [hA5]
     clear hA5 e0 e1 e2 e3 g0 g1
     have HX : Hid (∀ u, Below (A5).heap.size A5 u → u.cell? ⟨K, 9, none⟩ = some (.map (some M)) ∧ u.heap[b5]? = some (.cells #[.slice aK k.L.length cK, .slice aJ k.S.length cJ] 163 (0, 0))) := hid (fun u hu => ⟨(HL5.out.later hu).cells.2.2.2.1, (hu.block _ (zh HR55.out).1).trans HR55.out⟩)
     go_wp2_with fail
     refine wp_region_ext_tail 6 [] trivial (by kernel_rfl) (by kernel_rfl) ?_
     refine zgc 1 ?_
     go_frame
     refine zgc 2 ?_
     go_frame
     refine zgc 3 ?_
     go_frame
     refine wpG_read 4 rfl rfl (.map (some M)) rfl ?_ ?_
     ·intro u hu hh
      have q := (HX.out u hu).1
      go_simp
     go_frame
     refine zgc 5 ?_
     go_frame
     refine wpG_read 6 rfl rfl (.agg #[.slice aK k.L.length cK, .slice aJ k.S.length cJ]) rfl ?_ ?_
     ·intro u hu hh
      have hR := (HX.out u hu).2
      exact (by have hl := run_loadVar_row (P := Tryz.prog) u b5 163 163 #[.slice aK k.L.length cK, .slice aJ k.S.length cJ] (0, 0) _ hR Tryz.underlying163 rfl (by kernel_rfl); (try simp only [List.getElem_toArray, List.getElem_cons_zero, List.getElem_cons_succ]); unfold execOp; simp only [Act.eval, Instr.loadAt, Instr.sureAddr, Sem.run_bind, Sem.run_pure]; change ((Sem.run Tryz.prog (loadVar 163 ⟨b5, 0, none⟩) u).andThen fun a w' => Result.ok (Next.value a) w') = _; rw [hl]; rfl)
     go_frame
     refine wpG_nil fun w' hb' hF => ?_
     have HLu := hid (HL5.out.later hb')
     have HFu := hid (HK5'.out.later hb')
     have HOu := hid (HO5.out.trans (Ot2.of_below hb'))
     clear hb' hF HX
     simp only [List.drop_succ_cons, List.drop_zero, List.getElem_toArray, List.getElem_cons_zero, List.getElem_cons_succ]
     refine wpList_update (E := intKey) (t := 108) Tryz.underlying108 Tryz.underlying3 _ rfl _ _ _ rfl HLu.out.map at_ (.agg #[.slice aK k.L.length cK, .slice aJ k.S.length cJ]) rfl rfl rfl ?_
     intro w8 hm8 hg8
     have HL8 := hid (HLu.out.upd (x := ⟨.slice aK k.L.length cK, .slice aJ k.S.length cJ, k⟩) HFu.out hm8 hg8)
     have HO8 := hid (HOu.out.trans (Ot2.grownM HLu.out.map hg8))
     obtain ⟨c0, c7, c8, c9, c10⟩ := HL8.out.cells
     have HTD : Hid (OffOwn w8 3 (.slice aT T.length cT) (T.map (.int .i64))) := HL8.out.todo |> hid
     clear hm8 hg8 HLu HFu HOu
     go_wp2_with (at_builtin; refine wpList_append_off _ _ rfl _ _ 88 rfl 3 (.int .i64 0) 8 _ Tryz.underlying88 infoInt8 rfl _ _ _ HTD.out rfl rfl rfl rfl rfl (by rw [List.length_map]; unfold maxLen; omega) (by rw [List.length_map]; omega) ?_)
     intro v9 w9 ho9 hg9 hat9
     have hPU := HL8.out.push (w' := w9) (v' := v9) (T' := T ++ [at_]) (by rw [List.map_append]; exact ho9) hg9 hat9
     have HO9 := hid (HO8.out.trans ((Ot2.grownT (v := .slice aT T.length cT) hg9).trans (Ot2.setK (K := K) w9 10 v9)))
     obtain ⟨a9, c9', hv9⟩ := ho9.cells
     obtain ⟨hv9, _⟩ := hv9
     rw [show (T.map (Value.int .i64) ++ [Value.int .i64 at_]).length = T.length + 1 by rw [List.length_append, List.length_map]; rfl] at hv9
     subst hv9
     obtain ⟨hL9, y9, f9⟩ := hPU
     have HL9 := hid hL9
     have HAT9 : Hid ((Value.slice a9 (T.length + 1) c9').ownBlock = (Value.slice aT T.length cT).ownBlock ∨ ∃ j, (Value.slice a9 (T.length + 1) c9').ownBlock = some j ∧ w.heap.size ≤ j) := hid (by
      rcases hat9 with q | ⟨j, q, hj⟩
      ·exact .inl q
      ·exact .inr ⟨j, q, Nat.le_trans HO8.out.1 hj⟩)
     clear hL9 ho9 hg9 hat9 HL8 HTD c7 c8 c9 c0 c10
     go_wp2_with fail
     go_ret
     exact meet_yes (by rw [fm_set]; exact HZY.out) HO9.out HL9.out HAT9.out
   ·obtain ⟨wx, hnx⟩ : ∃ wn, WD.alloc (.cells #[.slice none 0 0, .slice none 0 0] 163) = wn := ⟨_, rfl⟩
    obtain ⟨bz, hbz0⟩ : ∃ bz, WD.heap.size = bz := ⟨_, rfl⟩
    have HRZ : Hid (wx.heap[bz]? = some (.cells #[.slice none 0 0, .slice none 0 0] 163 (0, 0))) := hid (hnx ▸ hbz0 ▸ heap_alloc_new _ _)
    have HBA : Hid (Below WD.heap.size WD wx) := hid (hnx ▸ ((Below.refl WD.heap.size WD)).alloc ((Below.refl WD.heap.size WD)).size _)
    have HLE : Hid (WD.heap.size ≤ bz) := hid (hbz0 ▸ ((Below.refl WD.heap.size WD)).size)
    go_simp
    try rw [hnx, hbz0]
    refine ⟨fun _ => (by first | exact HBA.out | (show Below _ WD wx; rw [← hbz0]; exact HBA.out)), ?_⟩
    try simp only [zg1, zg2, zg3, Act.put, zg4, zg5, zg6]
    refine s_only 6 _ rfl (by kernel_rfl) ?_
    go_simp
    refine (HX.out wx (HWD.out.trans (HBA.out.mono HWD.out.size))).2.2.2.mono ?_
    rintro e wz ⟨hbz, kL, kS, rfl, ok1, ok2⟩
    obtain ⟨aK, cK, hvK⟩ := ok1.sl.val
    subst hvK
    obtain ⟨aJ, cJ, hvJ⟩ := ok2.sl.val
    subst hvJ
    have HKZ : Hid (FOut w0 wz ⟨.slice aK k.L.length cK, .slice aJ k.S.length cJ, k⟩) := hid (FOut.since (HBW2.out.trans ((HWD.out.trans (HBA.out.mono HWD.out.size)).mono HBW2.out.size)) ⟨ok1, ok2⟩)
    clear ok1 ok2
    have HRY := hid ((hbz.block bz (zh HRZ.out).1).trans HRZ.out)
    have HBY := hid (HBA.out.trans (hbz.mono HBA.out.size))
    refine ⟨(fun h => absurd h (by decide)), ?_⟩
    try simp only [zg1, zg2, zg3, Act.put, zg4, zg5, zg6]
    clear hbz
    refine zsd 7 _ _ rfl (fun h => absurd h (by decide)) ?_
    simp only [zg1, zg2, zg3, Act.put, zg4, zg5, zg6]
    refine zsd 8 _ _ rfl (fun h => absurd h (by decide)) ?_
    simp only [zg1, zg2, zg3, Act.put, zg4, zg5, zg6]
    refine zsd 9 _ _ rfl (fun h => absurd h (by decide)) ?_
    simp only [zg1, zg2, zg3, Act.put, zg4, zg5, zg6]
    refine s_only 11 _ rfl (by kernel_rfl) ?_
    try rw [if_pos (by rfl)]
    refine wp_store_row 163 (.tmp 9) (.tmp 29) rfl bz #[.slice aK k.L.length cK, .slice aJ k.S.length cJ] rfl rfl 163 _ HRY.out (by kernel_rfl) rfl (by simp [Value.oneCell']) ?_
    obtain ⟨WE, hWE⟩ : ∃ WE, wz.setRow bz #[.slice aK k.L.length cK, .slice aJ k.S.length cJ] = WE := ⟨_, rfl⟩
    have HRE : Hid (WE.heap[bz]? = some (.cells #[.slice aK k.L.length cK, .slice aJ k.S.length cJ] 163 (0, 0))) := hid (hWE ▸ setRow_heap _ _ _ _ _ _ HRY.out)
    have HBE : Hid (Below WD.heap.size WD WE) := hid (hWE ▸ below_setRow HBY.out HLE.out _)
    have HKE : Hid (FOut w0 WE ⟨.slice aK k.L.length cK, .slice aJ k.S.length cJ, k⟩) := hid (hWE ▸ HKZ.out.setRow HRY.out (Nat.le_trans HBW2.out.size (Nat.le_trans HWD.out.size HLE.out)))
    try rw [hWE]
    refine ⟨(fun h => absurd h (by decide)), ?_⟩
    try simp only [zg1, zg2, zg3, Act.put, zg4, zg5, zg6]
    refine zsd 12 _ _ rfl (fun h => absurd h (by decide)) ?_
    simp only [zg1, zg2, zg3, Act.put, zg4, zg5, zg6]
    refine s_end (by kernel_rfl) ?_
    clear hnx hbz0 hWE HRZ HBA HRY HBY hwd
    have HBX := hid (HWD.out.trans (HBE.out.mono HWD.out.size))
    have HL3 := hid (HL2.out.later HBX.out)
    have HO3 := hid (HO2.out.trans (Ot2.of_below HBX.out))
    have HG3 := hid (HG2.out.later HBX.out)
    have HR73 := hid ((HBX.out.block _ (zh HR7.out).1).trans HR7.out)
    have HR53 := hid ((HBX.out.block _ (zh HR52.out).1).trans HR52.out)
    have e0 : WE.cell? ⟨bz, 0, none⟩ = some (.slice aK k.L.length cK) := by rw [cell_of_row _ _ _ _ _ _ HRE.out]; rfl
    have e1 : WE.cell? ⟨bz, 1, none⟩ = some (.slice aJ k.S.length cJ) := by rw [cell_of_row _ _ _ _ _ _ HRE.out]; rfl
    have e2 : WE.cell? ⟨b7, 0, none⟩ = some (.slice aL nL cL) := by rw [cell_of_row _ _ _ _ _ _ HR73.out]; rfl
    have e3 : WE.cell? ⟨b7, 1, none⟩ = some (.slice aS nS cS) := by rw [cell_of_row _ _ _ _ _ _ HR73.out]; rfl
    have HSM := hid (same_any k g (.slice aK k.L.length cK) (.slice aJ k.S.length cJ) (.slice aL nL cL) (.slice aS nS cS) WE HKE.out.oL.sl HKE.out.oS.sl (by have := HG3.out.oL.sl; simp only [HNL.out] at this ⊢; exact this) (by have := HG3.out.oS.sl; simp only [HNS.out] at this ⊢; exact this) HKN.out.1 (by have := HKN.out.2; omega) HGN.out (by have := HGR.out.S.len; omega))
    clear HX
    go_wp2_with fail
    refine HSM.out.mono ?_
    rintro e wS ⟨rfl, hbS⟩
    have HL4 := hid (HL3.out.later hbS)
    have HO4 := hid (HO3.out.trans (Ot2.of_below hbS))
    have HK4 := hid (HKE.out.later hbS)
    have HR54 := hid ((hbS.block _ (zh HR53.out).1).trans HR53.out)
    have HRE4 := hid ((hbS.block _ (zh HRE.out).1).trans HRE.out)
    clear e0 e1 e2 e3 hbS HSM
    by_cases hkg : k = g
    ·have HZY : Hid (Z = some (fmOf Q, T)) := hid (by rw [HZS.out, if_pos hkg])
     rw [decide_eq_true hkg]
     clear hkg
     go_wp2_with fail
     go_ret
     exact meet_yes HZY.out HO4.out HL4.out (.inl rfl)
    ·have HZY : Hid (Z = some (setK (fmOf Q) at_ k, T ++ [at_])) := hid (by rw [HZS.out, if_neg hkg])
     rw [decide_eq_false hkg]
     have e0 : wS.cell? ⟨bz, 0, none⟩ = some (.slice aK k.L.length cK) := by rw [cell_of_row _ _ _ _ _ _ HRE4.out]; rfl
     have e1 : wS.cell? ⟨bz, 1, none⟩ = some (.slice aJ k.S.length cJ) := by rw [cell_of_row _ _ _ _ _ _ HRE4.out]; rfl
     have e2 : wS.cell? ⟨b5, 0, none⟩ = some (.slice ax nx cx) := by rw [cell_of_row _ _ _ _ _ _ HR54.out]; rfl
     have e3 : wS.cell? ⟨b5, 1, none⟩ = some (.slice ay ny cy) := by rw [cell_of_row _ _ _ _ _ _ HR54.out]; rfl
     have g0 : wS.frozen? ⟨b5, 0, none⟩ = false := frozen_of_row _ _ _ _ _ HR54.out
     have g1 : wS.frozen? ⟨b5, 1, none⟩ = false := frozen_of_row _ _ _ _ _ HR54.out
     have q1 := heap_set HR54.out 0 (.slice aK k.L.length cK)
     have q2 := heap_set q1 1 (.slice aJ k.S.length cJ)
     obtain ⟨A5, hA5⟩ : ∃ A5, (wS.setCell ⟨b5, 0, none⟩ (.slice aK k.L.length cK)).setCell ⟨b5, 1, none⟩ (.slice aJ k.S.length cJ) = A5 := ⟨_, rfl⟩
     have HR55 : Hid (A5.heap[b5]? = some (.cells #[.slice aK k.L.length cK, .slice aJ k.S.length cJ] 163 (0, 0))) := hid (hA5 ▸ q2)
     have HL5 : Hid (LK w0 A5 K M b W r (.slice aT T.length cT) Q T) := hid (hA5 ▸ (HL4.out.other HR54.out HLE5.out).other q1 HLE5.out)
     have HK5' : Hid (FOut w0 A5 ⟨.slice aK k.L.length cK, .slice aJ k.S.length cJ, k⟩) := hid (hA5 ▸ (HK4.out.other HR54.out HLE5.out).other q1 HLE5.out)
     have HO5 : Hid (Ot2 K (Value.slice aT T.length cT).ownBlock w A5) := hid (hA5 ▸ Ot2.box w (Ot2.box w HO4.out HB7.out.1) HB7.out.1)
     clear hkg q1 q2
     go_wp2_with fail
     try rw [hA5]
     clear hA5 e0 e1 e2 e3 g0 g1
     have HX : Hid (∀ u, Below (A5).heap.size A5 u → u.cell? ⟨K, 9, none⟩ = some (.map (some M)) ∧ u.heap[b5]? = some (.cells #[.slice aK k.L.length cK, .slice aJ k.S.length cJ] 163 (0, 0))) := hid (fun u hu => ⟨(HL5.out.later hu).cells.2.2.2.1, (hu.block _ (zh HR55.out).1).trans HR55.out⟩)
     go_wp2_with fail
     refine wp_region_ext_tail 6 [] trivial (by kernel_rfl) (by kernel_rfl) ?_
     refine zgc 1 ?_
     go_frame
     refine zgc 2 ?_
     go_frame
     refine zgc 3 ?_
     go_frame
     refine wpG_read 4 rfl rfl (.map (some M)) rfl ?_ ?_
     ·intro u hu hh
      have q := (HX.out u hu).1
      go_simp
     go_frame
     refine zgc 5 ?_
     go_frame
     refine wpG_read 6 rfl rfl (.agg #[.slice aK k.L.length cK, .slice aJ k.S.length cJ]) rfl ?_ ?_
     ·intro u hu hh
      have hR := (HX.out u hu).2
      exact (by have hl := run_loadVar_row (P := Tryz.prog) u b5 163 163 #[.slice aK k.L.length cK, .slice aJ k.S.length cJ] (0, 0) _ hR Tryz.underlying163 rfl (by kernel_rfl); (try simp only [List.getElem_toArray, List.getElem_cons_zero, List.getElem_cons_succ]); unfold execOp; simp only [Act.eval, Instr.loadAt, Instr.sureAddr, Sem.run_bind, Sem.run_pure]; change ((Sem.run Tryz.prog (loadVar 163 ⟨b5, 0, none⟩) u).andThen fun a w' => Result.ok (Next.value a) w') = _; rw [hl]; rfl)
     go_frame
     refine wpG_nil fun w' hb' hF => ?_
     have HLu := hid (HL5.out.later hb')
     have HFu := hid (HK5'.out.later hb')
     have HOu := hid (HO5.out.trans (Ot2.of_below hb'))
     clear hb' hF HX
     simp only [List.drop_succ_cons, List.drop_zero, List.getElem_toArray, List.getElem_cons_zero, List.getElem_cons_succ]
     refine wpList_update (E := intKey) (t := 108) Tryz.underlying108 Tryz.underlying3 _ rfl _ _ _ rfl HLu.out.map at_ (.agg #[.slice aK k.L.length cK, .slice aJ k.S.length cJ]) rfl rfl rfl ?_
     intro w8 hm8 hg8
     have HL8 := hid (HLu.out.upd (x := ⟨.slice aK k.L.length cK, .slice aJ k.S.length cJ, k⟩) HFu.out hm8 hg8)
     have HO8 := hid (HOu.out.trans (Ot2.grownM HLu.out.map hg8))
     obtain ⟨c0, c7, c8, c9, c10⟩ := HL8.out.cells
     have HTD : Hid (OffOwn w8 3 (.slice aT T.length cT) (T.map (.int .i64))) := HL8.out.todo |> hid
     clear hm8 hg8 HLu HFu HOu
     go_wp2_with (at_builtin; refine wpList_append_off _ _ rfl _ _ 88 rfl 3 (.int .i64 0) 8 _ Tryz.underlying88 infoInt8 rfl _ _ _ HTD.out rfl rfl rfl rfl rfl (by rw [List.length_map]; unfold maxLen; omega) (by rw [List.length_map]; omega) ?_)
     intro v9 w9 ho9 hg9 hat9
     have hPU := HL8.out.push (w' := w9) (v' := v9) (T' := T ++ [at_]) (by rw [List.map_append]; exact ho9) hg9 hat9
     have HO9 := hid (HO8.out.trans ((Ot2.grownT (v := .slice aT T.length cT) hg9).trans (Ot2.setK (K := K) w9 10 v9)))
     obtain ⟨a9, c9', hv9⟩ := ho9.cells
     obtain ⟨hv9, _⟩ := hv9
     rw [show (T.map (Value.int .i64) ++ [Value.int .i64 at_]).length = T.length + 1 by rw [List.length_append, List.length_map]; rfl] at hv9
     subst hv9
     obtain ⟨hL9, y9, f9⟩ := hPU
     have HL9 := hid hL9
     have HAT9 : Hid ((Value.slice a9 (T.length + 1) c9').ownBlock = (Value.slice aT T.length cT).ownBlock ∨ ∃ j, (Value.slice a9 (T.length + 1) c9').ownBlock = some j ∧ w.heap.size ≤ j) := hid (by
      rcases hat9 with q | ⟨j, q, hj⟩
      ·exact .inl q
      ·exact .inr ⟨j, q, Nat.le_trans HO8.out.1 hj⟩)
     clear hL9 ho9 hg9 hat9 HL8 HTD c7 c8 c9 c0 c10
     go_wp2_with fail
     go_ret
     exact meet_yes (by rw [fm_set]; exact HZY.out) HO9.out HL9.out HAT9.out
end Go.Proofs.YtloonnfelgokmaaGreatDoor.worlds
