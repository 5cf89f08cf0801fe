/- Handles told: the document's Told, its answer; const, same, math. Condition: the lists are not long. -/
import Derived.Test.YtogpgfaojmmemaaGreatDoorCall3
import Derived.Test.YtogpgfaojmmemaaGreatDoorNumR
import Derived.Test.YtogpgfaojmmemaaGreatDoorGrowP
import Derived.Test.YtogpgfaojmmemaaGreatDoorSrc
import Derived.Test.YtogpgfaojmmemaaGreatDoorCall2
import Derived.Test.YtogpgfaojmmemaaGreatDoorOwn
set_option linter.unusedSimpArgs false
set_option linter.unusedVariables false
namespace Go.Proofs.YtogpgfaojmmemaaGreatDoor.hands
open Go.RowKit Go.Proofs.YtogpgfaojmmemaaGreatDoor.lib Go.Proofs.YtogpgfaojmmemaaGreatDoor.errs Go.Proofs.YtogpgfaojmmemaaGreatDoor.mtypes Go.Proofs.YtogpgfaojmmemaaGreatDoor.grow Go.Proofs.YtogpgfaojmmemaaGreatDoor.nums

/-- what Told answers -/
def ToldBy (w : World) (r : Option Int) (e : Ending) (w' : World) : Prop := Below w.heap.size w w' ∧ match r with
  | some n => e = .returned (.tuple #[.int .i64 n, .bool true])
  | none => ∃ n, e = .returned (.tuple #[.int .i64 n, .bool false])
theorem toldBy_some {w w' : World} {n : Int} (hb : Below w.heap.size w w') : ToldBy w (some n) (.returned (.tuple #[.int .i64 n, .bool true])) w' := ⟨hb, rfl⟩
theorem toldBy_none {w w' : World} {n : Int} (hb : Below w.heap.size w w') : ToldBy w none (.returned (.tuple #[.int .i64 n, .bool false])) w' := ⟨hb, n, rfl⟩
theorem toldBy_cases {w w' : World} {r : Option Int} {e : Ending} (h : ToldBy w r e w') : ∃ n b, e = .returned (.tuple #[.int .i64 n, .bool b]) ∧ Below w.heap.size w w' ∧ r = if b = true then some n else none := by
  cases r with
  | some n => exact ⟨n, true, h.2, h.1, rfl⟩
  | none =>
    obtain ⟨hb, n, he⟩ := h
    exact ⟨n, false, he, hb, rfl⟩
theorem toldBy_mk {w w' : World} {r : Option Int} {n : Int} {b : Bool} (h : r = if b = true then some n else none) (hb : Below w.heap.size w w') : ToldBy w r (.returned (.tuple #[.int .i64 n, .bool b])) w' := by
  subst h
  cases b with
  | true => exact toldBy_some hb
  | false => exact toldBy_none hb
theorem of_neg (t : List UInt8) (a b c : Int) : ofOf t 12 a b = ofOf t 12 a c := by
  unfold ofOf
  rw [if_neg (by decide), if_neg (by decide)]
  unfold wholeOf
  simp

set_option maxRecDepth 100000 in
set_option maxHeartbeats 4000000 in
theorem toldr_const (t : ByteArray) (a : Int) (av sa aa : Option Addr) (n1 cv n2 cs ca : Nat) (az : List Int) (w : World) (haz : Sl w (.slice aa az.length ca) az.length 1 (az.map iv)) (hn : az.length ≤ 100) : Calls Tryz.prog 10 #[.agg #[.int .i64 1, .string t, .int .i64 a, .slice av n1 cv, .slice sa n2 cs], .slice aa az.length ca] w (ToldBy w (some a)) := by
  obtain ⟨X1, hX1⟩ : ∃ X1, w.alloc (.cells #[.int .i64 1, .string t, .int .i64 a, .slice av n1 cv, .slice sa n2 cs] 25) = X1 := ⟨_, rfl⟩
  have HB1 : Hid (Below w.heap.size w X1) := hid (hX1 ▸ ext_alloc _ _)
  have HLT : Hid (w.heap.size < X1.heap.size) := hid (by rw [← hX1]; simp)
  have HXR : Hid (X1.heap[w.heap.size]? = some (.cells #[.int .i64 1, .string t, .int .i64 a, .slice av n1 cv, .slice sa n2 cs] 25 (0, 0))) := hid (by rw [← hX1]; exact heap_alloc_new _ _)
  have HK1 : Hid (∀ u, Below X1.heap.size X1 u → u.cell? ⟨w.heap.size, 1, none⟩ = some (.string t)) := hid (fun u hu => by rw [cell_of_row _ _ _ _ _ _ ((hu.block _ HLT.out).trans HXR.out)]; rfl)
  have HK2 : Hid (∀ u, Below X1.heap.size X1 u → u.cell? ⟨w.heap.size, 2, none⟩ = some (.int .i64 a)) := hid (fun u hu => by rw [cell_of_row _ _ _ _ _ _ ((hu.block _ HLT.out).trans HXR.out)]; rfl)
  have HK3 : Hid (∀ u, Below X1.heap.size X1 u → u.cell? ⟨w.heap.size, 3, none⟩ = some (.slice av n1 cv)) := hid (fun u hu => by rw [cell_of_row _ _ _ _ _ _ ((hu.block _ HLT.out).trans HXR.out)]; rfl)
  have HK4 : Hid (∀ u, Below X1.heap.size X1 u → u.cell? ⟨w.heap.size, 4, none⟩ = some (.slice sa n2 cs)) := hid (fun u hu => by rw [cell_of_row _ _ _ _ _ _ ((hu.block _ HLT.out).trans HXR.out)]; rfl)
  have hq0 : X1.cell? ⟨w.heap.size, 0, none⟩ = some (.int .i64 1) := by rw [cell_of_row _ _ _ _ _ _ HXR.out]; rfl
  have hq2 := HK2.out X1 (Below.refl _ _)
  have hq3 := HK3.out X1 (Below.refl _ _)
  have hq4 := HK4.out X1 (Below.refl _ _)
  go_enter Tryz.func10, Tryz.ntmps10
  go_wp2_with fail
  go_ret2
  exact toldBy_some HB1.out

set_option maxRecDepth 100000 in
set_option maxHeartbeats 4000000 in
theorem toldr_same (t : ByteArray) (a : Int) (av sa aa : Option Addr) (n1 cv n2 cs ca : Nat) (az : List Int) (w : World) (haz : Sl w (.slice aa az.length ca) az.length 1 (az.map iv)) (hn : az.length ≤ 100) (v : Int) (hv : az[0]? = some v) : Calls Tryz.prog 10 #[.agg #[.int .i64 2, .string t, .int .i64 a, .slice av n1 cv, .slice sa n2 cs], .slice aa az.length ca] w (ToldBy w (some v)) := by
  obtain ⟨X1, hX1⟩ : ∃ X1, w.alloc (.cells #[.int .i64 2, .string t, .int .i64 a, .slice av n1 cv, .slice sa n2 cs] 25) = X1 := ⟨_, rfl⟩
  have HB1 : Hid (Below w.heap.size w X1) := hid (hX1 ▸ ext_alloc _ _)
  have HLT : Hid (w.heap.size < X1.heap.size) := hid (by rw [← hX1]; simp)
  have HXR : Hid (X1.heap[w.heap.size]? = some (.cells #[.int .i64 2, .string t, .int .i64 a, .slice av n1 cv, .slice sa n2 cs] 25 (0, 0))) := hid (by rw [← hX1]; exact heap_alloc_new _ _)
  have HK1 : Hid (∀ u, Below X1.heap.size X1 u → u.cell? ⟨w.heap.size, 1, none⟩ = some (.string t)) := hid (fun u hu => by rw [cell_of_row _ _ _ _ _ _ ((hu.block _ HLT.out).trans HXR.out)]; rfl)
  have HK2 : Hid (∀ u, Below X1.heap.size X1 u → u.cell? ⟨w.heap.size, 2, none⟩ = some (.int .i64 a)) := hid (fun u hu => by rw [cell_of_row _ _ _ _ _ _ ((hu.block _ HLT.out).trans HXR.out)]; rfl)
  have HK3 : Hid (∀ u, Below X1.heap.size X1 u → u.cell? ⟨w.heap.size, 3, none⟩ = some (.slice av n1 cv)) := hid (fun u hu => by rw [cell_of_row _ _ _ _ _ _ ((hu.block _ HLT.out).trans HXR.out)]; rfl)
  have HK4 : Hid (∀ u, Below X1.heap.size X1 u → u.cell? ⟨w.heap.size, 4, none⟩ = some (.slice sa n2 cs)) := hid (fun u hu => by rw [cell_of_row _ _ _ _ _ _ ((hu.block _ HLT.out).trans HXR.out)]; rfl)
  have hq0 : X1.cell? ⟨w.heap.size, 0, none⟩ = some (.int .i64 2) := by rw [cell_of_row _ _ _ _ _ _ HXR.out]; rfl
  have hq2 := HK2.out X1 (Below.refl _ _)
  have hq3 := HK3.out X1 (Below.refl _ _)
  have hq4 := HK4.out X1 (Below.refl _ _)
  have h0 : 0 < az.length := (List.getElem?_eq_some_iff.1 hv).1
  have h0i : (0 : Int) < (az.length : Int) := by omega
  obtain ⟨b, off, rfl, u0, hu0, hcell⟩ := Sl.at1 (haz.below HB1.out) h0
  rw [List.getElem?_map, hv] at hu0
  obtain rfl := Option.some.inj hu0
  have hc0 : X1.cell? ⟨b, off, none⟩ = some (.int .i64 v) := hcell
  clear haz hcell hu0 hv
  go_enter Tryz.func10, Tryz.ntmps10
  go_wp2_with fail
  go_ret2
  exact toldBy_some HB1.out

set_option maxRecDepth 100000 in
set_option maxHeartbeats 4000000 in
theorem toldr_neg (t : ByteArray) (av sa aa : Option Addr) (n1 cv n2 cs ca : Nat) (v1 : Int) (w : World) (hT : t.data.toList = [73] ∨ t.data.toList = [74]) (h1 : InR v1) (hf : t.data.toList = [73] → -2147483648 ≤ v1 ∧ v1 ≤ 2147483647) (r : Option Int) (hr : (if (ofOf t.data.toList 12 v1 v1).2 = true then some (ofOf t.data.toList 12 v1 v1).1 else none) = r) (haz : Sl w (.slice aa 1 ca) 1 1 ([v1].map iv)) : Calls Tryz.prog 10 #[.agg #[.int .i64 3, .string t, .int .i64 12, .slice av n1 cv, .slice sa n2 cs], .slice aa 1 ca] w (ToldBy w r) := by
  rw [of_neg _ v1 v1 0] at hr
  have HM := hid (fun u => rmath_any t 12 v1 0 u hT (by decide) h1 (by unfold InR; decide))
  have HV : Hid (t.data.toList = [74] ∨ -2147483648 ≤ v1 ∧ v1 ≤ 2147483647) := hid (hT.elim (fun h => .inr (hf h)) .inl)
  obtain ⟨R, hR⟩ : ∃ R, ofOf t.data.toList 12 v1 0 = R := ⟨_, rfl⟩
  have HR := hid hR
  rw [hR] at hr
  have HRR := hid hr
  clear hR hr hT h1 hf
  obtain ⟨X1, hX1⟩ : ∃ X1, w.alloc (.cells #[.int .i64 3, .string t, .int .i64 12, .slice av n1 cv, .slice sa n2 cs] 25) = X1 := ⟨_, rfl⟩
  have HB1 : Hid (Below w.heap.size w X1) := hid (hX1 ▸ ext_alloc _ _)
  have HLT : Hid (w.heap.size < X1.heap.size) := hid (by rw [← hX1]; simp)
  have HXR : Hid (X1.heap[w.heap.size]? = some (.cells #[.int .i64 3, .string t, .int .i64 12, .slice av n1 cv, .slice sa n2 cs] 25 (0, 0))) := hid (by rw [← hX1]; exact heap_alloc_new _ _)
  have HK1 : Hid (∀ u, Below X1.heap.size X1 u → u.cell? ⟨w.heap.size, 1, none⟩ = some (.string t)) := hid (fun u hu => by rw [cell_of_row _ _ _ _ _ _ ((hu.block _ HLT.out).trans HXR.out)]; rfl)
  have HK2 : Hid (∀ u, Below X1.heap.size X1 u → u.cell? ⟨w.heap.size, 2, none⟩ = some (.int .i64 12)) := hid (fun u hu => by rw [cell_of_row _ _ _ _ _ _ ((hu.block _ HLT.out).trans HXR.out)]; rfl)
  have HK3 : Hid (∀ u, Below X1.heap.size X1 u → u.cell? ⟨w.heap.size, 3, none⟩ = some (.slice av n1 cv)) := hid (fun u hu => by rw [cell_of_row _ _ _ _ _ _ ((hu.block _ HLT.out).trans HXR.out)]; rfl)
  have HK4 : Hid (∀ u, Below X1.heap.size X1 u → u.cell? ⟨w.heap.size, 4, none⟩ = some (.slice sa n2 cs)) := hid (fun u hu => by rw [cell_of_row _ _ _ _ _ _ ((hu.block _ HLT.out).trans HXR.out)]; rfl)
  have hq0 : X1.cell? ⟨w.heap.size, 0, none⟩ = some (.int .i64 3) := by rw [cell_of_row _ _ _ _ _ _ HXR.out]; rfl
  have hq2 := HK2.out X1 (Below.refl _ _)
  have hq3 := HK3.out X1 (Below.refl _ _)
  have hq4 := HK4.out X1 (Below.refl _ _)
  obtain ⟨b, off, rfl, u0, hu0, hcell⟩ := Sl.at1 (haz.below HB1.out) (k := 0) (by decide)
  obtain rfl : u0 = .int .i64 v1 := (Option.some.inj hu0).symm
  have hcell0 : X1.cell? ⟨b, off, none⟩ = some (.int .i64 v1) := hcell
  have HC1 : Hid (∀ u, Below X1.heap.size X1 u → u.cell? ⟨b, off, none⟩ = some (.int .i64 v1)) := hid (fun u hu => (hu.cell (World.block_lt_of_cell? _ _ hcell0)).trans hcell0)
  clear haz hcell hu0
  go_enter Tryz.func10, Tryz.ntmps10
  go_wp2_with fail
  refine wp_region_ext [(8, is (.tuple #[.int .i64 R.1, .bool R.2]))] ⟨is_stays _, trivial⟩ (by kernel_rfl) (by kernel_rfl) ?_
  refine wpG_calc 1 rfl rfl rfl (fun u => by go_simp; rfl) ?_
  simp only [Act.put, List.setIfInBounds_toArray, List.set_cons_zero, List.set_cons_succ]
  refine wpG_read 2 rfl rfl (.string t) rfl ?_ ?_
  · intro u hu hh
    have hk := HK1.out u hu
    go_simp
  simp only [Act.put, List.setIfInBounds_toArray, List.set_cons_zero, List.set_cons_succ]
  refine wpG_calc 3 rfl rfl rfl (fun u => by go_simp; rfl) ?_
  simp only [Act.put, List.setIfInBounds_toArray, List.set_cons_zero, List.set_cons_succ]
  refine wpG_read 4 rfl rfl (.int .i64 12) rfl ?_ ?_
  · intro u hu hh
    have hk := HK2.out u hu
    go_simp
  simp only [Act.put, List.setIfInBounds_toArray, List.set_cons_zero, List.set_cons_succ]
  refine wpG_calc 5 rfl rfl rfl (fun u => by go_simp; rfl) ?_
  simp only [Act.put, List.setIfInBounds_toArray, List.set_cons_zero, List.set_cons_succ]
  refine wpG_calc 6 rfl rfl rfl (fun u => by go_simp; rfl) ?_
  simp only [Act.put, List.setIfInBounds_toArray, List.set_cons_zero, List.set_cons_succ]
  refine wpG_read 7 rfl rfl (.int .i64 v1) rfl ?_ ?_
  · intro u hu hh
    have hk := HC1.out u hu
    go_simp
  simp only [Act.put, List.setIfInBounds_toArray, List.set_cons_zero, List.set_cons_succ]
  refine wpG_calc 8 rfl rfl rfl (fun u => by go_simp; rfl) ?_
  simp only [Act.put, List.setIfInBounds_toArray, List.set_cons_zero, List.set_cons_succ]
  refine wpG_rel 9 rfl rfl rfl ?_ ?_
  · intro u hu hh
    go_simp
    refine (HM.out u).mono ?_
    rintro e w6 ⟨n6, rfl, hn6, rfl⟩
    exact ⟨_, rfl, by rw [hn6 HV.out, HR.out]; rfl, Below.refl _ _⟩
  intro vN ⟨uN, _, hrN⟩
  obtain rfl : vN = .tuple #[.int .i64 R.1, .bool R.2] := hrN
  simp only [Act.put, List.setIfInBounds_toArray, List.set_cons_zero, List.set_cons_succ]
  refine wpG_calc 10 rfl rfl rfl (fun u => by go_simp; rfl) ?_
  simp only [Act.put, List.setIfInBounds_toArray, List.set_cons_zero, List.set_cons_succ]
  refine wpG_calc 11 rfl rfl rfl (fun u => by go_simp; rfl) ?_
  simp only [Act.put, List.setIfInBounds_toArray, List.set_cons_zero, List.set_cons_succ]
  refine wpG_calc 12 rfl rfl rfl (fun u => by go_simp; rfl) ?_
  simp only [Act.put, List.setIfInBounds_toArray, List.set_cons_zero, List.set_cons_succ]
  refine wpG_calc 13 rfl rfl rfl (fun u => by go_simp; rfl) ?_
  simp only [Act.put, List.setIfInBounds_toArray, List.set_cons_zero, List.set_cons_succ]
  refine wpG_nil fun w4 hb4 hF => ?_
  clear hF
  have HB4 := hid (HB1.out.trans (hb4.mono HB1.out.size))
  clear hb4
  go_wp2_with fail
  go_ret2
  obtain ⟨R1, R2⟩ := R
  rw [← HRR.out]
  cases R2 with
  | true => exact toldBy_some HB4.out
  | false => exact toldBy_none HB4.out

set_option maxRecDepth 100000 in
set_option maxHeartbeats 4000000 in
theorem toldr_two (t : ByteArray) (a : Int) (av sa aa : Option Addr) (n1 cv n2 cs ca : Nat) (v1 v2 : Int) (w : World) (hT : t.data.toList = [73] ∨ t.data.toList = [74]) (hk : 1 ≤ a ∧ a ≤ 11) (h1 : InR v1) (h2 : InR v2) (hf : t.data.toList = [73] → -2147483648 ≤ v1 ∧ v1 ≤ 2147483647) (r : Option Int) (hr : (if (ofOf t.data.toList a v1 v2).2 = true then some (ofOf t.data.toList a v1 v2).1 else none) = r) (haz : Sl w (.slice aa 2 ca) 2 1 ([v1, v2].map iv)) : Calls Tryz.prog 10 #[.agg #[.int .i64 3, .string t, .int .i64 a, .slice av n1 cv, .slice sa n2 cs], .slice aa 2 ca] w (ToldBy w r) := by
  have HM := hid (fun u => rmath_any t a v1 v2 u hT ⟨hk.1, by omega⟩ h1 h2)
  have HV : Hid (t.data.toList = [74] ∨ -2147483648 ≤ v1 ∧ v1 ≤ 2147483647) := hid (hT.elim (fun h => .inr (hf h)) .inl)
  obtain ⟨R, hR⟩ : ∃ R, ofOf t.data.toList a v1 v2 = R := ⟨_, rfl⟩
  have HR := hid hR
  rw [hR] at hr
  have HRR := hid hr
  have ha12 : (a == 12) = false := by simp; omega
  have ha12n : (a != 12) = true := by simp; omega
  clear hR hr hT h1 hf h2 hk
  obtain ⟨X1, hX1⟩ : ∃ X1, w.alloc (.cells #[.int .i64 3, .string t, .int .i64 a, .slice av n1 cv, .slice sa n2 cs] 25) = X1 := ⟨_, rfl⟩
  have HB1 : Hid (Below w.heap.size w X1) := hid (hX1 ▸ ext_alloc _ _)
  have HLT : Hid (w.heap.size < X1.heap.size) := hid (by rw [← hX1]; simp)
  have HXR : Hid (X1.heap[w.heap.size]? = some (.cells #[.int .i64 3, .string t, .int .i64 a, .slice av n1 cv, .slice sa n2 cs] 25 (0, 0))) := hid (by rw [← hX1]; exact heap_alloc_new _ _)
  have HK1 : Hid (∀ u, Below X1.heap.size X1 u → u.cell? ⟨w.heap.size, 1, none⟩ = some (.string t)) := hid (fun u hu => by rw [cell_of_row _ _ _ _ _ _ ((hu.block _ HLT.out).trans HXR.out)]; rfl)
  have HK2 : Hid (∀ u, Below X1.heap.size X1 u → u.cell? ⟨w.heap.size, 2, none⟩ = some (.int .i64 a)) := hid (fun u hu => by rw [cell_of_row _ _ _ _ _ _ ((hu.block _ HLT.out).trans HXR.out)]; rfl)
  have HK3 : Hid (∀ u, Below X1.heap.size X1 u → u.cell? ⟨w.heap.size, 3, none⟩ = some (.slice av n1 cv)) := hid (fun u hu => by rw [cell_of_row _ _ _ _ _ _ ((hu.block _ HLT.out).trans HXR.out)]; rfl)
  have HK4 : Hid (∀ u, Below X1.heap.size X1 u → u.cell? ⟨w.heap.size, 4, none⟩ = some (.slice sa n2 cs)) := hid (fun u hu => by rw [cell_of_row _ _ _ _ _ _ ((hu.block _ HLT.out).trans HXR.out)]; rfl)
  have hq0 : X1.cell? ⟨w.heap.size, 0, none⟩ = some (.int .i64 3) := by rw [cell_of_row _ _ _ _ _ _ HXR.out]; rfl
  have hq2 := HK2.out X1 (Below.refl _ _)
  have hq3 := HK3.out X1 (Below.refl _ _)
  have hq4 := HK4.out X1 (Below.refl _ _)
  obtain ⟨b, off, rfl, u0, hu0, hcell⟩ := Sl.at1 (haz.below HB1.out) (k := 0) (by decide)
  obtain rfl : u0 = .int .i64 v1 := (Option.some.inj hu0).symm
  have hcell0 : X1.cell? ⟨b, off, none⟩ = some (.int .i64 v1) := hcell
  obtain ⟨b', off', hab, u1, hu1, hcell1⟩ := Sl.at1 (haz.below HB1.out) (k := 1) (by decide)
  cases hab
  obtain rfl : u1 = .int .i64 v2 := (Option.some.inj hu1).symm
  have HC1 : Hid (∀ u, Below X1.heap.size X1 u → u.cell? ⟨b, off, none⟩ = some (.int .i64 v1)) := hid (fun u hu => (hu.cell (World.block_lt_of_cell? _ _ hcell0)).trans hcell0)
  clear haz hcell hu0 hu1
  go_enter Tryz.func10, Tryz.ntmps10
  go_wp2_with fail
  refine wp_region_ext [(8, is (.tuple #[.int .i64 R.1, .bool R.2]))] ⟨is_stays _, trivial⟩ (by kernel_rfl) (by kernel_rfl) ?_
  refine wpG_calc 1 rfl rfl rfl (fun u => by go_simp; rfl) ?_
  simp only [Act.put, List.setIfInBounds_toArray, List.set_cons_zero, List.set_cons_succ]
  refine wpG_read 2 rfl rfl (.string t) rfl ?_ ?_
  · intro u hu hh
    have hk := HK1.out u hu
    go_simp
  simp only [Act.put, List.setIfInBounds_toArray, List.set_cons_zero, List.set_cons_succ]
  refine wpG_calc 3 rfl rfl rfl (fun u => by go_simp; rfl) ?_
  simp only [Act.put, List.setIfInBounds_toArray, List.set_cons_zero, List.set_cons_succ]
  refine wpG_read 4 rfl rfl (.int .i64 a) rfl ?_ ?_
  · intro u hu hh
    have hk := HK2.out u hu
    go_simp
  simp only [Act.put, List.setIfInBounds_toArray, List.set_cons_zero, List.set_cons_succ]
  refine wpG_calc 5 rfl rfl rfl (fun u => by go_simp; rfl) ?_
  simp only [Act.put, List.setIfInBounds_toArray, List.set_cons_zero, List.set_cons_succ]
  refine wpG_calc 6 rfl rfl rfl (fun u => by go_simp; rfl) ?_
  simp only [Act.put, List.setIfInBounds_toArray, List.set_cons_zero, List.set_cons_succ]
  refine wpG_read 7 rfl rfl (.int .i64 v1) rfl ?_ ?_
  · intro u hu hh
    have hk := HC1.out u hu
    go_simp
  simp only [Act.put, List.setIfInBounds_toArray, List.set_cons_zero, List.set_cons_succ]
  refine wpG_calc 8 rfl rfl rfl (fun u => by go_simp; rfl) ?_
  simp only [Act.put, List.setIfInBounds_toArray, List.set_cons_zero, List.set_cons_succ]
  refine wpG_rel 9 rfl rfl rfl ?_ ?_
  · intro u hu hh
    go_simp
    refine (HM.out u).mono ?_
    rintro e w6 ⟨n6, rfl, hn6, rfl⟩
    exact ⟨_, rfl, by rw [hn6 HV.out, HR.out]; rfl, Below.refl _ _⟩
  intro vN ⟨uN, _, hrN⟩
  obtain rfl : vN = .tuple #[.int .i64 R.1, .bool R.2] := hrN
  simp only [Act.put, List.setIfInBounds_toArray, List.set_cons_zero, List.set_cons_succ]
  refine wpG_calc 10 rfl rfl rfl (fun u => by go_simp; rfl) ?_
  simp only [Act.put, List.setIfInBounds_toArray, List.set_cons_zero, List.set_cons_succ]
  refine wpG_calc 11 rfl rfl rfl (fun u => by go_simp; rfl) ?_
  simp only [Act.put, List.setIfInBounds_toArray, List.set_cons_zero, List.set_cons_succ]
  refine wpG_calc 12 rfl rfl rfl (fun u => by go_simp; rfl) ?_
  simp only [Act.put, List.setIfInBounds_toArray, List.set_cons_zero, List.set_cons_succ]
  refine wpG_calc 13 rfl rfl rfl (fun u => by go_simp; rfl) ?_
  simp only [Act.put, List.setIfInBounds_toArray, List.set_cons_zero, List.set_cons_succ]
  refine wpG_nil fun w4 hb4 hF => ?_
  clear hF
  have HB4 := hid (HB1.out.trans (hb4.mono HB1.out.size))
  clear hb4
  go_wp2_with fail
  go_ret2
  obtain ⟨R1, R2⟩ := R
  rw [← HRR.out]
  cases R2 with
  | true => exact toldBy_some HB4.out
  | false => exact toldBy_none HB4.out

end Go.Proofs.YtogpgfaojmmemaaGreatDoor.hands

/- Handles told: the document's Told, an arg dropped. Condition: the lists are not long. -/
set_option linter.unusedSimpArgs false
set_option linter.unusedVariables false
namespace Go.Proofs.YtogpgfaojmmemaaGreatDoor.hands
open Go.RowKit Go.Proofs.YtogpgfaojmmemaaGreatDoor.lib Go.Proofs.YtogpgfaojmmemaaGreatDoor.errs Go.Proofs.YtogpgfaojmmemaaGreatDoor.mtypes Go.Proofs.YtogpgfaojmmemaaGreatDoor.grow Go.Proofs.YtogpgfaojmmemaaGreatDoor.nums

theorem infoI2 : (Tryz.prog.info? 3).map (fun i => (i.zero, i.size, i.bytes)) = some (some (.int .i64 0), 1, 8) := by kernel_rfl
theorem one_iv (l : List Int) : ∀ u ∈ l.map iv, u.oneCell' = true := fun u hu => by
  obtain ⟨n, _, rfl⟩ := List.mem_map.1 hu
  rfl

set_option maxRecDepth 100000 in
set_option maxHeartbeats 4000000 in
theorem toldr_drop (t : ByteArray) (i : Nat) (av sa aa : Option Addr) (n1 cv n2 cs ca : Nat) (az : List Int) (w : World) (haz : Sl w (.slice aa az.length ca) az.length 1 (az.map iv)) (hn : az.length ≤ 100) (hi : i < az.length) (l : List Nd) (hl : l.length = n2) (hsl : Sl w (.slice sa n2 cs) n2 5 (l.flatMap Nd.cells)) (y0 : Nd) (hi0 : l[0]? = some y0) (hy0 : NAt w y0) (hm0 : ∀ (u : World) (v : Value), Below w.heap.size w u → Sl u v (az.eraseIdx i).length 1 ((az.eraseIdx i).map iv) → Calls Tryz.prog 10 #[.agg #[.int .i64 y0.k, .string y0.t, .int .i64 y0.a, y0.va, y0.vs], v] u (ToldBy u (toldN y0 (az.eraseIdx i)))) : Calls Tryz.prog 10 #[.agg #[.int .i64 4, .string t, .int .i64 (i : Int), .slice av n1 cv, .slice sa n2 cs], .slice aa az.length ca] w (ToldBy w (toldN y0 (az.eraseIdx i))) := by
  obtain ⟨X1, hX1⟩ : ∃ X1, w.alloc (.cells #[.int .i64 4, .string t, .int .i64 (i : Int), .slice av n1 cv, .slice sa n2 cs] 25) = X1 := ⟨_, rfl⟩
  have HB1 : Hid (Below w.heap.size w X1) := hid (hX1 ▸ ext_alloc _ _)
  have HLT : Hid (w.heap.size < X1.heap.size) := hid (by rw [← hX1]; simp)
  have HXR : Hid (X1.heap[w.heap.size]? = some (.cells #[.int .i64 4, .string t, .int .i64 (i : Int), .slice av n1 cv, .slice sa n2 cs] 25 (0, 0))) := hid (by rw [← hX1]; exact heap_alloc_new _ _)
  have HK1 : Hid (∀ u, Below X1.heap.size X1 u → u.cell? ⟨w.heap.size, 1, none⟩ = some (.string t)) := hid (fun u hu => by rw [cell_of_row _ _ _ _ _ _ ((hu.block _ HLT.out).trans HXR.out)]; rfl)
  have HK2 : Hid (∀ u, Below X1.heap.size X1 u → u.cell? ⟨w.heap.size, 2, none⟩ = some (.int .i64 (i : Int))) := hid (fun u hu => by rw [cell_of_row _ _ _ _ _ _ ((hu.block _ HLT.out).trans HXR.out)]; rfl)
  have HK3 : Hid (∀ u, Below X1.heap.size X1 u → u.cell? ⟨w.heap.size, 3, none⟩ = some (.slice av n1 cv)) := hid (fun u hu => by rw [cell_of_row _ _ _ _ _ _ ((hu.block _ HLT.out).trans HXR.out)]; rfl)
  have HK4 : Hid (∀ u, Below X1.heap.size X1 u → u.cell? ⟨w.heap.size, 4, none⟩ = some (.slice sa n2 cs)) := hid (fun u hu => by rw [cell_of_row _ _ _ _ _ _ ((hu.block _ HLT.out).trans HXR.out)]; rfl)
  have hq0 : X1.cell? ⟨w.heap.size, 0, none⟩ = some (.int .i64 4) := by rw [cell_of_row _ _ _ _ _ _ HXR.out]; rfl
  have hq2 := HK2.out X1 (Below.refl _ _)
  have hq3 := HK3.out X1 (Below.refl _ _)
  have hq4 := HK4.out X1 (Below.refl _ _)
  have hil0 : 0 < l.length := (List.getElem?_eq_some_iff.1 hi0).1
  obtain ⟨b0, off0, hab0, d00, d10, d20, d30, d40⟩ := nd_at (k := 0) (by rw [hl]; exact hsl.below HB1.out) hil0
  rw [(List.getElem?_eq_some_iff.1 hi0).2] at d00 d10 d20 d30 d40
  obtain ⟨p0, q0, e10⟩ := hy0.1.1.val
  obtain ⟨p0', q0', e20⟩ := hy0.1.2.val
  obtain ⟨k0, hk0⟩ : ∃ q, y0.k = q := ⟨_, rfl⟩
  obtain ⟨t0, ht0⟩ : ∃ q, y0.t = q := ⟨_, rfl⟩
  obtain ⟨a0, ha0⟩ : ∃ q, y0.a = q := ⟨_, rfl⟩
  obtain ⟨m0, hm01⟩ : ∃ q, y0.ats.length = q := ⟨_, rfl⟩
  obtain ⟨m0', hm02⟩ : ∃ q, (nodes y0.subs).length = q := ⟨_, rfl⟩
  rw [hm01] at e10
  rw [hm02] at e20
  obtain ⟨r0, hr0⟩ : ∃ R, toldN y0 (az.eraseIdx i) = R := ⟨_, rfl⟩
  have HQ0 := hid hr0
  simp only [hk0, ht0, ha0, e10, e20, hr0] at d00 d10 d20 d30 d40 hm0
  have HM0 := hid hm0
  rw [hr0]
  have hn2 : 0 < n2 := by rw [← hl]; exact hil0
  cases hab0
  have HD0 : Hid (∀ u, Below X1.heap.size X1 u → u.cell? ⟨b0, off0, none⟩ = some (.int .i64 k0) ∧ u.cell? ⟨b0, off0 + 1, none⟩ = some (.string t0) ∧ u.cell? ⟨b0, off0 + 2, none⟩ = some (.int .i64 a0) ∧ u.cell? ⟨b0, off0 + 3, none⟩ = some (.slice p0 m0 q0) ∧ u.cell? ⟨b0, off0 + 4, none⟩ = some (.slice p0' m0' q0')) := hid (fun u hu => by
    have hbl : b0 < X1.heap.size := World.block_lt_of_cell? _ _ d00
    refine ⟨(hu.cell hbl).trans ?_, (hu.cell hbl).trans ?_, (hu.cell hbl).trans ?_, (hu.cell hbl).trans ?_, (hu.cell hbl).trans ?_⟩
    · simpa using d00
    · simpa using d10
    · simpa using d20
    · simpa using d30
    · simpa using d40)
  clear d00 d10 d20 d30 d40 hk0 ht0 ha0 hm01 hm02 e10 e20 hm0 hi0 hil0 hr0 hy0
  obtain ⟨b, off, rfl, _⟩ := Sl.at1 haz hi
  have HAX := hid (haz.below HB1.out)
  have hF0 := HAX.out.take i (by omega)
  rw [Nat.mul_one] at hF0
  have HF := hid hF0
  obtain ⟨v2, hv2, hB2⟩ : ∃ v2, Value.slice (if ca = i + 1 then some ⟨b, off, none⟩ else some ⟨b, off + (i + 1), none⟩) (az.length - (i + 1)) (ca - (i + 1)) = v2 ∧ Sl X1 v2 (az.length - (i + 1)) 1 ((az.map iv).drop (i + 1)) := ⟨_, rfl, by
    have hB := HAX.out.drop (i + 1) (by omega)
    rw [Nat.mul_one] at hB
    by_cases h : ca = i + 1
    · rw [if_pos h] at hB ⊢; exact hB
    · rw [if_neg h] at hB ⊢; simpa [Addr.add_lit] using hB⟩
  have HB := hid hB2
  have hcap := HAX.out.cap.2
  have HLE : Hid ((az.eraseIdx i).length = i + (az.length - (i + 1))) := hid (by rw [List.length_eraseIdx, if_pos hi]; omega)
  have HEC : Hid ((az.map iv).take i ++ (az.map iv).drop (i + 1) = (az.eraseIdx i).map iv) := hid (by rw [List.eraseIdx_eq_take_drop_succ, List.map_append, List.map_take, List.map_drop])
  have O1 := hid (fun u (hu : u ∈ (az.map iv).take i) => one_iv az u (List.mem_of_mem_take hu))
  have O2 := hid (fun u (hu : u ∈ (az.map iv).drop (i + 1)) => one_iv az u (List.mem_of_mem_drop hu))
  have hn2i : (0 : Int) < (n2 : Int) := by omega
  have k2 : (0 : Int) ≤ (i : Int) := by omega
  have k3 : (i : Int) ≤ (ca : Int) := by omega
  have k4 : (i : Int) + 1 ≤ (az.length : Int) := by omega
  have k5 : (0 : Int) ≤ (i : Int) + 1 := by omega
  have k7 : ((i : Int) + 1).toNat = i + 1 := by omega
  have k8 : IntKind.i64.wrap ((i : Int) + 1) = (i : Int) + 1 := by rw [IntKind.wrap_i64]; omega
  have k6 : (az.length : Int) ≤ (ca : Int) := by omega
  clear haz hsl hl hB2 hi hF0
  go_enter Tryz.func10, Tryz.ntmps10
  go_wp2_with fail
  refine wp_region_c (fun u => Below X1.heap.size X1 u) (by kernel_rfl) ?_
  have HC0 : Hid (Below X1.heap.size X1 X1.drew) := hid (Below.refl _ _).drew
  refine c_take 0 _ _ rfl (by kernel_rfl) (by kernel_rfl) (by kernel_rfl) rfl (fun c a' w' h => ⟨(putC_defers _ _ _).symm.trans h.1, h.2⟩) HC0.out (fun u hu => by
    go_simp; rfl) ?_
  simp only [List.getElem_toArray, List.getElem_cons_zero, List.getElem_cons_succ, Act.put, List.setIfInBounds_toArray, List.set_cons_zero, List.set_cons_succ]
  refine c_take 1 _ _ rfl (by kernel_rfl) (by kernel_rfl) (by kernel_rfl) rfl (fun c a' w' h => ⟨(putC_defers _ _ _).symm.trans h.1, h.2⟩) HC0.out (fun u hu => by
    have hk := HK4.out u hu
    go_simp; rfl) ?_
  simp only [List.getElem_toArray, List.getElem_cons_zero, List.getElem_cons_succ, Act.put, List.setIfInBounds_toArray, List.set_cons_zero, List.set_cons_succ]
  refine c_take 2 _ _ rfl (by kernel_rfl) (by kernel_rfl) (by kernel_rfl) rfl (fun c a' w' h => ⟨(putC_defers _ _ _).symm.trans h.1, h.2⟩) HC0.out (fun u hu => by
    go_simp; rfl) ?_
  simp only [List.getElem_toArray, List.getElem_cons_zero, List.getElem_cons_succ, Act.put, List.setIfInBounds_toArray, List.set_cons_zero, List.set_cons_succ]
  refine c_take 3 _ _ rfl (by kernel_rfl) (by kernel_rfl) (by kernel_rfl) rfl (fun c a' w' h => ⟨(putC_defers _ _ _).symm.trans h.1, h.2⟩) HC0.out (fun u hu => by
    obtain ⟨g0, g1, g2, g3, g4⟩ := HD0.out u hu
    go_simp; rfl) ?_
  simp only [List.getElem_toArray, List.getElem_cons_zero, List.getElem_cons_succ, Act.put, List.setIfInBounds_toArray, List.set_cons_zero, List.set_cons_succ]
  refine c_take 5 _ _ rfl (by kernel_rfl) (by kernel_rfl) (by kernel_rfl) rfl (fun c a' w' h => ⟨(putC_defers _ _ _).symm.trans h.1, h.2⟩) HC0.out (fun u hu => by
    go_simp; rfl) ?_
  simp only [List.getElem_toArray, List.getElem_cons_zero, List.getElem_cons_succ, Act.put, List.setIfInBounds_toArray, List.set_cons_zero, List.set_cons_succ]
  refine c_take 6 _ _ rfl (by kernel_rfl) (by kernel_rfl) (by kernel_rfl) rfl (fun c a' w' h => ⟨(putC_defers _ _ _).symm.trans h.1, h.2⟩) HC0.out (fun u hu => by
    go_simp; rfl) ?_
  simp only [List.getElem_toArray, List.getElem_cons_zero, List.getElem_cons_succ, Act.put, List.setIfInBounds_toArray, List.set_cons_zero, List.set_cons_succ]
  refine c_take 7 _ _ rfl (by kernel_rfl) (by kernel_rfl) (by kernel_rfl) rfl (fun c a' w' h => ⟨(putC_defers _ _ _).symm.trans h.1, h.2⟩) HC0.out (fun u hu => by
    have hk := HK2.out u hu
    go_simp; rfl) ?_
  simp only [List.getElem_toArray, List.getElem_cons_zero, List.getElem_cons_succ, Act.put, List.setIfInBounds_toArray, List.set_cons_zero, List.set_cons_succ]
  refine c_take 8 _ _ rfl (by kernel_rfl) (by kernel_rfl) (by kernel_rfl) rfl (fun c a' w' h => ⟨(putC_defers _ _ _).symm.trans h.1, h.2⟩) HC0.out (fun u hu => by
    go_simp; rfl) ?_
  simp only [List.getElem_toArray, List.getElem_cons_zero, List.getElem_cons_succ, Act.put, List.setIfInBounds_toArray, List.set_cons_zero, List.set_cons_succ]
  refine c_take 10 _ _ rfl (by kernel_rfl) (by kernel_rfl) (by kernel_rfl) rfl (fun c a' w' h => ⟨(putC_defers _ _ _).symm.trans h.1, h.2⟩) HC0.out (fun u hu => by
    go_simp; rfl) ?_
  simp only [List.getElem_toArray, List.getElem_cons_zero, List.getElem_cons_succ, Act.put, List.setIfInBounds_toArray, List.set_cons_zero, List.set_cons_succ]
  refine c_take 11 _ _ rfl (by kernel_rfl) (by kernel_rfl) (by kernel_rfl) rfl (fun c a' w' h => ⟨(putC_defers _ _ _).symm.trans h.1, h.2⟩) HC0.out (fun u hu => by
    go_simp; rfl) ?_
  simp only [List.getElem_toArray, List.getElem_cons_zero, List.getElem_cons_succ, Act.put, List.setIfInBounds_toArray, List.set_cons_zero, List.set_cons_succ]
  refine c_take 12 _ _ rfl (by kernel_rfl) (by kernel_rfl) (by kernel_rfl) rfl (fun c a' w' h => ⟨(putC_defers _ _ _).symm.trans h.1, h.2⟩) HC0.out (fun u hu => by
    have hk := HK2.out u hu
    go_simp; rfl) ?_
  simp only [List.getElem_toArray, List.getElem_cons_zero, List.getElem_cons_succ, Act.put, List.setIfInBounds_toArray, List.set_cons_zero, List.set_cons_succ]
  refine c_take 13 _ _ rfl (by kernel_rfl) (by kernel_rfl) (by kernel_rfl) rfl (fun c a' w' h => ⟨(putC_defers _ _ _).symm.trans h.1, h.2⟩) HC0.out (fun u hu => by
    go_simp; rfl) ?_
  simp only [List.getElem_toArray, List.getElem_cons_zero, List.getElem_cons_succ, Act.put, List.setIfInBounds_toArray, List.set_cons_zero, List.set_cons_succ]
  refine c_take 14 _ _ rfl (by kernel_rfl) (by kernel_rfl) (by kernel_rfl) rfl (fun c a' w' h => ⟨(putC_defers _ _ _).symm.trans h.1, h.2⟩) HC0.out (fun u hu => by
    go_simp; rfl) ?_
  simp only [List.getElem_toArray, List.getElem_cons_zero, List.getElem_cons_succ, Act.put, List.setIfInBounds_toArray, List.set_cons_zero, List.set_cons_succ]
  refine c_only 4 _ rfl (by kernel_rfl) ?_
  go_simp
  have HO4 := hid (Out.made X1.drew 3 1)
  have HC4 := hid (HC0.out.trans (HO4.out.below.mono HC0.out.size))
  refine ⟨HC4.out, ?_⟩
  refine c_only 9 _ rfl (by kernel_rfl) ?_
  refine step_append_src X1.drew _ rfl _ _ 22 rfl 3 (.int .i64 0) 1 8 i Tryz.underlying22 infoI2 rfl (by decide) _ _ _ HO4.out rfl _ _ (HF.out.below HC4.out) rfl O1.out (by omega) (by omega) (fun v9 w9 ho hg => ?_)
  have HO9 := hid ho
  have HC9 := hid (HC0.out.trans (ho.below.mono HC0.out.size))
  clear ho hg
  refine ⟨HC9.out, ?_⟩
  simp only [List.getElem_toArray, List.getElem_cons_zero, List.getElem_cons_succ, Act.put, List.setIfInBounds_toArray, List.set_cons_zero, List.set_cons_succ]
  refine c_only 15 _ rfl (by kernel_rfl) ?_
  refine step_append_src X1.drew _ rfl _ _ 22 rfl 3 (.int .i64 0) 1 8 (az.length - (i + 1)) Tryz.underlying22 infoI2 rfl (by decide) _ _ _ HO9.out rfl _ _ (HB.out.below HC9.out) rfl O2.out (by omega) (by omega) (fun v15 w15 ho hg => ?_)
  have HO15 := hid ho
  have HC15 := hid (HC0.out.trans (ho.below.mono HC0.out.size))
  clear ho hg
  refine ⟨HC15.out, ?_⟩
  simp only [List.getElem_toArray, List.getElem_cons_zero, List.getElem_cons_succ, Act.put, List.setIfInBounds_toArray, List.set_cons_zero, List.set_cons_succ]
  have HS15 : Hid (Sl w15 v15 (az.eraseIdx i).length 1 ((az.eraseIdx i).map iv)) := hid (by
    have h := HO15.out.sl
    rw [HLE.out, ← HEC.out]
    simpa using h)
  refine c_only 16 _ rfl (by kernel_rfl) ?_
  go_simp
  refine (HM0.out _ _ (HB1.out.trans (HC15.out.mono HB1.out.size)) HS15.out).mono ?_
  intro e w16 h16
  obtain ⟨n16, b16, rfl, hb16, ht16⟩ := toldBy_cases h16
  have HC16 := hid (HC15.out.trans (hb16.mono HC15.out.size))
  have HT16 := hid ht16
  clear h16 hb16 ht16
  refine ⟨HC16.out, ?_⟩

  refine c_take 17 _ _ rfl (by kernel_rfl) (by kernel_rfl) (by kernel_rfl) rfl (fun c a' w' h => ⟨(putC_defers _ _ _).symm.trans h.1, h.2⟩) HC16.out (fun u hu => by
    go_simp; rfl) ?_
  simp only [List.getElem_toArray, List.getElem_cons_zero, List.getElem_cons_succ, Act.put, List.setIfInBounds_toArray, List.set_cons_zero, List.set_cons_succ]
  refine c_take 18 _ _ rfl (by kernel_rfl) (by kernel_rfl) (by kernel_rfl) rfl (fun c a' w' h => ⟨(putC_defers _ _ _).symm.trans h.1, h.2⟩) HC16.out (fun u hu => by
    go_simp; rfl) ?_
  simp only [List.getElem_toArray, List.getElem_cons_zero, List.getElem_cons_succ, Act.put, List.setIfInBounds_toArray, List.set_cons_zero, List.set_cons_succ]
  refine c_take 19 _ _ rfl (by kernel_rfl) (by kernel_rfl) (by kernel_rfl) rfl (fun c a' w' h => ⟨(putC_defers _ _ _).symm.trans h.1, h.2⟩) HC16.out (fun u hu => by
    go_simp; rfl) ?_
  simp only [List.getElem_toArray, List.getElem_cons_zero, List.getElem_cons_succ, Act.put, List.setIfInBounds_toArray, List.set_cons_zero, List.set_cons_succ]
  refine c_take 20 _ _ rfl (by kernel_rfl) (by kernel_rfl) (by kernel_rfl) rfl (fun c a' w' h => ⟨(putC_defers _ _ _).symm.trans h.1, h.2⟩) HC16.out (fun u hu => by
    go_simp; rfl) ?_
  simp only [List.getElem_toArray, List.getElem_cons_zero, List.getElem_cons_succ, Act.put, List.setIfInBounds_toArray, List.set_cons_zero, List.set_cons_succ]
  refine c_end (by kernel_rfl) ?_
  go_wp2
  go_ret2
  exact toldBy_mk HT16.out (HB1.out.trans (HC16.out.mono HB1.out.size))
end Go.Proofs.YtogpgfaojmmemaaGreatDoor.hands

/- Handles told: the document's Told, an arg bound. Condition: the lists are not long. -/
set_option linter.unusedSimpArgs false
set_option linter.unusedVariables false
namespace Go.Proofs.YtogpgfaojmmemaaGreatDoor.hands
open Go.RowKit Go.Proofs.YtogpgfaojmmemaaGreatDoor.lib Go.Proofs.YtogpgfaojmmemaaGreatDoor.errs Go.Proofs.YtogpgfaojmmemaaGreatDoor.mtypes Go.Proofs.YtogpgfaojmmemaaGreatDoor.grow Go.Proofs.YtogpgfaojmmemaaGreatDoor.nums

theorem sl0' (u : World) : Sl u (.slice none 0 0) ([] : List Int).length 1 (([] : List Int).map iv) := ⟨rfl, none, 0, rfl, Nat.le_refl _, .inl rfl⟩

set_option maxRecDepth 100000 in
set_option maxHeartbeats 4000000 in
theorem toldr_bind_none (t : ByteArray) (i : Nat) (av sa aa : Option Addr) (n1 cv n2 cs ca : Nat) (az : List Int) (w : World) (haz : Sl w (.slice aa az.length ca) az.length 1 (az.map iv)) (hn : az.length ≤ 100) (hi : i ≤ az.length) (l : List Nd) (hl : l.length = n2) (hsl : Sl w (.slice sa n2 cs) n2 5 (l.flatMap Nd.cells)) (y1 : Nd) (hi1 : l[1]? = some y1) (hy1 : NAt w y1) (hm1 : ∀ (u : World) (v : Value), Below w.heap.size w u → Sl u v (([] : List Int)).length 1 ((([] : List Int)).map iv) → Calls Tryz.prog 10 #[.agg #[.int .i64 y1.k, .string y1.t, .int .i64 y1.a, y1.va, y1.vs], v] u (ToldBy u (toldN y1 (([] : List Int))))) (hm0 : toldN y1 [] = none) : Calls Tryz.prog 10 #[.agg #[.int .i64 5, .string t, .int .i64 (i : Int), .slice av n1 cv, .slice sa n2 cs], .slice aa az.length ca] w (ToldBy w none) := by
  obtain ⟨X1, hX1⟩ : ∃ X1, w.alloc (.cells #[.int .i64 5, .string t, .int .i64 (i : Int), .slice av n1 cv, .slice sa n2 cs] 25) = X1 := ⟨_, rfl⟩
  have HB1 : Hid (Below w.heap.size w X1) := hid (hX1 ▸ ext_alloc _ _)
  have HLT : Hid (w.heap.size < X1.heap.size) := hid (by rw [← hX1]; simp)
  have HXR : Hid (X1.heap[w.heap.size]? = some (.cells #[.int .i64 5, .string t, .int .i64 (i : Int), .slice av n1 cv, .slice sa n2 cs] 25 (0, 0))) := hid (by rw [← hX1]; exact heap_alloc_new _ _)
  have HK1 : Hid (∀ u, Below X1.heap.size X1 u → u.cell? ⟨w.heap.size, 1, none⟩ = some (.string t)) := hid (fun u hu => by rw [cell_of_row _ _ _ _ _ _ ((hu.block _ HLT.out).trans HXR.out)]; rfl)
  have HK2 : Hid (∀ u, Below X1.heap.size X1 u → u.cell? ⟨w.heap.size, 2, none⟩ = some (.int .i64 (i : Int))) := hid (fun u hu => by rw [cell_of_row _ _ _ _ _ _ ((hu.block _ HLT.out).trans HXR.out)]; rfl)
  have HK3 : Hid (∀ u, Below X1.heap.size X1 u → u.cell? ⟨w.heap.size, 3, none⟩ = some (.slice av n1 cv)) := hid (fun u hu => by rw [cell_of_row _ _ _ _ _ _ ((hu.block _ HLT.out).trans HXR.out)]; rfl)
  have HK4 : Hid (∀ u, Below X1.heap.size X1 u → u.cell? ⟨w.heap.size, 4, none⟩ = some (.slice sa n2 cs)) := hid (fun u hu => by rw [cell_of_row _ _ _ _ _ _ ((hu.block _ HLT.out).trans HXR.out)]; rfl)
  have hq0 : X1.cell? ⟨w.heap.size, 0, none⟩ = some (.int .i64 5) := by rw [cell_of_row _ _ _ _ _ _ HXR.out]; rfl
  have hq2 := HK2.out X1 (Below.refl _ _)
  have hq3 := HK3.out X1 (Below.refl _ _)
  have hq4 := HK4.out X1 (Below.refl _ _)
  have HNO := hid hm0
  have hil1 : 1 < l.length := (List.getElem?_eq_some_iff.1 hi1).1
  obtain ⟨b1, off1, hab1, d01, d11, d21, d31, d41⟩ := nd_at (k := 1) (by rw [hl]; exact hsl.below HB1.out) hil1
  rw [(List.getElem?_eq_some_iff.1 hi1).2] at d01 d11 d21 d31 d41
  obtain ⟨p1, q1, e11⟩ := hy1.1.1.val
  obtain ⟨p1', q1', e21⟩ := hy1.1.2.val
  obtain ⟨k1, hk1⟩ : ∃ q, y1.k = q := ⟨_, rfl⟩
  obtain ⟨t1, ht1⟩ : ∃ q, y1.t = q := ⟨_, rfl⟩
  obtain ⟨a1, ha1⟩ : ∃ q, y1.a = q := ⟨_, rfl⟩
  obtain ⟨m1, hm11⟩ : ∃ q, y1.ats.length = q := ⟨_, rfl⟩
  obtain ⟨m1', hm12⟩ : ∃ q, (nodes y1.subs).length = q := ⟨_, rfl⟩
  rw [hm11] at e11
  rw [hm12] at e21
  obtain ⟨r1, hr1⟩ : ∃ R, toldN y1 (([] : List Int)) = R := ⟨_, rfl⟩
  have HQ1 := hid hr1
  simp only [hk1, ht1, ha1, e11, e21, hr1] at d01 d11 d21 d31 d41 hm1
  have HM1 := hid hm1
  have hn2 : 1 < n2 := by rw [← hl]; exact hil1
  have hn2i : (1 : Int) < (n2 : Int) := by omega
  have hn20 : (0 : Int) < (n2 : Int) := by omega
  have hn2z : 0 < n2 := by omega
  cases hab1
  have HD1 : Hid (∀ u, Below X1.heap.size X1 u → u.cell? ⟨b1, off1 + 5, none⟩ = some (.int .i64 k1) ∧ u.cell? ⟨b1, off1 + 6, none⟩ = some (.string t1) ∧ u.cell? ⟨b1, off1 + 7, none⟩ = some (.int .i64 a1) ∧ u.cell? ⟨b1, off1 + 8, none⟩ = some (.slice p1 m1 q1) ∧ u.cell? ⟨b1, off1 + 9, none⟩ = some (.slice p1' m1' q1')) := hid (fun u hu => by
    have hbl : b1 < X1.heap.size := World.block_lt_of_cell? _ _ d01
    refine ⟨(hu.cell hbl).trans ?_, (hu.cell hbl).trans ?_, (hu.cell hbl).trans ?_, (hu.cell hbl).trans ?_, (hu.cell hbl).trans ?_⟩
    · simpa using d01
    · simpa using d11
    · simpa using d21
    · simpa using d31
    · simpa using d41)
  clear d01 d11 d21 d31 d41 hk1 ht1 ha1 hm11 hm12 e11 e21 hm1 hi1 hil1 hr1 hy1
  obtain rfl : r1 = none := HQ1.out.symm.trans HNO.out
  obtain ⟨g0, g1, g2, g3, g4⟩ := HD1.out X1 (Below.refl _ _)
  clear haz hsl hl hi hm0
  go_enter Tryz.func10, Tryz.ntmps10
  go_wp2_with fail
  refine (HM1.out _ _ HB1.out (sl0' _)).mono ?_
  intro e w2 h2
  obtain ⟨n2', b2, rfl, hb2, ht2⟩ := toldBy_cases h2

  cases b2 with
  | true => cases ht2
  | false =>
    have HB2 := hid (HB1.out.trans (hb2.mono HB1.out.size))
    clear hb2 ht2 h2
    go_wp2
    go_ret2
    exact toldBy_none HB2.out

set_option maxRecDepth 100000 in
set_option maxHeartbeats 4000000 in
theorem toldr_bind_some (t : ByteArray) (m : Int) (i : Nat) (av sa : Option Addr) (b off : Nat) (n1 cv n2 cs ca : Nat) (az : List Int) (w : World) (haz : Sl w (.slice (some ⟨b, off, none⟩) az.length ca) az.length 1 (az.map iv)) (hn : az.length ≤ 100) (hi : i ≤ az.length) (l : List Nd) (hl : l.length = n2) (hsl : Sl w (.slice sa n2 cs) n2 5 (l.flatMap Nd.cells)) (y0 : Nd) (hi0 : l[0]? = some y0) (hy0 : NAt w y0) (hm0 : ∀ (u : World) (v : Value), Below w.heap.size w u → Sl u v (insAt az i m).length 1 ((insAt az i m).map iv) → Calls Tryz.prog 10 #[.agg #[.int .i64 y0.k, .string y0.t, .int .i64 y0.a, y0.va, y0.vs], v] u (ToldBy u (toldN y0 (insAt az i m)))) (y1 : Nd) (hi1 : l[1]? = some y1) (hy1 : NAt w y1) (hm1 : ∀ (u : World) (v : Value), Below w.heap.size w u → Sl u v (([] : List Int)).length 1 ((([] : List Int)).map iv) → Calls Tryz.prog 10 #[.agg #[.int .i64 y1.k, .string y1.t, .int .i64 y1.a, y1.va, y1.vs], v] u (ToldBy u (toldN y1 (([] : List Int))))) (hm2 : toldN y1 [] = some m) : Calls Tryz.prog 10 #[.agg #[.int .i64 5, .string t, .int .i64 (i : Int), .slice av n1 cv, .slice sa n2 cs], .slice (some ⟨b, off, none⟩) az.length ca] w (ToldBy w (toldN y0 (insAt az i m))) := by
  obtain ⟨X1, hX1⟩ : ∃ X1, w.alloc (.cells #[.int .i64 5, .string t, .int .i64 (i : Int), .slice av n1 cv, .slice sa n2 cs] 25) = X1 := ⟨_, rfl⟩
  have HB1 : Hid (Below w.heap.size w X1) := hid (hX1 ▸ ext_alloc _ _)
  have HLT : Hid (w.heap.size < X1.heap.size) := hid (by rw [← hX1]; simp)
  have HXR : Hid (X1.heap[w.heap.size]? = some (.cells #[.int .i64 5, .string t, .int .i64 (i : Int), .slice av n1 cv, .slice sa n2 cs] 25 (0, 0))) := hid (by rw [← hX1]; exact heap_alloc_new _ _)
  have HK1 : Hid (∀ u, Below X1.heap.size X1 u → u.cell? ⟨w.heap.size, 1, none⟩ = some (.string t)) := hid (fun u hu => by rw [cell_of_row _ _ _ _ _ _ ((hu.block _ HLT.out).trans HXR.out)]; rfl)
  have HK2 : Hid (∀ u, Below X1.heap.size X1 u → u.cell? ⟨w.heap.size, 2, none⟩ = some (.int .i64 (i : Int))) := hid (fun u hu => by rw [cell_of_row _ _ _ _ _ _ ((hu.block _ HLT.out).trans HXR.out)]; rfl)
  have HK3 : Hid (∀ u, Below X1.heap.size X1 u → u.cell? ⟨w.heap.size, 3, none⟩ = some (.slice av n1 cv)) := hid (fun u hu => by rw [cell_of_row _ _ _ _ _ _ ((hu.block _ HLT.out).trans HXR.out)]; rfl)
  have HK4 : Hid (∀ u, Below X1.heap.size X1 u → u.cell? ⟨w.heap.size, 4, none⟩ = some (.slice sa n2 cs)) := hid (fun u hu => by rw [cell_of_row _ _ _ _ _ _ ((hu.block _ HLT.out).trans HXR.out)]; rfl)
  have hq0 : X1.cell? ⟨w.heap.size, 0, none⟩ = some (.int .i64 5) := by rw [cell_of_row _ _ _ _ _ _ HXR.out]; rfl
  have hq2 := HK2.out X1 (Below.refl _ _)
  have hq3 := HK3.out X1 (Below.refl _ _)
  have hq4 := HK4.out X1 (Below.refl _ _)
  have HYES := hid hm2
  have hil0 : 0 < l.length := (List.getElem?_eq_some_iff.1 hi0).1
  obtain ⟨b0, off0, hab0, d00, d10, d20, d30, d40⟩ := nd_at (k := 0) (by rw [hl]; exact hsl.below HB1.out) hil0
  rw [(List.getElem?_eq_some_iff.1 hi0).2] at d00 d10 d20 d30 d40
  obtain ⟨p0, q0, e10⟩ := hy0.1.1.val
  obtain ⟨p0', q0', e20⟩ := hy0.1.2.val
  obtain ⟨k0, hk0⟩ : ∃ q, y0.k = q := ⟨_, rfl⟩
  obtain ⟨t0, ht0⟩ : ∃ q, y0.t = q := ⟨_, rfl⟩
  obtain ⟨a0, ha0⟩ : ∃ q, y0.a = q := ⟨_, rfl⟩
  obtain ⟨m0, hm01⟩ : ∃ q, y0.ats.length = q := ⟨_, rfl⟩
  obtain ⟨m0', hm02⟩ : ∃ q, (nodes y0.subs).length = q := ⟨_, rfl⟩
  rw [hm01] at e10
  rw [hm02] at e20
  obtain ⟨r0, hr0⟩ : ∃ R, toldN y0 (insAt az i m) = R := ⟨_, rfl⟩
  have HQ0 := hid hr0
  simp only [hk0, ht0, ha0, e10, e20, hr0] at d00 d10 d20 d30 d40 hm0
  have HM0 := hid hm0
  have hil1 : 1 < l.length := (List.getElem?_eq_some_iff.1 hi1).1
  obtain ⟨b1, off1, hab1, d01, d11, d21, d31, d41⟩ := nd_at (k := 1) (by rw [hl]; exact hsl.below HB1.out) hil1
  rw [(List.getElem?_eq_some_iff.1 hi1).2] at d01 d11 d21 d31 d41
  obtain ⟨p1, q1, e11⟩ := hy1.1.1.val
  obtain ⟨p1', q1', e21⟩ := hy1.1.2.val
  obtain ⟨k1, hk1⟩ : ∃ q, y1.k = q := ⟨_, rfl⟩
  obtain ⟨t1, ht1⟩ : ∃ q, y1.t = q := ⟨_, rfl⟩
  obtain ⟨a1, ha1⟩ : ∃ q, y1.a = q := ⟨_, rfl⟩
  obtain ⟨m1, hm11⟩ : ∃ q, y1.ats.length = q := ⟨_, rfl⟩
  obtain ⟨m1', hm12⟩ : ∃ q, (nodes y1.subs).length = q := ⟨_, rfl⟩
  rw [hm11] at e11
  rw [hm12] at e21
  obtain ⟨r1, hr1⟩ : ∃ R, toldN y1 (([] : List Int)) = R := ⟨_, rfl⟩
  have HQ1 := hid hr1
  simp only [hk1, ht1, ha1, e11, e21, hr1] at d01 d11 d21 d31 d41 hm1
  have HM1 := hid hm1
  rw [hr0]
  have hn2 : 1 < n2 := by rw [← hl]; exact hil1
  have hn2i : (1 : Int) < (n2 : Int) := by omega
  have hn20 : (0 : Int) < (n2 : Int) := by omega
  have hn2z : 0 < n2 := by omega
  cases hab0
  cases hab1
  have HD0 : Hid (∀ u, Below X1.heap.size X1 u → u.cell? ⟨b0, off0, none⟩ = some (.int .i64 k0) ∧ u.cell? ⟨b0, off0 + 1, none⟩ = some (.string t0) ∧ u.cell? ⟨b0, off0 + 2, none⟩ = some (.int .i64 a0) ∧ u.cell? ⟨b0, off0 + 3, none⟩ = some (.slice p0 m0 q0) ∧ u.cell? ⟨b0, off0 + 4, none⟩ = some (.slice p0' m0' q0')) := hid (fun u hu => by
    have hbl : b0 < X1.heap.size := World.block_lt_of_cell? _ _ d00
    refine ⟨(hu.cell hbl).trans ?_, (hu.cell hbl).trans ?_, (hu.cell hbl).trans ?_, (hu.cell hbl).trans ?_, (hu.cell hbl).trans ?_⟩
    · simpa using d00
    · simpa using d10
    · simpa using d20
    · simpa using d30
    · simpa using d40)
  clear d00 d10 d20 d30 d40 hk0 ht0 ha0 hm01 hm02 e10 e20 hm0 hi0 hil0 hr0 hy0
  have HD1 : Hid (∀ u, Below X1.heap.size X1 u → u.cell? ⟨b0, off0 + 5, none⟩ = some (.int .i64 k1) ∧ u.cell? ⟨b0, off0 + 6, none⟩ = some (.string t1) ∧ u.cell? ⟨b0, off0 + 7, none⟩ = some (.int .i64 a1) ∧ u.cell? ⟨b0, off0 + 8, none⟩ = some (.slice p1 m1 q1) ∧ u.cell? ⟨b0, off0 + 9, none⟩ = some (.slice p1' m1' q1')) := hid (fun u hu => by
    have hbl : b0 < X1.heap.size := World.block_lt_of_cell? _ _ d01
    refine ⟨(hu.cell hbl).trans ?_, (hu.cell hbl).trans ?_, (hu.cell hbl).trans ?_, (hu.cell hbl).trans ?_, (hu.cell hbl).trans ?_⟩
    · simpa using d01
    · simpa using d11
    · simpa using d21
    · simpa using d31
    · simpa using d41)
  clear d01 d11 d21 d31 d41 hk1 ht1 ha1 hm11 hm12 e11 e21 hm1 hi1 hil1 hr1 hy1
  obtain rfl : r1 = some m := HQ1.out.symm.trans HYES.out
  obtain ⟨g0, g1, g2, g3, g4⟩ := HD1.out X1 (Below.refl _ _)
  have HAX := hid (haz.below HB1.out)
  have hF0 := HAX.out.take i (by omega)
  rw [Nat.mul_one] at hF0
  have HF := hid hF0
  obtain ⟨v2, hv2, hB2⟩ : ∃ v2, Value.slice (if ca = i then some ⟨b, off, none⟩ else some ⟨b, off + i, none⟩) (az.length - i) (ca - i) = v2 ∧ Sl X1 v2 (az.length - i) 1 ((az.map iv).drop i) := ⟨_, rfl, by
    have hB := HAX.out.drop i (by omega)
    rw [Nat.mul_one] at hB
    by_cases h : ca = i
    · rw [if_pos h] at hB ⊢; exact hB
    · rw [if_neg h] at hB ⊢; simpa [Addr.add_lit] using hB⟩
  have HB := hid hB2
  have hcap := HAX.out.cap.2
  have HLE : Hid ((insAt az i m).length = i + 1 + (az.length - i)) := hid (by rw [insAt_len m hi]; omega)
  have HEC : Hid ((az.map iv).take i ++ [iv m] ++ (az.map iv).drop i = (insAt az i m).map iv) := hid (by unfold insAt; rw [List.map_append, List.map_cons, List.map_take, List.map_drop, List.append_assoc]; rfl)
  have O1 := hid (fun u (hu : u ∈ (az.map iv).take i) => one_iv az u (List.mem_of_mem_take hu))
  have O2 := hid (fun u (hu : u ∈ (az.map iv).drop i) => one_iv az u (List.mem_of_mem_drop hu))
  have k2 : (0 : Int) ≤ (i : Int) := by omega
  have k3 : (i : Int) ≤ (ca : Int) := by omega
  have k4 : (i : Int) ≤ (az.length : Int) := by omega
  have k6 : (az.length : Int) ≤ (ca : Int) := by omega
  clear haz hsl hl hB2 hi hF0 hm2
  go_enter Tryz.func10, Tryz.ntmps10
  go_wp2_with fail
  refine (HM1.out _ _ HB1.out (sl0' _)).mono ?_
  intro e w2 h2
  obtain ⟨n2', b2, rfl, hb2, ht2⟩ := toldBy_cases h2

  cases b2 with
  | false => cases ht2
  | true =>
    obtain rfl : n2' = m := (Option.some.inj ht2).symm
    have HX2 := hid hb2
    have HB2 := hid (HB1.out.trans (hb2.mono HB1.out.size))
    have hq0 := hid hq0
    clear hq0
    have hq2 : w2.cell? ⟨w.heap.size, 2, none⟩ = some (.int .i64 (i : Int)) := HK2.out w2 hb2
    clear hb2 ht2 h2 g0 g1 g2 g3 g4
    have HO2 := hid (Out.made w2 3 1)
    have HF2 := hid (HF.out.below (HX2.out.trans (HO2.out.below.mono HX2.out.size)))
    have hmk : w2.heap.size < (w2.alloc (.cells #[] 3)).heap.size := by simp
    have hq2' : (w2.alloc (.cells #[] 3)).cell? ⟨w.heap.size, 2, none⟩ = some (.int .i64 (i : Int)) := HK2.out _ (HX2.out.trans (HO2.out.below.mono HX2.out.size))
    go_wp2_with (at_builtin; refine wpList_append_src w2 _ rfl _ _ 22 rfl 3 (.int .i64 0) 1 8 i Tryz.underlying22 infoI2 rfl (by decide) _ _ _ HO2.out rfl _ _ HF2.out rfl O1.out ?_ ?_ ?_)
    all_goals first | (intro v3 w3 ho3 hg3) | omega | skip
    have HO3 := hid ho3
    clear ho3 hg3 hmk
    go_wp2_with (at_builtin; refine wpList_append_lit w2 w3 _ rfl _ _ 22 rfl 3 (.int .i64 0) 1 8 1 Tryz.underlying22 infoI2 rfl (by decide) _ _ _ HO3.out rfl rfl rfl ?_ ?_ ?_ ?_)
    all_goals first | (intro v4 w4 ho4 hg4) | omega | (simp [Value.oneCell']; done) | skip
    have HO4 := hid ho4
    have HX4 := hid (HX2.out.trans (ho4.below.mono HX2.out.size))
    clear ho4 hg4 hq2 hq2'
    obtain ⟨a4, c4, rfl⟩ := HO4.out.sl.val
    go_wp2_with fail
    refine wp_region_c (fun u => Below X1.heap.size X1 u) (by kernel_rfl) ?_
    have HC0 : Hid (Below X1.heap.size X1 w4.drew) := hid HX4.out.drew
    refine c_take 0 _ _ rfl (by kernel_rfl) (by kernel_rfl) (by kernel_rfl) rfl (fun c a' w' h => ⟨(putC_defers _ _ _).symm.trans h.1, h.2⟩) HC0.out (fun u hu => by
      go_simp; rfl) ?_
    simp only [List.getElem_toArray, List.getElem_cons_zero, List.getElem_cons_succ, Act.put, List.setIfInBounds_toArray, List.set_cons_zero, List.set_cons_succ]
    refine c_take 1 _ _ rfl (by kernel_rfl) (by kernel_rfl) (by kernel_rfl) rfl (fun c a' w' h => ⟨(putC_defers _ _ _).symm.trans h.1, h.2⟩) HC0.out (fun u hu => by
      have hk := HK4.out u hu
      go_simp; rfl) ?_
    simp only [List.getElem_toArray, List.getElem_cons_zero, List.getElem_cons_succ, Act.put, List.setIfInBounds_toArray, List.set_cons_zero, List.set_cons_succ]
    refine c_take 2 _ _ rfl (by kernel_rfl) (by kernel_rfl) (by kernel_rfl) rfl (fun c a' w' h => ⟨(putC_defers _ _ _).symm.trans h.1, h.2⟩) HC0.out (fun u hu => by
      go_simp; rfl) ?_
    simp only [List.getElem_toArray, List.getElem_cons_zero, List.getElem_cons_succ, Act.put, List.setIfInBounds_toArray, List.set_cons_zero, List.set_cons_succ]
    refine c_take 3 _ _ rfl (by kernel_rfl) (by kernel_rfl) (by kernel_rfl) rfl (fun c a' w' h => ⟨(putC_defers _ _ _).symm.trans h.1, h.2⟩) HC0.out (fun u hu => by
      obtain ⟨g0, g1, g2, g3, g4⟩ := HD0.out u hu
      go_simp; rfl) ?_
    simp only [List.getElem_toArray, List.getElem_cons_zero, List.getElem_cons_succ, Act.put, List.setIfInBounds_toArray, List.set_cons_zero, List.set_cons_succ]
    refine c_take 4 _ _ rfl (by kernel_rfl) (by kernel_rfl) (by kernel_rfl) rfl (fun c a' w' h => ⟨(putC_defers _ _ _).symm.trans h.1, h.2⟩) HC0.out (fun u hu => by
      go_simp; rfl) ?_
    simp only [List.getElem_toArray, List.getElem_cons_zero, List.getElem_cons_succ, Act.put, List.setIfInBounds_toArray, List.set_cons_zero, List.set_cons_succ]
    refine c_take 5 _ _ rfl (by kernel_rfl) (by kernel_rfl) (by kernel_rfl) rfl (fun c a' w' h => ⟨(putC_defers _ _ _).symm.trans h.1, h.2⟩) HC0.out (fun u hu => by
      go_simp; rfl) ?_
    simp only [List.getElem_toArray, List.getElem_cons_zero, List.getElem_cons_succ, Act.put, List.setIfInBounds_toArray, List.set_cons_zero, List.set_cons_succ]
    refine c_take 6 _ _ rfl (by kernel_rfl) (by kernel_rfl) (by kernel_rfl) rfl (fun c a' w' h => ⟨(putC_defers _ _ _).symm.trans h.1, h.2⟩) HC0.out (fun u hu => by
      go_simp; rfl) ?_
    simp only [List.getElem_toArray, List.getElem_cons_zero, List.getElem_cons_succ, Act.put, List.setIfInBounds_toArray, List.set_cons_zero, List.set_cons_succ]
    refine c_take 7 _ _ rfl (by kernel_rfl) (by kernel_rfl) (by kernel_rfl) rfl (fun c a' w' h => ⟨(putC_defers _ _ _).symm.trans h.1, h.2⟩) HC0.out (fun u hu => by
      have hk := HK2.out u hu
      go_simp; rfl) ?_
    simp only [List.getElem_toArray, List.getElem_cons_zero, List.getElem_cons_succ, Act.put, List.setIfInBounds_toArray, List.set_cons_zero, List.set_cons_succ]
    refine c_take 8 _ _ rfl (by kernel_rfl) (by kernel_rfl) (by kernel_rfl) rfl (fun c a' w' h => ⟨(putC_defers _ _ _).symm.trans h.1, h.2⟩) HC0.out (fun u hu => by
      go_simp; rfl) ?_
    simp only [List.getElem_toArray, List.getElem_cons_zero, List.getElem_cons_succ, Act.put, List.setIfInBounds_toArray, List.set_cons_zero, List.set_cons_succ]
    refine c_only 9 _ rfl (by kernel_rfl) ?_
    refine step_append_src w2 _ rfl _ _ 22 rfl 3 (.int .i64 0) 1 8 (az.length - i) Tryz.underlying22 infoI2 rfl (by decide) _ _ _ HO4.out.drew rfl _ _ (HB.out.below HC0.out) rfl O2.out (by omega) (by omega) (fun v9 w9 ho hg => ?_)
    have HO9 := hid ho
    have HC9 := hid (HX2.out.trans (ho.below.mono HX2.out.size))
    clear ho hg
    refine ⟨HC9.out, ?_⟩
    simp only [List.getElem_toArray, List.getElem_cons_zero, List.getElem_cons_succ, Act.put, List.setIfInBounds_toArray, List.set_cons_zero, List.set_cons_succ]
    have HS9 : Hid (Sl w9 v9 (insAt az i n2').length 1 ((insAt az i n2').map iv)) := hid (by
      have h := HO9.out.sl
      rw [HLE.out, ← HEC.out]
      simpa [iv] using h)
    refine c_only 10 _ rfl (by kernel_rfl) ?_
    go_simp
    refine (HM0.out _ _ (HB1.out.trans (HC9.out.mono HB1.out.size)) HS9.out).mono ?_
    intro e w10 h10
    obtain ⟨n10, b10, rfl, hb10, ht10⟩ := toldBy_cases h10
    have HC10 := hid (HC9.out.trans (hb10.mono HC9.out.size))
    have HT10 := hid ht10
    clear h10 hb10 ht10
    refine ⟨HC10.out, ?_⟩

    refine c_take 11 _ _ rfl (by kernel_rfl) (by kernel_rfl) (by kernel_rfl) rfl (fun c a' w' h => ⟨(putC_defers _ _ _).symm.trans h.1, h.2⟩) HC10.out (fun u hu => by
      go_simp; rfl) ?_
    simp only [List.getElem_toArray, List.getElem_cons_zero, List.getElem_cons_succ, Act.put, List.setIfInBounds_toArray, List.set_cons_zero, List.set_cons_succ]
    refine c_take 12 _ _ rfl (by kernel_rfl) (by kernel_rfl) (by kernel_rfl) rfl (fun c a' w' h => ⟨(putC_defers _ _ _).symm.trans h.1, h.2⟩) HC10.out (fun u hu => by
      go_simp; rfl) ?_
    simp only [List.getElem_toArray, List.getElem_cons_zero, List.getElem_cons_succ, Act.put, List.setIfInBounds_toArray, List.set_cons_zero, List.set_cons_succ]
    refine c_take 13 _ _ rfl (by kernel_rfl) (by kernel_rfl) (by kernel_rfl) rfl (fun c a' w' h => ⟨(putC_defers _ _ _).symm.trans h.1, h.2⟩) HC10.out (fun u hu => by
      go_simp; rfl) ?_
    simp only [List.getElem_toArray, List.getElem_cons_zero, List.getElem_cons_succ, Act.put, List.setIfInBounds_toArray, List.set_cons_zero, List.set_cons_succ]
    refine c_take 14 _ _ rfl (by kernel_rfl) (by kernel_rfl) (by kernel_rfl) rfl (fun c a' w' h => ⟨(putC_defers _ _ _).symm.trans h.1, h.2⟩) HC10.out (fun u hu => by
      go_simp; rfl) ?_
    simp only [List.getElem_toArray, List.getElem_cons_zero, List.getElem_cons_succ, Act.put, List.setIfInBounds_toArray, List.set_cons_zero, List.set_cons_succ]
    refine c_end (by kernel_rfl) ?_
    go_wp2
    go_ret2
    exact toldBy_mk HT10.out (HB1.out.trans (HC10.out.mono HB1.out.size))

set_option maxRecDepth 100000 in
set_option maxHeartbeats 4000000 in
theorem toldr_bind_nil (t : ByteArray) (m : Int) (av sa aa : Option Addr) (n1 cv n2 cs ca : Nat) (w : World) (l : List Nd) (hl : l.length = n2) (hsl : Sl w (.slice sa n2 cs) n2 5 (l.flatMap Nd.cells)) (y0 : Nd) (hi0 : l[0]? = some y0) (hy0 : NAt w y0) (hm0 : ∀ (u : World) (v : Value), Below w.heap.size w u → Sl u v ([m]).length 1 (([m]).map iv) → Calls Tryz.prog 10 #[.agg #[.int .i64 y0.k, .string y0.t, .int .i64 y0.a, y0.va, y0.vs], v] u (ToldBy u (toldN y0 ([m])))) (y1 : Nd) (hi1 : l[1]? = some y1) (hy1 : NAt w y1) (hm1 : ∀ (u : World) (v : Value), Below w.heap.size w u → Sl u v (([] : List Int)).length 1 ((([] : List Int)).map iv) → Calls Tryz.prog 10 #[.agg #[.int .i64 y1.k, .string y1.t, .int .i64 y1.a, y1.va, y1.vs], v] u (ToldBy u (toldN y1 (([] : List Int))))) (hm2 : toldN y1 [] = some m) : Calls Tryz.prog 10 #[.agg #[.int .i64 5, .string t, .int .i64 0, .slice av n1 cv, .slice sa n2 cs], .slice aa 0 ca] w (ToldBy w (toldN y0 ([m]))) := by
  obtain ⟨X1, hX1⟩ : ∃ X1, w.alloc (.cells #[.int .i64 5, .string t, .int .i64 0, .slice av n1 cv, .slice sa n2 cs] 25) = X1 := ⟨_, rfl⟩
  have HB1 : Hid (Below w.heap.size w X1) := hid (hX1 ▸ ext_alloc _ _)
  have HLT : Hid (w.heap.size < X1.heap.size) := hid (by rw [← hX1]; simp)
  have HXR : Hid (X1.heap[w.heap.size]? = some (.cells #[.int .i64 5, .string t, .int .i64 0, .slice av n1 cv, .slice sa n2 cs] 25 (0, 0))) := hid (by rw [← hX1]; exact heap_alloc_new _ _)
  have HK1 : Hid (∀ u, Below X1.heap.size X1 u → u.cell? ⟨w.heap.size, 1, none⟩ = some (.string t)) := hid (fun u hu => by rw [cell_of_row _ _ _ _ _ _ ((hu.block _ HLT.out).trans HXR.out)]; rfl)
  have HK2 : Hid (∀ u, Below X1.heap.size X1 u → u.cell? ⟨w.heap.size, 2, none⟩ = some (.int .i64 0)) := hid (fun u hu => by rw [cell_of_row _ _ _ _ _ _ ((hu.block _ HLT.out).trans HXR.out)]; rfl)
  have HK3 : Hid (∀ u, Below X1.heap.size X1 u → u.cell? ⟨w.heap.size, 3, none⟩ = some (.slice av n1 cv)) := hid (fun u hu => by rw [cell_of_row _ _ _ _ _ _ ((hu.block _ HLT.out).trans HXR.out)]; rfl)
  have HK4 : Hid (∀ u, Below X1.heap.size X1 u → u.cell? ⟨w.heap.size, 4, none⟩ = some (.slice sa n2 cs)) := hid (fun u hu => by rw [cell_of_row _ _ _ _ _ _ ((hu.block _ HLT.out).trans HXR.out)]; rfl)
  have hq0 : X1.cell? ⟨w.heap.size, 0, none⟩ = some (.int .i64 5) := by rw [cell_of_row _ _ _ _ _ _ HXR.out]; rfl
  have hq2 := HK2.out X1 (Below.refl _ _)
  have hq3 := HK3.out X1 (Below.refl _ _)
  have hq4 := HK4.out X1 (Below.refl _ _)
  have HYES := hid hm2
  have hil0 : 0 < l.length := (List.getElem?_eq_some_iff.1 hi0).1
  obtain ⟨b0, off0, hab0, d00, d10, d20, d30, d40⟩ := nd_at (k := 0) (by rw [hl]; exact hsl.below HB1.out) hil0
  rw [(List.getElem?_eq_some_iff.1 hi0).2] at d00 d10 d20 d30 d40
  obtain ⟨p0, q0, e10⟩ := hy0.1.1.val
  obtain ⟨p0', q0', e20⟩ := hy0.1.2.val
  obtain ⟨k0, hk0⟩ : ∃ q, y0.k = q := ⟨_, rfl⟩
  obtain ⟨t0, ht0⟩ : ∃ q, y0.t = q := ⟨_, rfl⟩
  obtain ⟨a0, ha0⟩ : ∃ q, y0.a = q := ⟨_, rfl⟩
  obtain ⟨m0, hm01⟩ : ∃ q, y0.ats.length = q := ⟨_, rfl⟩
  obtain ⟨m0', hm02⟩ : ∃ q, (nodes y0.subs).length = q := ⟨_, rfl⟩
  rw [hm01] at e10
  rw [hm02] at e20
  obtain ⟨r0, hr0⟩ : ∃ R, toldN y0 ([m]) = R := ⟨_, rfl⟩
  have HQ0 := hid hr0
  simp only [hk0, ht0, ha0, e10, e20, hr0] at d00 d10 d20 d30 d40 hm0
  have HM0 := hid hm0
  have hil1 : 1 < l.length := (List.getElem?_eq_some_iff.1 hi1).1
  obtain ⟨b1, off1, hab1, d01, d11, d21, d31, d41⟩ := nd_at (k := 1) (by rw [hl]; exact hsl.below HB1.out) hil1
  rw [(List.getElem?_eq_some_iff.1 hi1).2] at d01 d11 d21 d31 d41
  obtain ⟨p1, q1, e11⟩ := hy1.1.1.val
  obtain ⟨p1', q1', e21⟩ := hy1.1.2.val
  obtain ⟨k1, hk1⟩ : ∃ q, y1.k = q := ⟨_, rfl⟩
  obtain ⟨t1, ht1⟩ : ∃ q, y1.t = q := ⟨_, rfl⟩
  obtain ⟨a1, ha1⟩ : ∃ q, y1.a = q := ⟨_, rfl⟩
  obtain ⟨m1, hm11⟩ : ∃ q, y1.ats.length = q := ⟨_, rfl⟩
  obtain ⟨m1', hm12⟩ : ∃ q, (nodes y1.subs).length = q := ⟨_, rfl⟩
  rw [hm11] at e11
  rw [hm12] at e21
  obtain ⟨r1, hr1⟩ : ∃ R, toldN y1 (([] : List Int)) = R := ⟨_, rfl⟩
  have HQ1 := hid hr1
  simp only [hk1, ht1, ha1, e11, e21, hr1] at d01 d11 d21 d31 d41 hm1
  have HM1 := hid hm1
  rw [hr0]
  have hn2 : 1 < n2 := by rw [← hl]; exact hil1
  have hn2i : (1 : Int) < (n2 : Int) := by omega
  have hn20 : (0 : Int) < (n2 : Int) := by omega
  have hn2z : 0 < n2 := by omega
  cases hab0
  cases hab1
  have HD0 : Hid (∀ u, Below X1.heap.size X1 u → u.cell? ⟨b0, off0, none⟩ = some (.int .i64 k0) ∧ u.cell? ⟨b0, off0 + 1, none⟩ = some (.string t0) ∧ u.cell? ⟨b0, off0 + 2, none⟩ = some (.int .i64 a0) ∧ u.cell? ⟨b0, off0 + 3, none⟩ = some (.slice p0 m0 q0) ∧ u.cell? ⟨b0, off0 + 4, none⟩ = some (.slice p0' m0' q0')) := hid (fun u hu => by
    have hbl : b0 < X1.heap.size := World.block_lt_of_cell? _ _ d00
    refine ⟨(hu.cell hbl).trans ?_, (hu.cell hbl).trans ?_, (hu.cell hbl).trans ?_, (hu.cell hbl).trans ?_, (hu.cell hbl).trans ?_⟩
    · simpa using d00
    · simpa using d10
    · simpa using d20
    · simpa using d30
    · simpa using d40)
  clear d00 d10 d20 d30 d40 hk0 ht0 ha0 hm01 hm02 e10 e20 hm0 hi0 hil0 hr0 hy0
  have HD1 : Hid (∀ u, Below X1.heap.size X1 u → u.cell? ⟨b0, off0 + 5, none⟩ = some (.int .i64 k1) ∧ u.cell? ⟨b0, off0 + 6, none⟩ = some (.string t1) ∧ u.cell? ⟨b0, off0 + 7, none⟩ = some (.int .i64 a1) ∧ u.cell? ⟨b0, off0 + 8, none⟩ = some (.slice p1 m1 q1) ∧ u.cell? ⟨b0, off0 + 9, none⟩ = some (.slice p1' m1' q1')) := hid (fun u hu => by
    have hbl : b0 < X1.heap.size := World.block_lt_of_cell? _ _ d01
    refine ⟨(hu.cell hbl).trans ?_, (hu.cell hbl).trans ?_, (hu.cell hbl).trans ?_, (hu.cell hbl).trans ?_, (hu.cell hbl).trans ?_⟩
    · simpa using d01
    · simpa using d11
    · simpa using d21
    · simpa using d31
    · simpa using d41)
  clear d01 d11 d21 d31 d41 hk1 ht1 ha1 hm11 hm12 e11 e21 hm1 hi1 hil1 hr1 hy1
  obtain rfl : r1 = some m := HQ1.out.symm.trans HYES.out
  obtain ⟨g0, g1, g2, g3, g4⟩ := HD1.out X1 (Below.refl _ _)
  clear hsl hl hm2
  go_enter Tryz.func10, Tryz.ntmps10
  go_wp2_with fail
  refine (HM1.out _ _ HB1.out (sl0' _)).mono ?_
  intro e w2 h2
  obtain ⟨n2', b2, rfl, hb2, ht2⟩ := toldBy_cases h2

  cases b2 with
  | false => cases ht2
  | true =>
    obtain rfl : n2' = m := (Option.some.inj ht2).symm
    have HX2 := hid hb2
    have HB2 := hid (HB1.out.trans (hb2.mono HB1.out.size))
    have hq0 := hid hq0
    clear hq0
    have hq2 : w2.cell? ⟨w.heap.size, 2, none⟩ = some (.int .i64 0) := HK2.out w2 hb2
    clear hb2 ht2 h2 g0 g1 g2 g3 g4
    have HO2 := hid (Out.made w2 3 1)
    have hq2' : (w2.alloc (.cells #[] 3)).cell? ⟨w.heap.size, 2, none⟩ = some (.int .i64 0) := HK2.out _ (HX2.out.trans (HO2.out.below.mono HX2.out.size))
    go_wp2_with (at_builtin; refine wpList_append_src w2 _ rfl _ _ 22 rfl 3 (.int .i64 0) 1 8 0 Tryz.underlying22 infoI2 rfl (by decide) _ _ _ HO2.out rfl _ [] ?_ rfl (by simp) ?_ ?_ ?_)
    all_goals first | (intro v3 w3 ho3 hg3) | omega | exact ⟨rfl, _, _, rfl, Nat.zero_le _, .inl rfl⟩ | skip
    have HO3 := hid ho3
    clear ho3 hg3
    go_wp2_with (at_builtin; refine wpList_append_lit w2 w3 _ rfl _ _ 22 rfl 3 (.int .i64 0) 1 8 1 Tryz.underlying22 infoI2 rfl (by decide) _ _ _ HO3.out rfl rfl rfl ?_ ?_ ?_ ?_)
    all_goals first | (intro v4 w4 ho4 hg4) | omega | (simp [Value.oneCell']; done) | skip
    have HO4 := hid ho4
    have HX4 := hid (HX2.out.trans (ho4.below.mono HX2.out.size))
    clear ho4 hg4 hq2 hq2'
    obtain ⟨a4, c4, rfl⟩ := HO4.out.sl.val
    go_wp2_with fail
    refine wp_region_c (fun u => Below X1.heap.size X1 u) (by kernel_rfl) ?_
    have HC0 : Hid (Below X1.heap.size X1 w4.drew) := hid HX4.out.drew
    refine c_take 0 _ _ rfl (by kernel_rfl) (by kernel_rfl) (by kernel_rfl) rfl (fun c a' w' h => ⟨(putC_defers _ _ _).symm.trans h.1, h.2⟩) HC0.out (fun u hu => by
      go_simp; rfl) ?_
    simp only [List.getElem_toArray, List.getElem_cons_zero, List.getElem_cons_succ, Act.put, List.setIfInBounds_toArray, List.set_cons_zero, List.set_cons_succ]
    refine c_take 1 _ _ rfl (by kernel_rfl) (by kernel_rfl) (by kernel_rfl) rfl (fun c a' w' h => ⟨(putC_defers _ _ _).symm.trans h.1, h.2⟩) HC0.out (fun u hu => by
      have hk := HK4.out u hu
      go_simp; rfl) ?_
    simp only [List.getElem_toArray, List.getElem_cons_zero, List.getElem_cons_succ, Act.put, List.setIfInBounds_toArray, List.set_cons_zero, List.set_cons_succ]
    refine c_take 2 _ _ rfl (by kernel_rfl) (by kernel_rfl) (by kernel_rfl) rfl (fun c a' w' h => ⟨(putC_defers _ _ _).symm.trans h.1, h.2⟩) HC0.out (fun u hu => by
      go_simp; rfl) ?_
    simp only [List.getElem_toArray, List.getElem_cons_zero, List.getElem_cons_succ, Act.put, List.setIfInBounds_toArray, List.set_cons_zero, List.set_cons_succ]
    refine c_take 3 _ _ rfl (by kernel_rfl) (by kernel_rfl) (by kernel_rfl) rfl (fun c a' w' h => ⟨(putC_defers _ _ _).symm.trans h.1, h.2⟩) HC0.out (fun u hu => by
      obtain ⟨g0, g1, g2, g3, g4⟩ := HD0.out u hu
      go_simp; rfl) ?_
    simp only [List.getElem_toArray, List.getElem_cons_zero, List.getElem_cons_succ, Act.put, List.setIfInBounds_toArray, List.set_cons_zero, List.set_cons_succ]
    refine c_take 4 _ _ rfl (by kernel_rfl) (by kernel_rfl) (by kernel_rfl) rfl (fun c a' w' h => ⟨(putC_defers _ _ _).symm.trans h.1, h.2⟩) HC0.out (fun u hu => by
      go_simp; rfl) ?_
    simp only [List.getElem_toArray, List.getElem_cons_zero, List.getElem_cons_succ, Act.put, List.setIfInBounds_toArray, List.set_cons_zero, List.set_cons_succ]
    refine c_take 5 _ _ rfl (by kernel_rfl) (by kernel_rfl) (by kernel_rfl) rfl (fun c a' w' h => ⟨(putC_defers _ _ _).symm.trans h.1, h.2⟩) HC0.out (fun u hu => by
      go_simp; rfl) ?_
    simp only [List.getElem_toArray, List.getElem_cons_zero, List.getElem_cons_succ, Act.put, List.setIfInBounds_toArray, List.set_cons_zero, List.set_cons_succ]
    refine c_take 6 _ _ rfl (by kernel_rfl) (by kernel_rfl) (by kernel_rfl) rfl (fun c a' w' h => ⟨(putC_defers _ _ _).symm.trans h.1, h.2⟩) HC0.out (fun u hu => by
      go_simp; rfl) ?_
    simp only [List.getElem_toArray, List.getElem_cons_zero, List.getElem_cons_succ, Act.put, List.setIfInBounds_toArray, List.set_cons_zero, List.set_cons_succ]
    refine c_take 7 _ _ rfl (by kernel_rfl) (by kernel_rfl) (by kernel_rfl) rfl (fun c a' w' h => ⟨(putC_defers _ _ _).symm.trans h.1, h.2⟩) HC0.out (fun u hu => by
      have hk := HK2.out u hu
      go_simp; rfl) ?_
    simp only [List.getElem_toArray, List.getElem_cons_zero, List.getElem_cons_succ, Act.put, List.setIfInBounds_toArray, List.set_cons_zero, List.set_cons_succ]
    refine c_take 8 _ _ rfl (by kernel_rfl) (by kernel_rfl) (by kernel_rfl) rfl (fun c a' w' h => ⟨(putC_defers _ _ _).symm.trans h.1, h.2⟩) HC0.out (fun u hu => by
      go_simp; rfl) ?_
    simp only [List.getElem_toArray, List.getElem_cons_zero, List.getElem_cons_succ, Act.put, List.setIfInBounds_toArray, List.set_cons_zero, List.set_cons_succ]
    refine c_only 9 _ rfl (by kernel_rfl) ?_
    refine step_append_src w2 _ rfl _ _ 22 rfl 3 (.int .i64 0) 1 8 0 Tryz.underlying22 infoI2 rfl (by decide) _ _ _ HO4.out.drew rfl _ [] ?_ rfl (by simp) (by omega) (by omega) (fun v9 w9 ho hg => ?_)
    · exact ⟨rfl, _, _, rfl, Nat.zero_le _, .inl rfl⟩
    have HO9 := hid ho
    have HC9 := hid (HX2.out.trans (ho.below.mono HX2.out.size))
    clear ho hg
    refine ⟨HC9.out, ?_⟩
    simp only [List.getElem_toArray, List.getElem_cons_zero, List.getElem_cons_succ, Act.put, List.setIfInBounds_toArray, List.set_cons_zero, List.set_cons_succ]
    have HS9 : Hid (Sl w9 v9 ([n2'] : List Int).length 1 (([n2'] : List Int).map iv)) := hid (by
      have h := HO9.out.sl
      simpa [iv] using h)
    refine c_only 10 _ rfl (by kernel_rfl) ?_
    go_simp
    refine (HM0.out _ _ (HB1.out.trans (HC9.out.mono HB1.out.size)) HS9.out).mono ?_
    intro e w10 h10
    obtain ⟨n10, b10, rfl, hb10, ht10⟩ := toldBy_cases h10
    have HC10 := hid (HC9.out.trans (hb10.mono HC9.out.size))
    have HT10 := hid ht10
    clear h10 hb10 ht10
    refine ⟨HC10.out, ?_⟩

    refine c_take 11 _ _ rfl (by kernel_rfl) (by kernel_rfl) (by kernel_rfl) rfl (fun c a' w' h => ⟨(putC_defers _ _ _).symm.trans h.1, h.2⟩) HC10.out (fun u hu => by
      go_simp; rfl) ?_
    simp only [List.getElem_toArray, List.getElem_cons_zero, List.getElem_cons_succ, Act.put, List.setIfInBounds_toArray, List.set_cons_zero, List.set_cons_succ]
    refine c_take 12 _ _ rfl (by kernel_rfl) (by kernel_rfl) (by kernel_rfl) rfl (fun c a' w' h => ⟨(putC_defers _ _ _).symm.trans h.1, h.2⟩) HC10.out (fun u hu => by
      go_simp; rfl) ?_
    simp only [List.getElem_toArray, List.getElem_cons_zero, List.getElem_cons_succ, Act.put, List.setIfInBounds_toArray, List.set_cons_zero, List.set_cons_succ]
    refine c_take 13 _ _ rfl (by kernel_rfl) (by kernel_rfl) (by kernel_rfl) rfl (fun c a' w' h => ⟨(putC_defers _ _ _).symm.trans h.1, h.2⟩) HC10.out (fun u hu => by
      go_simp; rfl) ?_
    simp only [List.getElem_toArray, List.getElem_cons_zero, List.getElem_cons_succ, Act.put, List.setIfInBounds_toArray, List.set_cons_zero, List.set_cons_succ]
    refine c_take 14 _ _ rfl (by kernel_rfl) (by kernel_rfl) (by kernel_rfl) rfl (fun c a' w' h => ⟨(putC_defers _ _ _).symm.trans h.1, h.2⟩) HC10.out (fun u hu => by
      go_simp; rfl) ?_
    simp only [List.getElem_toArray, List.getElem_cons_zero, List.getElem_cons_succ, Act.put, List.setIfInBounds_toArray, List.set_cons_zero, List.set_cons_succ]
    refine c_end (by kernel_rfl) ?_
    go_wp2
    go_ret2
    exact toldBy_mk HT10.out (HB1.out.trans (HC10.out.mono HB1.out.size))

end Go.Proofs.YtogpgfaojmmemaaGreatDoor.hands

/- Handles told: the document's Told, an arg changed. Condition: the lists are not long. -/
set_option linter.unusedSimpArgs false
set_option linter.unusedVariables false
namespace Go.Proofs.YtogpgfaojmmemaaGreatDoor.hands
open Go.RowKit Go.Proofs.YtogpgfaojmmemaaGreatDoor.lib Go.Proofs.YtogpgfaojmmemaaGreatDoor.errs Go.Proofs.YtogpgfaojmmemaaGreatDoor.mtypes Go.Proofs.YtogpgfaojmmemaaGreatDoor.grow Go.Proofs.YtogpgfaojmmemaaGreatDoor.nums

set_option maxRecDepth 100000 in
set_option maxHeartbeats 4000000 in
theorem toldr_filter_none (t : ByteArray) (i : Nat) (av sa : Option Addr) (b off : Nat) (n1 cv n2 cs ca : Nat) (az : List Int) (w : World) (haz : Sl w (.slice (some ⟨b, off, none⟩) az.length ca) az.length 1 (az.map iv)) (hn : az.length ≤ 100) (vq : Int) (hv : az[i]? = some vq) (l : List Nd) (hl : l.length = n2) (hsl : Sl w (.slice sa n2 cs) n2 5 (l.flatMap Nd.cells)) (y1 : Nd) (hi1 : l[1]? = some y1) (hy1 : NAt w y1) (hm1 : ∀ (u : World) (v : Value), Below w.heap.size w u → Sl u v ([vq]).length 1 (([vq]).map iv) → Calls Tryz.prog 10 #[.agg #[.int .i64 y1.k, .string y1.t, .int .i64 y1.a, y1.va, y1.vs], v] u (ToldBy u (toldN y1 ([vq])))) (hm2 : toldN y1 [vq] = none) : Calls Tryz.prog 10 #[.agg #[.int .i64 7, .string t, .int .i64 (i : Int), .slice av n1 cv, .slice sa n2 cs], .slice (some ⟨b, off, none⟩) az.length ca] w (ToldBy w none) := by
  obtain ⟨X1, hX1⟩ : ∃ X1, w.alloc (.cells #[.int .i64 7, .string t, .int .i64 (i : Int), .slice av n1 cv, .slice sa n2 cs] 25) = X1 := ⟨_, rfl⟩
  have HB1 : Hid (Below w.heap.size w X1) := hid (hX1 ▸ ext_alloc _ _)
  have HLT : Hid (w.heap.size < X1.heap.size) := hid (by rw [← hX1]; simp)
  have HXR : Hid (X1.heap[w.heap.size]? = some (.cells #[.int .i64 7, .string t, .int .i64 (i : Int), .slice av n1 cv, .slice sa n2 cs] 25 (0, 0))) := hid (by rw [← hX1]; exact heap_alloc_new _ _)
  have HK1 : Hid (∀ u, Below X1.heap.size X1 u → u.cell? ⟨w.heap.size, 1, none⟩ = some (.string t)) := hid (fun u hu => by rw [cell_of_row _ _ _ _ _ _ ((hu.block _ HLT.out).trans HXR.out)]; rfl)
  have HK2 : Hid (∀ u, Below X1.heap.size X1 u → u.cell? ⟨w.heap.size, 2, none⟩ = some (.int .i64 (i : Int))) := hid (fun u hu => by rw [cell_of_row _ _ _ _ _ _ ((hu.block _ HLT.out).trans HXR.out)]; rfl)
  have HK3 : Hid (∀ u, Below X1.heap.size X1 u → u.cell? ⟨w.heap.size, 3, none⟩ = some (.slice av n1 cv)) := hid (fun u hu => by rw [cell_of_row _ _ _ _ _ _ ((hu.block _ HLT.out).trans HXR.out)]; rfl)
  have HK4 : Hid (∀ u, Below X1.heap.size X1 u → u.cell? ⟨w.heap.size, 4, none⟩ = some (.slice sa n2 cs)) := hid (fun u hu => by rw [cell_of_row _ _ _ _ _ _ ((hu.block _ HLT.out).trans HXR.out)]; rfl)
  have hq0 : X1.cell? ⟨w.heap.size, 0, none⟩ = some (.int .i64 7) := by rw [cell_of_row _ _ _ _ _ _ HXR.out]; rfl
  have hq2 := HK2.out X1 (Below.refl _ _)
  have hq3 := HK3.out X1 (Below.refl _ _)
  have hq4 := HK4.out X1 (Below.refl _ _)
  have HRES := hid hm2
  have hil1 : 1 < l.length := (List.getElem?_eq_some_iff.1 hi1).1
  obtain ⟨b1, off1, hab1, d01, d11, d21, d31, d41⟩ := nd_at (k := 1) (by rw [hl]; exact hsl.below HB1.out) hil1
  rw [(List.getElem?_eq_some_iff.1 hi1).2] at d01 d11 d21 d31 d41
  obtain ⟨p1, q1, e11⟩ := hy1.1.1.val
  obtain ⟨p1', q1', e21⟩ := hy1.1.2.val
  obtain ⟨k1, hk1⟩ : ∃ q, y1.k = q := ⟨_, rfl⟩
  obtain ⟨t1, ht1⟩ : ∃ q, y1.t = q := ⟨_, rfl⟩
  obtain ⟨a1, ha1⟩ : ∃ q, y1.a = q := ⟨_, rfl⟩
  obtain ⟨m1, hm11⟩ : ∃ q, y1.ats.length = q := ⟨_, rfl⟩
  obtain ⟨m1', hm12⟩ : ∃ q, (nodes y1.subs).length = q := ⟨_, rfl⟩
  rw [hm11] at e11
  rw [hm12] at e21
  obtain ⟨r1, hr1⟩ : ∃ R, toldN y1 ([vq]) = R := ⟨_, rfl⟩
  have HQ1 := hid hr1
  simp only [hk1, ht1, ha1, e11, e21, hr1] at d01 d11 d21 d31 d41 hm1
  have HM1 := hid hm1
  have hn2 : 1 < n2 := by rw [← hl]; exact hil1
  have hn2i : (1 : Int) < (n2 : Int) := by omega
  have hn20 : (0 : Int) < (n2 : Int) := by omega
  have hn2z : 0 < n2 := by omega
  cases hab1
  have HD1 : Hid (∀ u, Below X1.heap.size X1 u → u.cell? ⟨b1, off1 + 5, none⟩ = some (.int .i64 k1) ∧ u.cell? ⟨b1, off1 + 6, none⟩ = some (.string t1) ∧ u.cell? ⟨b1, off1 + 7, none⟩ = some (.int .i64 a1) ∧ u.cell? ⟨b1, off1 + 8, none⟩ = some (.slice p1 m1 q1) ∧ u.cell? ⟨b1, off1 + 9, none⟩ = some (.slice p1' m1' q1')) := hid (fun u hu => by
    have hbl : b1 < X1.heap.size := World.block_lt_of_cell? _ _ d01
    refine ⟨(hu.cell hbl).trans ?_, (hu.cell hbl).trans ?_, (hu.cell hbl).trans ?_, (hu.cell hbl).trans ?_, (hu.cell hbl).trans ?_⟩
    · simpa using d01
    · simpa using d11
    · simpa using d21
    · simpa using d31
    · simpa using d41)
  clear d01 d11 d21 d31 d41 hk1 ht1 ha1 hm11 hm12 e11 e21 hm1 hi1 hil1 hr1 hy1
  have HRR := hid (HQ1.out.symm.trans HRES.out)
  have hi : i < az.length := (List.getElem?_eq_some_iff.1 hv).1
  have HI := hid hi
  have HAX := hid (haz.below HB1.out)
  have hcap := HAX.out.cap.2
  have hci : ¬ ca = i := by omega
  have HS1 : Hid (∀ u, Below X1.heap.size X1 u → Sl u (.slice (some ⟨b, off + i, none⟩) 1 (ca - i)) [vq].length 1 ([vq].map iv)) := hid (fun u hu => by
    have h := (HAX.out.below hu).cut i (i + 1) (by omega) (by omega)
    rw [if_neg hci, Nat.mul_one, Nat.mul_one, show i + 1 - i = 1 by omega, Option.map_some, Addr.add_lit, ← List.map_take, ← List.map_drop] at h
    have e : (az.take (i + 1)).drop i = [vq] := by
      rw [List.drop_take, show i + 1 - i = 1 by omega, List.drop_eq_getElem_cons hi]
      exact congrArg (fun z => [z]) (List.getElem?_eq_some_iff.1 hv).2
    rw [e] at h
    exact h)
  have HOV := hid (fun u (hu : u ∈ az.map iv) => one_iv az u hu)
  have k2 : (0 : Int) ≤ (i : Int) := by omega
  have k3 : (i : Int) + 1 ≤ (ca : Int) := by omega
  have k4 : (i : Int) < (az.length : Int) := by omega
  have k5 : (0 : Int) ≤ (i : Int) + 1 := by omega
  have k6 : (i : Int) ≤ (i : Int) + 1 := by omega
  have k7 : ((i : Int) + 1).toNat = i + 1 := by omega
  have k8 : IntKind.i64.wrap ((i : Int) + 1) = (i : Int) + 1 := by rw [IntKind.wrap_i64]; omega
  have k9 : i + 1 - i = 1 := by omega
  have k10 : ((i : Int) + 1 - (i : Int)).toNat = 1 := by omega
  clear haz hsl hl hm2 hv hi
  go_enter Tryz.func10, Tryz.ntmps10
  go_wp2_with fail
  refine wp_region_c (fun u => Below X1.heap.size X1 u) (by kernel_rfl) ?_
  have HC0 : Hid (Below X1.heap.size X1 X1.drew) := hid (Below.refl _ _).drew
  refine c_take 0 _ _ rfl (by kernel_rfl) (by kernel_rfl) (by kernel_rfl) rfl (fun c a' w' h => ⟨(putC_defers _ _ _).symm.trans h.1, h.2⟩) HC0.out (fun u hu => by
    go_simp; rfl) ?_
  simp only [List.getElem_toArray, List.getElem_cons_zero, List.getElem_cons_succ, Act.put, List.setIfInBounds_toArray, List.set_cons_zero, List.set_cons_succ]
  refine c_take 1 _ _ rfl (by kernel_rfl) (by kernel_rfl) (by kernel_rfl) rfl (fun c a' w' h => ⟨(putC_defers _ _ _).symm.trans h.1, h.2⟩) HC0.out (fun u hu => by
    have hk := HK4.out u hu
    go_simp; rfl) ?_
  simp only [List.getElem_toArray, List.getElem_cons_zero, List.getElem_cons_succ, Act.put, List.setIfInBounds_toArray, List.set_cons_zero, List.set_cons_succ]
  refine c_take 2 _ _ rfl (by kernel_rfl) (by kernel_rfl) (by kernel_rfl) rfl (fun c a' w' h => ⟨(putC_defers _ _ _).symm.trans h.1, h.2⟩) HC0.out (fun u hu => by
    go_simp; rfl) ?_
  simp only [List.getElem_toArray, List.getElem_cons_zero, List.getElem_cons_succ, Act.put, List.setIfInBounds_toArray, List.set_cons_zero, List.set_cons_succ]
  refine c_take 3 _ _ rfl (by kernel_rfl) (by kernel_rfl) (by kernel_rfl) rfl (fun c a' w' h => ⟨(putC_defers _ _ _).symm.trans h.1, h.2⟩) HC0.out (fun u hu => by
    obtain ⟨g0, g1, g2, g3, g4⟩ := HD1.out u hu
    go_simp; rfl) ?_
  simp only [List.getElem_toArray, List.getElem_cons_zero, List.getElem_cons_succ, Act.put, List.setIfInBounds_toArray, List.set_cons_zero, List.set_cons_succ]
  refine c_take 4 _ _ rfl (by kernel_rfl) (by kernel_rfl) (by kernel_rfl) rfl (fun c a' w' h => ⟨(putC_defers _ _ _).symm.trans h.1, h.2⟩) HC0.out (fun u hu => by
    go_simp; rfl) ?_
  simp only [List.getElem_toArray, List.getElem_cons_zero, List.getElem_cons_succ, Act.put, List.setIfInBounds_toArray, List.set_cons_zero, List.set_cons_succ]
  refine c_take 5 _ _ rfl (by kernel_rfl) (by kernel_rfl) (by kernel_rfl) rfl (fun c a' w' h => ⟨(putC_defers _ _ _).symm.trans h.1, h.2⟩) HC0.out (fun u hu => by
    go_simp; rfl) ?_
  simp only [List.getElem_toArray, List.getElem_cons_zero, List.getElem_cons_succ, Act.put, List.setIfInBounds_toArray, List.set_cons_zero, List.set_cons_succ]
  refine c_take 6 _ _ rfl (by kernel_rfl) (by kernel_rfl) (by kernel_rfl) rfl (fun c a' w' h => ⟨(putC_defers _ _ _).symm.trans h.1, h.2⟩) HC0.out (fun u hu => by
    have hk := HK2.out u hu
    go_simp; rfl) ?_
  simp only [List.getElem_toArray, List.getElem_cons_zero, List.getElem_cons_succ, Act.put, List.setIfInBounds_toArray, List.set_cons_zero, List.set_cons_succ]
  refine c_take 7 _ _ rfl (by kernel_rfl) (by kernel_rfl) (by kernel_rfl) rfl (fun c a' w' h => ⟨(putC_defers _ _ _).symm.trans h.1, h.2⟩) HC0.out (fun u hu => by
    go_simp; rfl) ?_
  simp only [List.getElem_toArray, List.getElem_cons_zero, List.getElem_cons_succ, Act.put, List.setIfInBounds_toArray, List.set_cons_zero, List.set_cons_succ]
  refine c_take 8 _ _ rfl (by kernel_rfl) (by kernel_rfl) (by kernel_rfl) rfl (fun c a' w' h => ⟨(putC_defers _ _ _).symm.trans h.1, h.2⟩) HC0.out (fun u hu => by
    have hk := HK2.out u hu
    go_simp; rfl) ?_
  simp only [List.getElem_toArray, List.getElem_cons_zero, List.getElem_cons_succ, Act.put, List.setIfInBounds_toArray, List.set_cons_zero, List.set_cons_succ]
  refine c_take 9 _ _ rfl (by kernel_rfl) (by kernel_rfl) (by kernel_rfl) rfl (fun c a' w' h => ⟨(putC_defers _ _ _).symm.trans h.1, h.2⟩) HC0.out (fun u hu => by
    go_simp; rfl) ?_
  simp only [List.getElem_toArray, List.getElem_cons_zero, List.getElem_cons_succ, Act.put, List.setIfInBounds_toArray, List.set_cons_zero, List.set_cons_succ]
  refine c_take 10 _ _ rfl (by kernel_rfl) (by kernel_rfl) (by kernel_rfl) rfl (fun c a' w' h => ⟨(putC_defers _ _ _).symm.trans h.1, h.2⟩) HC0.out (fun u hu => by
    go_simp; rfl) ?_
  simp only [List.getElem_toArray, List.getElem_cons_zero, List.getElem_cons_succ, Act.put, List.setIfInBounds_toArray, List.set_cons_zero, List.set_cons_succ]
  have HSX := hid (HS1.out _ HC0.out)
  refine c_only 11 _ rfl (by kernel_rfl) ?_
  go_simp
  refine (HM1.out _ _ (HB1.out.trans (HC0.out.mono HB1.out.size)) HSX.out).mono ?_
  intro e w11 h11
  obtain ⟨n11, b11, rfl, hb11, ht11⟩ := toldBy_cases h11
  have HC11 := hid (HC0.out.trans (hb11.mono HC0.out.size))
  have HT11 := hid ht11
  clear h11 hb11 ht11
  refine ⟨HC11.out, ?_⟩

  refine c_take 12 _ _ rfl (by kernel_rfl) (by kernel_rfl) (by kernel_rfl) rfl (fun c a' w' h => ⟨(putC_defers _ _ _).symm.trans h.1, h.2⟩) HC11.out (fun u hu => by
    go_simp; rfl) ?_
  simp only [List.getElem_toArray, List.getElem_cons_zero, List.getElem_cons_succ, Act.put, List.setIfInBounds_toArray, List.set_cons_zero, List.set_cons_succ]
  refine c_take 13 _ _ rfl (by kernel_rfl) (by kernel_rfl) (by kernel_rfl) rfl (fun c a' w' h => ⟨(putC_defers _ _ _).symm.trans h.1, h.2⟩) HC11.out (fun u hu => by
    go_simp; rfl) ?_
  simp only [List.getElem_toArray, List.getElem_cons_zero, List.getElem_cons_succ, Act.put, List.setIfInBounds_toArray, List.set_cons_zero, List.set_cons_succ]
  refine c_take 14 _ _ rfl (by kernel_rfl) (by kernel_rfl) (by kernel_rfl) rfl (fun c a' w' h => ⟨(putC_defers _ _ _).symm.trans h.1, h.2⟩) HC11.out (fun u hu => by
    go_simp; rfl) ?_
  simp only [List.getElem_toArray, List.getElem_cons_zero, List.getElem_cons_succ, Act.put, List.setIfInBounds_toArray, List.set_cons_zero, List.set_cons_succ]
  refine c_take 15 _ _ rfl (by kernel_rfl) (by kernel_rfl) (by kernel_rfl) rfl (fun c a' w' h => ⟨(putC_defers _ _ _).symm.trans h.1, h.2⟩) HC11.out (fun u hu => by
    go_simp; rfl) ?_
  simp only [List.getElem_toArray, List.getElem_cons_zero, List.getElem_cons_succ, Act.put, List.setIfInBounds_toArray, List.set_cons_zero, List.set_cons_succ]
  refine c_take 16 _ _ rfl (by kernel_rfl) (by kernel_rfl) (by kernel_rfl) rfl (fun c a' w' h => ⟨(putC_defers _ _ _).symm.trans h.1, h.2⟩) HC11.out (fun u hu => by
    go_simp; rfl) ?_
  simp only [List.getElem_toArray, List.getElem_cons_zero, List.getElem_cons_succ, Act.put, List.setIfInBounds_toArray, List.set_cons_zero, List.set_cons_succ]
  refine c_end (by kernel_rfl) ?_
  cases b11 with
  | true =>
    have h := HT11.out
    rw [HRR.out] at h
    cases h
  | false =>
    have HB11 := hid (HB1.out.trans (HC11.out.mono HB1.out.size))
    clear k2 k3 k4 k5 k6 k7 k8 k9 k10
    go_wp2
    go_ret2
    exact toldBy_none HB11.out

set_option maxRecDepth 100000 in
set_option maxHeartbeats 4000000 in
theorem toldr_filter (t : ByteArray) (m : Int) (i : Nat) (av sa : Option Addr) (b off : Nat) (n1 cv n2 cs ca : Nat) (az : List Int) (w : World) (haz : Sl w (.slice (some ⟨b, off, none⟩) az.length ca) az.length 1 (az.map iv)) (hn : az.length ≤ 100) (vq : Int) (hv : az[i]? = some vq) (l : List Nd) (hl : l.length = n2) (hsl : Sl w (.slice sa n2 cs) n2 5 (l.flatMap Nd.cells)) (y0 : Nd) (hi0 : l[0]? = some y0) (hy0 : NAt w y0) (hm0 : ∀ (u : World) (v : Value), Below w.heap.size w u → Sl u v (az.set i m).length 1 ((az.set i m).map iv) → Calls Tryz.prog 10 #[.agg #[.int .i64 y0.k, .string y0.t, .int .i64 y0.a, y0.va, y0.vs], v] u (ToldBy u (toldN y0 (az.set i m)))) (y1 : Nd) (hi1 : l[1]? = some y1) (hy1 : NAt w y1) (hm1 : ∀ (u : World) (v : Value), Below w.heap.size w u → Sl u v ([vq]).length 1 (([vq]).map iv) → Calls Tryz.prog 10 #[.agg #[.int .i64 y1.k, .string y1.t, .int .i64 y1.a, y1.va, y1.vs], v] u (ToldBy u (toldN y1 ([vq])))) (hm2 : toldN y1 [vq] = some m) : Calls Tryz.prog 10 #[.agg #[.int .i64 7, .string t, .int .i64 (i : Int), .slice av n1 cv, .slice sa n2 cs], .slice (some ⟨b, off, none⟩) az.length ca] w (ToldBy w (toldN y0 (az.set i m))) := by
  obtain ⟨X1, hX1⟩ : ∃ X1, w.alloc (.cells #[.int .i64 7, .string t, .int .i64 (i : Int), .slice av n1 cv, .slice sa n2 cs] 25) = X1 := ⟨_, rfl⟩
  have HB1 : Hid (Below w.heap.size w X1) := hid (hX1 ▸ ext_alloc _ _)
  have HLT : Hid (w.heap.size < X1.heap.size) := hid (by rw [← hX1]; simp)
  have HXR : Hid (X1.heap[w.heap.size]? = some (.cells #[.int .i64 7, .string t, .int .i64 (i : Int), .slice av n1 cv, .slice sa n2 cs] 25 (0, 0))) := hid (by rw [← hX1]; exact heap_alloc_new _ _)
  have HK1 : Hid (∀ u, Below X1.heap.size X1 u → u.cell? ⟨w.heap.size, 1, none⟩ = some (.string t)) := hid (fun u hu => by rw [cell_of_row _ _ _ _ _ _ ((hu.block _ HLT.out).trans HXR.out)]; rfl)
  have HK2 : Hid (∀ u, Below X1.heap.size X1 u → u.cell? ⟨w.heap.size, 2, none⟩ = some (.int .i64 (i : Int))) := hid (fun u hu => by rw [cell_of_row _ _ _ _ _ _ ((hu.block _ HLT.out).trans HXR.out)]; rfl)
  have HK3 : Hid (∀ u, Below X1.heap.size X1 u → u.cell? ⟨w.heap.size, 3, none⟩ = some (.slice av n1 cv)) := hid (fun u hu => by rw [cell_of_row _ _ _ _ _ _ ((hu.block _ HLT.out).trans HXR.out)]; rfl)
  have HK4 : Hid (∀ u, Below X1.heap.size X1 u → u.cell? ⟨w.heap.size, 4, none⟩ = some (.slice sa n2 cs)) := hid (fun u hu => by rw [cell_of_row _ _ _ _ _ _ ((hu.block _ HLT.out).trans HXR.out)]; rfl)
  have hq0 : X1.cell? ⟨w.heap.size, 0, none⟩ = some (.int .i64 7) := by rw [cell_of_row _ _ _ _ _ _ HXR.out]; rfl
  have hq2 := HK2.out X1 (Below.refl _ _)
  have hq3 := HK3.out X1 (Below.refl _ _)
  have hq4 := HK4.out X1 (Below.refl _ _)
  have HRES := hid hm2
  have hil0 : 0 < l.length := (List.getElem?_eq_some_iff.1 hi0).1
  obtain ⟨b0, off0, hab0, d00, d10, d20, d30, d40⟩ := nd_at (k := 0) (by rw [hl]; exact hsl.below HB1.out) hil0
  rw [(List.getElem?_eq_some_iff.1 hi0).2] at d00 d10 d20 d30 d40
  obtain ⟨p0, q0, e10⟩ := hy0.1.1.val
  obtain ⟨p0', q0', e20⟩ := hy0.1.2.val
  obtain ⟨k0, hk0⟩ : ∃ q, y0.k = q := ⟨_, rfl⟩
  obtain ⟨t0, ht0⟩ : ∃ q, y0.t = q := ⟨_, rfl⟩
  obtain ⟨a0, ha0⟩ : ∃ q, y0.a = q := ⟨_, rfl⟩
  obtain ⟨m0, hm01⟩ : ∃ q, y0.ats.length = q := ⟨_, rfl⟩
  obtain ⟨m0', hm02⟩ : ∃ q, (nodes y0.subs).length = q := ⟨_, rfl⟩
  rw [hm01] at e10
  rw [hm02] at e20
  obtain ⟨r0, hr0⟩ : ∃ R, toldN y0 (az.set i m) = R := ⟨_, rfl⟩
  have HQ0 := hid hr0
  simp only [hk0, ht0, ha0, e10, e20, hr0] at d00 d10 d20 d30 d40 hm0
  have HM0 := hid hm0
  have hil1 : 1 < l.length := (List.getElem?_eq_some_iff.1 hi1).1
  obtain ⟨b1, off1, hab1, d01, d11, d21, d31, d41⟩ := nd_at (k := 1) (by rw [hl]; exact hsl.below HB1.out) hil1
  rw [(List.getElem?_eq_some_iff.1 hi1).2] at d01 d11 d21 d31 d41
  obtain ⟨p1, q1, e11⟩ := hy1.1.1.val
  obtain ⟨p1', q1', e21⟩ := hy1.1.2.val
  obtain ⟨k1, hk1⟩ : ∃ q, y1.k = q := ⟨_, rfl⟩
  obtain ⟨t1, ht1⟩ : ∃ q, y1.t = q := ⟨_, rfl⟩
  obtain ⟨a1, ha1⟩ : ∃ q, y1.a = q := ⟨_, rfl⟩
  obtain ⟨m1, hm11⟩ : ∃ q, y1.ats.length = q := ⟨_, rfl⟩
  obtain ⟨m1', hm12⟩ : ∃ q, (nodes y1.subs).length = q := ⟨_, rfl⟩
  rw [hm11] at e11
  rw [hm12] at e21
  obtain ⟨r1, hr1⟩ : ∃ R, toldN y1 ([vq]) = R := ⟨_, rfl⟩
  have HQ1 := hid hr1
  simp only [hk1, ht1, ha1, e11, e21, hr1] at d01 d11 d21 d31 d41 hm1
  have HM1 := hid hm1
  rw [hr0]
  have hn2 : 1 < n2 := by rw [← hl]; exact hil1
  have hn2i : (1 : Int) < (n2 : Int) := by omega
  have hn20 : (0 : Int) < (n2 : Int) := by omega
  have hn2z : 0 < n2 := by omega
  cases hab0
  cases hab1
  have HD0 : Hid (∀ u, Below X1.heap.size X1 u → u.cell? ⟨b0, off0, none⟩ = some (.int .i64 k0) ∧ u.cell? ⟨b0, off0 + 1, none⟩ = some (.string t0) ∧ u.cell? ⟨b0, off0 + 2, none⟩ = some (.int .i64 a0) ∧ u.cell? ⟨b0, off0 + 3, none⟩ = some (.slice p0 m0 q0) ∧ u.cell? ⟨b0, off0 + 4, none⟩ = some (.slice p0' m0' q0')) := hid (fun u hu => by
    have hbl : b0 < X1.heap.size := World.block_lt_of_cell? _ _ d00
    refine ⟨(hu.cell hbl).trans ?_, (hu.cell hbl).trans ?_, (hu.cell hbl).trans ?_, (hu.cell hbl).trans ?_, (hu.cell hbl).trans ?_⟩
    · simpa using d00
    · simpa using d10
    · simpa using d20
    · simpa using d30
    · simpa using d40)
  clear d00 d10 d20 d30 d40 hk0 ht0 ha0 hm01 hm02 e10 e20 hm0 hi0 hil0 hr0 hy0
  have HD1 : Hid (∀ u, Below X1.heap.size X1 u → u.cell? ⟨b0, off0 + 5, none⟩ = some (.int .i64 k1) ∧ u.cell? ⟨b0, off0 + 6, none⟩ = some (.string t1) ∧ u.cell? ⟨b0, off0 + 7, none⟩ = some (.int .i64 a1) ∧ u.cell? ⟨b0, off0 + 8, none⟩ = some (.slice p1 m1 q1) ∧ u.cell? ⟨b0, off0 + 9, none⟩ = some (.slice p1' m1' q1')) := hid (fun u hu => by
    have hbl : b0 < X1.heap.size := World.block_lt_of_cell? _ _ d01
    refine ⟨(hu.cell hbl).trans ?_, (hu.cell hbl).trans ?_, (hu.cell hbl).trans ?_, (hu.cell hbl).trans ?_, (hu.cell hbl).trans ?_⟩
    · simpa using d01
    · simpa using d11
    · simpa using d21
    · simpa using d31
    · simpa using d41)
  clear d01 d11 d21 d31 d41 hk1 ht1 ha1 hm11 hm12 e11 e21 hm1 hi1 hil1 hr1 hy1
  have HRR := hid (HQ1.out.symm.trans HRES.out)
  have hi : i < az.length := (List.getElem?_eq_some_iff.1 hv).1
  have HI := hid hi
  have HAX := hid (haz.below HB1.out)
  have hcap := HAX.out.cap.2
  have hci : ¬ ca = i := by omega
  have HS1 : Hid (∀ u, Below X1.heap.size X1 u → Sl u (.slice (some ⟨b, off + i, none⟩) 1 (ca - i)) [vq].length 1 ([vq].map iv)) := hid (fun u hu => by
    have h := (HAX.out.below hu).cut i (i + 1) (by omega) (by omega)
    rw [if_neg hci, Nat.mul_one, Nat.mul_one, show i + 1 - i = 1 by omega, Option.map_some, Addr.add_lit, ← List.map_take, ← List.map_drop] at h
    have e : (az.take (i + 1)).drop i = [vq] := by
      rw [List.drop_take, show i + 1 - i = 1 by omega, List.drop_eq_getElem_cons hi]
      exact congrArg (fun z => [z]) (List.getElem?_eq_some_iff.1 hv).2
    rw [e] at h
    exact h)
  have HOV := hid (fun u (hu : u ∈ az.map iv) => one_iv az u hu)
  have k2 : (0 : Int) ≤ (i : Int) := by omega
  have k3 : (i : Int) + 1 ≤ (ca : Int) := by omega
  have k4 : (i : Int) < (az.length : Int) := by omega
  have k5 : (0 : Int) ≤ (i : Int) + 1 := by omega
  have k6 : (i : Int) ≤ (i : Int) + 1 := by omega
  have k7 : ((i : Int) + 1).toNat = i + 1 := by omega
  have k8 : IntKind.i64.wrap ((i : Int) + 1) = (i : Int) + 1 := by rw [IntKind.wrap_i64]; omega
  have k9 : i + 1 - i = 1 := by omega
  have k10 : ((i : Int) + 1 - (i : Int)).toNat = 1 := by omega
  clear haz hsl hl hm2 hv hi
  go_enter Tryz.func10, Tryz.ntmps10
  go_wp2_with fail
  refine wp_region_c (fun u => Below X1.heap.size X1 u) (by kernel_rfl) ?_
  have HC0 : Hid (Below X1.heap.size X1 X1.drew) := hid (Below.refl _ _).drew
  refine c_take 0 _ _ rfl (by kernel_rfl) (by kernel_rfl) (by kernel_rfl) rfl (fun c a' w' h => ⟨(putC_defers _ _ _).symm.trans h.1, h.2⟩) HC0.out (fun u hu => by
    go_simp; rfl) ?_
  simp only [List.getElem_toArray, List.getElem_cons_zero, List.getElem_cons_succ, Act.put, List.setIfInBounds_toArray, List.set_cons_zero, List.set_cons_succ]
  refine c_take 1 _ _ rfl (by kernel_rfl) (by kernel_rfl) (by kernel_rfl) rfl (fun c a' w' h => ⟨(putC_defers _ _ _).symm.trans h.1, h.2⟩) HC0.out (fun u hu => by
    have hk := HK4.out u hu
    go_simp; rfl) ?_
  simp only [List.getElem_toArray, List.getElem_cons_zero, List.getElem_cons_succ, Act.put, List.setIfInBounds_toArray, List.set_cons_zero, List.set_cons_succ]
  refine c_take 2 _ _ rfl (by kernel_rfl) (by kernel_rfl) (by kernel_rfl) rfl (fun c a' w' h => ⟨(putC_defers _ _ _).symm.trans h.1, h.2⟩) HC0.out (fun u hu => by
    go_simp; rfl) ?_
  simp only [List.getElem_toArray, List.getElem_cons_zero, List.getElem_cons_succ, Act.put, List.setIfInBounds_toArray, List.set_cons_zero, List.set_cons_succ]
  refine c_take 3 _ _ rfl (by kernel_rfl) (by kernel_rfl) (by kernel_rfl) rfl (fun c a' w' h => ⟨(putC_defers _ _ _).symm.trans h.1, h.2⟩) HC0.out (fun u hu => by
    obtain ⟨g0, g1, g2, g3, g4⟩ := HD1.out u hu
    go_simp; rfl) ?_
  simp only [List.getElem_toArray, List.getElem_cons_zero, List.getElem_cons_succ, Act.put, List.setIfInBounds_toArray, List.set_cons_zero, List.set_cons_succ]
  refine c_take 4 _ _ rfl (by kernel_rfl) (by kernel_rfl) (by kernel_rfl) rfl (fun c a' w' h => ⟨(putC_defers _ _ _).symm.trans h.1, h.2⟩) HC0.out (fun u hu => by
    go_simp; rfl) ?_
  simp only [List.getElem_toArray, List.getElem_cons_zero, List.getElem_cons_succ, Act.put, List.setIfInBounds_toArray, List.set_cons_zero, List.set_cons_succ]
  refine c_take 5 _ _ rfl (by kernel_rfl) (by kernel_rfl) (by kernel_rfl) rfl (fun c a' w' h => ⟨(putC_defers _ _ _).symm.trans h.1, h.2⟩) HC0.out (fun u hu => by
    go_simp; rfl) ?_
  simp only [List.getElem_toArray, List.getElem_cons_zero, List.getElem_cons_succ, Act.put, List.setIfInBounds_toArray, List.set_cons_zero, List.set_cons_succ]
  refine c_take 6 _ _ rfl (by kernel_rfl) (by kernel_rfl) (by kernel_rfl) rfl (fun c a' w' h => ⟨(putC_defers _ _ _).symm.trans h.1, h.2⟩) HC0.out (fun u hu => by
    have hk := HK2.out u hu
    go_simp; rfl) ?_
  simp only [List.getElem_toArray, List.getElem_cons_zero, List.getElem_cons_succ, Act.put, List.setIfInBounds_toArray, List.set_cons_zero, List.set_cons_succ]
  refine c_take 7 _ _ rfl (by kernel_rfl) (by kernel_rfl) (by kernel_rfl) rfl (fun c a' w' h => ⟨(putC_defers _ _ _).symm.trans h.1, h.2⟩) HC0.out (fun u hu => by
    go_simp; rfl) ?_
  simp only [List.getElem_toArray, List.getElem_cons_zero, List.getElem_cons_succ, Act.put, List.setIfInBounds_toArray, List.set_cons_zero, List.set_cons_succ]
  refine c_take 8 _ _ rfl (by kernel_rfl) (by kernel_rfl) (by kernel_rfl) rfl (fun c a' w' h => ⟨(putC_defers _ _ _).symm.trans h.1, h.2⟩) HC0.out (fun u hu => by
    have hk := HK2.out u hu
    go_simp; rfl) ?_
  simp only [List.getElem_toArray, List.getElem_cons_zero, List.getElem_cons_succ, Act.put, List.setIfInBounds_toArray, List.set_cons_zero, List.set_cons_succ]
  refine c_take 9 _ _ rfl (by kernel_rfl) (by kernel_rfl) (by kernel_rfl) rfl (fun c a' w' h => ⟨(putC_defers _ _ _).symm.trans h.1, h.2⟩) HC0.out (fun u hu => by
    go_simp; rfl) ?_
  simp only [List.getElem_toArray, List.getElem_cons_zero, List.getElem_cons_succ, Act.put, List.setIfInBounds_toArray, List.set_cons_zero, List.set_cons_succ]
  refine c_take 10 _ _ rfl (by kernel_rfl) (by kernel_rfl) (by kernel_rfl) rfl (fun c a' w' h => ⟨(putC_defers _ _ _).symm.trans h.1, h.2⟩) HC0.out (fun u hu => by
    go_simp; rfl) ?_
  simp only [List.getElem_toArray, List.getElem_cons_zero, List.getElem_cons_succ, Act.put, List.setIfInBounds_toArray, List.set_cons_zero, List.set_cons_succ]
  have HSX := hid (HS1.out _ HC0.out)
  refine c_only 11 _ rfl (by kernel_rfl) ?_
  go_simp
  refine (HM1.out _ _ (HB1.out.trans (HC0.out.mono HB1.out.size)) HSX.out).mono ?_
  intro e w11 h11
  obtain ⟨n11, b11, rfl, hb11, ht11⟩ := toldBy_cases h11
  have HC11 := hid (HC0.out.trans (hb11.mono HC0.out.size))
  have HT11 := hid ht11
  clear h11 hb11 ht11
  refine ⟨HC11.out, ?_⟩

  refine c_take 12 _ _ rfl (by kernel_rfl) (by kernel_rfl) (by kernel_rfl) rfl (fun c a' w' h => ⟨(putC_defers _ _ _).symm.trans h.1, h.2⟩) HC11.out (fun u hu => by
    go_simp; rfl) ?_
  simp only [List.getElem_toArray, List.getElem_cons_zero, List.getElem_cons_succ, Act.put, List.setIfInBounds_toArray, List.set_cons_zero, List.set_cons_succ]
  refine c_take 13 _ _ rfl (by kernel_rfl) (by kernel_rfl) (by kernel_rfl) rfl (fun c a' w' h => ⟨(putC_defers _ _ _).symm.trans h.1, h.2⟩) HC11.out (fun u hu => by
    go_simp; rfl) ?_
  simp only [List.getElem_toArray, List.getElem_cons_zero, List.getElem_cons_succ, Act.put, List.setIfInBounds_toArray, List.set_cons_zero, List.set_cons_succ]
  refine c_take 14 _ _ rfl (by kernel_rfl) (by kernel_rfl) (by kernel_rfl) rfl (fun c a' w' h => ⟨(putC_defers _ _ _).symm.trans h.1, h.2⟩) HC11.out (fun u hu => by
    go_simp; rfl) ?_
  simp only [List.getElem_toArray, List.getElem_cons_zero, List.getElem_cons_succ, Act.put, List.setIfInBounds_toArray, List.set_cons_zero, List.set_cons_succ]
  refine c_take 15 _ _ rfl (by kernel_rfl) (by kernel_rfl) (by kernel_rfl) rfl (fun c a' w' h => ⟨(putC_defers _ _ _).symm.trans h.1, h.2⟩) HC11.out (fun u hu => by
    go_simp; rfl) ?_
  simp only [List.getElem_toArray, List.getElem_cons_zero, List.getElem_cons_succ, Act.put, List.setIfInBounds_toArray, List.set_cons_zero, List.set_cons_succ]
  refine c_take 16 _ _ rfl (by kernel_rfl) (by kernel_rfl) (by kernel_rfl) rfl (fun c a' w' h => ⟨(putC_defers _ _ _).symm.trans h.1, h.2⟩) HC11.out (fun u hu => by
    go_simp; rfl) ?_
  simp only [List.getElem_toArray, List.getElem_cons_zero, List.getElem_cons_succ, Act.put, List.setIfInBounds_toArray, List.set_cons_zero, List.set_cons_succ]
  refine c_end (by kernel_rfl) ?_
  cases b11 with
  | false =>
    have h := HT11.out
    rw [HRR.out] at h
    cases h
  | true =>
    obtain rfl : n11 = m := by
      have h := HT11.out
      rw [HRR.out] at h
      exact (Option.some.inj h).symm
    have HAM := hid (Out.made w11 3 1)
    have HA2 := hid (HAX.out.below (HC11.out.trans (HAM.out.below.mono HC11.out.size)))
    clear k3 k5 k6 k7 k8 k9 k10
    go_wp2_with (at_builtin; refine wpList_append_src w11 _ rfl _ _ 22 rfl 3 (.int .i64 0) 1 8 az.length Tryz.underlying22 infoI2 rfl (by decide) _ _ _ HAM.out rfl _ _ HA2.out rfl HOV.out ?_ ?_ ?_)
    all_goals first | (intro v12 w12 ho12 hg12) | omega | skip
    have HO12 : Hid (Out w11 w12 3 1 v12 az.length (az.map iv)) := hid (by simpa using ho12)
    clear ho12 hg12
    obtain ⟨g, cap, u0, hg', _, hc4, hf4, hst⟩ := Out.store HO12.out HI.out
    subst hg'
    have hXX := hst (.int .i64 n11)
    have HX12 := hid (HC11.out.trans (HO12.out.below.mono HC11.out.size))
    have HX13 := hid (HC11.out.trans (hXX.below.mono HC11.out.size))
    have HS13 : Hid (Sl (w12.setCell ⟨g, i, none⟩ (.int .i64 n11)) (.slice (some ⟨g, 0, none⟩) az.length cap) (az.set i n11).length 1 ((az.set i n11).map iv)) := hid (by
      have h := hXX.sl
      rw [List.length_set, List.map_set]
      exact h)
    clear hst hXX
    have y2 := HK2.out w12 HX12.out
    have y4 := HK4.out _ HX13.out
    obtain ⟨g0, g1, g2, g3, g4⟩ := HD0.out _ HX13.out
    go_wp2_with fail
    refine (HM0.out _ _ (HB1.out.trans (HX13.out.mono HB1.out.size)) HS13.out).mono ?_
    intro e w14 h14
    obtain ⟨n14, b14, rfl, hb14, ht14⟩ := toldBy_cases h14
    have HB14 := hid (HB1.out.trans ((HX13.out.trans (hb14.mono HX13.out.size)).mono HB1.out.size))
    have HT14 := hid ht14
    clear h14 hb14 ht14
    go_wp2
    go_ret2
    exact toldBy_mk HT14.out HB14.out

end Go.Proofs.YtogpgfaojmmemaaGreatDoor.hands

/- Handles told: the document's Told, its args permuted. Condition: the lists are not long. -/
set_option linter.unusedSimpArgs false
set_option linter.unusedVariables false
namespace Go.Proofs.YtogpgfaojmmemaaGreatDoor.hands
open Go.RowKit Go.Proofs.YtogpgfaojmmemaaGreatDoor.lib Go.Proofs.YtogpgfaojmmemaaGreatDoor.errs Go.Proofs.YtogpgfaojmmemaaGreatDoor.mtypes Go.Proofs.YtogpgfaojmmemaaGreatDoor.grow Go.Proofs.YtogpgfaojmmemaaGreatDoor.nums

set_option maxRecDepth 100000 in
set_option maxHeartbeats 4000000 in
theorem toldr_perm (t : ByteArray) (a : Int) (ats : List Int) (av sa aa : Option Addr) (n1 cv n2 cs ca : Nat) (az : List Int) (w : World) (haz : Sl w (.slice aa az.length ca) az.length 1 (az.map iv)) (hn : az.length ≤ 100) (hn1 : ats.length = n1) (h1n : n1 ≤ 100) (hat : Sl w (.slice av n1 cv) n1 1 (ats.map iv)) (hz : ∀ z ∈ ats, 0 ≤ z ∧ z < (az.length : Int)) (l : List Nd) (hl : l.length = n2) (hsl : Sl w (.slice sa n2 cs) n2 5 (l.flatMap Nd.cells)) (y0 : Nd) (hi0 : l[0]? = some y0) (hy0 : NAt w y0) (hm0 : ∀ (u : World) (v : Value), Below w.heap.size w u → Sl u v (permA ats az).length 1 ((permA ats az).map iv) → Calls Tryz.prog 10 #[.agg #[.int .i64 y0.k, .string y0.t, .int .i64 y0.a, y0.va, y0.vs], v] u (ToldBy u (toldN y0 (permA ats az)))) : Calls Tryz.prog 10 #[.agg #[.int .i64 6, .string t, .int .i64 a, .slice av n1 cv, .slice sa n2 cs], .slice aa az.length ca] w (ToldBy w (toldN y0 (permA ats az))) := by
  obtain ⟨X1, hX1⟩ : ∃ X1, w.alloc (.cells #[.int .i64 6, .string t, .int .i64 a, .slice av n1 cv, .slice sa n2 cs] 25) = X1 := ⟨_, rfl⟩
  have HB1 : Hid (Below w.heap.size w X1) := hid (hX1 ▸ ext_alloc _ _)
  have HLT : Hid (w.heap.size < X1.heap.size) := hid (by rw [← hX1]; simp)
  have HXR : Hid (X1.heap[w.heap.size]? = some (.cells #[.int .i64 6, .string t, .int .i64 a, .slice av n1 cv, .slice sa n2 cs] 25 (0, 0))) := hid (by rw [← hX1]; exact heap_alloc_new _ _)
  have HK1 : Hid (∀ u, Below X1.heap.size X1 u → u.cell? ⟨w.heap.size, 1, none⟩ = some (.string t)) := hid (fun u hu => by rw [cell_of_row _ _ _ _ _ _ ((hu.block _ HLT.out).trans HXR.out)]; rfl)
  have HK2 : Hid (∀ u, Below X1.heap.size X1 u → u.cell? ⟨w.heap.size, 2, none⟩ = some (.int .i64 a)) := hid (fun u hu => by rw [cell_of_row _ _ _ _ _ _ ((hu.block _ HLT.out).trans HXR.out)]; rfl)
  have HK3 : Hid (∀ u, Below X1.heap.size X1 u → u.cell? ⟨w.heap.size, 3, none⟩ = some (.slice av n1 cv)) := hid (fun u hu => by rw [cell_of_row _ _ _ _ _ _ ((hu.block _ HLT.out).trans HXR.out)]; rfl)
  have HK4 : Hid (∀ u, Below X1.heap.size X1 u → u.cell? ⟨w.heap.size, 4, none⟩ = some (.slice sa n2 cs)) := hid (fun u hu => by rw [cell_of_row _ _ _ _ _ _ ((hu.block _ HLT.out).trans HXR.out)]; rfl)
  have hq0 : X1.cell? ⟨w.heap.size, 0, none⟩ = some (.int .i64 6) := by rw [cell_of_row _ _ _ _ _ _ HXR.out]; rfl
  have hq2 := HK2.out X1 (Below.refl _ _)
  have hq3 := HK3.out X1 (Below.refl _ _)
  have hq4 := HK4.out X1 (Below.refl _ _)
  have hil0 : 0 < l.length := (List.getElem?_eq_some_iff.1 hi0).1
  obtain ⟨b0, off0, hab0, d00, d10, d20, d30, d40⟩ := nd_at (k := 0) (by rw [hl]; exact hsl.below HB1.out) hil0
  rw [(List.getElem?_eq_some_iff.1 hi0).2] at d00 d10 d20 d30 d40
  obtain ⟨p0, q0, e10⟩ := hy0.1.1.val
  obtain ⟨p0', q0', e20⟩ := hy0.1.2.val
  obtain ⟨k0, hk0⟩ : ∃ q, y0.k = q := ⟨_, rfl⟩
  obtain ⟨t0, ht0⟩ : ∃ q, y0.t = q := ⟨_, rfl⟩
  obtain ⟨a0, ha0⟩ : ∃ q, y0.a = q := ⟨_, rfl⟩
  obtain ⟨m0, hm01⟩ : ∃ q, y0.ats.length = q := ⟨_, rfl⟩
  obtain ⟨m0', hm02⟩ : ∃ q, (nodes y0.subs).length = q := ⟨_, rfl⟩
  rw [hm01] at e10
  rw [hm02] at e20
  obtain ⟨r0, hr0⟩ : ∃ R, toldN y0 (permA ats az) = R := ⟨_, rfl⟩
  have HQ0 := hid hr0
  simp only [hk0, ht0, ha0, e10, e20, hr0] at d00 d10 d20 d30 d40 hm0
  have HM0 := hid hm0
  rw [hr0]
  have hn2 : 0 < n2 := by rw [← hl]; exact hil0
  have hn2i : (0 : Int) < (n2 : Int) := by omega
  cases hab0
  have HD0 : Hid (∀ u, Below X1.heap.size X1 u → u.cell? ⟨b0, off0, none⟩ = some (.int .i64 k0) ∧ u.cell? ⟨b0, off0 + 1, none⟩ = some (.string t0) ∧ u.cell? ⟨b0, off0 + 2, none⟩ = some (.int .i64 a0) ∧ u.cell? ⟨b0, off0 + 3, none⟩ = some (.slice p0 m0 q0) ∧ u.cell? ⟨b0, off0 + 4, none⟩ = some (.slice p0' m0' q0')) := hid (fun u hu => by
    have hbl : b0 < X1.heap.size := World.block_lt_of_cell? _ _ d00
    refine ⟨(hu.cell hbl).trans ?_, (hu.cell hbl).trans ?_, (hu.cell hbl).trans ?_, (hu.cell hbl).trans ?_, (hu.cell hbl).trans ?_⟩
    · simpa using d00
    · simpa using d10
    · simpa using d20
    · simpa using d30
    · simpa using d40)
  clear d00 d10 d20 d30 d40 hk0 ht0 ha0 hm01 hm02 e10 e20 hm0 hi0 hil0 hr0 hy0
  have HAT := hid (hat.below HB1.out)
  have HZ := hid hz
  have HN1 := hid hn1
  have HAX := hid (haz.below HB1.out)
  clear haz hsl hl hat hz hn1
  go_enter Tryz.func10, Tryz.ntmps10
  go_wp2_with fail
  go_loopw [7, 8] (fun vt i wr => ∃ k : Nat, k ≤ n1 ∧ i = .int .i64 k ∧ Hid (Out X1 wr 3 1 vt k ((permA (ats.take k) az).map iv))) (fun _ i _ => n1 - (intOf i).toNat)
  case atStart => exact ⟨0, Nat.zero_le _, rfl, hid (Out.nil _ _ _)⟩
  case round =>
    obtain ⟨k, hk, rfl, HO⟩ := hrel
    have y3 := HK3.out wr HO.out.below
    by_cases hlt : k < n1
    · have hka : k < ats.length := by rw [HN1.out]; exact hlt
      obtain ⟨bx, ox, hax, hcx⟩ := Sl.ints (K := .i64) (HAT.out.below HO.out.below) hka
      obtain ⟨z, hzz⟩ : ∃ z, ats[k] = z := ⟨_, rfl⟩
      have HQ : Hid (permA (ats.take (k + 1)) az = permA (ats.take k) az ++ [az.getD z.toNat 0]) := hid (by rw [permA_snoc hka, hzz])
      obtain ⟨z0, z1⟩ := HZ.out z (hzz ▸ List.getElem_mem hka)
      obtain ⟨j, rfl⟩ : ∃ j : Nat, z = (j : Int) := ⟨z.toNat, by omega⟩
      have hja : j < az.length := by omega
      obtain ⟨by_, oy, hay, hcy⟩ := Sl.ints (K := .i64) (HAX.out.below HO.out.below) hja
      have HQ2 : Hid (az.getD (j : Int).toNat 0 = az[j]) := hid (by simp [List.getD, List.getElem?_eq_getElem hja])
      obtain ⟨y, hy⟩ : ∃ y, az[j] = y := ⟨_, rfl⟩
      have HY := hid hy
      rw [hzz] at hcx
      rw [hy] at hcy
      subst hax
      subst hay
      have hi : (0 : Int) ≤ (k : Int) := by omega
      have hkl : (k : Int) < (n1 : Int) := by omega
      clear hzz hy hka
      go_wp2_with (at_builtin; refine wpList_append_lit X1 wr _ rfl _ _ 22 rfl 3 (.int .i64 0) 1 8 1 Tryz.underlying22 infoI rfl (by decide) _ _ _ HO.out rfl rfl rfl ?_ ?_ ?_ ?_)
      all_goals first | (intro v' w' ho hg) | omega | (simp [Value.oneCell']; done) | skip
      have HO2 := hid ho
      clear ho hg
      go_wp2
      go_roundw
      case rel => exact ⟨k + 1, by omega, by go_num, hid (by rw [HQ.out, HQ2.out, HY.out, List.map_append]; exact HO2.out)⟩
      case measure => simp [intOf]; omega
    · obtain rfl : k = n1 := by omega
      have HX5 := hid HO.out.below
      have HLE : Hid ((permA ats az).length = k) := hid (by rw [permA_len, HN1.out])
      have HS5 : Hid (Sl wr u7 (permA ats az).length 1 ((permA ats az).map iv)) := hid (by
        have h := HO.out.sl
        rw [List.take_of_length_le (by rw [HN1.out]; exact Nat.le_refl _)] at h
        rw [HLE.out]; exact h)
      have HB5 := hid (HB1.out.trans (HX5.out.mono HB1.out.size))
      have y4 := HK4.out wr HX5.out
      obtain ⟨g0, g1, g2, g3, g4⟩ := HD0.out wr HX5.out
      go_wp2_with fail
      refine (HM0.out _ _ HB5.out HS5.out).mono ?_
      intro e w14 h14
      obtain ⟨n14, b14, rfl, hb14, ht14⟩ := toldBy_cases h14
      have HB14 := hid (HB5.out.trans (hb14.mono HB5.out.size))
      have HT14 := hid ht14
      clear h14 hb14 ht14
      go_wp2
      go_ret2
      exact toldBy_mk HT14.out HB14.out

end Go.Proofs.YtogpgfaojmmemaaGreatDoor.hands

/- Handles told: the document's Told of a right handle tells what the plain function tells. Condition: numbers that fit its types. -/
set_option linter.unusedSimpArgs false
set_option linter.unusedVariables false
namespace Go.Proofs.YtogpgfaojmmemaaGreatDoor.hands
open Go.RowKit Go.Proofs.YtogpgfaojmmemaaGreatDoor.lib Go.Proofs.YtogpgfaojmmemaaGreatDoor.errs Go.Proofs.YtogpgfaojmmemaaGreatDoor.mtypes Go.Proofs.YtogpgfaojmmemaaGreatDoor.grow Go.Proofs.YtogpgfaojmmemaaGreatDoor.nums

theorem fit_32 {t : List UInt8} {n : Int} (h : Fit t n) (e : t = [73]) : -2147483648 ≤ n ∧ n ≤ 2147483647 := h.2 e

set_option maxHeartbeats 1000000 in
theorem toldr_any {x : Nd} {ts : List (List UInt8)} {g : List UInt8} (h : Right x ts g) : ∀ (w : World) (va : Value) (az : List Int), NAt w x → NumN x → Fits ts az → Sl w va az.length 1 (az.map iv) →
    Calls Tryz.prog 10 #[.agg #[.int .i64 x.k, .string x.t, .int .i64 x.a, x.va, x.vs], va] w (ToldBy w (toldN x az)) := by
  induction h with
  | @const x t h1 hs h2 h3 h4 =>
    intro w va az hx hN hf haz
    have hl := hf.1
    obtain ⟨a1, c1, e1⟩ := hx.1.1.val
    obtain ⟨a2, c2, e2⟩ := hx.1.2.val
    obtain ⟨aa, ca, rfl⟩ := haz.val
    rw [told_const h1, e1, e2, h1]
    exact toldr_const _ _ _ _ _ _ _ _ _ _ az w haz (by simp at hl; simp [← hl])
  | @same x t h1 hs h2 h3 =>
    intro w va az hx hN hf haz
    obtain ⟨a1, c1, e1⟩ := hx.1.1.val
    obtain ⟨a2, c2, e2⟩ := hx.1.2.val
    obtain ⟨aa, ca, rfl⟩ := haz.val
    match az, hf.1 with
    | [v], _ =>
      rw [told_same h1 hs, e1, e2, h1]
      exact toldr_same _ _ _ _ _ _ _ _ _ _ [v] w haz (by show 1 ≤ 100; decide) v rfl
  | @neg x t h1 hs h2 h3 h4 =>
    intro w va az hx hN hf haz
    obtain ⟨a1, c1, e1⟩ := hx.1.1.val
    obtain ⟨a2, c2, e2⟩ := hx.1.2.val
    obtain ⟨aa, ca, rfl⟩ := haz.val
    match az, hf with
    | [v], hf =>
      have hv := hf.2 0 _ v rfl rfl
      rw [told_math h1, e1, e2, h1, h4]
      exact toldr_neg _ _ _ _ _ _ _ _ _ v w (by rw [h2]; exact h3) hv.1 (fun e => hv.2 (by rw [← h2]; exact e)) _ rfl haz
  | @math x t u h1 hs h2 h3 h4 h5 =>
    intro w va az hx hN hf haz
    obtain ⟨a1, c1, e1⟩ := hx.1.1.val
    obtain ⟨a2, c2, e2⟩ := hx.1.2.val
    obtain ⟨aa, ca, rfl⟩ := haz.val
    match az, hf with
    | [v1, v2], hf =>
      have hv := hf.2 0 _ v1 rfl rfl
      have hv2 := hf.2 1 _ v2 rfl rfl
      rw [told_math h1, e1, e2, h1]
      exact toldr_two _ _ _ _ _ _ _ _ _ _ v1 v2 w (by rw [h2]; exact h3) h4 hv.1 hv2.1 (fun e => hv.2 (by rw [← h2]; exact e)) _ rfl haz
  | @drop x y ts g i h1 hs h2 hi h5 h6 hy ih =>
    intro w va az hx hN hf haz
    have hl := hf.1
    obtain ⟨a1, c1, e1⟩ := hx.1.1.val
    obtain ⟨a2, c2, e2⟩ := hx.1.2.val
    obtain ⟨aa, ca, rfl⟩ := haz.val
    have hyA := (node_at hx.2 (by rw [hs]; exact List.mem_singleton.2 rfl : y ∈ nodes x.subs)).1
    have hyN := num_at hN.2 (by rw [hs]; exact List.mem_singleton.2 rfl : y ∈ nodes x.subs)
    rw [putL_len _ hi] at hl
    have hsl := hx.1.2
    rw [e2] at hsl
    have hf2 := hf.erase i
    rw [putL_erase' _ hi] at hf2
    rw [told_one hs (by omega) (by omega), if_pos h1, e1, e2, h1, h2, show ((i : Int)).toNat = i from by omega]
    exact toldr_drop _ i _ _ _ _ _ _ _ _ az w haz (by omega) (by omega) (nodes x.subs) rfl hsl y (by rw [hs]; rfl) hyA (fun u v hb hv => ih u v _ (hyA.below hb) hyN hf2 hv)
  | @perm x y ts ms g h1 hs hl0 hp h5 hy ih =>
    intro w va az hx hN hf haz
    have hl := hf.1
    obtain ⟨a1, c1, e1⟩ := hx.1.1.val
    obtain ⟨a2, c2, e2⟩ := hx.1.2.val
    obtain ⟨aa, ca, rfl⟩ := haz.val
    have hyA := (node_at hx.2 (by rw [hs]; exact List.mem_singleton.2 rfl : y ∈ nodes x.subs)).1
    have hyN := num_at hN.2 (by rw [hs]; exact List.mem_singleton.2 rfl : y ∈ nodes x.subs)
    have hsl := hx.1.2
    have hat := hx.1.1
    rw [e2] at hsl
    rw [e1] at hat
    have h5' := right_len hy
    have hfp := hf.perm hp hl0
    rw [told_one hs (by omega) (by omega), if_neg (by omega), e1, e2, h1]
    refine toldr_perm _ _ x.ats _ _ _ _ _ _ _ _ az w haz (by omega) rfl (by omega) hat (fun z hz => ?_) (nodes x.subs) rfl hsl y (by rw [hs]; rfl) hyA (fun u v hb hv => ih u v _ (hyA.below hb) hyN hfp hv)
    obtain ⟨j, hj, rfl⟩ := List.mem_iff_getElem.1 hz
    obtain ⟨z0, z1, _⟩ := perm_ok hp hl0 j _ _ (List.getElem?_eq_getElem hj) (List.getElem?_eq_getElem (hl0 ▸ hj))
    exact ⟨z0, by omega⟩
  | @bind x y z ts g q i h1 hs h2 hq hy hz ihy ihz =>
    intro w va az hx hN hf haz
    have hl := hf.1
    obtain ⟨a1, c1, e1⟩ := hx.1.1.val
    obtain ⟨a2, c2, e2⟩ := hx.1.2.val
    obtain ⟨aa, ca, rfl⟩ := haz.val
    have hyA := (node_at hx.2 (by rw [hs]; exact List.mem_cons_self .. : y ∈ nodes x.subs)).1
    have hzA := (node_at hx.2 (by rw [hs]; exact List.mem_cons_of_mem _ (List.mem_cons_self ..) : z ∈ nodes x.subs)).1
    have hyN := num_at hN.2 (by rw [hs]; exact List.mem_cons_self .. : y ∈ nodes x.subs)
    have hzN := num_at hN.2 (by rw [hs]; exact List.mem_cons_of_mem _ (List.mem_cons_self ..) : z ∈ nodes x.subs)
    have hi : i < ts.length := (List.getElem?_eq_some_iff.1 hq).1
    rw [List.length_eraseIdx, if_pos hi] at hl
    have h5' := right_len hy
    have hsl := hx.1.2
    rw [e2] at hsl
    rw [told_two hs (by omega) (by omega), if_pos h1, e1, e2, h1, h2, show ((i : Int)).toNat = i from by omega]
    have hm1 : ∀ (u : World) (v : Value), Below w.heap.size w u → Sl u v ([] : List Int).length 1 (([] : List Int).map iv) → _ := fun u v hb hv => ihz u v [] (hzA.below hb) hzN fits_nil hv
    cases hn : toldN z [] with
    | none => exact toldr_bind_none _ i _ _ _ _ _ _ _ _ az w haz (by omega) (by omega) (nodes x.subs) rfl hsl z (by rw [hs]; rfl) hzA hm1 hn
    | some m =>
      have hfm := told_fit hz hzN [] m fits_nil hn
      have hfi := hf.ins hq hfm
      have hm0 := fun (u : World) (v : Value) (hb : Below w.heap.size w u) hv => ihy u v _ (hyA.below hb) hyN hfi hv
      by_cases h0 : az = []
      · subst h0
        obtain rfl : i = 0 := by simp at hl; omega
        exact toldr_bind_nil _ m _ _ _ _ _ _ _ _ w (nodes x.subs) rfl hsl y (by rw [hs]; rfl) hyA hm0 z (by rw [hs]; rfl) hzA hm1 hn
      · obtain ⟨b, off, rfl, _⟩ := Sl.at1 haz (List.length_pos_iff.2 h0)
        exact toldr_bind_some _ m i _ _ _ _ _ _ _ _ _ az w haz (by omega) (by omega) (nodes x.subs) rfl hsl y (by rw [hs]; rfl) hyA hm0 z (by rw [hs]; rfl) hzA hm1 hn
  | @filter x y z ts g q u i h1 hs h2 hq hy hz ihy ihz =>
    intro w va az hx hN hf haz
    have hl := hf.1
    obtain ⟨a1, c1, e1⟩ := hx.1.1.val
    obtain ⟨a2, c2, e2⟩ := hx.1.2.val
    obtain ⟨aa, ca, rfl⟩ := haz.val
    have hyA := (node_at hx.2 (by rw [hs]; exact List.mem_cons_self .. : y ∈ nodes x.subs)).1
    have hzA := (node_at hx.2 (by rw [hs]; exact List.mem_cons_of_mem _ (List.mem_cons_self ..) : z ∈ nodes x.subs)).1
    have hyN := num_at hN.2 (by rw [hs]; exact List.mem_cons_self .. : y ∈ nodes x.subs)
    have hzN := num_at hN.2 (by rw [hs]; exact List.mem_cons_of_mem _ (List.mem_cons_self ..) : z ∈ nodes x.subs)
    have hi : i < ts.length := (List.getElem?_eq_some_iff.1 hq).1
    rw [List.length_set] at hl
    have h5' := right_len hy
    have hsl := hx.1.2
    rw [e2] at hsl
    have hia : i < az.length := by omega
    have e : az.getD i 0 = az[i] := by simp [List.getD, List.getElem?_eq_getElem hia]
    obtain ⟨hi', hfi⟩ := hf.at (i := i) (by rw [List.length_set]; exact hi)
    rw [List.getElem_set_self] at hfi
    obtain ⟨b, off, rfl, _⟩ := Sl.at1 haz hia
    rw [told_two hs (by omega) (by omega), if_neg (by omega), e1, e2, h1, h2, show ((i : Int)).toNat = i from by omega, e]
    have hm1 : ∀ (u : World) (v : Value), Below w.heap.size w u → Sl u v [az[i]].length 1 ([az[i]].map iv) → _ := fun u v hb hv => ihz u v [az[i]] (hzA.below hb) hzN (fits_one hfi) hv
    cases hn : toldN z [az[i]] with
    | none => exact toldr_filter_none _ i _ _ _ _ _ _ _ _ _ az w haz (by omega) _ (List.getElem?_eq_getElem hia) (nodes x.subs) rfl hsl z (by rw [hs]; rfl) hzA hm1 hn
    | some m =>
      have hfm := told_fit hz hzN _ m (fits_one hfi) hn
      exact toldr_filter _ m i _ _ _ _ _ _ _ _ _ az w haz (by omega) _ (List.getElem?_eq_getElem hia) (nodes x.subs) rfl hsl y (by rw [hs]; rfl) hyA (fun u v hb hv => ihy u v _ (hyA.below hb) hyN (hf.set hq hfm) hv) z (by rw [hs]; rfl) hzA hm1 hn

end Go.Proofs.YtogpgfaojmmemaaGreatDoor.hands
