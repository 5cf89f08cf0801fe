/- Handles called: call.made, kind by kind, its subs' answers given. Condition: the lists are not long. -/
import Derived.Test.YtikkhjcocmihlaaDoorCall2
import Derived.Test.YtikkhjcocmihlaaDoorGrowP
set_option linter.unusedSimpArgs false
set_option linter.unusedVariables false
namespace Go.Proofs.YtikkhjcocmihlaaDoor.hands
open Go.RowKit Go.Proofs.YtikkhjcocmihlaaDoor.lib Go.Proofs.YtikkhjcocmihlaaDoor.errs Go.Proofs.YtikkhjcocmihlaaDoor.mtypes Go.Proofs.YtikkhjcocmihlaaDoor.grow Go.Proofs.YtikkhjcocmihlaaDoor.nums

/-- what made panics with -/
def unm : List PanicEntry := [{ v := .iface 45 (.agg #[]), recovered := false }]
def endOf : Option Int → Ending
  | some n => .returned (.int .i64 n)
  | none => .panicked unm
def MadeBy (w : World) (r : Option Int) (e : Ending) (w' : World) : Prop := Below w.heap.size w w' ∧ e = endOf r

def ownR (w : World) (xs : List Int) : Value → World → Prop := fun v u => Out w u 3 1 v xs.length (xs.map iv)
theorem ownR_stays (w : World) (xs : List Int) : ∀ v u u', Below u.heap.size u u' → ownR w xs v u → ownR w xs v u' := fun v u u' hb h => Out.later h hb
def oneR (n : Int) : Value → World → Prop := fun v u => ∃ H, v = .slice (some ⟨H, 0, none⟩) 1 1 ∧ u.heap[H]? = some (.cells #[iv n] 3 (0, 0))
theorem oneR_stays (n : Int) : ∀ v u u', Below u.heap.size u u' → oneR n v u → oneR n v u' := by
  rintro v u u' hb ⟨H, rfl, h⟩
  exact ⟨H, rfl, (hb.block H (Array.getElem?_eq_some_iff.1 h).1).trans h⟩
theorem oneR_sl {n : Int} {v : Value} {u : World} (h : oneR n v u) : Sl u v 1 1 [iv n] := by
  obtain ⟨H, rfl, h⟩ := h
  refine ⟨rfl, _, _, rfl, Nat.le_refl _, .inr ⟨_, _, rfl, fun j x hj => ?_⟩⟩
  rw [Nat.zero_add, cell_of_row _ _ _ _ _ _ h]
  simpa using hj

set_option maxRecDepth 100000 in
set_option maxHeartbeats 4000000 in
/-- the closure that calls made of a sub -/
theorem sub_any (g i : Nat) (u : World) (sa : Option Addr) (m cs : Nat) (l : List Nd) (va : Value) (r : Option Int) (y : Nd) (hl : l.length = m) (hbox : u.cell? ⟨g, 4, none⟩ = some (.slice sa m cs)) (hsl : Sl u (.slice sa m cs) m 5 (l.flatMap Nd.cells)) (hi : l[i]? = some y) (hy : NAt u y)
    (hm : Calls Tryd.prog 14 #[.agg #[.int .i64 y.k, .string y.t, .int .i64 y.a, y.va, y.vs], va] u (MadeBy u r)) :
    Calls Tryd.prog 25 #[.int .i64 (i : Int), va, .pointer (some ⟨g, 0, none⟩)] u (MadeBy u r) := by
  subst hl
  obtain ⟨hil, hiy⟩ := List.getElem?_eq_some_iff.1 hi
  obtain ⟨b, off, hab, d0, d1, d2, d3, d4⟩ := nd_at hsl hil
  subst hab
  rw [hiy] at d0 d1 d2 d3 d4
  have h0 : (0 : Int) ≤ (i : Int) := by omega
  have hjl : (i : Int) < (l.length : Int) := by omega
  obtain ⟨a1, c1, e1⟩ := hy.1.1.val
  obtain ⟨a2, c2, e2⟩ := hy.1.2.val
  obtain ⟨yk, hyk⟩ : ∃ q, y.k = q := ⟨_, rfl⟩
  obtain ⟨yt, hyt⟩ : ∃ q, y.t = q := ⟨_, rfl⟩
  obtain ⟨ya, hya⟩ : ∃ q, y.a = q := ⟨_, rfl⟩
  obtain ⟨n1, hn1⟩ : ∃ q, y.ats.length = q := ⟨_, rfl⟩
  obtain ⟨n2, hn2⟩ : ∃ q, (nodes y.subs).length = q := ⟨_, rfl⟩
  rw [hn1] at e1
  rw [hn2] at e2
  simp only [hyk, hyt, hya, e1, e2] at d0 d1 d2 d3 d4 hm
  have HM := hid hm
  clear hm hy hi hiy hyk hyt hya hn1 hn2 e1 e2 hsl hil
  go_enter Tryd.func25, Tryd.ntmps25
  go_wp2_with fail
  refine HM.out.mono ?_
  rintro e w5 ⟨hb5, he⟩
  cases r with
  | none =>
    obtain rfl : e = .panicked unm := he
    exact ⟨rfl, hb5, rfl⟩
  | some n =>
    obtain rfl : e = .returned (.int .i64 n) := he
    go_wp2_with fail
    go_ret
    exact ⟨hb5, rfl⟩

set_option maxRecDepth 100000 in
set_option maxHeartbeats 4000000 in
theorem made_const (t : ByteArray) (a : Int) (av sa aa : Option Addr) (n1 cv n2 cs ca : Nat) (az : List Int) (w : World) (haz : Sl w (.slice aa az.length ca) az.length 1 (az.map iv)) (hn : az.length ≤ 100) : Calls Tryd.prog 14 #[.agg #[.int .i64 1, .string t, .int .i64 a, .slice av n1 cv, .slice sa n2 cs], .slice aa az.length ca] w (MadeBy w (some a)) := by
  obtain ⟨X1, hX1⟩ : ∃ X1, w.alloc (.cells #[.int .i64 1, .string t, .int .i64 a, .slice av n1 cv, .slice sa n2 cs] 25) = X1 := ⟨_, rfl⟩
  have HB1 : Hid (Below w.heap.size w X1) := hid (hX1 ▸ ext_alloc _ _)
  have HLT : Hid (w.heap.size < X1.heap.size) := hid (by rw [← hX1]; simp)
  have HXR : Hid (X1.heap[w.heap.size]? = some (.cells #[.int .i64 1, .string t, .int .i64 a, .slice av n1 cv, .slice sa n2 cs] 25 (0, 0))) := hid (by rw [← hX1]; exact heap_alloc_new _ _)
  have HK1 : Hid (∀ u, Below X1.heap.size X1 u → u.cell? ⟨w.heap.size, 1, none⟩ = some (.string t)) := hid (fun u hu => by rw [cell_of_row _ _ _ _ _ _ ((hu.block _ HLT.out).trans HXR.out)]; rfl)
  have HK2 : Hid (∀ u, Below X1.heap.size X1 u → u.cell? ⟨w.heap.size, 2, none⟩ = some (.int .i64 a)) := hid (fun u hu => by rw [cell_of_row _ _ _ _ _ _ ((hu.block _ HLT.out).trans HXR.out)]; rfl)
  have HK3 : Hid (∀ u, Below X1.heap.size X1 u → u.cell? ⟨w.heap.size, 3, none⟩ = some (.slice av n1 cv)) := hid (fun u hu => by rw [cell_of_row _ _ _ _ _ _ ((hu.block _ HLT.out).trans HXR.out)]; rfl)
  have HK4 : Hid (∀ u, Below X1.heap.size X1 u → u.cell? ⟨w.heap.size, 4, none⟩ = some (.slice sa n2 cs)) := hid (fun u hu => by rw [cell_of_row _ _ _ _ _ _ ((hu.block _ HLT.out).trans HXR.out)]; rfl)
  have hq0 : X1.cell? ⟨w.heap.size, 0, none⟩ = some (.int .i64 1) := by rw [cell_of_row _ _ _ _ _ _ HXR.out]; rfl
  have hq2 := HK2.out X1 (Below.refl _ _)
  have hq3 := HK3.out X1 (Below.refl _ _)
  have hmf : ∀ (fn : Fn) (first cap : Array Value) (w : World), (Instr.makeFunc fn first cap).run Tryd.prog w = .ok (.func fn first cap) w := fun _ _ _ _ => rfl
  go_enter Tryd.func14, Tryd.ntmps14
  go_wp2_with fail
  go_ret
  exact ⟨HB1.out, rfl⟩

set_option maxRecDepth 100000 in
set_option maxHeartbeats 4000000 in
theorem made_same (t : ByteArray) (a : Int) (av sa aa : Option Addr) (n1 cv n2 cs ca : Nat) (az : List Int) (w : World) (haz : Sl w (.slice aa az.length ca) az.length 1 (az.map iv)) (hn : az.length ≤ 100) (v : Int) (hv : az[0]? = some v) : Calls Tryd.prog 14 #[.agg #[.int .i64 2, .string t, .int .i64 a, .slice av n1 cv, .slice sa n2 cs], .slice aa az.length ca] w (MadeBy w (some v)) := by
  obtain ⟨X1, hX1⟩ : ∃ X1, w.alloc (.cells #[.int .i64 2, .string t, .int .i64 a, .slice av n1 cv, .slice sa n2 cs] 25) = X1 := ⟨_, rfl⟩
  have HB1 : Hid (Below w.heap.size w X1) := hid (hX1 ▸ ext_alloc _ _)
  have HLT : Hid (w.heap.size < X1.heap.size) := hid (by rw [← hX1]; simp)
  have HXR : Hid (X1.heap[w.heap.size]? = some (.cells #[.int .i64 2, .string t, .int .i64 a, .slice av n1 cv, .slice sa n2 cs] 25 (0, 0))) := hid (by rw [← hX1]; exact heap_alloc_new _ _)
  have HK1 : Hid (∀ u, Below X1.heap.size X1 u → u.cell? ⟨w.heap.size, 1, none⟩ = some (.string t)) := hid (fun u hu => by rw [cell_of_row _ _ _ _ _ _ ((hu.block _ HLT.out).trans HXR.out)]; rfl)
  have HK2 : Hid (∀ u, Below X1.heap.size X1 u → u.cell? ⟨w.heap.size, 2, none⟩ = some (.int .i64 a)) := hid (fun u hu => by rw [cell_of_row _ _ _ _ _ _ ((hu.block _ HLT.out).trans HXR.out)]; rfl)
  have HK3 : Hid (∀ u, Below X1.heap.size X1 u → u.cell? ⟨w.heap.size, 3, none⟩ = some (.slice av n1 cv)) := hid (fun u hu => by rw [cell_of_row _ _ _ _ _ _ ((hu.block _ HLT.out).trans HXR.out)]; rfl)
  have HK4 : Hid (∀ u, Below X1.heap.size X1 u → u.cell? ⟨w.heap.size, 4, none⟩ = some (.slice sa n2 cs)) := hid (fun u hu => by rw [cell_of_row _ _ _ _ _ _ ((hu.block _ HLT.out).trans HXR.out)]; rfl)
  have hq0 : X1.cell? ⟨w.heap.size, 0, none⟩ = some (.int .i64 2) := by rw [cell_of_row _ _ _ _ _ _ HXR.out]; rfl
  have hq2 := HK2.out X1 (Below.refl _ _)
  have hq3 := HK3.out X1 (Below.refl _ _)
  have hmf : ∀ (fn : Fn) (first cap : Array Value) (w : World), (Instr.makeFunc fn first cap).run Tryd.prog w = .ok (.func fn first cap) w := fun _ _ _ _ => rfl
  have HAZ := hid haz
  have h0 : 0 < az.length := (List.getElem?_eq_some_iff.1 hv).1
  have h0i : (0 : Int) < (az.length : Int) := by omega
  obtain ⟨b, off, rfl, u0, hu0, hcell⟩ := Sl.at1 (haz.below HB1.out) h0
  rw [List.getElem?_map, hv] at hu0
  obtain rfl := Option.some.inj hu0
  have hc0 : X1.cell? ⟨b, off, none⟩ = some (.int .i64 v) := hcell
  clear haz hcell hu0 hv
  go_enter Tryd.func14, Tryd.ntmps14
  go_wp2_with fail
  go_ret
  exact ⟨HB1.out, rfl⟩

end Go.Proofs.YtikkhjcocmihlaaDoor.hands

/- Handles called: call.made, numbers, its subs' answers given. Condition: the lists are not long. -/
set_option linter.unusedSimpArgs false
set_option linter.unusedVariables false
namespace Go.Proofs.YtikkhjcocmihlaaDoor.hands
open Go.RowKit Go.Proofs.YtikkhjcocmihlaaDoor.lib Go.Proofs.YtikkhjcocmihlaaDoor.errs Go.Proofs.YtikkhjcocmihlaaDoor.mtypes Go.Proofs.YtikkhjcocmihlaaDoor.grow Go.Proofs.YtikkhjcocmihlaaDoor.nums

set_option maxRecDepth 100000 in
set_option maxHeartbeats 4000000 in
theorem made_neg (t : ByteArray) (a : Int) (av sa aa : Option Addr) (n1 cv n2 cs ca : Nat) (v1 : Int) (w : World) (r : Option Int) (hr : (if (ofOf t.data.toList a v1 v1).2 = true then some (ofOf t.data.toList a v1 v1).1 else none) = r) (haz : Sl w (.slice aa 1 ca) 1 1 ([v1].map iv)) : Calls Tryd.prog 14 #[.agg #[.int .i64 3, .string t, .int .i64 a, .slice av n1 cv, .slice sa n2 cs], .slice aa 1 ca] w (MadeBy w r) := by
  obtain ⟨R, hR⟩ : ∃ R, ofOf t.data.toList a v1 v1 = R := ⟨_, rfl⟩
  have HR := hid hR
  rw [hR] at hr
  have HRR := hid hr
  clear hR hr
  obtain ⟨X1, hX1⟩ : ∃ X1, w.alloc (.cells #[.int .i64 3, .string t, .int .i64 a, .slice av n1 cv, .slice sa n2 cs] 25) = X1 := ⟨_, rfl⟩
  have HB1 : Hid (Below w.heap.size w X1) := hid (hX1 ▸ ext_alloc _ _)
  have HLT : Hid (w.heap.size < X1.heap.size) := hid (by rw [← hX1]; simp)
  have HXR : Hid (X1.heap[w.heap.size]? = some (.cells #[.int .i64 3, .string t, .int .i64 a, .slice av n1 cv, .slice sa n2 cs] 25 (0, 0))) := hid (by rw [← hX1]; exact heap_alloc_new _ _)
  have HK1 : Hid (∀ u, Below X1.heap.size X1 u → u.cell? ⟨w.heap.size, 1, none⟩ = some (.string t)) := hid (fun u hu => by rw [cell_of_row _ _ _ _ _ _ ((hu.block _ HLT.out).trans HXR.out)]; rfl)
  have HK2 : Hid (∀ u, Below X1.heap.size X1 u → u.cell? ⟨w.heap.size, 2, none⟩ = some (.int .i64 a)) := hid (fun u hu => by rw [cell_of_row _ _ _ _ _ _ ((hu.block _ HLT.out).trans HXR.out)]; rfl)
  have HK3 : Hid (∀ u, Below X1.heap.size X1 u → u.cell? ⟨w.heap.size, 3, none⟩ = some (.slice av n1 cv)) := hid (fun u hu => by rw [cell_of_row _ _ _ _ _ _ ((hu.block _ HLT.out).trans HXR.out)]; rfl)
  have HK4 : Hid (∀ u, Below X1.heap.size X1 u → u.cell? ⟨w.heap.size, 4, none⟩ = some (.slice sa n2 cs)) := hid (fun u hu => by rw [cell_of_row _ _ _ _ _ _ ((hu.block _ HLT.out).trans HXR.out)]; rfl)
  have hq0 : X1.cell? ⟨w.heap.size, 0, none⟩ = some (.int .i64 3) := by rw [cell_of_row _ _ _ _ _ _ HXR.out]; rfl
  have hq2 := HK2.out X1 (Below.refl _ _)
  have hq3 := HK3.out X1 (Below.refl _ _)
  have hmf : ∀ (fn : Fn) (first cap : Array Value) (w : World), (Instr.makeFunc fn first cap).run Tryd.prog w = .ok (.func fn first cap) w := fun _ _ _ _ => rfl
  obtain ⟨b, off, rfl, u0, hu0, hcell⟩ := Sl.at1 (haz.below HB1.out) (k := 0) (by decide)
  obtain rfl : u0 = .int .i64 v1 := (Option.some.inj hu0).symm
  have hcell0 : X1.cell? ⟨b, off, none⟩ = some (.int .i64 v1) := hcell
  obtain ⟨b', off', hab, u1, hu1, hcell1⟩ := Sl.at1 (haz.below HB1.out) (k := 0) (by decide)
  cases hab
  obtain rfl : u1 = .int .i64 v1 := (Option.some.inj hu1).symm
  have HC1 : Hid (∀ u, Below X1.heap.size X1 u → u.cell? ⟨b, off, none⟩ = some (.int .i64 v1)) := hid (fun u hu => (hu.cell (World.block_lt_of_cell? _ _ hcell0)).trans hcell0)
  have HC2 : Hid (∀ u, Below X1.heap.size X1 u → u.cell? ⟨b, off, none⟩ = some (.int .i64 v1)) := hid (fun u hu => (hu.cell (World.block_lt_of_cell? _ _ hcell1)).trans hcell1)
  clear haz hcell hu0 hcell1 hu1 hcell0
  go_enter Tryd.func14, Tryd.ntmps14
  go_wp2_with fail
  refine wp_region_ext [(13, is (.tuple #[.int .i64 R.1, .bool R.2]))] ⟨is_stays _, trivial⟩ (by kernel_rfl) (by kernel_rfl) ?_
  refine wpG_calc 1 rfl rfl rfl (fun u => by go_simp; rfl) ?_
  simp only [Act.put, List.setIfInBounds_toArray, List.set_cons_zero, List.set_cons_succ]
  refine wpG_read 2 rfl rfl (.string t) rfl ?_ ?_
  · intro u hu hh
    have hk := HK1.out u hu
    go_simp
  simp only [Act.put, List.setIfInBounds_toArray, List.set_cons_zero, List.set_cons_succ]
  refine wpG_calc 3 rfl rfl rfl (fun u => by go_simp; rfl) ?_
  simp only [Act.put, List.setIfInBounds_toArray, List.set_cons_zero, List.set_cons_succ]
  refine wpG_read 4 rfl rfl (.int .i64 a) rfl ?_ ?_
  · intro u hu hh
    have hk := HK2.out u hu
    go_simp
  simp only [Act.put, List.setIfInBounds_toArray, List.set_cons_zero, List.set_cons_succ]
  refine wpG_calc 5 rfl rfl rfl (fun u => by go_simp; rfl) ?_
  simp only [Act.put, List.setIfInBounds_toArray, List.set_cons_zero, List.set_cons_succ]
  refine wpG_calc 6 rfl rfl rfl (fun u => by go_simp; rfl) ?_
  simp only [Act.put, List.setIfInBounds_toArray, List.set_cons_zero, List.set_cons_succ]
  refine wpG_read 7 rfl rfl (.int .i64 v1) rfl ?_ ?_
  · intro u hu hh
    have hk := HC1.out u hu
    go_simp
  simp only [Act.put, List.setIfInBounds_toArray, List.set_cons_zero, List.set_cons_succ]
  refine wpG_calc 8 rfl rfl rfl (fun u => by go_simp; rfl) ?_
  simp only [Act.put, List.setIfInBounds_toArray, List.set_cons_zero, List.set_cons_succ]
  refine wpG_calc 9 rfl rfl rfl (fun u => by go_simp; rfl) ?_
  simp only [Act.put, List.setIfInBounds_toArray, List.set_cons_zero, List.set_cons_succ]
  refine wpG_calc 10 rfl rfl rfl (fun u => by go_simp; rfl) ?_
  simp only [Act.put, List.setIfInBounds_toArray, List.set_cons_zero, List.set_cons_succ]
  refine wpG_calc (v := .int .i64 0) 11 rfl rfl rfl (fun u => by go_simp; rfl) ?_
  simp only [Act.put, List.setIfInBounds_toArray, List.set_cons_zero, List.set_cons_succ]
  refine wpG_calc 12 rfl rfl rfl (fun u => by go_simp; rfl) ?_
  simp only [Act.put, List.setIfInBounds_toArray, List.set_cons_zero, List.set_cons_succ]
  refine wpG_read 13 rfl rfl (.int .i64 v1) rfl ?_ ?_
  · intro u hu hh
    have hk := HC2.out u hu
    go_simp
  simp only [Act.put, List.setIfInBounds_toArray, List.set_cons_zero, List.set_cons_succ]
  refine wpG_rel 14 rfl rfl rfl ?_ ?_
  · intro u hu hh
    go_simp
    refine (of_any t a v1 v1 u).mono ?_
    rintro e w6 ⟨rfl, rfl⟩
    exact ⟨_, rfl, by rw [HR.out]; rfl, Below.refl _ _⟩
  intro vN ⟨uN, _, hrN⟩
  obtain rfl : vN = .tuple #[.int .i64 R.1, .bool R.2] := hrN
  simp only [Act.put, List.setIfInBounds_toArray, List.set_cons_zero, List.set_cons_succ]
  refine wpG_calc 15 rfl rfl rfl (fun u => by go_simp; rfl) ?_
  simp only [Act.put, List.setIfInBounds_toArray, List.set_cons_zero, List.set_cons_succ]
  refine wpG_calc 16 rfl rfl rfl (fun u => by go_simp; rfl) ?_
  simp only [Act.put, List.setIfInBounds_toArray, List.set_cons_zero, List.set_cons_succ]
  refine wpG_calc 17 rfl rfl rfl (fun u => by go_simp; rfl) ?_
  simp only [Act.put, List.setIfInBounds_toArray, List.set_cons_zero, List.set_cons_succ]
  refine wpG_calc 18 rfl rfl rfl (fun u => by go_simp; rfl) ?_
  simp only [Act.put, List.setIfInBounds_toArray, List.set_cons_zero, List.set_cons_succ]
  refine wpG_calc 19 rfl rfl rfl (fun u => by go_simp; rfl) ?_
  simp only [Act.put, List.setIfInBounds_toArray, List.set_cons_zero, List.set_cons_succ]
  refine wpG_nil fun w4 hb4 hF => ?_
  clear hF
  have HB4 := hid (HB1.out.trans (hb4.mono HB1.out.size))
  clear hb4
  obtain ⟨R1, R2⟩ := R
  cases R2 with
  | true =>
    go_wp2_with fail
    go_ret
    exact ⟨HB4.out, by rw [← HRR.out]; rfl⟩
  | false =>
    go_wp2_with fail
    exact ⟨rfl, HB4.out, by rw [← HRR.out]; rfl⟩

set_option maxRecDepth 100000 in
set_option maxHeartbeats 4000000 in
theorem made_two (t : ByteArray) (a : Int) (av sa aa : Option Addr) (n1 cv n2 cs ca : Nat) (v1 v2 : Int) (w : World) (r : Option Int) (hr : (if (ofOf t.data.toList a v1 v2).2 = true then some (ofOf t.data.toList a v1 v2).1 else none) = r) (haz : Sl w (.slice aa 2 ca) 2 1 ([v1, v2].map iv)) : Calls Tryd.prog 14 #[.agg #[.int .i64 3, .string t, .int .i64 a, .slice av n1 cv, .slice sa n2 cs], .slice aa 2 ca] w (MadeBy w r) := by
  obtain ⟨R, hR⟩ : ∃ R, ofOf t.data.toList a v1 v2 = R := ⟨_, rfl⟩
  have HR := hid hR
  rw [hR] at hr
  have HRR := hid hr
  clear hR hr
  obtain ⟨X1, hX1⟩ : ∃ X1, w.alloc (.cells #[.int .i64 3, .string t, .int .i64 a, .slice av n1 cv, .slice sa n2 cs] 25) = X1 := ⟨_, rfl⟩
  have HB1 : Hid (Below w.heap.size w X1) := hid (hX1 ▸ ext_alloc _ _)
  have HLT : Hid (w.heap.size < X1.heap.size) := hid (by rw [← hX1]; simp)
  have HXR : Hid (X1.heap[w.heap.size]? = some (.cells #[.int .i64 3, .string t, .int .i64 a, .slice av n1 cv, .slice sa n2 cs] 25 (0, 0))) := hid (by rw [← hX1]; exact heap_alloc_new _ _)
  have HK1 : Hid (∀ u, Below X1.heap.size X1 u → u.cell? ⟨w.heap.size, 1, none⟩ = some (.string t)) := hid (fun u hu => by rw [cell_of_row _ _ _ _ _ _ ((hu.block _ HLT.out).trans HXR.out)]; rfl)
  have HK2 : Hid (∀ u, Below X1.heap.size X1 u → u.cell? ⟨w.heap.size, 2, none⟩ = some (.int .i64 a)) := hid (fun u hu => by rw [cell_of_row _ _ _ _ _ _ ((hu.block _ HLT.out).trans HXR.out)]; rfl)
  have HK3 : Hid (∀ u, Below X1.heap.size X1 u → u.cell? ⟨w.heap.size, 3, none⟩ = some (.slice av n1 cv)) := hid (fun u hu => by rw [cell_of_row _ _ _ _ _ _ ((hu.block _ HLT.out).trans HXR.out)]; rfl)
  have HK4 : Hid (∀ u, Below X1.heap.size X1 u → u.cell? ⟨w.heap.size, 4, none⟩ = some (.slice sa n2 cs)) := hid (fun u hu => by rw [cell_of_row _ _ _ _ _ _ ((hu.block _ HLT.out).trans HXR.out)]; rfl)
  have hq0 : X1.cell? ⟨w.heap.size, 0, none⟩ = some (.int .i64 3) := by rw [cell_of_row _ _ _ _ _ _ HXR.out]; rfl
  have hq2 := HK2.out X1 (Below.refl _ _)
  have hq3 := HK3.out X1 (Below.refl _ _)
  have hmf : ∀ (fn : Fn) (first cap : Array Value) (w : World), (Instr.makeFunc fn first cap).run Tryd.prog w = .ok (.func fn first cap) w := fun _ _ _ _ => rfl
  obtain ⟨b, off, rfl, u0, hu0, hcell⟩ := Sl.at1 (haz.below HB1.out) (k := 0) (by decide)
  obtain rfl : u0 = .int .i64 v1 := (Option.some.inj hu0).symm
  have hcell0 : X1.cell? ⟨b, off, none⟩ = some (.int .i64 v1) := hcell
  obtain ⟨b', off', hab, u1, hu1, hcell1⟩ := Sl.at1 (haz.below HB1.out) (k := 1) (by decide)
  cases hab
  obtain rfl : u1 = .int .i64 v2 := (Option.some.inj hu1).symm
  have HC1 : Hid (∀ u, Below X1.heap.size X1 u → u.cell? ⟨b, off, none⟩ = some (.int .i64 v1)) := hid (fun u hu => (hu.cell (World.block_lt_of_cell? _ _ hcell0)).trans hcell0)
  have HC2 : Hid (∀ u, Below X1.heap.size X1 u → u.cell? ⟨b, off + 1, none⟩ = some (.int .i64 v2)) := hid (fun u hu => (hu.cell (World.block_lt_of_cell? _ _ hcell1)).trans hcell1)
  clear haz hcell hu0 hcell1 hu1 hcell0
  go_enter Tryd.func14, Tryd.ntmps14
  go_wp2_with fail
  refine wp_region_ext [(13, is (.tuple #[.int .i64 R.1, .bool R.2]))] ⟨is_stays _, trivial⟩ (by kernel_rfl) (by kernel_rfl) ?_
  refine wpG_calc 1 rfl rfl rfl (fun u => by go_simp; rfl) ?_
  simp only [Act.put, List.setIfInBounds_toArray, List.set_cons_zero, List.set_cons_succ]
  refine wpG_read 2 rfl rfl (.string t) rfl ?_ ?_
  · intro u hu hh
    have hk := HK1.out u hu
    go_simp
  simp only [Act.put, List.setIfInBounds_toArray, List.set_cons_zero, List.set_cons_succ]
  refine wpG_calc 3 rfl rfl rfl (fun u => by go_simp; rfl) ?_
  simp only [Act.put, List.setIfInBounds_toArray, List.set_cons_zero, List.set_cons_succ]
  refine wpG_read 4 rfl rfl (.int .i64 a) rfl ?_ ?_
  · intro u hu hh
    have hk := HK2.out u hu
    go_simp
  simp only [Act.put, List.setIfInBounds_toArray, List.set_cons_zero, List.set_cons_succ]
  refine wpG_calc 5 rfl rfl rfl (fun u => by go_simp; rfl) ?_
  simp only [Act.put, List.setIfInBounds_toArray, List.set_cons_zero, List.set_cons_succ]
  refine wpG_calc 6 rfl rfl rfl (fun u => by go_simp; rfl) ?_
  simp only [Act.put, List.setIfInBounds_toArray, List.set_cons_zero, List.set_cons_succ]
  refine wpG_read 7 rfl rfl (.int .i64 v1) rfl ?_ ?_
  · intro u hu hh
    have hk := HC1.out u hu
    go_simp
  simp only [Act.put, List.setIfInBounds_toArray, List.set_cons_zero, List.set_cons_succ]
  refine wpG_calc 8 rfl rfl rfl (fun u => by go_simp; rfl) ?_
  simp only [Act.put, List.setIfInBounds_toArray, List.set_cons_zero, List.set_cons_succ]
  refine wpG_calc 9 rfl rfl rfl (fun u => by go_simp; rfl) ?_
  simp only [Act.put, List.setIfInBounds_toArray, List.set_cons_zero, List.set_cons_succ]
  refine wpG_calc 10 rfl rfl rfl (fun u => by go_simp; rfl) ?_
  simp only [Act.put, List.setIfInBounds_toArray, List.set_cons_zero, List.set_cons_succ]
  refine wpG_calc (v := .int .i64 1) 11 rfl rfl rfl (fun u => by go_simp; rfl) ?_
  simp only [Act.put, List.setIfInBounds_toArray, List.set_cons_zero, List.set_cons_succ]
  refine wpG_calc 12 rfl rfl rfl (fun u => by go_simp; rfl) ?_
  simp only [Act.put, List.setIfInBounds_toArray, List.set_cons_zero, List.set_cons_succ]
  refine wpG_read 13 rfl rfl (.int .i64 v2) rfl ?_ ?_
  · intro u hu hh
    have hk := HC2.out u hu
    go_simp
  simp only [Act.put, List.setIfInBounds_toArray, List.set_cons_zero, List.set_cons_succ]
  refine wpG_rel 14 rfl rfl rfl ?_ ?_
  · intro u hu hh
    go_simp
    refine (of_any t a v1 v2 u).mono ?_
    rintro e w6 ⟨rfl, rfl⟩
    exact ⟨_, rfl, by rw [HR.out]; rfl, Below.refl _ _⟩
  intro vN ⟨uN, _, hrN⟩
  obtain rfl : vN = .tuple #[.int .i64 R.1, .bool R.2] := hrN
  simp only [Act.put, List.setIfInBounds_toArray, List.set_cons_zero, List.set_cons_succ]
  refine wpG_calc 15 rfl rfl rfl (fun u => by go_simp; rfl) ?_
  simp only [Act.put, List.setIfInBounds_toArray, List.set_cons_zero, List.set_cons_succ]
  refine wpG_calc 16 rfl rfl rfl (fun u => by go_simp; rfl) ?_
  simp only [Act.put, List.setIfInBounds_toArray, List.set_cons_zero, List.set_cons_succ]
  refine wpG_calc 17 rfl rfl rfl (fun u => by go_simp; rfl) ?_
  simp only [Act.put, List.setIfInBounds_toArray, List.set_cons_zero, List.set_cons_succ]
  refine wpG_calc 18 rfl rfl rfl (fun u => by go_simp; rfl) ?_
  simp only [Act.put, List.setIfInBounds_toArray, List.set_cons_zero, List.set_cons_succ]
  refine wpG_calc 19 rfl rfl rfl (fun u => by go_simp; rfl) ?_
  simp only [Act.put, List.setIfInBounds_toArray, List.set_cons_zero, List.set_cons_succ]
  refine wpG_nil fun w4 hb4 hF => ?_
  clear hF
  have HB4 := hid (HB1.out.trans (hb4.mono HB1.out.size))
  clear hb4
  obtain ⟨R1, R2⟩ := R
  cases R2 with
  | true =>
    go_wp2_with fail
    go_ret
    exact ⟨HB4.out, by rw [← HRR.out]; rfl⟩
  | false =>
    go_wp2_with fail
    exact ⟨rfl, HB4.out, by rw [← HRR.out]; rfl⟩

end Go.Proofs.YtikkhjcocmihlaaDoor.hands

/- Handles called: call.made, an arg dropped, its subs' answers given. Condition: the lists are not long. -/
set_option linter.unusedSimpArgs false
set_option linter.unusedVariables false
namespace Go.Proofs.YtikkhjcocmihlaaDoor.hands
open Go.RowKit Go.Proofs.YtikkhjcocmihlaaDoor.lib Go.Proofs.YtikkhjcocmihlaaDoor.errs Go.Proofs.YtikkhjcocmihlaaDoor.mtypes Go.Proofs.YtikkhjcocmihlaaDoor.grow Go.Proofs.YtikkhjcocmihlaaDoor.nums

set_option maxRecDepth 100000 in
set_option maxHeartbeats 4000000 in
theorem made_drop (t : ByteArray) (i : Nat) (av sa aa : Option Addr) (n1 cv n2 cs ca : Nat) (az : List Int) (w : World) (haz : Sl w (.slice aa az.length ca) az.length 1 (az.map iv)) (hn : az.length ≤ 100) (hi : i < az.length) (l : List Nd) (hl : l.length = n2) (hsl : Sl w (.slice sa n2 cs) n2 5 (l.flatMap Nd.cells)) (y0 : Nd) (hi0 : l[0]? = some y0) (hy0 : NAt w y0) (hm0 : ∀ (u : World) (v : Value), Below w.heap.size w u → Sl u v (az.eraseIdx i).length 1 ((az.eraseIdx i).map iv) → Calls Tryd.prog 14 #[.agg #[.int .i64 y0.k, .string y0.t, .int .i64 y0.a, y0.va, y0.vs], v] u (MadeBy u (toldN y0 (az.eraseIdx i)))) : Calls Tryd.prog 14 #[.agg #[.int .i64 4, .string t, .int .i64 (i : Int), .slice av n1 cv, .slice sa n2 cs], .slice aa az.length ca] w (MadeBy w (toldN y0 (az.eraseIdx i))) := by
  have HAZ := hid haz
  obtain ⟨r0, hr0⟩ : ∃ R, toldN y0 (az.eraseIdx i) = R := ⟨_, rfl⟩
  have HQ0 := hid hr0
  obtain ⟨a, ha⟩ : ∃ a : Int, (i : Int) = a := ⟨_, rfl⟩
  rw [hr0]
  simp only [ha]
  obtain ⟨X1, hX1⟩ : ∃ X1, w.alloc (.cells #[.int .i64 4, .string t, .int .i64 a, .slice av n1 cv, .slice sa n2 cs] 25) = X1 := ⟨_, rfl⟩
  have HB1 : Hid (Below w.heap.size w X1) := hid (hX1 ▸ ext_alloc _ _)
  have HLT : Hid (w.heap.size < X1.heap.size) := hid (by rw [← hX1]; simp)
  have HXR : Hid (X1.heap[w.heap.size]? = some (.cells #[.int .i64 4, .string t, .int .i64 a, .slice av n1 cv, .slice sa n2 cs] 25 (0, 0))) := hid (by rw [← hX1]; exact heap_alloc_new _ _)
  have HK1 : Hid (∀ u, Below X1.heap.size X1 u → u.cell? ⟨w.heap.size, 1, none⟩ = some (.string t)) := hid (fun u hu => by rw [cell_of_row _ _ _ _ _ _ ((hu.block _ HLT.out).trans HXR.out)]; rfl)
  have HK2 : Hid (∀ u, Below X1.heap.size X1 u → u.cell? ⟨w.heap.size, 2, none⟩ = some (.int .i64 a)) := hid (fun u hu => by rw [cell_of_row _ _ _ _ _ _ ((hu.block _ HLT.out).trans HXR.out)]; rfl)
  have HK3 : Hid (∀ u, Below X1.heap.size X1 u → u.cell? ⟨w.heap.size, 3, none⟩ = some (.slice av n1 cv)) := hid (fun u hu => by rw [cell_of_row _ _ _ _ _ _ ((hu.block _ HLT.out).trans HXR.out)]; rfl)
  have HK4 : Hid (∀ u, Below X1.heap.size X1 u → u.cell? ⟨w.heap.size, 4, none⟩ = some (.slice sa n2 cs)) := hid (fun u hu => by rw [cell_of_row _ _ _ _ _ _ ((hu.block _ HLT.out).trans HXR.out)]; rfl)
  have hq0 : X1.cell? ⟨w.heap.size, 0, none⟩ = some (.int .i64 4) := by rw [cell_of_row _ _ _ _ _ _ HXR.out]; rfl
  have hq2 := HK2.out X1 (Below.refl _ _)
  have hq3 := HK3.out X1 (Below.refl _ _)
  have hmf : ∀ (fn : Fn) (first cap : Array Value) (w : World), (Instr.makeFunc fn first cap).run Tryd.prog w = .ok (.func fn first cap) w := fun _ _ _ _ => rfl
  have HS0 : Hid (∀ (u : World) (v : Value), Below X1.heap.size X1 u → Sl u v (az.eraseIdx i).length 1 ((az.eraseIdx i).map iv) → Calls Tryd.prog 25 #[.int .i64 0, v, .pointer (some ⟨w.heap.size, 0, none⟩)] u (MadeBy u r0)) := hid (fun u v hu hv => by
    have hb := HB1.out.trans (hu.mono HB1.out.size)
    exact sub_any w.heap.size 0 u sa n2 cs l v _ y0 hl (HK4.out u hu) (hsl.below hb) hi0 (hy0.below hb) (HQ0.out ▸ hm0 u v hb hv))
  have HI := hid hi
  have HA := hid ha
  have HLE : Hid ((az.eraseIdx i).length = az.length - 1) := hid (by rw [List.length_eraseIdx, if_pos hi])
  have HWR : Hid (IntKind.i64.wrap (a + 1) = a + 1) := hid (by rw [IntKind.wrap_i64]; omega)
  have ha1 : a ≤ 100 := by omega
  have ha0 : 0 ≤ a := by omega
  clear haz hsl hm0 hr0 hi0 hy0 hl hi ha
  go_enter Tryd.func14, Tryd.ntmps14
  go_wp2_with fail
  refine wp_region_ext_tail1 8 [(2, ownR X1 az)] ⟨ownR_stays _ _, trivial⟩ (by kernel_rfl) (by kernel_rfl) (by simp) (by decide) (by kernel_rfl) (by kernel_rfl) (by kernel_rfl) (by kernel_rfl) (by kernel_rfl) _ rfl (fun u => by go_simp; rfl) (fun c a' w' h => ⟨(put_defers _ _ _).symm.trans h.1, h.2⟩) ?_
  simp only [Act.put, List.setIfInBounds_toArray, List.set_cons_zero, List.set_cons_succ]
  refine wpG_calc 2 rfl rfl rfl (fun u => by go_simp; rfl) ?_
  simp only [Act.put, List.setIfInBounds_toArray, List.set_cons_zero, List.set_cons_succ]
  refine wpG_rel 3 rfl rfl rfl ?_ ?_
  · intro u hu hh
    go_simp
    refine (cloneN_any _ az u (HAZ.out.below (HB1.out.trans (hu.mono HB1.out.size))) (by omega)).mono ?_
    rintro e w6 ⟨v6, rfl, ho6⟩
    exact ⟨_, rfl, Out.since hu ho6, ho6.below⟩
  intro vC ⟨uC, _, hrC⟩
  clear hrC
  simp only [Act.put, List.setIfInBounds_toArray, List.set_cons_zero, List.set_cons_succ]
  refine wpG_calc 4 rfl rfl rfl (fun u => by go_simp; rfl) ?_
  simp only [Act.put, List.setIfInBounds_toArray, List.set_cons_zero, List.set_cons_succ]
  refine wpG_read 5 rfl rfl (.int .i64 a) rfl ?_ ?_
  · intro u hu hh
    have hk := HK2.out u hu
    go_simp
  simp only [Act.put, List.setIfInBounds_toArray, List.set_cons_zero, List.set_cons_succ]
  refine wpG_calc 6 rfl rfl rfl (fun u => by go_simp; rfl) ?_
  simp only [Act.put, List.setIfInBounds_toArray, List.set_cons_zero, List.set_cons_succ]
  refine wpG_read 7 rfl rfl (.int .i64 a) rfl ?_ ?_
  · intro u hu hh
    have hk := HK2.out u hu
    go_simp
  simp only [Act.put, List.setIfInBounds_toArray, List.set_cons_zero, List.set_cons_succ]
  refine wpG_calc (v := .int .i64 (a + 1)) 8 rfl rfl rfl (fun u => by have hw := HWR.out; go_simp; first | done | rw [hw] | simp [hw]) ?_
  simp only [Act.put, List.setIfInBounds_toArray, List.set_cons_zero, List.set_cons_succ]
  refine wpG_nil fun w4 hb4 hF => ?_
  have ho4 : ownR X1 az vC w4 := hF 2
  clear hF
  have HO4 := hid ho4
  clear hb4 ho4
  obtain rfl := HA.out
  go_wp2_with fail
  refine (deleteN_any vC az i X1 w4 HO4.out HI.out).mono ?_
  rintro e w5 ⟨v5, rfl, ho5⟩
  have HX5 := hid ho5.below
  have HS5 : Hid (Sl w5 v5 (az.eraseIdx i).length 1 ((az.eraseIdx i).map iv)) := hid (by rw [HLE.out]; exact ho5.sl)
  clear ho5
  have HB5 := hid (HB1.out.trans (HX5.out.mono HB1.out.size))
  go_wp2_with fail

  refine (HS0.out w5 v5 HX5.out HS5.out).mono ?_
  rintro e w6 ⟨hb6, he6⟩
  have HB6 := hid (HB5.out.trans (hb6.mono HB5.out.size))
  clear hb6
  cases r0 with
  | none =>
    obtain rfl : e = .panicked unm := he6
    exact ⟨rfl, HB6.out, rfl⟩
  | some n6 =>
    obtain rfl : e = .returned (.int .i64 n6) := he6
    go_wp2_with fail
    go_ret
    exact ⟨HB6.out, rfl⟩
end Go.Proofs.YtikkhjcocmihlaaDoor.hands

/- Handles called: call.made, an arg bound, its subs' answers given. Condition: the lists are not long. -/
set_option linter.unusedSimpArgs false
set_option linter.unusedVariables false
namespace Go.Proofs.YtikkhjcocmihlaaDoor.hands
open Go.RowKit Go.Proofs.YtikkhjcocmihlaaDoor.lib Go.Proofs.YtikkhjcocmihlaaDoor.errs Go.Proofs.YtikkhjcocmihlaaDoor.mtypes Go.Proofs.YtikkhjcocmihlaaDoor.grow Go.Proofs.YtikkhjcocmihlaaDoor.nums

def anyR : Value → World → Prop := fun _ _ => True
theorem anyR_stays : ∀ v w w', Below w.heap.size w w' → anyR v w → anyR v w' := fun _ _ _ _ _ => trivial
theorem sl0 (u : World) : Sl u (.slice none 0 0) ([] : List Int).length 1 (([] : List Int).map iv) := ⟨rfl, none, 0, rfl, Nat.le_refl _, .inl rfl⟩

set_option maxRecDepth 100000 in
set_option maxHeartbeats 4000000 in
theorem made_bind_none (t : ByteArray) (i : Nat) (av sa aa : Option Addr) (n1 cv n2 cs ca : Nat) (az : List Int) (w : World) (haz : Sl w (.slice aa az.length ca) az.length 1 (az.map iv)) (hn : az.length ≤ 100) (hi : i ≤ az.length) (l : List Nd) (hl : l.length = n2) (hsl : Sl w (.slice sa n2 cs) n2 5 (l.flatMap Nd.cells)) (y1 : Nd) (hi1 : l[1]? = some y1) (hy1 : NAt w y1) (hm1 : ∀ (u : World) (v : Value), Below w.heap.size w u → Sl u v (([] : List Int)).length 1 ((([] : List Int)).map iv) → Calls Tryd.prog 14 #[.agg #[.int .i64 y1.k, .string y1.t, .int .i64 y1.a, y1.va, y1.vs], v] u (MadeBy u (toldN y1 (([] : List Int))))) (hm0 : toldN y1 [] = none) : Calls Tryd.prog 14 #[.agg #[.int .i64 5, .string t, .int .i64 (i : Int), .slice av n1 cv, .slice sa n2 cs], .slice aa az.length ca] w (MadeBy w none) := by
  have HAZ := hid haz
  have HQ1 : Hid (toldN y1 [] = none) := hid hm0
  obtain ⟨a, ha⟩ : ∃ a : Int, (i : Int) = a := ⟨_, rfl⟩
  simp only [ha]
  obtain ⟨X1, hX1⟩ : ∃ X1, w.alloc (.cells #[.int .i64 5, .string t, .int .i64 a, .slice av n1 cv, .slice sa n2 cs] 25) = X1 := ⟨_, rfl⟩
  have HB1 : Hid (Below w.heap.size w X1) := hid (hX1 ▸ ext_alloc _ _)
  have HLT : Hid (w.heap.size < X1.heap.size) := hid (by rw [← hX1]; simp)
  have HXR : Hid (X1.heap[w.heap.size]? = some (.cells #[.int .i64 5, .string t, .int .i64 a, .slice av n1 cv, .slice sa n2 cs] 25 (0, 0))) := hid (by rw [← hX1]; exact heap_alloc_new _ _)
  have HK1 : Hid (∀ u, Below X1.heap.size X1 u → u.cell? ⟨w.heap.size, 1, none⟩ = some (.string t)) := hid (fun u hu => by rw [cell_of_row _ _ _ _ _ _ ((hu.block _ HLT.out).trans HXR.out)]; rfl)
  have HK2 : Hid (∀ u, Below X1.heap.size X1 u → u.cell? ⟨w.heap.size, 2, none⟩ = some (.int .i64 a)) := hid (fun u hu => by rw [cell_of_row _ _ _ _ _ _ ((hu.block _ HLT.out).trans HXR.out)]; rfl)
  have HK3 : Hid (∀ u, Below X1.heap.size X1 u → u.cell? ⟨w.heap.size, 3, none⟩ = some (.slice av n1 cv)) := hid (fun u hu => by rw [cell_of_row _ _ _ _ _ _ ((hu.block _ HLT.out).trans HXR.out)]; rfl)
  have HK4 : Hid (∀ u, Below X1.heap.size X1 u → u.cell? ⟨w.heap.size, 4, none⟩ = some (.slice sa n2 cs)) := hid (fun u hu => by rw [cell_of_row _ _ _ _ _ _ ((hu.block _ HLT.out).trans HXR.out)]; rfl)
  have hq0 : X1.cell? ⟨w.heap.size, 0, none⟩ = some (.int .i64 5) := by rw [cell_of_row _ _ _ _ _ _ HXR.out]; rfl
  have hq2 := HK2.out X1 (Below.refl _ _)
  have hq3 := HK3.out X1 (Below.refl _ _)
  have hmf : ∀ (fn : Fn) (first cap : Array Value) (w : World), (Instr.makeFunc fn first cap).run Tryd.prog w = .ok (.func fn first cap) w := fun _ _ _ _ => rfl
  have HS1 : Hid (∀ (u : World) (v : Value), Below X1.heap.size X1 u → Sl u v (([] : List Int)).length 1 ((([] : List Int)).map iv) → Calls Tryd.prog 25 #[.int .i64 1, v, .pointer (some ⟨w.heap.size, 0, none⟩)] u (MadeBy u none)) := hid (fun u v hu hv => by
    have hb := HB1.out.trans (hu.mono HB1.out.size)
    exact sub_any w.heap.size 1 u sa n2 cs l v _ y1 hl (HK4.out u hu) (hsl.below hb) hi1 (hy1.below hb) (HQ1.out ▸ hm1 u v hb hv))
  have HI := hid hi
  have HA := hid ha
  have ha1 : a ≤ 100 := by omega
  have ha0 : 0 ≤ a := by omega
  clear haz hsl hm1 hm0 hi1 hy1 hl hi ha
  go_enter Tryd.func14, Tryd.ntmps14
  go_wp2_with fail
  refine wp_region_pan1 8 6 unm [(2, anyR), (7, anyR)] ⟨anyR_stays, anyR_stays, trivial⟩ (by kernel_rfl) (by kernel_rfl) (by simp) (by decide) (by decide) (by kernel_rfl) (by kernel_rfl) (by kernel_rfl) (by kernel_rfl) (by kernel_rfl) _ rfl (fun u => by go_simp; rfl) (fun c a' w' h => ⟨(put_defers _ _ _).symm.trans h.1, h.2⟩) (fun a' w5 hd hb5 => ⟨hd, HB1.out.trans (hb5.mono HB1.out.size), rfl⟩) ?_
  simp only [Act.put, List.setIfInBounds_toArray, List.set_cons_zero, List.set_cons_succ]
  refine wpGP_calc 2 rfl (by decide) rfl rfl (fun u => by go_simp; rfl) ?_
  simp only [Act.put, List.setIfInBounds_toArray, List.set_cons_zero, List.set_cons_succ]
  refine wpGP_rel 3 rfl (by decide) rfl rfl ?_ ?_
  · intro u hu hh
    go_simp
    refine (cloneN_any _ az u (HAZ.out.below (HB1.out.trans (hu.mono HB1.out.size))) (by omega)).mono ?_
    rintro e w6 ⟨v6, rfl, ho6⟩
    exact ⟨_, rfl, trivial, ho6.below⟩
  intro vC ⟨uC, _, hrC⟩
  clear hrC
  simp only [Act.put, List.setIfInBounds_toArray, List.set_cons_zero, List.set_cons_succ]
  refine wpGP_calc 4 rfl (by decide) rfl rfl (fun u => by go_simp; rfl) ?_
  simp only [Act.put, List.setIfInBounds_toArray, List.set_cons_zero, List.set_cons_succ]
  refine wpGP_read 5 rfl (by decide) rfl (.int .i64 a) rfl ?_ ?_
  · intro u hu hh
    have hk := HK2.out u hu
    go_simp
  simp only [Act.put, List.setIfInBounds_toArray, List.set_cons_zero, List.set_cons_succ]
  refine wpGP_calc 6 rfl (by decide) rfl rfl (fun u => by go_simp; rfl) ?_
  simp only [Act.put, List.setIfInBounds_toArray, List.set_cons_zero, List.set_cons_succ]
  refine wpGP_pan 7 rfl rfl rfl ?_ ?_
  · intro u hu hh
    go_simp
    refine (HS1.out u _ hu (sl0 u)).mono ?_
    rintro e w6 ⟨hb6, rfl⟩
    exact ⟨rfl, hb6⟩
  simp only [Act.put, List.setIfInBounds_toArray, List.set_cons_zero, List.set_cons_succ]
  refine wpGP_rel 8 rfl (by decide) rfl rfl ?_ ?_
  · intro u hu hh
    go_simp
    exact ⟨trivial, ext_alloc _ _⟩
  intro vS ⟨uS, _, hrS⟩
  clear hrS
  simp only [Act.put, List.setIfInBounds_toArray, List.set_cons_zero, List.set_cons_succ]
  exact trivial

set_option maxRecDepth 100000 in
set_option maxHeartbeats 4000000 in
theorem made_bind (t : ByteArray) (m : Int) (i : Nat) (av sa aa : Option Addr) (n1 cv n2 cs ca : Nat) (az : List Int) (w : World) (haz : Sl w (.slice aa az.length ca) az.length 1 (az.map iv)) (hn : az.length ≤ 100) (hi : i ≤ az.length) (l : List Nd) (hl : l.length = n2) (hsl : Sl w (.slice sa n2 cs) n2 5 (l.flatMap Nd.cells)) (y0 : Nd) (hi0 : l[0]? = some y0) (hy0 : NAt w y0) (hm0 : ∀ (u : World) (v : Value), Below w.heap.size w u → Sl u v (insAt az i m).length 1 ((insAt az i m).map iv) → Calls Tryd.prog 14 #[.agg #[.int .i64 y0.k, .string y0.t, .int .i64 y0.a, y0.va, y0.vs], v] u (MadeBy u (toldN y0 (insAt az i m)))) (y1 : Nd) (hi1 : l[1]? = some y1) (hy1 : NAt w y1) (hm1 : ∀ (u : World) (v : Value), Below w.heap.size w u → Sl u v (([] : List Int)).length 1 ((([] : List Int)).map iv) → Calls Tryd.prog 14 #[.agg #[.int .i64 y1.k, .string y1.t, .int .i64 y1.a, y1.va, y1.vs], v] u (MadeBy u (toldN y1 (([] : List Int))))) (hm2 : toldN y1 [] = some m) : Calls Tryd.prog 14 #[.agg #[.int .i64 5, .string t, .int .i64 (i : Int), .slice av n1 cv, .slice sa n2 cs], .slice aa az.length ca] w (MadeBy w (toldN y0 (insAt az i m))) := by
  have HAZ := hid haz
  have HQ1 : Hid (toldN y1 [] = some m) := hid hm2
  obtain ⟨r0, hr0⟩ : ∃ R, toldN y0 (insAt az i m) = R := ⟨_, rfl⟩
  have HQ0 := hid hr0
  obtain ⟨a, ha⟩ : ∃ a : Int, (i : Int) = a := ⟨_, rfl⟩
  rw [hr0]
  simp only [ha]
  obtain ⟨X1, hX1⟩ : ∃ X1, w.alloc (.cells #[.int .i64 5, .string t, .int .i64 a, .slice av n1 cv, .slice sa n2 cs] 25) = X1 := ⟨_, rfl⟩
  have HB1 : Hid (Below w.heap.size w X1) := hid (hX1 ▸ ext_alloc _ _)
  have HLT : Hid (w.heap.size < X1.heap.size) := hid (by rw [← hX1]; simp)
  have HXR : Hid (X1.heap[w.heap.size]? = some (.cells #[.int .i64 5, .string t, .int .i64 a, .slice av n1 cv, .slice sa n2 cs] 25 (0, 0))) := hid (by rw [← hX1]; exact heap_alloc_new _ _)
  have HK1 : Hid (∀ u, Below X1.heap.size X1 u → u.cell? ⟨w.heap.size, 1, none⟩ = some (.string t)) := hid (fun u hu => by rw [cell_of_row _ _ _ _ _ _ ((hu.block _ HLT.out).trans HXR.out)]; rfl)
  have HK2 : Hid (∀ u, Below X1.heap.size X1 u → u.cell? ⟨w.heap.size, 2, none⟩ = some (.int .i64 a)) := hid (fun u hu => by rw [cell_of_row _ _ _ _ _ _ ((hu.block _ HLT.out).trans HXR.out)]; rfl)
  have HK3 : Hid (∀ u, Below X1.heap.size X1 u → u.cell? ⟨w.heap.size, 3, none⟩ = some (.slice av n1 cv)) := hid (fun u hu => by rw [cell_of_row _ _ _ _ _ _ ((hu.block _ HLT.out).trans HXR.out)]; rfl)
  have HK4 : Hid (∀ u, Below X1.heap.size X1 u → u.cell? ⟨w.heap.size, 4, none⟩ = some (.slice sa n2 cs)) := hid (fun u hu => by rw [cell_of_row _ _ _ _ _ _ ((hu.block _ HLT.out).trans HXR.out)]; rfl)
  have hq0 : X1.cell? ⟨w.heap.size, 0, none⟩ = some (.int .i64 5) := by rw [cell_of_row _ _ _ _ _ _ HXR.out]; rfl
  have hq2 := HK2.out X1 (Below.refl _ _)
  have hq3 := HK3.out X1 (Below.refl _ _)
  have hmf : ∀ (fn : Fn) (first cap : Array Value) (w : World), (Instr.makeFunc fn first cap).run Tryd.prog w = .ok (.func fn first cap) w := fun _ _ _ _ => rfl
  have HS0 : Hid (∀ (u : World) (v : Value), Below X1.heap.size X1 u → Sl u v (insAt az i m).length 1 ((insAt az i m).map iv) → Calls Tryd.prog 25 #[.int .i64 0, v, .pointer (some ⟨w.heap.size, 0, none⟩)] u (MadeBy u r0)) := hid (fun u v hu hv => by
    have hb := HB1.out.trans (hu.mono HB1.out.size)
    exact sub_any w.heap.size 0 u sa n2 cs l v _ y0 hl (HK4.out u hu) (hsl.below hb) hi0 (hy0.below hb) (HQ0.out ▸ hm0 u v hb hv))
  have HS1 : Hid (∀ (u : World) (v : Value), Below X1.heap.size X1 u → Sl u v (([] : List Int)).length 1 ((([] : List Int)).map iv) → Calls Tryd.prog 25 #[.int .i64 1, v, .pointer (some ⟨w.heap.size, 0, none⟩)] u (MadeBy u (some m))) := hid (fun u v hu hv => by
    have hb := HB1.out.trans (hu.mono HB1.out.size)
    exact sub_any w.heap.size 1 u sa n2 cs l v _ y1 hl (HK4.out u hu) (hsl.below hb) hi1 (hy1.below hb) (HQ1.out ▸ hm1 u v hb hv))
  have HLE : Hid ((insAt az i m).length = az.length + 1) := hid (insAt_len m hi)
  have HI := hid hi
  have HA := hid ha
  have ha1 : a ≤ 100 := by omega
  have ha0 : 0 ≤ a := by omega
  clear haz hsl hm0 hm1 hm2 hi0 hi1 hy0 hy1 hl hi ha hr0
  go_enter Tryd.func14, Tryd.ntmps14
  go_wp2_with fail
  refine wp_region_ext_tail1 8 [(2, ownR X1 az), (6, is (.int .i64 m)), (7, oneR m)] ⟨ownR_stays _ _, is_stays _, oneR_stays _, trivial⟩ (by kernel_rfl) (by kernel_rfl) (by simp) (by decide) (by kernel_rfl) (by kernel_rfl) (by kernel_rfl) (by kernel_rfl) (by kernel_rfl) _ rfl (fun u => by go_simp; rfl) (fun c a' w' h => ⟨(put_defers _ _ _).symm.trans h.1, h.2⟩) ?_
  simp only [Act.put, List.setIfInBounds_toArray, List.set_cons_zero, List.set_cons_succ]
  refine wpG_calc 2 rfl rfl rfl (fun u => by go_simp; rfl) ?_
  simp only [Act.put, List.setIfInBounds_toArray, List.set_cons_zero, List.set_cons_succ]
  refine wpG_rel 3 rfl rfl rfl ?_ ?_
  · intro u hu hh
    go_simp
    refine (cloneN_any _ az u (HAZ.out.below (HB1.out.trans (hu.mono HB1.out.size))) (by omega)).mono ?_
    rintro e w6 ⟨v6, rfl, ho6⟩
    exact ⟨_, rfl, Out.since hu ho6, ho6.below⟩
  intro vC ⟨uC, _, hrC⟩
  clear hrC
  simp only [Act.put, List.setIfInBounds_toArray, List.set_cons_zero, List.set_cons_succ]
  refine wpG_calc 4 rfl rfl rfl (fun u => by go_simp; rfl) ?_
  simp only [Act.put, List.setIfInBounds_toArray, List.set_cons_zero, List.set_cons_succ]
  refine wpG_read 5 rfl rfl (.int .i64 a) rfl ?_ ?_
  · intro u hu hh
    have hk := HK2.out u hu
    go_simp
  simp only [Act.put, List.setIfInBounds_toArray, List.set_cons_zero, List.set_cons_succ]
  refine wpG_calc 6 rfl rfl rfl (fun u => by go_simp; rfl) ?_
  simp only [Act.put, List.setIfInBounds_toArray, List.set_cons_zero, List.set_cons_succ]
  refine wpG_rel 7 rfl rfl rfl ?_ ?_
  · intro u hu hh
    go_simp
    refine (HS1.out u _ hu (sl0 u)).mono ?_
    rintro e w6 ⟨hb6, rfl⟩
    exact ⟨_, rfl, rfl, hb6⟩
  intro vZ ⟨uZ, _, hrZ⟩
  obtain rfl : vZ = .int .i64 m := hrZ
  simp only [Act.put, List.setIfInBounds_toArray, List.set_cons_zero, List.set_cons_succ]
  refine wpG_rel 8 rfl rfl rfl ?_ ?_
  · intro u hu hh
    go_simp
    exact ⟨⟨_, rfl, heap_alloc_new _ _⟩, ext_alloc _ _⟩
  intro vS ⟨uS, _, hrS⟩
  clear hrS
  simp only [Act.put, List.setIfInBounds_toArray, List.set_cons_zero, List.set_cons_succ]
  refine wpG_nil fun w4 hb4 hF => ?_
  have ho4 : ownR X1 az vC w4 := hF 2
  obtain ⟨gS, rfl, hgS⟩ : oneR m vS w4 := hF 7
  clear hF
  have HO4 := hid ho4
  have HG4 := hid hgS
  clear hb4 ho4 hgS
  obtain rfl := HA.out
  go_wp2_with fail
  refine (insertI_any vC az i m gS X1 w4 HO4.out HG4.out HI.out (by omega)).mono ?_
  rintro e w5 ⟨v5, rfl, hs5, hx5⟩
  have HX5 := hid hx5
  have HS5 : Hid (Sl w5 v5 (insAt az i m).length 1 ((insAt az i m).map iv)) := hid (by rw [HLE.out]; exact hs5)
  clear hs5 hx5
  have HB5 := hid (HB1.out.trans (HX5.out.mono HB1.out.size))
  go_wp2_with fail

  refine (HS0.out w5 v5 HX5.out HS5.out).mono ?_
  rintro e w6 ⟨hb6, he6⟩
  have HB6 := hid (HB5.out.trans (hb6.mono HB5.out.size))
  clear hb6
  cases r0 with
  | none =>
    obtain rfl : e = .panicked unm := he6
    exact ⟨rfl, HB6.out, rfl⟩
  | some n6 =>
    obtain rfl : e = .returned (.int .i64 n6) := he6
    go_wp2_with fail
    go_ret
    exact ⟨HB6.out, rfl⟩
end Go.Proofs.YtikkhjcocmihlaaDoor.hands

/- Handles called: call.made, an arg changed, its subs' answers given. Condition: the lists are not long. -/
set_option linter.unusedSimpArgs false
set_option linter.unusedVariables false
namespace Go.Proofs.YtikkhjcocmihlaaDoor.hands
open Go.RowKit Go.Proofs.YtikkhjcocmihlaaDoor.lib Go.Proofs.YtikkhjcocmihlaaDoor.errs Go.Proofs.YtikkhjcocmihlaaDoor.mtypes Go.Proofs.YtikkhjcocmihlaaDoor.grow Go.Proofs.YtikkhjcocmihlaaDoor.nums

set_option maxRecDepth 100000 in
set_option maxHeartbeats 4000000 in
theorem made_filter_none (t : ByteArray) (i : Nat) (av sa aa : Option Addr) (n1 cv n2 cs ca : Nat) (az : List Int) (w : World) (haz : Sl w (.slice aa az.length ca) az.length 1 (az.map iv)) (hn : az.length ≤ 100) (vq : Int) (hv : az[i]? = some vq) (l : List Nd) (hl : l.length = n2) (hsl : Sl w (.slice sa n2 cs) n2 5 (l.flatMap Nd.cells)) (y1 : Nd) (hi1 : l[1]? = some y1) (hy1 : NAt w y1) (hm1 : ∀ (u : World) (v : Value), Below w.heap.size w u → Sl u v ([vq]).length 1 (([vq]).map iv) → Calls Tryd.prog 14 #[.agg #[.int .i64 y1.k, .string y1.t, .int .i64 y1.a, y1.va, y1.vs], v] u (MadeBy u (toldN y1 ([vq])))) (hm2 : toldN y1 [vq] = none) : Calls Tryd.prog 14 #[.agg #[.int .i64 7, .string t, .int .i64 (i : Int), .slice av n1 cv, .slice sa n2 cs], .slice aa az.length ca] w (MadeBy w none) := by
  have HAZ := hid haz
  have HQ1 : Hid (toldN y1 [vq] = none) := hid hm2
  obtain ⟨a, ha⟩ : ∃ a : Int, (i : Int) = a := ⟨_, rfl⟩
  simp only [ha]
  obtain ⟨X1, hX1⟩ : ∃ X1, w.alloc (.cells #[.int .i64 7, .string t, .int .i64 a, .slice av n1 cv, .slice sa n2 cs] 25) = X1 := ⟨_, rfl⟩
  have HB1 : Hid (Below w.heap.size w X1) := hid (hX1 ▸ ext_alloc _ _)
  have HLT : Hid (w.heap.size < X1.heap.size) := hid (by rw [← hX1]; simp)
  have HXR : Hid (X1.heap[w.heap.size]? = some (.cells #[.int .i64 7, .string t, .int .i64 a, .slice av n1 cv, .slice sa n2 cs] 25 (0, 0))) := hid (by rw [← hX1]; exact heap_alloc_new _ _)
  have HK1 : Hid (∀ u, Below X1.heap.size X1 u → u.cell? ⟨w.heap.size, 1, none⟩ = some (.string t)) := hid (fun u hu => by rw [cell_of_row _ _ _ _ _ _ ((hu.block _ HLT.out).trans HXR.out)]; rfl)
  have HK2 : Hid (∀ u, Below X1.heap.size X1 u → u.cell? ⟨w.heap.size, 2, none⟩ = some (.int .i64 a)) := hid (fun u hu => by rw [cell_of_row _ _ _ _ _ _ ((hu.block _ HLT.out).trans HXR.out)]; rfl)
  have HK3 : Hid (∀ u, Below X1.heap.size X1 u → u.cell? ⟨w.heap.size, 3, none⟩ = some (.slice av n1 cv)) := hid (fun u hu => by rw [cell_of_row _ _ _ _ _ _ ((hu.block _ HLT.out).trans HXR.out)]; rfl)
  have HK4 : Hid (∀ u, Below X1.heap.size X1 u → u.cell? ⟨w.heap.size, 4, none⟩ = some (.slice sa n2 cs)) := hid (fun u hu => by rw [cell_of_row _ _ _ _ _ _ ((hu.block _ HLT.out).trans HXR.out)]; rfl)
  have hq0 : X1.cell? ⟨w.heap.size, 0, none⟩ = some (.int .i64 7) := by rw [cell_of_row _ _ _ _ _ _ HXR.out]; rfl
  have hq2 := HK2.out X1 (Below.refl _ _)
  have hq3 := HK3.out X1 (Below.refl _ _)
  have hmf : ∀ (fn : Fn) (first cap : Array Value) (w : World), (Instr.makeFunc fn first cap).run Tryd.prog w = .ok (.func fn first cap) w := fun _ _ _ _ => rfl
  have HS1 : Hid (∀ (u : World) (v : Value), Below X1.heap.size X1 u → Sl u v ([vq]).length 1 (([vq]).map iv) → Calls Tryd.prog 25 #[.int .i64 1, v, .pointer (some ⟨w.heap.size, 0, none⟩)] u (MadeBy u none)) := hid (fun u v hu hv => by
    have hb := HB1.out.trans (hu.mono HB1.out.size)
    exact sub_any w.heap.size 1 u sa n2 cs l v _ y1 hl (HK4.out u hu) (hsl.below hb) hi1 (hy1.below hb) (HQ1.out ▸ hm1 u v hb hv))
  have HI : Hid (i < az.length) := hid (List.getElem?_eq_some_iff.1 hv).1
  have HV := hid hv
  subst ha
  have h0i : 0 ≤ (i : Int) := by omega
  have hil : (i : Int) < (az.length : Int) := by have := HI.out; omega
  clear haz hsl hm1 hm2 hi1 hy1 hl hv
  go_enter Tryd.func14, Tryd.ntmps14
  go_wp2_with fail
  refine (cloneN_any _ az _ (HAZ.out.below HB1.out) (by omega)).mono ?_
  rintro e w3 ⟨v3, rfl, ho3⟩
  obtain ⟨g, cap, hv3, hcap, hcell⟩ := Out.shape ho3 (Nat.lt_of_le_of_lt (Nat.zero_le _) HI.out)
  subst hv3
  have HO3 := hid ho3
  have HC3 : Hid (∀ u, Below w3.heap.size w3 u → u.cell? ⟨g, i, none⟩ = some (.int .i64 vq)) := hid (fun u hu => by
    have h := hcell i (.int .i64 vq) (by rw [List.getElem?_map, HV.out]; rfl)
    exact (hu.cell (World.block_lt_of_cell? _ _ h)).trans h)
  have HX3 := hid ho3.below
  have HB3 := hid (HB1.out.trans (HX3.out.mono HB1.out.size))
  clear ho3 hcell hcap
  go_wp2_with fail

  refine wp_region_pan 12 10 unm [(9, oneR vq)] ⟨oneR_stays _, trivial⟩ (by kernel_rfl) (by kernel_rfl) (by decide) (fun a' w5 hd hb5 => ⟨hd, HB3.out.trans (hb5.mono HB3.out.size), rfl⟩) ?_
  refine wpGP_calc 1 rfl (by decide) rfl rfl (fun u => by go_simp; rfl) ?_
  simp only [Act.put, List.setIfInBounds_toArray, List.set_cons_zero, List.set_cons_succ]
  refine wpGP_calc 2 rfl (by decide) rfl rfl (fun u => by go_simp; rfl) ?_
  simp only [Act.put, List.setIfInBounds_toArray, List.set_cons_zero, List.set_cons_succ]
  refine wpGP_read 3 rfl (by decide) rfl (.int .i64 i) rfl ?_ ?_
  · intro u hu hh
    have hk := HK2.out u (HX3.out.trans (hu.mono HX3.out.size))
    go_simp
  simp only [Act.put, List.setIfInBounds_toArray, List.set_cons_zero, List.set_cons_succ]
  refine wpGP_calc 4 rfl (by decide) rfl rfl (fun u => by go_simp; rfl) ?_
  simp only [Act.put, List.setIfInBounds_toArray, List.set_cons_zero, List.set_cons_succ]
  refine wpGP_calc 5 rfl (by decide) rfl rfl (fun u => by go_simp; rfl) ?_
  simp only [Act.put, List.setIfInBounds_toArray, List.set_cons_zero, List.set_cons_succ]
  refine wpGP_calc 6 rfl (by decide) rfl rfl (fun u => by go_simp; rfl) ?_
  simp only [Act.put, List.setIfInBounds_toArray, List.set_cons_zero, List.set_cons_succ]
  refine wpGP_read 7 rfl (by decide) rfl (.int .i64 i) rfl ?_ ?_
  · intro u hu hh
    have hk := HK2.out u (HX3.out.trans (hu.mono HX3.out.size))
    go_simp
  simp only [Act.put, List.setIfInBounds_toArray, List.set_cons_zero, List.set_cons_succ]
  refine wpGP_calc 8 rfl (by decide) rfl rfl (fun u => by go_simp; rfl) ?_
  simp only [Act.put, List.setIfInBounds_toArray, List.set_cons_zero, List.set_cons_succ]
  refine wpGP_read 9 rfl (by decide) rfl (.int .i64 vq) rfl ?_ ?_
  · intro u hu hh
    have hk := HC3.out u hu
    go_simp
  simp only [Act.put, List.setIfInBounds_toArray, List.set_cons_zero, List.set_cons_succ]
  refine wpGP_rel 10 rfl (by decide) rfl rfl ?_ ?_
  · intro u hu hh
    go_simp
    exact ⟨⟨_, rfl, heap_alloc_new _ _⟩, ext_alloc _ _⟩
  intro vS ⟨uS, _, hrS⟩
  clear hrS
  simp only [Act.put, List.setIfInBounds_toArray, List.set_cons_zero, List.set_cons_succ]
  refine wpGP_pan 11 rfl rfl rfl ?_ ?_
  · intro u hu hh
    have hk : oneR vq vS u := hh 9 rfl
    go_simp
    refine (HS1.out u _ (HX3.out.trans (hu.mono HX3.out.size)) (oneR_sl hk)).mono ?_
    rintro e w6 ⟨hb6, rfl⟩
    exact ⟨rfl, hb6⟩
  simp only [Act.put, List.setIfInBounds_toArray, List.set_cons_zero, List.set_cons_succ]
  refine wpGP_calc 12 rfl (by decide) rfl rfl (fun u => by go_simp; rfl) ?_
  simp only [Act.put, List.setIfInBounds_toArray, List.set_cons_zero, List.set_cons_succ]
  exact trivial

set_option maxRecDepth 100000 in
set_option maxHeartbeats 4000000 in
theorem made_filter (t : ByteArray) (m : Int) (i : Nat) (av sa aa : Option Addr) (n1 cv n2 cs ca : Nat) (az : List Int) (w : World) (haz : Sl w (.slice aa az.length ca) az.length 1 (az.map iv)) (hn : az.length ≤ 100) (vq : Int) (hv : az[i]? = some vq) (l : List Nd) (hl : l.length = n2) (hsl : Sl w (.slice sa n2 cs) n2 5 (l.flatMap Nd.cells)) (y0 : Nd) (hi0 : l[0]? = some y0) (hy0 : NAt w y0) (hm0 : ∀ (u : World) (v : Value), Below w.heap.size w u → Sl u v (az.set i m).length 1 ((az.set i m).map iv) → Calls Tryd.prog 14 #[.agg #[.int .i64 y0.k, .string y0.t, .int .i64 y0.a, y0.va, y0.vs], v] u (MadeBy u (toldN y0 (az.set i m)))) (y1 : Nd) (hi1 : l[1]? = some y1) (hy1 : NAt w y1) (hm1 : ∀ (u : World) (v : Value), Below w.heap.size w u → Sl u v ([vq]).length 1 (([vq]).map iv) → Calls Tryd.prog 14 #[.agg #[.int .i64 y1.k, .string y1.t, .int .i64 y1.a, y1.va, y1.vs], v] u (MadeBy u (toldN y1 ([vq])))) (hm2 : toldN y1 [vq] = some m) : Calls Tryd.prog 14 #[.agg #[.int .i64 7, .string t, .int .i64 (i : Int), .slice av n1 cv, .slice sa n2 cs], .slice aa az.length ca] w (MadeBy w (toldN y0 (az.set i m))) := by
  have HAZ := hid haz
  have HQ1 : Hid (toldN y1 [vq] = some m) := hid hm2
  obtain ⟨r0, hr0⟩ : ∃ R, toldN y0 (az.set i m) = R := ⟨_, rfl⟩
  have HQ0 := hid hr0
  obtain ⟨a, ha⟩ : ∃ a : Int, (i : Int) = a := ⟨_, rfl⟩
  rw [hr0]
  simp only [ha]
  obtain ⟨X1, hX1⟩ : ∃ X1, w.alloc (.cells #[.int .i64 7, .string t, .int .i64 a, .slice av n1 cv, .slice sa n2 cs] 25) = X1 := ⟨_, rfl⟩
  have HB1 : Hid (Below w.heap.size w X1) := hid (hX1 ▸ ext_alloc _ _)
  have HLT : Hid (w.heap.size < X1.heap.size) := hid (by rw [← hX1]; simp)
  have HXR : Hid (X1.heap[w.heap.size]? = some (.cells #[.int .i64 7, .string t, .int .i64 a, .slice av n1 cv, .slice sa n2 cs] 25 (0, 0))) := hid (by rw [← hX1]; exact heap_alloc_new _ _)
  have HK1 : Hid (∀ u, Below X1.heap.size X1 u → u.cell? ⟨w.heap.size, 1, none⟩ = some (.string t)) := hid (fun u hu => by rw [cell_of_row _ _ _ _ _ _ ((hu.block _ HLT.out).trans HXR.out)]; rfl)
  have HK2 : Hid (∀ u, Below X1.heap.size X1 u → u.cell? ⟨w.heap.size, 2, none⟩ = some (.int .i64 a)) := hid (fun u hu => by rw [cell_of_row _ _ _ _ _ _ ((hu.block _ HLT.out).trans HXR.out)]; rfl)
  have HK3 : Hid (∀ u, Below X1.heap.size X1 u → u.cell? ⟨w.heap.size, 3, none⟩ = some (.slice av n1 cv)) := hid (fun u hu => by rw [cell_of_row _ _ _ _ _ _ ((hu.block _ HLT.out).trans HXR.out)]; rfl)
  have HK4 : Hid (∀ u, Below X1.heap.size X1 u → u.cell? ⟨w.heap.size, 4, none⟩ = some (.slice sa n2 cs)) := hid (fun u hu => by rw [cell_of_row _ _ _ _ _ _ ((hu.block _ HLT.out).trans HXR.out)]; rfl)
  have hq0 : X1.cell? ⟨w.heap.size, 0, none⟩ = some (.int .i64 7) := by rw [cell_of_row _ _ _ _ _ _ HXR.out]; rfl
  have hq2 := HK2.out X1 (Below.refl _ _)
  have hq3 := HK3.out X1 (Below.refl _ _)
  have hmf : ∀ (fn : Fn) (first cap : Array Value) (w : World), (Instr.makeFunc fn first cap).run Tryd.prog w = .ok (.func fn first cap) w := fun _ _ _ _ => rfl
  have HS0 : Hid (∀ (u : World) (v : Value), Below X1.heap.size X1 u → Sl u v (az.set i m).length 1 ((az.set i m).map iv) → Calls Tryd.prog 25 #[.int .i64 0, v, .pointer (some ⟨w.heap.size, 0, none⟩)] u (MadeBy u r0)) := hid (fun u v hu hv => by
    have hb := HB1.out.trans (hu.mono HB1.out.size)
    exact sub_any w.heap.size 0 u sa n2 cs l v _ y0 hl (HK4.out u hu) (hsl.below hb) hi0 (hy0.below hb) (HQ0.out ▸ hm0 u v hb hv))
  have HS1 : Hid (∀ (u : World) (v : Value), Below X1.heap.size X1 u → Sl u v ([vq]).length 1 (([vq]).map iv) → Calls Tryd.prog 25 #[.int .i64 1, v, .pointer (some ⟨w.heap.size, 0, none⟩)] u (MadeBy u (some m))) := hid (fun u v hu hv => by
    have hb := HB1.out.trans (hu.mono HB1.out.size)
    exact sub_any w.heap.size 1 u sa n2 cs l v _ y1 hl (HK4.out u hu) (hsl.below hb) hi1 (hy1.below hb) (HQ1.out ▸ hm1 u v hb hv))
  have HI : Hid (i < az.length) := hid (List.getElem?_eq_some_iff.1 hv).1
  have HV := hid hv
  subst ha
  have h0i : 0 ≤ (i : Int) := by omega
  have hil : (i : Int) < (az.length : Int) := by have := HI.out; omega
  have HLE : Hid ((az.set i m).length = az.length) := hid (by rw [List.length_set])
  clear haz hsl hm0 hm1 hm2 hi0 hi1 hy0 hy1 hl hv hr0
  go_enter Tryd.func14, Tryd.ntmps14
  go_wp2_with fail
  refine (cloneN_any _ az _ (HAZ.out.below HB1.out) (by omega)).mono ?_
  rintro e w3 ⟨v3, rfl, ho3⟩
  obtain ⟨g, cap, hv3, hcap, hcell⟩ := Out.shape ho3 (Nat.lt_of_le_of_lt (Nat.zero_le _) HI.out)
  subst hv3
  have HO3 := hid ho3
  have HC3 : Hid (∀ u, Below w3.heap.size w3 u → u.cell? ⟨g, i, none⟩ = some (.int .i64 vq)) := hid (fun u hu => by
    have h := hcell i (.int .i64 vq) (by rw [List.getElem?_map, HV.out]; rfl)
    exact (hu.cell (World.block_lt_of_cell? _ _ h)).trans h)
  have HX3 := hid ho3.below
  have HB3 := hid (HB1.out.trans (HX3.out.mono HB1.out.size))
  clear ho3 hcell hcap
  go_wp2_with fail

  refine wp_region_ext_tail 12 [(9, oneR vq), (10, is (.int .i64 m))] ⟨oneR_stays _, is_stays _, trivial⟩ (by kernel_rfl) (by kernel_rfl) ?_
  refine wpG_calc 1 rfl rfl rfl (fun u => by go_simp; rfl) ?_
  simp only [Act.put, List.setIfInBounds_toArray, List.set_cons_zero, List.set_cons_succ]
  refine wpG_calc 2 rfl rfl rfl (fun u => by go_simp; rfl) ?_
  simp only [Act.put, List.setIfInBounds_toArray, List.set_cons_zero, List.set_cons_succ]
  refine wpG_read 3 rfl rfl (.int .i64 i) rfl ?_ ?_
  · intro u hu hh
    have hk := HK2.out u (HX3.out.trans (hu.mono HX3.out.size))
    go_simp
  simp only [Act.put, List.setIfInBounds_toArray, List.set_cons_zero, List.set_cons_succ]
  refine wpG_calc 4 rfl rfl rfl (fun u => by go_simp; rfl) ?_
  simp only [Act.put, List.setIfInBounds_toArray, List.set_cons_zero, List.set_cons_succ]
  refine wpG_calc 5 rfl rfl rfl (fun u => by go_simp; rfl) ?_
  simp only [Act.put, List.setIfInBounds_toArray, List.set_cons_zero, List.set_cons_succ]
  refine wpG_calc 6 rfl rfl rfl (fun u => by go_simp; rfl) ?_
  simp only [Act.put, List.setIfInBounds_toArray, List.set_cons_zero, List.set_cons_succ]
  refine wpG_read 7 rfl rfl (.int .i64 i) rfl ?_ ?_
  · intro u hu hh
    have hk := HK2.out u (HX3.out.trans (hu.mono HX3.out.size))
    go_simp
  simp only [Act.put, List.setIfInBounds_toArray, List.set_cons_zero, List.set_cons_succ]
  refine wpG_calc 8 rfl rfl rfl (fun u => by go_simp; rfl) ?_
  simp only [Act.put, List.setIfInBounds_toArray, List.set_cons_zero, List.set_cons_succ]
  refine wpG_read 9 rfl rfl (.int .i64 vq) rfl ?_ ?_
  · intro u hu hh
    have hk := HC3.out u hu
    go_simp
  simp only [Act.put, List.setIfInBounds_toArray, List.set_cons_zero, List.set_cons_succ]
  refine wpG_rel 10 rfl rfl rfl ?_ ?_
  · intro u hu hh
    go_simp
    exact ⟨⟨_, rfl, heap_alloc_new _ _⟩, ext_alloc _ _⟩
  intro vS ⟨uS, _, hrS⟩
  clear hrS
  simp only [Act.put, List.setIfInBounds_toArray, List.set_cons_zero, List.set_cons_succ]
  refine wpG_rel 11 rfl rfl rfl ?_ ?_
  · intro u hu hh
    have hk : oneR vq vS u := hh 9 rfl
    go_simp
    refine (HS1.out u _ (HX3.out.trans (hu.mono HX3.out.size)) (oneR_sl hk)).mono ?_
    rintro e w6 ⟨hb6, rfl⟩
    exact ⟨_, rfl, rfl, hb6⟩
  intro vZ ⟨uZ, _, hrZ⟩
  obtain rfl : vZ = .int .i64 m := hrZ
  simp only [Act.put, List.setIfInBounds_toArray, List.set_cons_zero, List.set_cons_succ]
  refine wpG_calc 12 rfl rfl rfl (fun u => by go_simp; rfl) ?_
  simp only [Act.put, List.setIfInBounds_toArray, List.set_cons_zero, List.set_cons_succ]
  refine wpG_nil fun w4 hb4 hF => ?_
  clear hF
  obtain ⟨g', cap', u0, hg', _, hc4, hf4, hst⟩ := Out.store (Out.later HO3.out hb4) HI.out
  cases hg'
  have HST := hid (hst (.int .i64 m))
  have hXX := hst (.int .i64 m)
  have HX5 := hid hXX.below
  have HS5 : Hid (Sl (w4.setCell ⟨g, i, none⟩ (.int .i64 m)) (.slice (some ⟨g, 0, none⟩) az.length cap) (az.set i m).length 1 ((az.set i m).map iv)) := hid (by
    have h := hXX.sl
    rw [HLE.out, List.map_set]
    exact h)
  clear hst hXX hb4
  have HB5 := hid (HB1.out.trans (HX5.out.mono HB1.out.size))
  go_wp2_with fail

  refine (HS0.out _ _ HX5.out HS5.out).mono ?_
  rintro e w6 ⟨hb6, he6⟩
  have HB6 := hid (HB5.out.trans (hb6.mono HB5.out.size))
  clear hb6
  cases r0 with
  | none =>
    obtain rfl : e = .panicked unm := he6
    exact ⟨rfl, HB6.out, rfl⟩
  | some n6 =>
    obtain rfl : e = .returned (.int .i64 n6) := he6
    go_wp2_with fail
    go_ret
    exact ⟨HB6.out, rfl⟩
end Go.Proofs.YtikkhjcocmihlaaDoor.hands

/- Handles called: call.made, its args permuted, its subs' answers given. Condition: the lists are not long. -/
set_option linter.unusedSimpArgs false
set_option linter.unusedVariables false
namespace Go.Proofs.YtikkhjcocmihlaaDoor.hands
open Go.RowKit Go.Proofs.YtikkhjcocmihlaaDoor.lib Go.Proofs.YtikkhjcocmihlaaDoor.errs Go.Proofs.YtikkhjcocmihlaaDoor.mtypes Go.Proofs.YtikkhjcocmihlaaDoor.grow Go.Proofs.YtikkhjcocmihlaaDoor.nums

theorem permA_snoc {ats az : List Int} {k : Nat} (h : k < ats.length) : permA (ats.take (k + 1)) az = permA (ats.take k) az ++ [az.getD (ats[k]).toNat 0] := by
  unfold permA
  rw [List.take_succ_eq_append_getElem h, List.map_append]; rfl
theorem infoI : (Tryd.prog.info? 3).map (fun i => (i.zero, i.size, i.bytes)) = some (some (.int .i64 0), 1, 8) := by kernel_rfl
theorem permA_len (ats az : List Int) : (permA ats az).length = ats.length := List.length_map ..

set_option maxRecDepth 100000 in
set_option maxHeartbeats 4000000 in
theorem made_perm (t : ByteArray) (a : Int) (ats : List Int) (av sa aa : Option Addr) (n1 cv n2 cs ca : Nat) (az : List Int) (w : World) (haz : Sl w (.slice aa az.length ca) az.length 1 (az.map iv)) (hn : az.length ≤ 100) (hn1 : ats.length = n1) (h1n : n1 ≤ 100) (hat : Sl w (.slice av n1 cv) n1 1 (ats.map iv)) (hz : ∀ z ∈ ats, 0 ≤ z ∧ z < (az.length : Int)) (l : List Nd) (hl : l.length = n2) (hsl : Sl w (.slice sa n2 cs) n2 5 (l.flatMap Nd.cells)) (y0 : Nd) (hi0 : l[0]? = some y0) (hy0 : NAt w y0) (hm0 : ∀ (u : World) (v : Value), Below w.heap.size w u → Sl u v (permA ats az).length 1 ((permA ats az).map iv) → Calls Tryd.prog 14 #[.agg #[.int .i64 y0.k, .string y0.t, .int .i64 y0.a, y0.va, y0.vs], v] u (MadeBy u (toldN y0 (permA ats az)))) : Calls Tryd.prog 14 #[.agg #[.int .i64 6, .string t, .int .i64 a, .slice av n1 cv, .slice sa n2 cs], .slice aa az.length ca] w (MadeBy w (toldN y0 (permA ats az))) := by
  have HAZ := hid haz
  obtain ⟨r0, hr0⟩ : ∃ R, toldN y0 (permA ats az) = R := ⟨_, rfl⟩
  have HQ0 := hid hr0
  rw [hr0]
  obtain ⟨X1, hX1⟩ : ∃ X1, w.alloc (.cells #[.int .i64 6, .string t, .int .i64 a, .slice av n1 cv, .slice sa n2 cs] 25) = X1 := ⟨_, rfl⟩
  have HB1 : Hid (Below w.heap.size w X1) := hid (hX1 ▸ ext_alloc _ _)
  have HLT : Hid (w.heap.size < X1.heap.size) := hid (by rw [← hX1]; simp)
  have HXR : Hid (X1.heap[w.heap.size]? = some (.cells #[.int .i64 6, .string t, .int .i64 a, .slice av n1 cv, .slice sa n2 cs] 25 (0, 0))) := hid (by rw [← hX1]; exact heap_alloc_new _ _)
  have HK1 : Hid (∀ u, Below X1.heap.size X1 u → u.cell? ⟨w.heap.size, 1, none⟩ = some (.string t)) := hid (fun u hu => by rw [cell_of_row _ _ _ _ _ _ ((hu.block _ HLT.out).trans HXR.out)]; rfl)
  have HK2 : Hid (∀ u, Below X1.heap.size X1 u → u.cell? ⟨w.heap.size, 2, none⟩ = some (.int .i64 a)) := hid (fun u hu => by rw [cell_of_row _ _ _ _ _ _ ((hu.block _ HLT.out).trans HXR.out)]; rfl)
  have HK3 : Hid (∀ u, Below X1.heap.size X1 u → u.cell? ⟨w.heap.size, 3, none⟩ = some (.slice av n1 cv)) := hid (fun u hu => by rw [cell_of_row _ _ _ _ _ _ ((hu.block _ HLT.out).trans HXR.out)]; rfl)
  have HK4 : Hid (∀ u, Below X1.heap.size X1 u → u.cell? ⟨w.heap.size, 4, none⟩ = some (.slice sa n2 cs)) := hid (fun u hu => by rw [cell_of_row _ _ _ _ _ _ ((hu.block _ HLT.out).trans HXR.out)]; rfl)
  have hq0 : X1.cell? ⟨w.heap.size, 0, none⟩ = some (.int .i64 6) := by rw [cell_of_row _ _ _ _ _ _ HXR.out]; rfl
  have hq2 := HK2.out X1 (Below.refl _ _)
  have hq3 := HK3.out X1 (Below.refl _ _)
  have hmf : ∀ (fn : Fn) (first cap : Array Value) (w : World), (Instr.makeFunc fn first cap).run Tryd.prog w = .ok (.func fn first cap) w := fun _ _ _ _ => rfl
  have HS0 : Hid (∀ (u : World) (v : Value), Below X1.heap.size X1 u → Sl u v (permA ats az).length 1 ((permA ats az).map iv) → Calls Tryd.prog 25 #[.int .i64 0, v, .pointer (some ⟨w.heap.size, 0, none⟩)] u (MadeBy u r0)) := hid (fun u v hu hv => by
    have hb := HB1.out.trans (hu.mono HB1.out.size)
    exact sub_any w.heap.size 0 u sa n2 cs l v _ y0 hl (HK4.out u hu) (hsl.below hb) hi0 (hy0.below hb) (HQ0.out ▸ hm0 u v hb hv))
  have HAT := hid (hat.below HB1.out)
  have HZ := hid hz
  have HN1 := hid hn1
  have hz1 := HB1.out
  have HAX := hid (HAZ.out.below HB1.out)
  clear haz hsl hm0 hr0 hi0 hy0 hl hat hz hn1 hz1
  go_enter Tryd.func14, Tryd.ntmps14
  go_wp2_with fail
  go_loopw [8, 72] (fun vt i wr => ∃ k : Nat, k ≤ n1 ∧ i = .int .i64 k ∧ Hid (Out X1 wr 3 1 vt k ((permA (ats.take k) az).map iv))) (fun _ i _ => n1 - (intOf i).toNat)
  case atStart => exact ⟨0, Nat.zero_le _, rfl, hid (Out.nil _ _ _)⟩
  case round =>
    obtain ⟨k, hk, rfl, HO⟩ := hrel
    by_cases hlt : k < n1
    · have hka : k < ats.length := by rw [HN1.out]; exact hlt
      obtain ⟨bx, ox, hax, hcx⟩ := Sl.ints (K := .i64) (HAT.out.below HO.out.below) hka
      obtain ⟨z, hzz⟩ : ∃ z, ats[k] = z := ⟨_, rfl⟩
      have HQ : Hid (permA (ats.take (k + 1)) az = permA (ats.take k) az ++ [az.getD z.toNat 0]) := hid (by rw [permA_snoc hka, hzz])
      obtain ⟨z0, z1⟩ := HZ.out z (hzz ▸ List.getElem_mem hka)
      obtain ⟨j, rfl⟩ : ∃ j : Nat, z = (j : Int) := ⟨z.toNat, by omega⟩
      have hja : j < az.length := by omega
      obtain ⟨by_, oy, hay, hcy⟩ := Sl.ints (K := .i64) (HAX.out.below HO.out.below) hja
      have HQ2 : Hid (az.getD (j : Int).toNat 0 = az[j]) := hid (by simp [List.getD, List.getElem?_eq_getElem hja])
      obtain ⟨y, hy⟩ : ∃ y, az[j] = y := ⟨_, rfl⟩
      have HY := hid hy
      rw [hzz] at hcx
      rw [hy] at hcy
      subst hax
      subst hay
      have hi : (0 : Int) ≤ (k : Int) := by omega
      have hkl : (k : Int) < (n1 : Int) := by omega
      clear hzz hy hka
      go_wp2_with (at_builtin; refine wpList_append_lit X1 wr _ rfl _ _ 22 rfl 3 (.int .i64 0) 1 8 1 Tryd.underlying22 infoI rfl (by decide) _ _ _ HO.out rfl rfl rfl ?_ ?_ ?_ ?_)
      all_goals first | (intro v' w' ho hg) | omega | (simp [Value.oneCell']; done) | skip
      have HO2 := hid ho
      clear ho hg
      go_wp2
      go_roundw
      case rel => exact ⟨k + 1, by omega, by go_num, hid (by rw [HQ.out, HQ2.out, HY.out, List.map_append]; exact HO2.out)⟩
      case measure => simp [intOf]; omega
    · obtain rfl : k = n1 := by omega
      have HX5 := hid HO.out.below
      have HLE : Hid ((permA ats az).length = k) := hid (by rw [permA_len, HN1.out])
      have HS5 : Hid (Sl wr u8 (permA ats az).length 1 ((permA ats az).map iv)) := hid (by
        have h := HO.out.sl
        rw [List.take_of_length_le (by rw [HN1.out]; exact Nat.le_refl _)] at h
        rw [HLE.out]; exact h)
      have HB5 := hid (HB1.out.trans (HX5.out.mono HB1.out.size))
      go_wp2_with fail
      refine (HS0.out _ _ HX5.out HS5.out).mono ?_
      rintro e w6 ⟨hb6, he6⟩
      have HB6 := hid (HB5.out.trans (hb6.mono HB5.out.size))
      clear hb6
      cases r0 with
      | none =>
        obtain rfl : e = .panicked unm := he6
        exact ⟨rfl, HB6.out, rfl⟩
      | some n6 =>
        obtain rfl : e = .returned (.int .i64 n6) := he6
        go_wp2_with fail
        go_ret
        exact ⟨HB6.out, rfl⟩
end Go.Proofs.YtikkhjcocmihlaaDoor.hands

/- Handles called: call.made of a right handle tells what the plain function tells. Condition: as many numbers as its type says. -/
set_option linter.unusedSimpArgs false
set_option linter.unusedVariables false
namespace Go.Proofs.YtikkhjcocmihlaaDoor.hands
open Go.RowKit Go.Proofs.YtikkhjcocmihlaaDoor.lib Go.Proofs.YtikkhjcocmihlaaDoor.errs Go.Proofs.YtikkhjcocmihlaaDoor.mtypes Go.Proofs.YtikkhjcocmihlaaDoor.grow Go.Proofs.YtikkhjcocmihlaaDoor.nums

theorem put_len (ts : List (List UInt8)) (i : Nat) (t : List UInt8) (hi : i ≤ ts.length) : (putL ts i t).length = ts.length + 1 := by rw [putL_len _ hi]

set_option maxHeartbeats 1000000 in
theorem made_any {x : Nd} {ts : List (List UInt8)} {g : List UInt8} (h : Right x ts g) : ∀ (w : World) (va : Value) (az : List Int), NAt w x → az.length = ts.length → Sl w va az.length 1 (az.map iv) →
    Calls Tryd.prog 14 #[.agg #[.int .i64 x.k, .string x.t, .int .i64 x.a, x.va, x.vs], va] w (MadeBy w (toldN x az)) := by
  induction h with
  | @const x t h1 hs h2 h3 h4 =>
    intro w va az hx hl haz
    obtain ⟨a1, c1, e1⟩ := hx.1.1.val
    obtain ⟨a2, c2, e2⟩ := hx.1.2.val
    obtain ⟨aa, ca, rfl⟩ := haz.val
    rw [told_const h1, e1, e2, h1]
    exact made_const _ _ _ _ _ _ _ _ _ _ az w haz (by simp at hl; simp [hl])
  | @same x t h1 hs h2 h3 =>
    intro w va az hx hl haz
    obtain ⟨a1, c1, e1⟩ := hx.1.1.val
    obtain ⟨a2, c2, e2⟩ := hx.1.2.val
    obtain ⟨aa, ca, rfl⟩ := haz.val
    match az, hl with
    | [v], _ =>
      rw [told_same h1 hs, e1, e2, h1]
      exact made_same _ _ _ _ _ _ _ _ _ _ [v] w haz (by show 1 ≤ 100; decide) v rfl
  | @neg x t h1 hs h2 h3 h4 =>
    intro w va az hx hl haz
    obtain ⟨a1, c1, e1⟩ := hx.1.1.val
    obtain ⟨a2, c2, e2⟩ := hx.1.2.val
    obtain ⟨aa, ca, rfl⟩ := haz.val
    match az, hl with
    | [v], _ =>
      rw [told_math h1, e1, e2, h1]
      exact made_neg _ _ _ _ _ _ _ _ _ _ v w _ rfl haz
  | @math x t u h1 hs h2 h3 h4 h5 =>
    intro w va az hx hl haz
    obtain ⟨a1, c1, e1⟩ := hx.1.1.val
    obtain ⟨a2, c2, e2⟩ := hx.1.2.val
    obtain ⟨aa, ca, rfl⟩ := haz.val
    match az, hl with
    | [v1, v2], _ =>
      rw [told_math h1, e1, e2, h1]
      exact made_two _ _ _ _ _ _ _ _ _ _ v1 v2 w _ rfl haz
  | @drop x y ts g i h1 hs h2 hi h5 h6 hy ih =>
    intro w va az hx hl haz
    obtain ⟨a1, c1, e1⟩ := hx.1.1.val
    obtain ⟨a2, c2, e2⟩ := hx.1.2.val
    obtain ⟨aa, ca, rfl⟩ := haz.val
    have hyA := (node_at hx.2 (by rw [hs]; exact List.mem_singleton.2 rfl : y ∈ nodes x.subs)).1
    rw [put_len _ _ _ hi] at hl
    have hsl := hx.1.2
    rw [e2] at hsl
    rw [told_one hs (by omega) (by omega), if_pos h1, e1, e2, h1, h2, show ((i : Int)).toNat = i from by omega]
    exact made_drop _ i _ _ _ _ _ _ _ _ az w haz (by omega) (by omega) (nodes x.subs) rfl hsl y (by rw [hs]; rfl) hyA (fun u v hb hv => ih u v _ (hyA.below hb) (by rw [List.length_eraseIdx, if_pos (by omega)]; omega) hv)
  | @perm x y ts ms g h1 hs hl0 hp h5 hy ih =>
    intro w va az hx hl haz
    obtain ⟨a1, c1, e1⟩ := hx.1.1.val
    obtain ⟨a2, c2, e2⟩ := hx.1.2.val
    obtain ⟨aa, ca, rfl⟩ := haz.val
    have hyA := (node_at hx.2 (by rw [hs]; exact List.mem_singleton.2 rfl : y ∈ nodes x.subs)).1
    have hsl := hx.1.2
    have hat := hx.1.1
    rw [e2] at hsl
    rw [e1] at hat
    have h5' := right_len hy
    rw [told_one hs (by omega) (by omega), if_neg (by omega), e1, e2, h1]
    refine made_perm _ _ x.ats _ _ _ _ _ _ _ _ az w haz (by omega) rfl (by omega) hat (fun z hz => ?_) (nodes x.subs) rfl hsl y (by rw [hs]; rfl) hyA (fun u v hb hv => ih u v _ (hyA.below hb) (by rw [permA_len, hl0]) hv)
    obtain ⟨j, hj, rfl⟩ := List.mem_iff_getElem.1 hz
    obtain ⟨z0, z1, _⟩ := perm_ok hp hl0 j _ _ (List.getElem?_eq_getElem hj) (List.getElem?_eq_getElem (hl0 ▸ hj))
    exact ⟨z0, by omega⟩
  | @bind x y z ts g q i h1 hs h2 hq hy hz ihy ihz =>
    intro w va az hx hl haz
    obtain ⟨a1, c1, e1⟩ := hx.1.1.val
    obtain ⟨a2, c2, e2⟩ := hx.1.2.val
    obtain ⟨aa, ca, rfl⟩ := haz.val
    have hyA := (node_at hx.2 (by rw [hs]; exact List.mem_cons_self .. : y ∈ nodes x.subs)).1
    have hzA := (node_at hx.2 (by rw [hs]; exact List.mem_cons_of_mem _ (List.mem_cons_self ..) : z ∈ nodes x.subs)).1
    have hi : i < ts.length := (List.getElem?_eq_some_iff.1 hq).1
    rw [List.length_eraseIdx, if_pos hi] at hl
    have h5' := right_len hy
    have hsl := hx.1.2
    rw [e2] at hsl
    rw [told_two hs (by omega) (by omega), if_pos h1, e1, e2, h1, h2, show ((i : Int)).toNat = i from by omega]
    have hm1 : ∀ (u : World) (v : Value), Below w.heap.size w u → Sl u v ([] : List Int).length 1 (([] : List Int).map iv) → _ := fun u v hb hv => ihz u v [] (hzA.below hb) rfl hv
    cases hn : toldN z [] with
    | none => exact made_bind_none _ i _ _ _ _ _ _ _ _ az w haz (by omega) (by omega) (nodes x.subs) rfl hsl z (by rw [hs]; rfl) hzA hm1 hn
    | some m => exact made_bind _ m i _ _ _ _ _ _ _ _ az w haz (by omega) (by omega) (nodes x.subs) rfl hsl y (by rw [hs]; rfl) hyA (fun u v hb hv => ihy u v _ (hyA.below hb) (by rw [insAt_len m (by omega)]; omega) hv) z (by rw [hs]; rfl) hzA hm1 hn
  | @filter x y z ts g q u i h1 hs h2 hq hy hz ihy ihz =>
    intro w va az hx hl haz
    obtain ⟨a1, c1, e1⟩ := hx.1.1.val
    obtain ⟨a2, c2, e2⟩ := hx.1.2.val
    obtain ⟨aa, ca, rfl⟩ := haz.val
    have hyA := (node_at hx.2 (by rw [hs]; exact List.mem_cons_self .. : y ∈ nodes x.subs)).1
    have hzA := (node_at hx.2 (by rw [hs]; exact List.mem_cons_of_mem _ (List.mem_cons_self ..) : z ∈ nodes x.subs)).1
    have hi : i < ts.length := (List.getElem?_eq_some_iff.1 hq).1
    rw [List.length_set] at hl
    have h5' := right_len hy
    have hsl := hx.1.2
    rw [e2] at hsl
    have hia : i < az.length := by omega
    have e : az.getD i 0 = az[i] := by simp [List.getD, List.getElem?_eq_getElem hia]
    rw [told_two hs (by omega) (by omega), if_neg (by omega), e1, e2, h1, h2, show ((i : Int)).toNat = i from by omega, e]
    have hm1 : ∀ (u : World) (v : Value), Below w.heap.size w u → Sl u v [az[i]].length 1 ([az[i]].map iv) → _ := fun u v hb hv => ihz u v [az[i]] (hzA.below hb) rfl hv
    cases hn : toldN z [az[i]] with
    | none => exact made_filter_none _ i _ _ _ _ _ _ _ _ az w haz (by omega) _ (List.getElem?_eq_getElem hia) (nodes x.subs) rfl hsl z (by rw [hs]; rfl) hzA hm1 hn
    | some m => exact made_filter _ m i _ _ _ _ _ _ _ _ az w haz (by omega) _ (List.getElem?_eq_getElem hia) (nodes x.subs) rfl hsl y (by rw [hs]; rfl) hyA (fun u v hb hv => ihy u v _ (hyA.below hb) (by rw [List.length_set]; omega) hv) z (by rw [hs]; rfl) hzA hm1 hn

end Go.Proofs.YtikkhjcocmihlaaDoor.hands
