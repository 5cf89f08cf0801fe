/- Handles called: call.made, kind by kind, its subs' answers given. Condition: the lists are not long. -/
import Derived.Test.YtogpgfaojmmemaaDoorCall2
import Derived.Test.YtogpgfaojmmemaaDoorGrowP
set_option linter.unusedSimpArgs false
set_option linter.unusedVariables false
namespace Go.Proofs.YtogpgfaojmmemaaDoor.hands
open Go.RowKit Go.Proofs.YtogpgfaojmmemaaDoor.lib Go.Proofs.YtogpgfaojmmemaaDoor.errs Go.Proofs.YtogpgfaojmmemaaDoor.mtypes Go.Proofs.YtogpgfaojmmemaaDoor.grow Go.Proofs.YtogpgfaojmmemaaDoor.nums

/-- what made panics with -/
def unm : List PanicEntry := [{ v := .iface 64 (.agg #[]), recovered := false }]
def endOf : Option Int → Ending
  | some n => .returned (.int .i64 n)
  | none => .panicked unm
def MadeBy (w : World) (r : Option Int) (e : Ending) (w' : World) : Prop := Below w.heap.size w w' ∧ e = endOf r

def ownR (w : World) (xs : List Int) : Value → World → Prop := fun v u => Out w u 3 1 v xs.length (xs.map iv)
theorem ownR_stays (w : World) (xs : List Int) : ∀ v u u', Below u.heap.size u u' → ownR w xs v u → ownR w xs v u' := fun v u u' hb h => Out.later h hb
def oneR (n : Int) : Value → World → Prop := fun v u => ∃ H, v = .slice (some ⟨H, 0, none⟩) 1 1 ∧ u.heap[H]? = some (.cells #[iv n] 3 (0, 0))
theorem oneR_stays (n : Int) : ∀ v u u', Below u.heap.size u u' → oneR n v u → oneR n v u' := by
  rintro v u u' hb ⟨H, rfl, h⟩
  exact ⟨H, rfl, (hb.block H (Array.getElem?_eq_some_iff.1 h).1).trans h⟩
theorem oneR_sl {n : Int} {v : Value} {u : World} (h : oneR n v u) : Sl u v 1 1 [iv n] := by
  obtain ⟨H, rfl, h⟩ := h
  refine ⟨rfl, _, _, rfl, Nat.le_refl _, .inr ⟨_, _, rfl, fun j x hj => ?_⟩⟩
  rw [Nat.zero_add, cell_of_row _ _ _ _ _ _ h]
  simpa using hj

set_option maxRecDepth 100000 in
set_option maxHeartbeats 4000000 in
/-- the closure that calls made of a sub -/
theorem sub_any (g i : Nat) (u : World) (sa : Option Addr) (m cs : Nat) (l : List Nd) (va : Value) (r : Option Int) (y : Nd) (hl : l.length = m) (hbox : u.cell? ⟨g, 4, none⟩ = some (.slice sa m cs)) (hsl : Sl u (.slice sa m cs) m 5 (l.flatMap Nd.cells)) (hi : l[i]? = some y) (hy : NAt u y)
    (hm : Calls Tryd.prog 31 #[.agg #[.int .i64 y.k, .string y.t, .int .i64 y.a, y.va, y.vs], va] u (MadeBy u r)) :
    Calls Tryd.prog 52 #[.int .i64 (i : Int), va, .pointer (some ⟨g, 0, none⟩)] u (MadeBy u r) := by
  subst hl
  obtain ⟨hil, hiy⟩ := List.getElem?_eq_some_iff.1 hi
  obtain ⟨b, off, hab, d0, d1, d2, d3, d4⟩ := nd_at hsl hil
  subst hab
  rw [hiy] at d0 d1 d2 d3 d4
  have h0 : (0 : Int) ≤ (i : Int) := by omega
  have hjl : (i : Int) < (l.length : Int) := by omega
  obtain ⟨a1, c1, e1⟩ := hy.1.1.val
  obtain ⟨a2, c2, e2⟩ := hy.1.2.val
  obtain ⟨yk, hyk⟩ : ∃ q, y.k = q := ⟨_, rfl⟩
  obtain ⟨yt, hyt⟩ : ∃ q, y.t = q := ⟨_, rfl⟩
  obtain ⟨ya, hya⟩ : ∃ q, y.a = q := ⟨_, rfl⟩
  obtain ⟨n1, hn1⟩ : ∃ q, y.ats.length = q := ⟨_, rfl⟩
  obtain ⟨n2, hn2⟩ : ∃ q, (nodes y.subs).length = q := ⟨_, rfl⟩
  rw [hn1] at e1
  rw [hn2] at e2
  simp only [hyk, hyt, hya, e1, e2] at d0 d1 d2 d3 d4 hm
  have HM := hid hm
  clear hm hy hi hiy hyk hyt hya hn1 hn2 e1 e2 hsl hil
  go_enter Tryd.func52, Tryd.ntmps52
  go_wp2_with fail
  refine HM.out.mono ?_
  rintro e w5 ⟨hb5, he⟩
  cases r with
  | none =>
    obtain rfl : e = .panicked unm := he
    exact ⟨rfl, hb5, rfl⟩
  | some n =>
    obtain rfl : e = .returned (.int .i64 n) := he
    go_wp2_with fail
    go_ret
    exact ⟨hb5, rfl⟩

set_option maxRecDepth 100000 in
set_option maxHeartbeats 4000000 in
theorem made_const (t : ByteArray) (a : Int) (av sa aa : Option Addr) (n1 cv n2 cs ca : Nat) (az : List Int) (w : World) (haz : Sl w (.slice aa az.length ca) az.length 1 (az.map iv)) (hn : az.length ≤ 100) : Calls Tryd.prog 31 #[.agg #[.int .i64 1, .string t, .int .i64 a, .slice av n1 cv, .slice sa n2 cs], .slice aa az.length ca] w (MadeBy w (some a)) := by
  obtain ⟨X1, hX1⟩ : ∃ X1, w.alloc (.cells #[.int .i64 1, .string t, .int .i64 a, .slice av n1 cv, .slice sa n2 cs] 25) = X1 := ⟨_, rfl⟩
  have HB1 : Hid (Below w.heap.size w X1) := hid (hX1 ▸ ext_alloc _ _)
  have HLT : Hid (w.heap.size < X1.heap.size) := hid (by rw [← hX1]; simp)
  have HXR : Hid (X1.heap[w.heap.size]? = some (.cells #[.int .i64 1, .string t, .int .i64 a, .slice av n1 cv, .slice sa n2 cs] 25 (0, 0))) := hid (by rw [← hX1]; exact heap_alloc_new _ _)
  have HK1 : Hid (∀ u, Below X1.heap.size X1 u → u.cell? ⟨w.heap.size, 1, none⟩ = some (.string t)) := hid (fun u hu => by rw [cell_of_row _ _ _ _ _ _ ((hu.block _ HLT.out).trans HXR.out)]; rfl)
  have HK2 : Hid (∀ u, Below X1.heap.size X1 u → u.cell? ⟨w.heap.size, 2, none⟩ = some (.int .i64 a)) := hid (fun u hu => by rw [cell_of_row _ _ _ _ _ _ ((hu.block _ HLT.out).trans HXR.out)]; rfl)
  have HK3 : Hid (∀ u, Below X1.heap.size X1 u → u.cell? ⟨w.heap.size, 3, none⟩ = some (.slice av n1 cv)) := hid (fun u hu => by rw [cell_of_row _ _ _ _ _ _ ((hu.block _ HLT.out).trans HXR.out)]; rfl)
  have HK4 : Hid (∀ u, Below X1.heap.size X1 u → u.cell? ⟨w.heap.size, 4, none⟩ = some (.slice sa n2 cs)) := hid (fun u hu => by rw [cell_of_row _ _ _ _ _ _ ((hu.block _ HLT.out).trans HXR.out)]; rfl)
  have hq0 : X1.cell? ⟨w.heap.size, 0, none⟩ = some (.int .i64 1) := by rw [cell_of_row _ _ _ _ _ _ HXR.out]; rfl
  have hq2 := HK2.out X1 (Below.refl _ _)
  have hq3 := HK3.out X1 (Below.refl _ _)
  have hmf : ∀ (fn : Fn) (first cap : Array Value) (w : World), (Instr.makeFunc fn first cap).run Tryd.prog w = .ok (.func fn first cap) w := fun _ _ _ _ => rfl
  go_enter Tryd.func31, Tryd.ntmps31
  go_wp2_with fail
  go_ret
  exact ⟨HB1.out, rfl⟩

set_option maxRecDepth 100000 in
set_option maxHeartbeats 4000000 in
theorem made_same (t : ByteArray) (a : Int) (av sa aa : Option Addr) (n1 cv n2 cs ca : Nat) (az : List Int) (w : World) (haz : Sl w (.slice aa az.length ca) az.length 1 (az.map iv)) (hn : az.length ≤ 100) (v : Int) (hv : az[0]? = some v) : Calls Tryd.prog 31 #[.agg #[.int .i64 2, .string t, .int .i64 a, .slice av n1 cv, .slice sa n2 cs], .slice aa az.length ca] w (MadeBy w (some v)) := by
  obtain ⟨X1, hX1⟩ : ∃ X1, w.alloc (.cells #[.int .i64 2, .string t, .int .i64 a, .slice av n1 cv, .slice sa n2 cs] 25) = X1 := ⟨_, rfl⟩
  have HB1 : Hid (Below w.heap.size w X1) := hid (hX1 ▸ ext_alloc _ _)
  have HLT : Hid (w.heap.size < X1.heap.size) := hid (by rw [← hX1]; simp)
  have HXR : Hid (X1.heap[w.heap.size]? = some (.cells #[.int .i64 2, .string t, .int .i64 a, .slice av n1 cv, .slice sa n2 cs] 25 (0, 0))) := hid (by rw [← hX1]; exact heap_alloc_new _ _)
  have HK1 : Hid (∀ u, Below X1.heap.size X1 u → u.cell? ⟨w.heap.size, 1, none⟩ = some (.string t)) := hid (fun u hu => by rw [cell_of_row _ _ _ _ _ _ ((hu.block _ HLT.out).trans HXR.out)]; rfl)
  have HK2 : Hid (∀ u, Below X1.heap.size X1 u → u.cell? ⟨w.heap.size, 2, none⟩ = some (.int .i64 a)) := hid (fun u hu => by rw [cell_of_row _ _ _ _ _ _ ((hu.block _ HLT.out).trans HXR.out)]; rfl)
  have HK3 : Hid (∀ u, Below X1.heap.size X1 u → u.cell? ⟨w.heap.size, 3, none⟩ = some (.slice av n1 cv)) := hid (fun u hu => by rw [cell_of_row _ _ _ _ _ _ ((hu.block _ HLT.out).trans HXR.out)]; rfl)
  have HK4 : Hid (∀ u, Below X1.heap.size X1 u → u.cell? ⟨w.heap.size, 4, none⟩ = some (.slice sa n2 cs)) := hid (fun u hu => by rw [cell_of_row _ _ _ _ _ _ ((hu.block _ HLT.out).trans HXR.out)]; rfl)
  have hq0 : X1.cell? ⟨w.heap.size, 0, none⟩ = some (.int .i64 2) := by rw [cell_of_row _ _ _ _ _ _ HXR.out]; rfl
  have hq2 := HK2.out X1 (Below.refl _ _)
  have hq3 := HK3.out X1 (Below.refl _ _)
  have hmf : ∀ (fn : Fn) (first cap : Array Value) (w : World), (Instr.makeFunc fn first cap).run Tryd.prog w = .ok (.func fn first cap) w := fun _ _ _ _ => rfl
  have HAZ := hid haz
  have h0 : 0 < az.length := (List.getElem?_eq_some_iff.1 hv).1
  have h0i : (0 : Int) < (az.length : Int) := by omega
  obtain ⟨b, off, rfl, u0, hu0, hcell⟩ := Sl.at1 (haz.below HB1.out) h0
  rw [List.getElem?_map, hv] at hu0
  obtain rfl := Option.some.inj hu0
  have hc0 : X1.cell? ⟨b, off, none⟩ = some (.int .i64 v) := hcell
  clear haz hcell hu0 hv
  go_enter Tryd.func31, Tryd.ntmps31
  go_wp2_with fail
  go_ret
  exact ⟨HB1.out, rfl⟩

end Go.Proofs.YtogpgfaojmmemaaDoor.hands

/- Handles called: call.made, numbers, its subs' answers given. Condition: the lists are not long. -/
set_option linter.unusedSimpArgs false
set_option linter.unusedVariables false
namespace Go.Proofs.YtogpgfaojmmemaaDoor.hands
open Go.RowKit Go.Proofs.YtogpgfaojmmemaaDoor.lib Go.Proofs.YtogpgfaojmmemaaDoor.errs Go.Proofs.YtogpgfaojmmemaaDoor.mtypes Go.Proofs.YtogpgfaojmmemaaDoor.grow Go.Proofs.YtogpgfaojmmemaaDoor.nums

set_option maxRecDepth 100000 in
set_option maxHeartbeats 4000000 in
theorem made_neg (t : ByteArray) (a : Int) (av sa aa : Option Addr) (n1 cv n2 cs ca : Nat) (v1 : Int) (w : World) (r : Option Int) (hr : (if (ofOf t.data.toList a v1 v1).2 = true then some (ofOf t.data.toList a v1 v1).1 else none) = r) (haz : Sl w (.slice aa 1 ca) 1 1 ([v1].map iv)) : Calls Tryd.prog 31 #[.agg #[.int .i64 3, .string t, .int .i64 a, .slice av n1 cv, .slice sa n2 cs], .slice aa 1 ca] w (MadeBy w r) := by
  obtain ⟨R, hR⟩ : ∃ R, ofOf t.data.toList a v1 v1 = R := ⟨_, rfl⟩
  have HR := hid hR
  rw [hR] at hr
  have HRR := hid hr
  clear hR hr
  obtain ⟨X1, hX1⟩ : ∃ X1, w.alloc (.cells #[.int .i64 3, .string t, .int .i64 a, .slice av n1 cv, .slice sa n2 cs] 25) = X1 := ⟨_, rfl⟩
  have HB1 : Hid (Below w.heap.size w X1) := hid (hX1 ▸ ext_alloc _ _)
  have HLT : Hid (w.heap.size < X1.heap.size) := hid (by rw [← hX1]; simp)
  have HXR : Hid (X1.heap[w.heap.size]? = some (.cells #[.int .i64 3, .string t, .int .i64 a, .slice av n1 cv, .slice sa n2 cs] 25 (0, 0))) := hid (by rw [← hX1]; exact heap_alloc_new _ _)
  have HK1 : Hid (∀ u, Below X1.heap.size X1 u → u.cell? ⟨w.heap.size, 1, none⟩ = some (.string t)) := hid (fun u hu => by rw [cell_of_row _ _ _ _ _ _ ((hu.block _ HLT.out).trans HXR.out)]; rfl)
  have HK2 : Hid (∀ u, Below X1.heap.size X1 u → u.cell? ⟨w.heap.size, 2, none⟩ = some (.int .i64 a)) := hid (fun u hu => by rw [cell_of_row _ _ _ _ _ _ ((hu.block _ HLT.out).trans HXR.out)]; rfl)
  have HK3 : Hid (∀ u, Below X1.heap.size X1 u → u.cell? ⟨w.heap.size, 3, none⟩ = some (.slice av n1 cv)) := hid (fun u hu => by rw [cell_of_row _ _ _ _ _ _ ((hu.block _ HLT.out).trans HXR.out)]; rfl)
  have HK4 : Hid (∀ u, Below X1.heap.size X1 u → u.cell? ⟨w.heap.size, 4, none⟩ = some (.slice sa n2 cs)) := hid (fun u hu => by rw [cell_of_row _ _ _ _ _ _ ((hu.block _ HLT.out).trans HXR.out)]; rfl)
  have hq0 : X1.cell? ⟨w.heap.size, 0, none⟩ = some (.int .i64 3) := by rw [cell_of_row _ _ _ _ _ _ HXR.out]; rfl
  have hq2 := HK2.out X1 (Below.refl _ _)
  have hq3 := HK3.out X1 (Below.refl _ _)
  have hmf : ∀ (fn : Fn) (first cap : Array Value) (w : World), (Instr.makeFunc fn first cap).run Tryd.prog w = .ok (.func fn first cap) w := fun _ _ _ _ => rfl
  obtain ⟨b, off, rfl, u0, hu0, hcell⟩ := Sl.at1 (haz.below HB1.out) (k := 0) (by decide)
  obtain rfl : u0 = .int .i64 v1 := (Option.some.inj hu0).symm
  have hcell0 : X1.cell? ⟨b, off, none⟩ = some (.int .i64 v1) := hcell
  obtain ⟨b', off', hab, u1, hu1, hcell1⟩ := Sl.at1 (haz.below HB1.out) (k := 0) (by decide)
  cases hab
  obtain rfl : u1 = .int .i64 v1 := (Option.some.inj hu1).symm
  have HC1 : Hid (∀ u, Below X1.heap.size X1 u → u.cell? ⟨b, off, none⟩ = some (.int .i64 v1)) := hid (fun u hu => (hu.cell (World.block_lt_of_cell? _ _ hcell0)).trans hcell0)
  have HC2 : Hid (∀ u, Below X1.heap.size X1 u → u.cell? ⟨b, off, none⟩ = some (.int .i64 v1)) := hid (fun u hu => (hu.cell (World.block_lt_of_cell? _ _ hcell1)).trans hcell1)
  clear haz hcell hu0 hcell1 hu1 hcell0
  go_enter Tryd.func31, Tryd.ntmps31
  go_wp2_with fail
  refine wp_region_ext [(13, is (.tuple #[.int .i64 R.1, .bool R.2]))] ⟨is_stays _, trivial⟩ (by kernel_rfl) (by kernel_rfl) ?_
  refine wpG_calc 1 rfl rfl rfl (fun u => by go_simp; rfl) ?_
  simp only [Act.put, List.setIfInBounds_toArray, List.set_cons_zero, List.set_cons_succ]
  refine wpG_read 2 rfl rfl (.string t) rfl ?_ ?_
  · intro u hu hh
    have hk := HK1.out u hu
    go_simp
  simp only [Act.put, List.setIfInBounds_toArray, List.set_cons_zero, List.set_cons_succ]
  refine wpG_calc 3 rfl rfl rfl (fun u => by go_simp; rfl) ?_
  simp only [Act.put, List.setIfInBounds_toArray, List.set_cons_zero, List.set_cons_succ]
  refine wpG_read 4 rfl rfl (.int .i64 a) rfl ?_ ?_
  · intro u hu hh
    have hk := HK2.out u hu
    go_simp
  simp only [Act.put, List.setIfInBounds_toArray, List.set_cons_zero, List.set_cons_succ]
  refine wpG_calc 5 rfl rfl rfl (fun u => by go_simp; rfl) ?_
  simp only [Act.put, List.setIfInBounds_toArray, List.set_cons_zero, List.set_cons_succ]
  refine wpG_calc 6 rfl rfl rfl (fun u => by go_simp; rfl) ?_
  simp only [Act.put, List.setIfInBounds_toArray, List.set_cons_zero, List.set_cons_succ]
  refine wpG_read 7 rfl rfl (.int .i64 v1) rfl ?_ ?_
  · intro u hu hh
    have hk := HC1.out u hu
    go_simp
  simp only [Act.put, List.setIfInBounds_toArray, List.set_cons_zero, List.set_cons_succ]
  refine wpG_calc 8 rfl rfl rfl (fun u => by go_simp; rfl) ?_
  simp only [Act.put, List.setIfInBounds_toArray, List.set_cons_zero, List.set_cons_succ]
  refine wpG_calc 9 rfl rfl rfl (fun u => by go_simp; rfl) ?_
  simp only [Act.put, List.setIfInBounds_toArray, List.set_cons_zero, List.set_cons_succ]
  refine wpG_calc 10 rfl rfl rfl (fun u => by go_simp; rfl) ?_
  simp only [Act.put, List.setIfInBounds_toArray, List.set_cons_zero, List.set_cons_succ]
  refine wpG_calc (v := .int .i64 0) 11 rfl rfl rfl (fun u => by go_simp; rfl) ?_
  simp only [Act.put, List.setIfInBounds_toArray, List.set_cons_zero, List.set_cons_succ]
  refine wpG_calc 12 rfl rfl rfl (fun u => by go_simp; rfl) ?_
  simp only [Act.put, List.setIfInBounds_toArray, List.set_cons_zero, List.set_cons_succ]
  refine wpG_read 13 rfl rfl (.int .i64 v1) rfl ?_ ?_
  · intro u hu hh
    have hk := HC2.out u hu
    go_simp
  simp only [Act.put, List.setIfInBounds_toArray, List.set_cons_zero, List.set_cons_succ]
  refine wpG_rel 14 rfl rfl rfl ?_ ?_
  · intro u hu hh
    go_simp
    refine (of_any t a v1 v1 u).mono ?_
    rintro e w6 ⟨rfl, rfl⟩
    exact ⟨_, rfl, by rw [HR.out]; rfl, Below.refl _ _⟩
  intro vN ⟨uN, _, hrN⟩
  obtain rfl : vN = .tuple #[.int .i64 R.1, .bool R.2] := hrN
  simp only [Act.put, List.setIfInBounds_toArray, List.set_cons_zero, List.set_cons_succ]
  refine wpG_calc 15 rfl rfl rfl (fun u => by go_simp; rfl) ?_
  simp only [Act.put, List.setIfInBounds_toArray, List.set_cons_zero, List.set_cons_succ]
  refine wpG_calc 16 rfl rfl rfl (fun u => by go_simp; rfl) ?_
  simp only [Act.put, List.setIfInBounds_toArray, List.set_cons_zero, List.set_cons_succ]
  refine wpG_calc 17 rfl rfl rfl (fun u => by go_simp; rfl) ?_
  simp only [Act.put, List.setIfInBounds_toArray, List.set_cons_zero, List.set_cons_succ]
  refine wpG_calc 18 rfl rfl rfl (fun u => by go_simp; rfl) ?_
  simp only [Act.put, List.setIfInBounds_toArray, List.set_cons_zero, List.set_cons_succ]
  refine wpG_calc 19 rfl rfl rfl (fun u => by go_simp; rfl) ?_
  simp only [Act.put, List.setIfInBounds_toArray, List.set_cons_zero, List.set_cons_succ]
  refine wpG_nil fun w4 hb4 hF => ?_
  clear hF
  have HB4 := hid (HB1.out.trans (hb4.mono HB1.out.size))
  clear hb4
  obtain ⟨R1, R2⟩ := R
  cases R2 with
  | true =>
    go_wp2_with fail
    go_ret
    exact ⟨HB4.out, by rw [← HRR.out]; rfl⟩
  | false =>
    go_wp2_with fail
    exact ⟨rfl, HB4.out, by rw [← HRR.out]; rfl⟩

set_option maxRecDepth 100000 in
set_option maxHeartbeats 4000000 in
theorem made_two (t : ByteArray) (a : Int) (av sa aa : Option Addr) (n1 cv n2 cs ca : Nat) (v1 v2 : Int) (w : World) (r : Option Int) (hr : (if (ofOf t.data.toList a v1 v2).2 = true then some (ofOf t.data.toList a v1 v2).1 else none) = r) (haz : Sl w (.slice aa 2 ca) 2 1 ([v1, v2].map iv)) : Calls Tryd.prog 31 #[.agg #[.int .i64 3, .string t, .int .i64 a, .slice av n1 cv, .slice sa n2 cs], .slice aa 2 ca] w (MadeBy w r) := by
  obtain ⟨R, hR⟩ : ∃ R, ofOf t.data.toList a v1 v2 = R := ⟨_, rfl⟩
  have HR := hid hR
  rw [hR] at hr
  have HRR := hid hr
  clear hR hr
  obtain ⟨X1, hX1⟩ : ∃ X1, w.alloc (.cells #[.int .i64 3, .string t, .int .i64 a, .slice av n1 cv, .slice sa n2 cs] 25) = X1 := ⟨_, rfl⟩
  have HB1 : Hid (Below w.heap.size w X1) := hid (hX1 ▸ ext_alloc _ _)
  have HLT : Hid (w.heap.size < X1.heap.size) := hid (by rw [← hX1]; simp)
  have HXR : Hid (X1.heap[w.heap.size]? = some (.cells #[.int .i64 3, .string t, .int .i64 a, .slice av n1 cv, .slice sa n2 cs] 25 (0, 0))) := hid (by rw [← hX1]; exact heap_alloc_new _ _)
  have HK1 : Hid (∀ u, Below X1.heap.size X1 u → u.cell? ⟨w.heap.size, 1, none⟩ = some (.string t)) := hid (fun u hu => by rw [cell_of_row _ _ _ _ _ _ ((hu.block _ HLT.out).trans HXR.out)]; rfl)
  have HK2 : Hid (∀ u, Below X1.heap.size X1 u → u.cell? ⟨w.heap.size, 2, none⟩ = some (.int .i64 a)) := hid (fun u hu => by rw [cell_of_row _ _ _ _ _ _ ((hu.block _ HLT.out).trans HXR.out)]; rfl)
  have HK3 : Hid (∀ u, Below X1.heap.size X1 u → u.cell? ⟨w.heap.size, 3, none⟩ = some (.slice av n1 cv)) := hid (fun u hu => by rw [cell_of_row _ _ _ _ _ _ ((hu.block _ HLT.out).trans HXR.out)]; rfl)
  have HK4 : Hid (∀ u, Below X1.heap.size X1 u → u.cell? ⟨w.heap.size, 4, none⟩ = some (.slice sa n2 cs)) := hid (fun u hu => by rw [cell_of_row _ _ _ _ _ _ ((hu.block _ HLT.out).trans HXR.out)]; rfl)
  have hq0 : X1.cell? ⟨w.heap.size, 0, none⟩ = some (.int .i64 3) := by rw [cell_of_row _ _ _ _ _ _ HXR.out]; rfl
  have hq2 := HK2.out X1 (Below.refl _ _)
  have hq3 := HK3.out X1 (Below.refl _ _)
  have hmf : ∀ (fn : Fn) (first cap : Array Value) (w : World), (Instr.makeFunc fn first cap).run Tryd.prog w = .ok (.func fn first cap) w := fun _ _ _ _ => rfl
  obtain ⟨b, off, rfl, u0, hu0, hcell⟩ := Sl.at1 (haz.below HB1.out) (k := 0) (by decide)
  obtain rfl : u0 = .int .i64 v1 := (Option.some.inj hu0).symm
  have hcell0 : X1.cell? ⟨b, off, none⟩ = some (.int .i64 v1) := hcell
  obtain ⟨b', off', hab, u1, hu1, hcell1⟩ := Sl.at1 (haz.below HB1.out) (k := 1) (by decide)
  cases hab
  obtain rfl : u1 = .int .i64 v2 := (Option.some.inj hu1).symm
  have HC1 : Hid (∀ u, Below X1.heap.size X1 u → u.cell? ⟨b, off, none⟩ = some (.int .i64 v1)) := hid (fun u hu => (hu.cell (World.block_lt_of_cell? _ _ hcell0)).trans hcell0)
  have HC2 : Hid (∀ u, Below X1.heap.size X1 u → u.cell? ⟨b, off + 1, none⟩ = some (.int .i64 v2)) := hid (fun u hu => (hu.cell (World.block_lt_of_cell? _ _ hcell1)).trans hcell1)
  clear haz hcell hu0 hcell1 hu1 hcell0
  go_enter Tryd.func31, Tryd.ntmps31
  go_wp2_with fail
  refine wp_region_ext [(13, is (.tuple #[.int .i64 R.1, .bool R.2]))] ⟨is_stays _, trivial⟩ (by kernel_rfl) (by kernel_rfl) ?_
  refine wpG_calc 1 rfl rfl rfl (fun u => by go_simp; rfl) ?_
  simp only [Act.put, List.setIfInBounds_toArray, List.set_cons_zero, List.set_cons_succ]
  refine wpG_read 2 rfl rfl (.string t) rfl ?_ ?_
  · intro u hu hh
    have hk := HK1.out u hu
    go_simp
  simp only [Act.put, List.setIfInBounds_toArray, List.set_cons_zero, List.set_cons_succ]
  refine wpG_calc 3 rfl rfl rfl (fun u => by go_simp; rfl) ?_
  simp only [Act.put, List.setIfInBounds_toArray, List.set_cons_zero, List.set_cons_succ]
  refine wpG_read 4 rfl rfl (.int .i64 a) rfl ?_ ?_
  · intro u hu hh
    have hk := HK2.out u hu
    go_simp
  simp only [Act.put, List.setIfInBounds_toArray, List.set_cons_zero, List.set_cons_succ]
  refine wpG_calc 5 rfl rfl rfl (fun u => by go_simp; rfl) ?_
  simp only [Act.put, List.setIfInBounds_toArray, List.set_cons_zero, List.set_cons_succ]
  refine wpG_calc 6 rfl rfl rfl (fun u => by go_simp; rfl) ?_
  simp only [Act.put, List.setIfInBounds_toArray, List.set_cons_zero, List.set_cons_succ]
  refine wpG_read 7 rfl rfl (.int .i64 v1) rfl ?_ ?_
  · intro u hu hh
    have hk := HC1.out u hu
    go_simp
  simp only [Act.put, List.setIfInBounds_toArray, List.set_cons_zero, List.set_cons_succ]
  refine wpG_calc 8 rfl rfl rfl (fun u => by go_simp; rfl) ?_
  simp only [Act.put, List.setIfInBounds_toArray, List.set_cons_zero, List.set_cons_succ]
  refine wpG_calc 9 rfl rfl rfl (fun u => by go_simp; rfl) ?_
  simp only [Act.put, List.setIfInBounds_toArray, List.set_cons_zero, List.set_cons_succ]
  refine wpG_calc 10 rfl rfl rfl (fun u => by go_simp; rfl) ?_
  simp only [Act.put, List.setIfInBounds_toArray, List.set_cons_zero, List.set_cons_succ]
  refine wpG_calc (v := .int .i64 1) 11 rfl rfl rfl (fun u => by go_simp; rfl) ?_
  simp only [Act.put, List.setIfInBounds_toArray, List.set_cons_zero, List.set_cons_succ]
  refine wpG_calc 12 rfl rfl rfl (fun u => by go_simp; rfl) ?_
  simp only [Act.put, List.setIfInBounds_toArray, List.set_cons_zero, List.set_cons_succ]
  refine wpG_read 13 rfl rfl (.int .i64 v2) rfl ?_ ?_
  · intro u hu hh
    have hk := HC2.out u hu
    go_simp
  simp only [Act.put, List.setIfInBounds_toArray, List.set_cons_zero, List.set_cons_succ]
  refine wpG_rel 14 rfl rfl rfl ?_ ?_
  · intro u hu hh
    go_simp
    refine (of_any t a v1 v2 u).mono ?_
    rintro e w6 ⟨rfl, rfl⟩
    exact ⟨_, rfl, by rw [HR.out]; rfl, Below.refl _ _⟩
  intro vN ⟨uN, _, hrN⟩
  obtain rfl : vN = .tuple #[.int .i64 R.1, .bool R.2] := hrN
  simp only [Act.put, List.setIfInBounds_toArray, List.set_cons_zero, List.set_cons_succ]
  refine wpG_calc 15 rfl rfl rfl (fun u => by go_simp; rfl) ?_
  simp only [Act.put, List.setIfInBounds_toArray, List.set_cons_zero, List.set_cons_succ]
  refine wpG_calc 16 rfl rfl rfl (fun u => by go_simp; rfl) ?_
  simp only [Act.put, List.setIfInBounds_toArray, List.set_cons_zero, List.set_cons_succ]
  refine wpG_calc 17 rfl rfl rfl (fun u => by go_simp; rfl) ?_
  simp only [Act.put, List.setIfInBounds_toArray, List.set_cons_zero, List.set_cons_succ]
  refine wpG_calc 18 rfl rfl rfl (fun u => by go_simp; rfl) ?_
  simp only [Act.put, List.setIfInBounds_toArray, List.set_cons_zero, List.set_cons_succ]
  refine wpG_calc 19 rfl rfl rfl (fun u => by go_simp; rfl) ?_
  simp only [Act.put, List.setIfInBounds_toArray, List.set_cons_zero, List.set_cons_succ]
  refine wpG_nil fun w4 hb4 hF => ?_
  clear hF
  have HB4 := hid (HB1.out.trans (hb4.mono HB1.out.size))
  clear hb4
  obtain ⟨R1, R2⟩ := R
  cases R2 with
  | true =>
    go_wp2_with fail
    go_ret
    exact ⟨HB4.out, by rw [← HRR.out]; rfl⟩
  | false =>
    go_wp2_with fail
    exact ⟨rfl, HB4.out, by rw [← HRR.out]; rfl⟩

end Go.Proofs.YtogpgfaojmmemaaDoor.hands
