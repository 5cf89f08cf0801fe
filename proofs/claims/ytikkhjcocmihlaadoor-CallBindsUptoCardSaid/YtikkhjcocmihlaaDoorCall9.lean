/- Handles called: the deferred closure of call.Call; what call.Call tells, plainly. No condition. -/
import Derived.Test.YtikkhjcocmihlaaDoorCall3
import Derived.Test.YtikkhjcocmihlaaDoorHand11T
import Derived.Defers
import Derived.Recover
import Derived.Test.YtikkhjcocmihlaaDoorHandP
import Derived.Test.YtikkhjcocmihlaaDoorDesc5
set_option linter.unusedSimpArgs false
set_option linter.unusedVariables false
namespace Go.Proofs.YtikkhjcocmihlaaDoor.hands
open Go.RowKit Go.Proofs.YtikkhjcocmihlaaDoor.lib Go.Proofs.YtikkhjcocmihlaaDoor.errs Go.Proofs.YtikkhjcocmihlaaDoor.mtypes Go.Proofs.YtikkhjcocmihlaaDoor.grow Go.Proofs.YtikkhjcocmihlaaDoor.nums

set_option maxRecDepth 100000 in
set_option maxHeartbeats 4000000 in
theorem catch_unm (pn pe : Nat) (x : Int) (y : Value) (w : World) (hn : w.cell? ⟨pn, 0, none⟩ = some (.int .i64 x)) (he : w.cell? ⟨pe, 0, none⟩ = some y) (hy : y = .nilIface ∨ ∃ t v, y = .iface t v) (hfn : w.frozen? ⟨pn, 0, none⟩ = false) (hfe : w.frozen? ⟨pe, 0, none⟩ = false) (hne : pn ≠ pe) :
    CallsD Tryd.prog 13 #[.pointer (some ⟨pn, 0, none⟩), .pointer (some ⟨pe, 0, none⟩)] (.panicking unm) w fun e u' w' =>
      e = .returned (.tuple #[]) ∧ u' = .panicking [{ v := .iface 45 (.agg #[]), recovered := true }] ∧ w'.cell? ⟨pn, 0, none⟩ = some (.int .i64 0) ∧ w'.cell? ⟨pe, 0, none⟩ = some (.iface 39 (.int .i64 3)) ∧ ∀ B (a : World), B ≤ pn → B ≤ pe → Below B a w → Below B a w' := by
  have hta : ∀ w, (Instr.typeAssert (.iface 45 (.agg #[])) 20 45 true).run Tryd.prog w = .ok (.tuple #[.agg #[], .bool true]) w := fun w => by kernel_rfl
  refine callsD_of_wpS Tryd.func13 rfl fun c₀ cs hu => ?_
  unfold unm at hu
  have lpn := World.block_lt_of_cell? _ _ hn
  have lpe := World.block_lt_of_cell? _ _ he
  have hm1 : (w.alloc (.cells #[] 45)).cell? ⟨pn, 0, none⟩ = some (.int .i64 x) := ((ext_alloc w _).cell lpn).trans hn
  have hm2 : (w.alloc (.cells #[] 45)).frozen? ⟨pn, 0, none⟩ = false := ((ext_alloc w _).frozen lpn).trans hfn
  have hm3 : (w.setCell ⟨pn, 0, none⟩ (.int .i64 0)).cell? ⟨pe, 0, none⟩ = some y := (World.cell?_setCell_other _ _ _ _ (fun h => hne (congrArg Addr.block h))).trans he
  have hm4 : (w.setCell ⟨pn, 0, none⟩ (.int .i64 0)).frozen? ⟨pe, 0, none⟩ = false := (World.frozen?_setCell _ _ _ _).trans hfe
  have lpe' : pe < (w.setCell ⟨pn, 0, none⟩ (.int .i64 0)).heap.size := World.block_lt_of_cell? _ _ hm3
  have hm5 : ((w.setCell ⟨pn, 0, none⟩ (.int .i64 0)).alloc (.cells #[] 45)).cell? ⟨pe, 0, none⟩ = some y := ((ext_alloc _ _).cell lpe').trans hm3
  have hm6 : ((w.setCell ⟨pn, 0, none⟩ (.int .i64 0)).alloc (.cells #[] 45)).frozen? ⟨pe, 0, none⟩ = false := ((ext_alloc _ _).frozen lpe').trans hm4
  have hm7 : ((w.alloc (.cells #[] 45)).setCell ⟨pn, 0, none⟩ (.int .i64 0)).cell? ⟨pe, 0, none⟩ = some y := (World.cell?_setCell_other _ _ _ _ (fun h => hne (congrArg Addr.block h))).trans (((ext_alloc w _).cell lpe).trans he)
  have hm8 : ((w.alloc (.cells #[] 45)).setCell ⟨pn, 0, none⟩ (.int .i64 0)).frozen? ⟨pe, 0, none⟩ = false := (World.frozen?_setCell _ _ _ _).trans (((ext_alloc w _).frozen lpe).trans hfe)
  apply wpS_seq
  apply wpS_region
  simp [wpOpsS, go_sem, recoverD, hu, Tryd.ntmps13, Exit.thenS]
  refine wpS_of_wp ?_
  show Code.wp _ _ _ { tmps := #[.pointer (some ⟨pn, 0, none⟩), .pointer (some ⟨pe, 0, none⟩), .iface 45 (.agg #[]), undef, undef, .iface 45 (.agg #[]), undef, undef, undef, undef, undef, undef, undef, undef, undef, undef, undef], defers := [] } w
  have hl2 : w.heap.size = ((w.setCell ⟨pn, 0, none⟩ (.int .i64 0)).setCell ⟨pe, 0, none⟩ (.iface 39 (.int .i64 3))).heap.size := by simp [World.setCell]
  have q1 : (((w.setCell ⟨pn, 0, none⟩ (.int .i64 0)).setCell ⟨pe, 0, none⟩ (.iface 39 (.int .i64 3))).alloc (.cells #[] 45)).cell? ⟨pn, 0, none⟩ = some (.int .i64 0) := by
    rw [(ext_alloc _ _).cell (by rw [← hl2]; exact lpn), World.cell?_setCell_other _ _ _ _ (fun h => hne (congrArg Addr.block h).symm)]
    exact World.cell?_setCell_same _ _ _ hn
  have q2 : (((w.setCell ⟨pn, 0, none⟩ (.int .i64 0)).setCell ⟨pe, 0, none⟩ (.iface 39 (.int .i64 3))).alloc (.cells #[] 45)).cell? ⟨pe, 0, none⟩ = some (.iface 39 (.int .i64 3)) := by
    rw [(ext_alloc _ _).cell (by rw [← hl2]; exact lpe)]
    exact World.cell?_setCell_same _ _ _ hm3
  have q3 : ∀ B (a : World), B ≤ pn → B ≤ pe → Below B a w → Below B a (((w.setCell ⟨pn, 0, none⟩ (.int .i64 0)).setCell ⟨pe, 0, none⟩ (.iface 39 (.int .i64 3))).alloc (.cells #[] 45)) :=
    fun B a h1 h2 hb => (((hb.setCell h1 _).setCell h2 _).alloc (by rw [← hl2]; exact Nat.le_trans h1 (Nat.le_of_lt lpn)) _)
  have Q1 := hid q1
  have Q2 := hid q2
  have Q3 := hid q3
  clear q1 q2 q3 hl2
  rcases hy with rfl | ⟨yt, yv, rfl⟩
  all_goals
    go_wp2
    exact ⟨rfl, _, rfl, _, by simp [results, Tryd.results13, go_sem], rfl, rfl, Q1.out, Q2.out, Q3.out⟩

set_option maxRecDepth 100000 in
theorem catch_idle (pn pe : Nat) (w : World) :
    CallsD Tryd.prog 13 #[.pointer (some ⟨pn, 0, none⟩), .pointer (some ⟨pe, 0, none⟩)] .returning w fun e u' w' =>
      e = .returned (.tuple #[]) ∧ u' = .returning ∧ w' = w := by
  refine callsD_of_wpS Tryd.func13 rfl fun c₀ cs hu => ?_
  apply wpS_seq
  apply wpS_region
  simp [wpOpsS, go_sem, recoverD, hu, Tryd.ntmps13, Exit.thenS]
  refine wpS_of_wp ?_
  show Code.wp _ _ _ { tmps := #[.pointer (some ⟨pn, 0, none⟩), .pointer (some ⟨pe, 0, none⟩), .nilIface, undef, undef, .nilIface, undef, undef, undef, undef, undef, undef, undef, undef, undef, undef, undef], defers := [] } w
  go_wp2
  exact ⟨rfl, .returning, by cases c₀; cases hu; rfl, _, by simp [results, Tryd.results13, go_sem], rfl, rfl, rfl⟩

end Go.Proofs.YtikkhjcocmihlaaDoor.hands

/- Handles called: call.Call. Conditions: the handle is not too great, its texts are not long. -/
set_option linter.unusedSimpArgs false
set_option linter.unusedVariables false
namespace Go.Proofs.YtikkhjcocmihlaaDoor.hands
open Go.RowKit Go.Proofs.YtikkhjcocmihlaaDoor.lib Go.Proofs.YtikkhjcocmihlaaDoor.keep Go.Proofs.YtikkhjcocmihlaaDoor.errs Go.Proofs.YtikkhjcocmihlaaDoor.descs Go.Proofs.YtikkhjcocmihlaaDoor.mtypes Go.Proofs.YtikkhjcocmihlaaDoor.grow Go.Proofs.YtikkhjcocmihlaaDoor.nums

/-- is an arg no number of its type? -/
def rangeBad : List (List UInt8) → List Int → Bool
  | t :: ts, a :: az => (decide (t = [73]) && !decide (a = wrap32 a)) || rangeBad ts az
  | _, _ => false
def endW : Option Int → Int × Int
  | none => (3, 0)
  | some n => (0, n)
def restW (ts : List (List UInt8)) (az : List Int) (r : Option Int) : Int × Int := if ts.length ≠ az.length then (8, 0) else if rangeBad ts az = true then (2, 0) else endW r
/-- what a call answers: its error, its number -/
def callW (x : Nd) (az : List Int) : Int × Int :=
  if (typeW x).1 ≠ 0 then ((typeW x).1, 0) else match methodOf (typeW x).2 with
    | none => (1, 0)
    | some (ts, _) => restW ts az (toldN x az)
theorem call_bad {x : Nd} {az : List Int} {z : Int} (h : (typeW x).1 = z) (h0 : ¬ z = 0) : callW x az = (z, 0) := by
  unfold callW; rw [if_pos (by rw [h]; exact h0), h]
theorem call_rest {x : Nd} {az : List Int} {ts : List (List UInt8)} {g : List UInt8} (h : (typeW x).1 = 0) (hm : methodOf (typeW x).2 = some (ts, g)) : callW x az = restW ts az (toldN x az) := by
  unfold callW; rw [if_neg (by rw [h]; simp), hm]
theorem rest_len {ts : List (List UInt8)} {az : List Int} {r : Option Int} (h : ¬ ts.length = az.length) : restW ts az r = (8, 0) := if_pos h
theorem rest_bad {ts : List (List UInt8)} {az : List Int} {r : Option Int} (h : ts.length = az.length) (hb : rangeBad ts az = true) : restW ts az r = (2, 0) := by
  unfold restW; rw [if_neg (by simpa using h), if_pos hb]
theorem rest_end {ts : List (List UInt8)} {az : List Int} {r : Option Int} (h : ts.length = az.length) (hb : rangeBad ts az = false) : restW ts az r = endW r := by
  unfold restW; rw [if_neg (by simpa using h), if_neg (by rw [hb]; simp)]
def Called (w : World) (r : Int × Int) (e : Ending) (w' : World) : Prop := e = .returned (.tuple #[.int .i64 r.2, errVal r.1]) ∧ Below w.heap.size w w'


theorem bad_step {ts : List (List UInt8)} {az : List Int} {k : Nat} (h1 : k < ts.length) (h2 : k < az.length) : rangeBad (ts.drop k) (az.drop k) = ((decide (ts[k] = [73]) && !decide (az[k] = wrap32 az[k])) || rangeBad (ts.drop (k + 1)) (az.drop (k + 1))) := by
  rw [List.drop_eq_getElem_cons h1, List.drop_eq_getElem_cons h2]; rfl
theorem bad_end {ts : List (List UInt8)} {az : List Int} {k : Nat} (h : az.length ≤ k) : rangeBad (ts.drop k) (az.drop k) = false := by
  rw [List.drop_eq_nil_of_le h]
  cases ts.drop k <;> rfl
/-- the call's own three blocks: the handle, the number, the error -/
structure CS (w u : World) (row : Array Value) (n : Int) (e : Value) : Prop where
  box : u.heap[w.heap.size]? = some (.cells row 25 (0, 0))
  nn : u.heap[w.heap.size + 1]? = some (.cells #[.int .i64 n] 3 (0, 0))
  ee : u.heap[w.heap.size + 1 + 1]? = some (.cells #[e] 28 (0, 0))
  bl : Below w.heap.size w u
section
variable {w u : World} {row : Array Value} {n : Int} {e : Value}
theorem CS.init (w : World) (row : Array Value) : CS w (((w.alloc (.cells row 25)).alloc (.cells #[.int .i64 0] 3)).alloc (.cells #[.nilIface] 28)) row 0 .nilIface := by
  have h1 : (w.alloc (.cells row 25)).heap.size = w.heap.size + 1 := by simp
  have h2 : ((w.alloc (.cells row 25)).alloc (.cells #[.int .i64 0] 3)).heap.size = w.heap.size + 1 + 1 := by simp
  refine ⟨?_, ?_, ?_, ((ext_alloc _ _).alloc (by rw [h1]; omega) _).alloc (by rw [h2]; omega) _⟩
  · rw [(ext_alloc _ _).block _ (by rw [h2]; omega), (ext_alloc _ _).block _ (by rw [h1]; omega)]; exact heap_alloc_new _ _
  · rw [(ext_alloc _ _).block _ (by rw [h2]; omega), ← h1]; exact heap_alloc_new _ _
  · rw [← h2]; exact heap_alloc_new _ _
theorem CS.lt (h : CS w u row n e) : w.heap.size + 1 + 1 < u.heap.size := (Array.getElem?_eq_some_iff.1 h.ee).1
theorem CS.later (h : CS w u row n e) {u' : World} (hb : Below u.heap.size u u') : CS w u' row n e :=
  ⟨(hb.block _ (by have := h.lt; omega)).trans h.box, (hb.block _ (by have := h.lt; omega)).trans h.nn, (hb.block _ h.lt).trans h.ee, h.bl.trans (hb.mono h.bl.size)⟩
theorem CS.drew (h : CS w u row n e) : CS w u.drew row n e := ⟨h.box, h.nn, h.ee, h.bl.drew⟩
theorem CS.setE (h : CS w u row n e) (v : Value) : CS w (u.setCell ⟨w.heap.size + 1 + 1, 0, none⟩ v) row n v :=
  ⟨by rw [← h.box]; exact (Keeps.set u _ 0 v).block _ (by have := h.lt; omega) (by omega), by rw [← h.nn]; exact (Keeps.set u _ 0 v).block _ (by have := h.lt; omega) (by omega), heap_set h.ee 0 v, h.bl.setCell (by show _ ≤ _ + 1 + 1; omega) _⟩
theorem CS.setN (h : CS w u row n e) (z : Int) : CS w (u.setCell ⟨w.heap.size + 1, 0, none⟩ (.int .i64 z)) row z e :=
  ⟨by rw [← h.box]; exact (Keeps.set u _ 0 _).block _ (by have := h.lt; omega) (by omega), heap_set h.nn 0 _, by rw [← h.ee]; exact (Keeps.set u _ 0 _).block _ h.lt (by omega), h.bl.setCell (by show _ ≤ _ + 1; omega) _⟩
theorem CS.cells {k : Int} {t : ByteArray} {a : Int} {s1 s2 : Value} (h : CS w u #[.int .i64 k, .string t, .int .i64 a, s1, s2] n e) :
    u.cell? ⟨w.heap.size, 0, none⟩ = some (.int .i64 k) ∧ u.cell? ⟨w.heap.size, 1, none⟩ = some (.string t) ∧ u.cell? ⟨w.heap.size, 2, none⟩ = some (.int .i64 a) ∧ u.cell? ⟨w.heap.size, 3, none⟩ = some s1 ∧ u.cell? ⟨w.heap.size, 4, none⟩ = some s2 ∧
    u.cell? ⟨w.heap.size + 1, 0, none⟩ = some (.int .i64 n) ∧ u.cell? ⟨w.heap.size + 1 + 1, 0, none⟩ = some e ∧ u.frozen? ⟨w.heap.size + 1, 0, none⟩ = false ∧ u.frozen? ⟨w.heap.size + 1 + 1, 0, none⟩ = false := by
  refine ⟨?_, ?_, ?_, ?_, ?_, ?_, ?_, frozen_of_row _ _ _ _ _ h.nn, frozen_of_row _ _ _ _ _ h.ee⟩
  all_goals first | (rw [cell_of_row _ _ _ _ _ _ h.box]; rfl) | (rw [cell_of_row _ _ _ _ _ _ h.nn]; rfl) | (rw [cell_of_row _ _ _ _ _ _ h.ee]; rfl)
theorem two_cells {a : Value} (hn : u.cell? ⟨w.heap.size + 1, 0, none⟩ = some a) (he : u.cell? ⟨w.heap.size + 1 + 1, 0, none⟩ = some e) (tmps : Array Value) (h4 : tmps.getD 4 undef = .pointer (some ⟨w.heap.size + 1, 0, none⟩)) (h5 : tmps.getD 5 undef = .pointer (some ⟨w.heap.size + 1 + 1, 0, none⟩)) :
    (results Tryd.f5 tmps).run Tryd.prog u = .ok (.tuple #[a, e]) u := by
  have h4' : tmps[4]?.getD undef = .pointer (some ⟨w.heap.size + 1, 0, none⟩) := by simpa using h4
  have h5' : tmps[5]?.getD undef = .pointer (some ⟨w.heap.size + 1 + 1, 0, none⟩) := by simpa using h5
  simp [results, Tryd.results5, h4', h5', go_sem, hn, he]
theorem CS.two (h : CS w u row n e) (tmps : Array Value) (h4 : tmps.getD 4 undef = .pointer (some ⟨w.heap.size + 1, 0, none⟩)) (h5 : tmps.getD 5 undef = .pointer (some ⟨w.heap.size + 1 + 1, 0, none⟩)) :
    (results Tryd.f5 tmps).run Tryd.prog u = .ok (.tuple #[.int .i64 n, e]) u := by
  have hn : u.cell? ⟨w.heap.size + 1, 0, none⟩ = some (.int .i64 n) := by rw [cell_of_row _ _ _ _ _ _ h.nn]; rfl
  have he : u.cell? ⟨w.heap.size + 1 + 1, 0, none⟩ = some e := by rw [cell_of_row _ _ _ _ _ _ h.ee]; rfl
  have h4' : tmps[4]?.getD undef = .pointer (some ⟨w.heap.size + 1, 0, none⟩) := by simpa using h4
  have h5' : tmps[5]?.getD undef = .pointer (some ⟨w.heap.size + 1 + 1, 0, none⟩) := by simpa using h5
  simp [results, Tryd.results5, h4', h5', go_sem, hn, he]
theorem CS.ends (h : CS w u row n e) {RC : Int × Int} {z : Int} (hr : RC = (z, n)) (he : e = errVal z) (tmps : Array Value) (h4 : tmps.getD 4 undef = .pointer (some ⟨w.heap.size + 1, 0, none⟩)) (h5 : tmps.getD 5 undef = .pointer (some ⟨w.heap.size + 1 + 1, 0, none⟩)) :
    Leaves Tryd.prog Tryd.f5 tmps (Called w RC) [] .returning u := by
  refine ⟨_, h.two tmps h4 h5, ?_, h.bl⟩
  rw [hr, he]
theorem err_is {z : Int} (hz : ¬ z = 0) : (.iface 39 (.int .i64 z) : Value) = errVal z := by unfold errVal; rw [if_neg hz]
end

set_option maxRecDepth 100000 in
set_option maxHeartbeats 4000000 in
theorem call_any (x : Nd) (va : Value) (az : List Int) (w : World) (hx : NAt w x) (hS : ShortN x) (hB : cnt x ≤ 1000000000000) (haz : Sl w va az.length 1 (az.map iv)) (hn : az.length ≤ 1000000000000) :
    Calls Tryd.prog 5 #[.agg #[.int .i64 x.k, .string x.t, .int .i64 x.a, x.va, x.vs], va] w (Called w (callW x az)) := by
  have HT := hid (fun u (hu : Below w.heap.size w u) => type_any x u (hx.below hu) hS hB)
  obtain ⟨a1, c1, e1⟩ := hx.1.1.val
  obtain ⟨a2, c2, e2⟩ := hx.1.2.val
  obtain ⟨aa, ca, rfl⟩ := haz.val
  obtain ⟨R, hR⟩ : ∃ R, typeW x = R := ⟨_, rfl⟩
  have HRR := hid hR
  have HWB : Hid (∀ z, R.1 = z → ¬ z = 0 → callW x az = (z, 0)) := hid (fun z h h0 => call_bad (by rw [hR]; exact h) h0)
  have HWM : Hid (∀ ts g, R.1 = 0 → methodOf R.2 = some (ts, g) → callW x az = restW ts az (toldN x az)) := hid (fun ts g h hm => call_rest (by rw [hR]; exact h) (by rw [hR]; exact hm))
  have HM : Hid (∀ (u : World) (ts : List (List UInt8)) (g : List UInt8), Below w.heap.size w u → R.1 = 0 → methodOf R.2 = some (ts, g) → az.length = ts.length → Calls Tryd.prog 14 #[.agg #[.int .i64 x.k, .string x.t, .int .i64 x.a, x.va, x.vs], .slice aa az.length ca] u (MadeBy u (toldN x az))) := hid (fun u ts g hu h0 hm hl => by
    rw [← hR] at h0 hm
    obtain ⟨_, hty⟩ := typeW_small h0
    rw [hty] at h0 hm
    exact made_any (right_of (cnt x) x ts g (Nat.le_refl _) h0 hm) u _ az (hx.below hu) hl (haz.below hu))
  have HAZ := hid haz
  obtain ⟨RC, hRC⟩ : ∃ RC, callW x az = RC := ⟨_, rfl⟩
  obtain ⟨RT, hRT⟩ : ∃ RT, toldN x az = RT := ⟨_, rfl⟩
  obtain ⟨k0, hk⟩ : ∃ q, x.k = q := ⟨_, rfl⟩
  obtain ⟨t, ht⟩ : ∃ q, x.t = q := ⟨_, rfl⟩
  obtain ⟨a, ha⟩ : ∃ q, x.a = q := ⟨_, rfl⟩
  obtain ⟨n1, hn1⟩ : ∃ q, x.ats.length = q := ⟨_, rfl⟩
  obtain ⟨n2, hn2⟩ : ∃ q, (nodes x.subs).length = q := ⟨_, rfl⟩
  rw [hn1] at e1
  rw [hn2] at e2
  have HRS : Hid (R.1 = 0 → (bs R.2).size ≤ 10000000) := hid (fun h0 => by
    have := (hR ▸ right_typeW x).short h0
    rw [bs_size]; omega)
  simp only [hR, hRC, hRT, hk, ht, ha, e1, e2] at HT HWB HWM HM ⊢
  have HRT : Hid (R.1 = 0 → ∃ ts g, methodOf R.2 = some (ts, g)) := hid (hR ▸ right_typeW x)
  clear hk ht ha hn1 hn2 e1 e2 hx hB hS hR haz hRC hRT HRR
  obtain ⟨X3, hX3⟩ : ∃ X3, ((w.alloc (.cells #[.int .i64 k0, .string t, .int .i64 a, .slice a1 n1 c1, .slice a2 n2 c2] 25)).alloc (.cells #[.int .i64 0] 3)).alloc (.cells #[.nilIface] 28) = X3 := ⟨_, rfl⟩
  have HCS := hid (hX3 ▸ CS.init w #[.int .i64 k0, .string t, .int .i64 a, .slice a1 n1 c1, .slice a2 n2 c2])
  obtain ⟨x0, x1, x2, x3, x4, xn, xe, fn, fe⟩ := HCS.out.cells
  have hmf : ∀ (fn : Fn) (first cap : Array Value) (w : World), (Instr.makeFunc fn first cap).run Tryd.prog w = .ok (.func fn first cap) w := fun _ _ _ _ => rfl
  go_enter_defers Tryd.func5, Tryd.ntmps5
  go_wp2_with fail
  refine (HT.out _ HCS.out.bl).mono ?_
  rintro e w2 ⟨rfl, hb2⟩
  have HC2 := hid (HCS.out.later (hb2.mono (Nat.le_of_eq rfl)))
  clear hb2 x0 x1 x2 x3 x4 xn xe fn fe
  obtain ⟨x0, x1, x2, x3, x4, xn, xe, fn, fe⟩ := HC2.out.cells
  by_cases hz : R.1 = 0
  · obtain ⟨ts, g, hm⟩ := HRT.out hz
    have HS := hid (HRS.out hz)
    have HC3 := hid (HC2.out.setE .nilIface)
    obtain ⟨y0, y1, y2, y3, y4, yn, ye, gn, ge⟩ := HC3.out.cells
    rw [show errVal R.1 = .nilIface from by unfold errVal; rw [if_pos hz]]
    have HM2 : Hid (∀ u, Below w.heap.size w u → az.length = ts.length → Calls Tryd.prog 14 #[.agg #[.int .i64 k0, .string t, .int .i64 a, .slice a1 n1 c1, .slice a2 n2 c2], .slice aa az.length ca] u (MadeBy u RT)) := hid (fun u hu hl => HM.out u ts g hu hz hm hl)
    have HW2 := hid (HWM.out ts g hz hm)
    have HMO := hid hm
    clear HWB HWM HM hz hm
    go_wp2_with fail
    refine (method_any _ _ HS.out).mono ?_
    intro e w4 h4
    obtain ⟨v4, rfl, ho4⟩ : ∃ v, e = .returned (.tuple #[v, .string (bs g), .nilIface]) ∧ Out (w2.setCell ⟨w.heap.size + 1 + 1, 0, none⟩ .nilIface) w4 9 1 v ts.length (ts.map sv) := by
      unfold MethodBy at h4
      rw [show (bs R.2).data.toList = R.2 from rfl, HMO.out] at h4
      exact h4
    clear h4 x0 x1 x2 x3 x4 xn xe fn fe y0 y1 y2 y3 y4 yn ye gn ge
    have HC4 := hid (HC3.out.later (ho4.below.mono (Nat.le_of_eq rfl)))
    have HC5 := hid (HC4.out.setE .nilIface)
    have HTS := hid (sl_keeps ho4.sl (Keeps.set w4 (w.heap.size + 1 + 1) 0 .nilIface) (fun q hq hq2 => by
      have := (ho4.own.lt q hq).1
      have := HC3.out.lt
      omega))
    obtain ⟨a4, c4, rfl⟩ := HTS.out.val
    obtain ⟨x0, x1, x2, x3, x4, xn, xe, fn, fe⟩ := HC4.out.cells
    obtain ⟨y0, y1, y2, y3, y4, yn, ye, gn, ge⟩ := HC5.out.cells
    clear ho4
    by_cases hl : ts.length = az.length
    · have HL := hid hl
      have hl0 : ((ts.length : Int) == (az.length : Int)) = true := by simp [hl]
      have hl1 : ((ts.length : Int) != (az.length : Int)) = false := by simp [hl]
      have HW3 := hid (fun hb => HW2.out.trans (rest_bad hl hb))
      have HW4 := hid (fun hb => HW2.out.trans (rest_end hl hb))
      have HM3 := hid (fun u hu => HM2.out u hu hl.symm)
      have HAX := hid (HAZ.out.below HC5.out.bl)
      obtain ⟨RB, hRB⟩ : ∃ RB, rangeBad ts az = RB := ⟨_, rfl⟩
      rw [hRB] at HW3 HW4
      have HRB := hid hRB
      obtain ⟨W5, hW5⟩ : ∃ W5, w4.setCell ⟨w.heap.size + 1 + 1, 0, none⟩ .nilIface = W5 := ⟨_, rfl⟩
      rw [hW5] at HC5 HTS HAX y0 y1 y2 y3 y4 yn ye gn ge
      clear HW2 HM2 hl hRB
      go_wp2_with fail
      go_loopw [36] (fun i wr => ∃ k : Nat, k ≤ az.length ∧ i = .int .i64 k ∧ Hid (CS w wr #[.int .i64 k0, .string t, .int .i64 a, .slice a1 n1 c1, .slice a2 n2 c2] 0 .nilIface) ∧ Hid (Below W5.heap.size W5 wr) ∧ Hid (RB = rangeBad (ts.drop k) (az.drop k))) (fun i _ => az.length - (intOf i).toNat)
      case atStart => exact ⟨0, Nat.zero_le _, rfl, HC5, hid (Below.refl _ _), hid HRB.out.symm⟩
      case round =>
        obtain ⟨j, hj, rfl, HCR, HBR, HRJ⟩ := hrel
        obtain ⟨z0, z1, z2, z3, z4, zn, ze, kn, ke⟩ := HCR.out.cells
        by_cases hlt : j < az.length
        · have hltt : j < ts.length := by rw [HL.out]; exact hlt
          obtain ⟨bx, ox, hax, hcx⟩ := Sl.ints (K := .i64) (HAX.out.below HBR.out) hlt
          obtain ⟨by_, oy, hay, ty, hty, hcy⟩ := Sl.at1 (HTS.out.below HBR.out) hltt
          rw [List.getElem?_map, List.getElem?_eq_getElem hltt] at hty
          obtain rfl : ty = .string (bs ts[j]) := (Option.some.inj hty).symm
          have HST := hid (bad_step hltt hlt)
          subst hax
          subst hay
          have hi : (0 : Int) ≤ (j : Int) := by omega
          have hjl : (j : Int) < (az.length : Int) := by omega
          have hjl2 : (j : Int) < (ts.length : Int) := by omega
          obtain ⟨tt, htt⟩ : ∃ q, ts[j] = q := ⟨_, rfl⟩
          obtain ⟨v, hv⟩ : ∃ q, az[j] = q := ⟨_, rfl⟩
          rw [htt] at hcy
          rw [hv] at hcx
          rw [htt, hv] at HST
          clear hty htt hv hltt
          by_cases hI : tt = [73]
          · have hI1 : ((bs tt).toList == [73]) = true := by rw [hI, ByteArray.toList_eq]; rfl
            by_cases hw : v = wrap32 v
            · have HNX : Hid (RB = rangeBad (ts.drop (j + 1)) (az.drop (j + 1))) := hid (by rw [HRJ.out, HST.out]; simp [hI, ← hw])
              have hw1 : (v == wrap32 v) = true := by rw [← hw]; simp
              have hw2 : (v != wrap32 v) = false := by rw [← hw]; simp
              clear hI hw
              go_wp2_with fail
              refine (word_any _ _).mono ?_
              rintro e we ⟨rfl, rfl⟩
              go_wp2
              go_roundw
              case rel => exact ⟨j + 1, by omega, by go_num, HCR, HBR, HNX⟩
              case measure => simp [intOf]; omega
            · have HBD : Hid (RB = true) := hid (by rw [HRJ.out, HST.out]; simp [hI, hw])
              have HE : Hid (RC = (2, 0)) := hid (HW3.out HBD.out)
              have hw1 : (v == wrap32 v) = false := by simpa using hw
              have hw2 : (v != wrap32 v) = true := by simpa using hw
              have HC6 := hid (HCR.out.setN 0)
              obtain ⟨q0, q1, q2, q3, q4, qn, qe, ln, le⟩ := HC6.out.cells
              have HC7 := hid (HC6.out.setE (.iface 39 (.int .i64 2)))
              clear hI hw HW3 HW4
              go_wp2_with fail
              refine (word_any _ _).mono ?_
              rintro e we ⟨rfl, rfl⟩
              go_wp2
              exact HC7.out.ends HE.out (err_is (by decide)) _ rfl rfl
          · have HNX : Hid (RB = rangeBad (ts.drop (j + 1)) (az.drop (j + 1))) := hid (by rw [HRJ.out, HST.out]; simp [hI])
            have hI1 : ((bs tt).toList == [73]) = false := by rw [ByteArray.toList_eq]; show (tt == [73]) = false; simpa using hI
            clear hI
            go_wp2
            go_roundw
            case rel => exact ⟨j + 1, by omega, by go_num, HCR, HBR, HNX⟩
            case measure => simp [intOf]; omega
        · obtain rfl : j = az.length := by omega
          have HBD : Hid (RB = false) := hid (by rw [HRJ.out, bad_end (Nat.le_refl _)])
          have HW5 := hid (HW4.out HBD.out)
          clear HW3 HW4
          go_wp2_with fail
          refine (HM3.out _ HCR.out.bl).mono ?_
          rintro e w8 ⟨hb8, he8⟩
          have HC8 := hid (HCR.out.later hb8)
          clear hb8 z0 z1 z2 z3 z4 zn ze kn ke
          obtain ⟨z0, z1, z2, z3, z4, zn, ze, kn, ke⟩ := HC8.out.cells
          cases RT with
          | none =>
            obtain rfl : e = .panicked unm := he8
            refine leaves_cons (f := 13) (args := #[.pointer (some ⟨w.heap.size + 1, 0, none⟩), .pointer (some ⟨w.heap.size + 1 + 1, 0, none⟩)]) (by simp) (by simp [go_sem]) ?_
            refine (catch_unm (w.heap.size + 1) (w.heap.size + 1 + 1) 0 .nilIface w8 zn ze (.inl rfl) kn ke (by omega)).mono ?_
            rintro e u' w9 ⟨rfl, rfl, hn9, he9, hb9⟩
            refine ⟨_, two_cells hn9 he9 _ rfl rfl, ?_, hb9 _ _ (by omega) (by omega) HC8.out.bl⟩
            rw [HW5.out, err_is (by decide)]
            rfl
          | some n =>
            obtain rfl : e = .returned (.int .i64 n) := he8
            have HC9 := hid (HC8.out.setN n)
            obtain ⟨q0, q1, q2, q3, q4, qn, qe, ln, le⟩ := HC9.out.cells
            have HC10 := hid (HC9.out.setE .nilIface)
            go_wp2
            refine leaves_cons (f := 13) (args := #[.pointer (some ⟨w.heap.size + 1, 0, none⟩), .pointer (some ⟨w.heap.size + 1 + 1, 0, none⟩)]) (by simp) (by simp [go_sem]) ?_
            refine (catch_idle _ _ _).mono ?_
            rintro e u' w9 ⟨rfl, rfl, rfl⟩
            exact HC10.out.ends HW5.out rfl _ rfl rfl
    · have HE : Hid (RC = (8, 0)) := hid (HW2.out.trans (rest_len hl))
      have hl0 : ((ts.length : Int) != (az.length : Int)) = true := bne_iff_ne.2 (by omega)
      clear HW2 hl
      have HC6 := hid (HC5.out.setN 0)
      obtain ⟨z0, z1, z2, z3, z4, zn, ze, kn, ke⟩ := HC6.out.cells
      have HC7 := hid (HC6.out.setE (.iface 39 (.int .i64 8)))
      go_wp2_with fail
      exact HC7.out.ends HE.out (err_is (by decide)) _ rfl rfl
  · obtain ⟨z, hz2⟩ : ∃ z, R.1 = z := ⟨_, rfl⟩
    rw [hz2] at hz
    have HW2 : Hid (RC = (z, 0)) := hid (HWB.out z hz2 hz)
    rw [show errVal R.1 = .iface 39 (.int .i64 z) from by unfold errVal; rw [hz2, if_neg hz]]
    have HC3 := hid (HC2.out.setE (.iface 39 (.int .i64 z)))
    obtain ⟨y0, y1, y2, y3, y4, yn, ye, gn, ge⟩ := HC3.out.cells
    clear HWB HWM HM hz2
    go_wp2_with fail
    have HC4 := hid (HC3.out.setN 0)
    obtain ⟨z0, z1, z2, z3, z4, zn, ze, kn, ke⟩ := HC4.out.cells
    go_region
    have HC5 := hid ((HC4.out.setE (.iface 39 (.int .i64 z))).drew)
    clear x0 x1 x2 x3 x4 xn xe fn fe y0 y1 y2 y3 y4 yn ye gn ge z0 z1 z2 z3 z4 zn ze kn ke
    go_wp2
    exact HC5.out.ends HW2.out (err_is hz) _ rfl rfl

end Go.Proofs.YtikkhjcocmihlaaDoor.hands

/- Handles called: the laws' own first look (summed); what a call that ends well says, plainly. Conditions: the handle is not too great, its texts and the args are not long; numbers are of 64 bits. -/
set_option linter.unusedSimpArgs false
set_option linter.unusedVariables false
namespace Go.Proofs.YtikkhjcocmihlaaDoor.hands
open Go.RowKit Go.Proofs.YtikkhjcocmihlaaDoor.lib Go.Proofs.YtikkhjcocmihlaaDoor.errs Go.Proofs.YtikkhjcocmihlaaDoor.descs Go.Proofs.YtikkhjcocmihlaaDoor.mtypes Go.Proofs.YtikkhjcocmihlaaDoor.nums

theorem call_ok {x : Nd} {az : List Int} {n : Int} (h : callW x az = (0, n)) : ∃ ts g, (typeW x).1 = 0 ∧ methodOf (typeW x).2 = some (ts, g) ∧ ts.length = az.length ∧ rangeBad ts az = false ∧ toldN x az = some n := by
  by_cases h0 : (typeW x).1 = 0
  · obtain ⟨ts, g, hm⟩ := right_typeW x h0
    rw [call_rest h0 hm] at h
    by_cases hl : ts.length = az.length
    · cases hb : rangeBad ts az with
      | true => rw [rest_bad hl hb] at h; cases h
      | false =>
        rw [rest_end hl hb] at h
        cases ht : toldN x az with
        | none => rw [ht] at h; cases h
        | some m =>
          rw [ht] at h
          cases h
          exact ⟨ts, g, h0, hm, hl, hb, rfl⟩
    · rw [rest_len hl] at h; cases h
  · rw [call_bad rfl h0] at h
    exact absurd (Prod.mk.inj h).1 h0
theorem call_zero {x : Nd} {az : List Int} (h : ¬ (callW x az).1 = 0) : (callW x az).2 = 0 := by
  by_cases h0 : (typeW x).1 = 0
  · obtain ⟨ts, g, hm⟩ := right_typeW x h0
    rw [call_rest h0 hm] at h ⊢
    by_cases hl : ts.length = az.length
    · cases hb : rangeBad ts az with
      | true => rw [rest_bad hl hb]
      | false =>
        rw [rest_end hl hb] at h ⊢
        cases ht : toldN x az with
        | none => rfl
        | some m => rw [ht] at h; exact absurd rfl h
    · rw [rest_len hl]
  · rw [call_bad rfl h0]
theorem call_is {x : Nd} {az : List Int} {n : Int} {ts : List (List UInt8)} {g : List UInt8} (h0 : (typeW x).1 = 0) (hm : methodOf (typeW x).2 = some (ts, g)) (hl : ts.length = az.length) (hb : rangeBad ts az = false) (ht : toldN x az = some n) : callW x az = (0, n) := by
  rw [call_rest h0 hm, rest_end hl hb, ht]; rfl
theorem wrap_fit {a : Int} (h : a = wrap32 a) : -2147483648 ≤ a ∧ a ≤ 2147483647 := by unfold wrap32 at h; omega
theorem fit_is {a : Int} (h : -2147483648 ≤ a ∧ a ≤ 2147483647) : a = wrap32 a := by unfold wrap32; omega
theorem bad_at {ts : List (List UInt8)} {az : List Int} (hl : ts.length = az.length) : rangeBad ts az = false ↔ ∀ (i : Nat) (t : List UInt8) (n : Int), ts[i]? = some t → az[i]? = some n → t = [73] → n = wrap32 n := by
  induction ts generalizing az with
  | nil => simp [rangeBad]
  | cons t ts ih =>
    cases az with
    | nil => cases hl
    | cons a az =>
      have hl' : ts.length = az.length := by simpa using hl
      rw [show rangeBad (t :: ts) (a :: az) = ((decide (t = [73]) && !decide (a = wrap32 a)) || rangeBad ts az) from rfl, Bool.or_eq_false_iff, ih hl']
      constructor
      · rintro ⟨h1, h2⟩ i t' n ht hn hI
        cases i with
        | zero =>
          simp at ht hn
          subst ht hn
          simpa [hI] using h1
        | succ i => exact h2 i t' n (by simpa using ht) (by simpa using hn) hI
      · intro h
        refine ⟨?_, fun i t' n ht hn hI => h (i + 1) t' n (by simpa using ht) (by simpa using hn) hI⟩
        by_cases hI : t = [73]
        · have := h 0 t a rfl rfl hI
          simp [hI, ← this]
        · simp [hI]
theorem fits_of {ts : List (List UInt8)} {az : List Int} (hl : ts.length = az.length) (hb : rangeBad ts az = false) (hin : ∀ z ∈ az, InR z) : Fits ts az :=
  ⟨hl, fun i t n ht hn => ⟨hin n (List.mem_of_getElem? hn), fun hI => wrap_fit ((bad_at hl).1 hb i t n ht hn hI)⟩⟩
theorem range_plain {x : Nd} {az : List Int} {n : Int} {ts : List (List UInt8)} {g : List UInt8} (h : callW x az = (0, n)) (hm : methodOf (typeW x).2 = some (ts, g)) (hN : NumN x) (hin : ∀ z ∈ az, InR z) : Fit g n := by
  obtain ⟨ts', g', h0, hm', hl, hb, ht⟩ := call_ok h
  rw [hm] at hm'
  cases hm'
  obtain ⟨_, hty⟩ := typeW_small h0
  rw [hty] at h0 hm
  exact told_fit (right_of (cnt x) x ts g (Nat.le_refl _) h0 hm) hN az n (fits_of hl hb hin) ht

def plusN : Nd := ⟨3, { data := #[73] }, 1, .slice none 0 0, .slice none 0 0, [], .nil⟩
theorem plus_call : callW plusN [2147483647, 1] = (0, -2147483648) := by
  have h1 : typeN plusN = (0, makeText [[73], [73]] [73]) := leaf_type [] (by decide) (by decide)
  have h2 : typeW plusN = (0, makeText [[73], [73]] [73]) := by
    unfold typeW
    rw [if_neg (by show ¬ 30 < 1; decide), h1]
  refine call_is (ts := [[73], [73]]) (g := [73]) (by rw [h2]) (by rw [h2]; exact method_make (by decide)) rfl (by decide +kernel) ?_
  decide +kernel

set_option maxRecDepth 100000 in
set_option maxHeartbeats 4000000 in
theorem summed_any (w : World) : Calls Tryd.prog 4 #[] w fun e w' => e = .returned (.bool true) ∧ Below w.heap.size w w' := by
  go_enter Tryd.func4, Tryd.ntmps4
  go_wp2_with fail
  refine (plus_any _).mono ?_
  rintro e w1 ⟨rfl, hb1⟩
  have HB1 := hid hb1
  have HB2 : Hid (Below w.heap.size w (w1.alloc (.cells #[.int .i64 2147483647, .int .i64 1] 3))) := hid (HB1.out.alloc HB1.out.size _)
  have HSL : Hid (Sl (w1.alloc (.cells #[.int .i64 2147483647, .int .i64 1] 3)) (.slice (some ⟨w1.heap.size, 0, none⟩) 2 2) ([2147483647, 1] : List Int).length 1 (([2147483647, 1] : List Int).map iv)) := hid (Sl.lit w1 #[.int .i64 2147483647, .int .i64 1] 3 2 1 rfl)
  clear hb1
  go_wp2_with fail
  refine (call_any plusN _ [2147483647, 1] _ ⟨⟨sl_none _, sl_none5 _⟩, trivial⟩ ⟨by decide, trivial⟩ (by decide) HSL.out (by decide)).mono ?_
  rw [plus_call]
  rintro e w3 ⟨rfl, hb3⟩
  have HB3 := hid (HB2.out.trans (hb3.mono HB2.out.size))
  clear hb3
  rw [show errVal ((0, -2147483648) : Int × Int).1 = .nilIface from rfl]
  go_wp2
  go_ret
  exact ⟨rfl, HB3.out⟩

end Go.Proofs.YtikkhjcocmihlaaDoor.hands
