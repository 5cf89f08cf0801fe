/- frame's stepper: what its methods do to a frame, told shortly. Condition: the world was read. -/
import Derived.Maps.RangeWalk
import Derived.Test.YtloonnfelgokmaaGreatDoorZStpA
import Derived.Test.YtloonnfelgokmaaGreatDoorZVmZ
set_option maxRecDepth 100000
set_option maxHeartbeats 16000000
set_option linter.unusedSimpArgs false
set_option linter.unusedVariables false
namespace Go.Proofs.YtloonnfelgokmaaGreatDoor.worlds
open Go.RowKit lib maps classes errs descs names grow keep ins
def Oth (B : Nat) (w w' : World) : Prop := w.heap.size ≤ w'.heap.size ∧ ∀ X cs t, w.heap[X]? = some (.cells cs t (0, 0)) → t ≠ 9 → X ≠ B → w'.heap[X]? = some (.cells cs t (0, 0))
theorem Oth.trans {B : Nat} {w w1 w2 : World} (h : Oth B w w1) (k : Oth B w1 w2) : Oth B w w2 := ⟨Nat.le_trans h.1 k.1, fun X cs t h1 h2 h3 => k.2 X cs t (h.2 X cs t h1 h2 h3) h2 h3⟩
theorem Oth.of_below {B : Nat} {w w' : World} (h : Below w.heap.size w w') : Oth B w w' := ⟨h.size, fun X cs t h1 _ _ => (h.block X (zh h1).1).trans h1⟩
def PlnBy (w0 ws : World) (B b : Nat) (W : WL) (fr gv : ByteArray) (r : Option Fr) (e : Ending) (w' : World) : Prop := Oth B ws w' ∧ match r with
 | none => e = .panicked unf ∧ Below w0.heap.size w0 w'
 | some g => e = .returned (.tuple #[]) ∧ ∃ vL vS, ST w0 w' B b W fr gv vL vS g.L g.S
theorem pln_none {w0 ws w' : World} {B b : Nat} {W : WL} {fr gv : ByteArray} {r : Option Fr} (hr : r = none) (hb : Below w0.heap.size w0 w' ∧ Oth B ws w') : PlnBy w0 ws B b W fr gv r (.panicked unf) w' := by subst hr; exact ⟨hb.2, rfl, hb.1⟩
theorem pln_some {w0 ws w' : World} {B b : Nat} {W : WL} {fr gv : ByteArray} {r : Option Fr} {vL vS : Value} {L S : List ByteArray} (hr : r = some ⟨L, S⟩) (h : ST w0 w' B b W fr gv vL vS L S) (ho : Oth B ws w') : PlnBy w0 ws B b W fr gv r (.returned (.tuple #[])) w' := by subst hr; exact ⟨ho, rfl, vL, vS, h⟩
theorem ST.setL {w0 w : World} {B b : Nat} {W : WL} {fr gv : ByteArray} {vL vS : Value} {L S : List ByteArray} (h : ST w0 w B b W fr gv vL vS L S) {i : Nat} (hi : i < L.length) (k : ByteArray) :
  ∃ g cap, vL = .slice (some ⟨g, 0, none⟩) L.length cap ∧ w.frozen? ⟨g, i, none⟩ = false ∧ w.cell? ⟨g, i, none⟩ = some (.string L[i]) ∧ ST w0 (w.setCell ⟨g, i, none⟩ (.string k)) B b W fr gv vL vS (L.set i k) S ∧ vL.ownBlock = some g := by
 obtain ⟨g, cap, u, hv, hg, hc, hf, ho⟩ := h.oL.store hi
 have hgB : B ≠ g := fun e => h.neL (by rw [hv, e]; rfl)
 have hu : u = .string L[i] := by
  obtain ⟨g2, cap2, hv2, _, hx⟩ := h.oL.shape (by omega)
  rw [hv] at hv2
  injection hv2 with q1
  have q2 := Option.some.inj q1
  injection q2 with q3
  subst q3
  have := hx i (.string L[i]) (by rw [List.getElem?_map, List.getElem?_eq_getElem hi]; rfl)
  rw [hc] at this
  exact Option.some.inj this
 have hoL := ho (.string k)
 refine ⟨g, cap, hv, hf, by rw [hc, hu], ⟨(setCell_other hgB).trans h.row, ?_, ?_, h.apart, h.le, h.neL, h.neS, h.wd, by rw [List.length_set]; exact h.lenL, h.lenS⟩, by rw [hv]; rfl⟩
 ·rw [List.length_set, List.map_set]; exact hoL
 ·have h1 := h.oL
  have ha := h.apart.symm
  rw [hv] at h1 ha
  exact Out.set_other h1 h.oS ha i
structure SX (w0 ws w : World) (B b : Nat) (W : WL) (fr gv : ByteArray) (vL vS : Value) (L S : List ByteArray) (X : Nat) (x : I) : Prop where
 st : ST w0 w B b W fr gv vL vS L S
 row : w.heap[X]? = some (.cells x.cells.toArray 56 (0, 0))
 le : w0.heap.size ≤ X
 new_ : ws.heap.size ≤ X
 oth : Oth B ws w
theorem SX.later {w0 ws w w' : World} {B b : Nat} {W : WL} {fr gv : ByteArray} {vL vS : Value} {L S : List ByteArray} {X : Nat} {x : I} (h : SX w0 ws w B b W fr gv vL vS L S X x) (hb : Below w.heap.size w w') : SX w0 ws w' B b W fr gv vL vS L S X x :=
 ⟨h.st.later hb, (hb.block _ (zh h.row).1).trans h.row, h.le, h.new_, h.oth.trans (Oth.of_below hb)⟩
theorem SX.box {w0 w : World} {B b : Nat} {W : WL} {fr gv : ByteArray} {vL vS : Value} {L S : List ByteArray} (x : I) (h : ST w0 w B b W fr gv vL vS L S) : SX w0 w (w.alloc (.cells x.cells.toArray 56)) B b W fr gv vL vS L S w.heap.size x :=
 ⟨h.later (ext_alloc w _), heap_alloc_new _ _, h.below.size, Nat.le_refl _, Oth.of_below (ext_alloc w _)⟩
theorem SX.at_ {w0 ws w : World} {B b : Nat} {W : WL} {fr gv : ByteArray} {vL vS : Value} {L S : List ByteArray} {X : Nat} {x : I} (h : SX w0 ws w B b W fr gv vL vS L S X x) :
  w.cell? ⟨X, 0, none⟩ = some (.int .i64 x.op) ∧ w.cell? ⟨X, 1, none⟩ = some (.int .i64 x.a) ∧ w.cell? ⟨X, 2, none⟩ = some (.int .i64 x.b) ∧ w.cell? ⟨X, 3, none⟩ = some (.string x.t) ∧ w.cell? ⟨X, 4, none⟩ = some (.string x.c) ∧ w.cell? ⟨X, 5, none⟩ = some (.string x.n) := by
 refine ⟨?_, ?_, ?_, ?_, ?_, ?_⟩ <;> (rw [cell_of_row _ _ _ _ _ _ h.row]; rfl)
theorem own_row {w0 w : World} {e : TypeId} {size : Nat} {v : Value} {n : Nat} {xs : List Value} (h : Out w0 w e size v n xs) {k : Nat} (hk : v.ownBlock = some k) : ∃ cur, w.heap[k]? = some (.cells cur e (0, 0)) := by
 obtain ⟨_, hs⟩ := h.own
 rcases hs with ⟨rfl, _⟩ | ⟨g, cap, cur, rfl, _, hg, _⟩
 ·cases hk
 ·obtain rfl := Option.some.inj hk
  exact ⟨_, hg⟩
theorem oth_of {F : Nat → Prop} {w0 w w' : World} {B b : Nat} {W : WL} {fr gv : ByteArray} {vL vS : Value} {L S : List ByteArray} (h : ST w0 w B b W fr gv vL vS L S) (hk : Keeps F w w') (hF : ∀ k, F k → k = B ∨ vS.ownBlock = some k ∨ vL.ownBlock = some k) : Oth B w w' := by
 refine ⟨hk.size, fun X cs t hX ht hXB => (hk.block X (zh hX).1 fun hx => ?_).trans hX⟩
 rcases hF X hx with rfl | he | he
 ·exact hXB rfl
 ·obtain ⟨cur, hc⟩ := own_row h.oS he
  have := hc.symm.trans hX
  injection this with this
  injection this with _ this _
  exact ht this.symm
 ·obtain ⟨cur, hc⟩ := own_row h.oL he
  have := hc.symm.trans hX
  injection this with this
  injection this with _ this _
  exact ht this.symm
theorem SX.ne {w0 ws w : World} {B b : Nat} {W : WL} {fr gv : ByteArray} {vL vS : Value} {L S : List ByteArray} {X : Nat} {x : I} (h : SX w0 ws w B b W fr gv vL vS L S X x) : X ≠ B := fun e => by
 have := h.st.row.symm.trans (e ▸ h.row)
 injection this with this
 injection this with _ this _
 exact absurd this (by decide)
theorem SX.after {F : Nat → Prop} {w0 ws w w' : World} {B b : Nat} {W : WL} {fr gv : ByteArray} {vL vS vL' vS' : Value} {L S L' S' : List ByteArray} {X : Nat} {x : I} (h : SX w0 ws w B b W fr gv vL vS L S X x) (hk : Keeps F w w') (hF : ∀ k, F k → k = B ∨ vS.ownBlock = some k ∨ vL.ownBlock = some k) (h' : ST w0 w' B b W fr gv vL' vS' L' S') : SX w0 ws w' B b W fr gv vL' vS' L' S' X x :=
 ⟨h', (oth_of h.st hk hF).2 X _ _ h.row (by decide) h.ne, h.le, h.new_, h.oth.trans (oth_of h.st hk hF)⟩
theorem SX.setT {w0 ws w : World} {B b : Nat} {W : WL} {fr gv : ByteArray} {vL vS : Value} {L S : List ByteArray} {X : Nat} {op a b2 : Int} {t c n : ByteArray} (h : SX w0 ws w B b W fr gv vL vS L S X ⟨op, a, b2, t, c, n⟩) (u : ByteArray) :
  SX w0 ws (w.setCell ⟨X, 3, none⟩ (.string u)) B b W fr gv vL vS L S X ⟨op, a, b2, u, c, n⟩ ∧ w.frozen? ⟨X, 3, none⟩ = false := by
 have hBX : B ≠ X := h.ne.symm
 refine ⟨⟨⟨(setCell_other hBX).trans h.st.row, out_put_other h.st.oL h.row (by decide) h.le, out_put_other h.st.oS h.row (by decide) h.le, h.st.apart, h.st.le, h.st.neL, h.st.neS, h.st.wd, h.st.lenL, h.st.lenS⟩, setCell_row h.row, h.le, h.new_, ⟨by simpa [World.setCell] using h.oth.1, fun Y cs u h1 h2 h3 => (setCell_other (by have := (zh h1).1; have := h.new_; omega)).trans (h.oth.2 Y cs u h1 h2 h3)⟩⟩, frozen_of_row _ _ _ _ _ h.row⟩
def TkBy (w0 ws : World) (B b : Nat) (W : WL) (fr gv : ByteArray) (vL : Value) (L : List ByteArray) (X : Nat) (x : I) (r : Option (List ByteArray)) (e : Ending) (w' : World) : Prop := match r with
 | none => e = .panicked unf ∧ Below w0.heap.size w0 w' ∧ Oth B ws w'
 | some T => e = .returned (.tuple #[]) ∧ ∃ vS', SX w0 ws w' B b W fr gv vL vS' L T X x
def KBy (w0 ws : World) (B b : Nat) (W : WL) (fr gv : ByteArray) (vL : Value) (L : List ByteArray) (X : Nat) (x : I) (r : Option (ByteArray × List ByteArray)) (e : Ending) (w' : World) : Prop := match r with
 | none => e = .panicked unf ∧ Below w0.heap.size w0 w' ∧ Oth B ws w'
 | some (k, T) => e = .returned (.string k) ∧ ∃ vS', SX w0 ws w' B b W fr gv vL vS' L T X x
section
variable {F : Nat → Prop} {w0 ws w w' : World} {B b : Nat} {W : WL} {fr gv : ByteArray} {vL vS : Value} {L S : List ByteArray} {e : Ending} {X : Nat} {x : I}
theorem tk_of {r : Option (List ByteArray)} (hx : SX w0 ws w B b W fr gv vL vS L S X x) (hF : ∀ k, F k → k = B ∨ vS.ownBlock = some k ∨ vL.ownBlock = some k) (h : StpBy F w0 w B b W fr gv vL L (unitR r) e w') : TkBy w0 ws B b W fr gv vL L X x r e w' := by
 cases r with
 | none => exact ⟨h.2.1, h.2.2, hx.oth.trans (oth_of hx.st h.1 hF)⟩
 | some T =>
  obtain ⟨hk, he, vS', hs⟩ := h
  exact ⟨he, vS', hx.after hk hF hs⟩
theorem k_of {r : Option (ByteArray × List ByteArray)} (hx : SX w0 ws w B b W fr gv vL vS L S X x) (hF : ∀ k, F k → k = B ∨ vS.ownBlock = some k ∨ vL.ownBlock = some k) (h : StpBy F w0 w B b W fr gv vL L (r.map fun p => (.string p.1, p.2)) e w') : KBy w0 ws B b W fr gv vL L X x r e w' := by
 cases r with
 | none => exact ⟨h.2.1, h.2.2, hx.oth.trans (oth_of hx.st h.1 hF)⟩
 | some p =>
  obtain ⟨hk, he, vS', hs⟩ := h
  exact ⟨he, vS', hx.after hk hF hs⟩
theorem ppop_any (h : SX w0 ws w B b W fr gv vL vS L S X x) : Calls Tryz.prog 238 #[.pointer (some ⟨B, 0, none⟩)] w (KBy w0 ws B b W fr gv vL L X x (popS S)) :=
 (spop_any h.st).mono fun _ _ q => k_of h (fun _ e => .inl e) q
theorem pref_any (h : SX w0 ws w B b W fr gv vL vS L S X x) : Calls Tryz.prog 241 #[.pointer (some ⟨B, 0, none⟩)] w (KBy w0 ws B b W fr gv vL L X x (refS S)) :=
 (sref_any h.st).mono fun _ _ q => k_of h (fun _ e => .inl e) q
theorem pput_any (k : ByteArray) (h : SX w0 ws w B b W fr gv vL vS L S X x) : Calls Tryz.prog 236 #[.pointer (some ⟨B, 0, none⟩), .string k] w (TkBy w0 ws B b W fr gv vL L X x (putS S k)) :=
 (sput_any k h.st).mono fun _ _ q => tk_of h (fun _ e => by rcases e with e | e; exact .inl e; exact .inr (.inl e)) q
theorem pknown_any (k : ByteArray) (hk : k.size ≤ 9223372036854775807) (h : SX w0 ws w B b W fr gv vL vS L S X x) : Calls Tryz.prog 242 #[.pointer (some ⟨B, 0, none⟩), .string k] w (TkBy w0 ws B b W fr gv vL L X x (if knownK W k then some S else none)) :=
 (sknown_any k hk h.st).mono fun _ _ q => tk_of h (fun _ e => .inl e) (by
  by_cases h0 : kindF W k.data.toList = 0
  ·rw [if_pos h0] at q
   rw [if_pos (show knownK W k from h0)]
   exact q
  ·rw [if_neg h0] at q
   rw [if_neg (show ¬ knownK W k from h0)]
   exact q)
theorem parray_any (t : ByteArray) (ht : isTy t.data.toList = true) (h : SX w0 ws w B b W fr gv vL vS L S X x) (hr : RightS W S) : Calls Tryz.prog 244 #[.pointer (some ⟨B, 0, none⟩), .string t] w (TkBy w0 ws B b W fr gv vL L X x (arrayS W S t)) :=
 (sarray_any t ht h.st hr.right).mono fun _ _ q => tk_of h (fun _ e => .inl e) q
theorem ptake_any (k : ByteArray) (hk : isTy k.data.toList = true) (h : SX w0 ws w B b W fr gv vL vS L S X x) (hr : RightS W S) :
  Calls Tryz.prog 239 #[.pointer (some ⟨B, 0, none⟩), .slice (some ⟨w.heap.size, 0, none⟩) 1 1] (w.alloc (.cells #[.string k] 9)) (TkBy w0 ws B b W fr gv vL L X x (takeS W S k)) :=
 (stake_any (.slice (some ⟨w.heap.size, 0, none⟩) 1 1) [k] (h.later (ext_alloc w _)).st (Sl.lit w #[.string k] 9 1 1 rfl) (by
  intro e
  have := Option.some.inj e
  have := h.st.lt
  simp only at *
  omega) hr.right (fun j hj => by rw [List.mem_singleton.1 hj]; exact ⟨by have := ins.isTy_size hk; omega, fun _ => hk⟩) (by simp)).mono fun _ _ q => tk_of (h.later (ext_alloc w _)) (fun _ e => .inl e) (by rw [takes_one] at q; exact q)
theorem ptake2_any (k j : ByteArray) (hk : isTy k.data.toList = true) (hj : isTy j.data.toList = true) (h : SX w0 ws w B b W fr gv vL vS L S X x) (hr : RightS W S) :
  Calls Tryz.prog 239 #[.pointer (some ⟨B, 0, none⟩), .slice (some ⟨w.heap.size, 0, none⟩) 2 2] (w.alloc (.cells #[.string k, .string j] 9)) (TkBy w0 ws B b W fr gv vL L X x (takesS W [k, j] S)) :=
 (stake_any (.slice (some ⟨w.heap.size, 0, none⟩) 2 2) [k, j] (h.later (ext_alloc w _)).st (Sl.lit w #[.string k, .string j] 9 2 1 rfl) (by
  intro e
  have := Option.some.inj e
  have := h.st.lt
  simp only at *
  omega) hr.right (fun i hi => by
   rcases List.mem_cons.1 hi with rfl | hi
   ·exact ⟨by have := ins.isTy_size hk; omega, fun _ => hk⟩
   ·rw [List.mem_singleton.1 hi]; exact ⟨by have := ins.isTy_size hj; omega, fun _ => hj⟩) (by simp)).mono fun _ _ q => tk_of (h.later (ext_alloc w _)) (fun _ e => .inl e) q
end
theorem hasArr_any (k : ByteArray) (w : World) : Calls Tryz.prog 51 #[.string k, .string { data := #[91] }] w fun e w' => e = .returned (.bool (decide (k.data.toList.head? = some 91))) ∧ w = w' := by
 refine (Tryz.strings_HasPrefix k { data := #[91] } w).mono ?_
 rintro e w' ⟨rfl, rfl⟩
 exact ⟨by rw [← prefix_one], rfl⟩
theorem ty_I : isTy tI.data.toList = true := by decide +kernel
theorem ty_J : isTy tJ.data.toList = true := by decide +kernel
theorem ty_fault : isTy tFault.data.toList = true := by decide +kernel
theorem wd_ty {l : List UInt8} (h : isWd l = true) : isTy l = true := by
 unfold isWd at h
 rw [decide_eq_true_eq] at h
 rcases h with h | h <;> (rw [h]; decide +kernel)
theorem other_any (t : ByteArray) (w : World) : Calls Tryz.prog 240 #[.string t] w fun e w' => e = .returned (.string (otherT t)) ∧ w = w' := by
 by_cases h : t = tI
 ·have q1 : (t.toList == [73]) = true := by rw [h, ByteArray.toList_eq]; rfl
  have q2 : t.toList = [73] := by simpa using q1
  have HR : Hid (otherT t = { data := #[74] }) := hid (by unfold otherT; rw [if_pos h]; rfl)
  clear h
  go_enter Tryz.func240, Tryz.ntmps240
  go_wp2
  all_goals (go_ret; exact ⟨by rw [HR.out]; rfl, rfl⟩)
 ·have q2 : ¬ t.toList = [73] := fun e => h (by
   rw [ByteArray.toList_eq] at e
   rw [← bs_list t, e]; rfl)
  have q1 : (t.toList == [73]) = false := by simpa using q2
  have HR : Hid (otherT t = { data := #[73] }) := hid (by unfold otherT; rw [if_neg h]; rfl)
  clear h
  go_enter Tryz.func240, Tryz.ntmps240
  go_wp2
  all_goals (go_ret; exact ⟨by rw [HR.out]; rfl, rfl⟩)
theorem spl_2 {w0 w : World} {B b : Nat} {W : WL} {fr gv : ByteArray} {vL vS : Value} {L S : List ByteArray} (a b2 : Int) (t c n : ByteArray) (HT : Hid (RightK W t.data.toList)) (h : ST w0 w B b W fr gv vL vS L S) (hr : RightS W S) :
  Calls Tryz.prog 202 #[.pointer (some ⟨B, 0, none⟩), .agg #[.int .i64 2, .int .i64 a, .int .i64 b2, .string t, .string c, .string n]] w (PlnBy w0 w B b W fr gv (afterF W fr gv ⟨2, a, b2, t, c, n⟩ ⟨L, S⟩)) := by
 obtain ⟨Z, hZ⟩ : ∃ Z, afterF W fr gv ⟨2, a, b2, t, c, n⟩ ⟨L, S⟩ = Z := ⟨_, rfl⟩
 rw [hZ]
 have HZ : Hid (Z = (putS S t).map (fun S => (⟨L, S⟩ : Fr))) := hid (by rw [← hZ]; try rfl)
 obtain ⟨bx, hbx⟩ : ∃ bx, w.heap.size = bx := ⟨_, rfl⟩
 obtain ⟨W1, hW1⟩ : ∃ W1, w.alloc (.cells #[.int .i64 2, .int .i64 a, .int .i64 b2, .string t, .string c, .string n] 56) = W1 := ⟨_, rfl⟩
 have HS0 : Hid (SX w0 w W1 B b W fr gv vL vS L S bx ⟨2, a, b2, t, c, n⟩) := hid (by rw [← hW1, ← hbx]; exact SX.box ⟨2, a, b2, t, c, n⟩ h)
 obtain ⟨y0, y1, y2, y3, y4, y5⟩ := HS0.out.at_
 obtain ⟨x0, x1, x2, x3, x4⟩ := HS0.out.st.cells
 have HR0 := hid hr
 clear hZ h hr
 go_enter Tryz.func202, Tryz.ntmps202
 go_wp2_with fail
 refine (pput_any t HS0.out).mono ?_
 intro e w1 h1
 cases hc : putS S t with
 | none =>
  rw [hc] at h1
  obtain ⟨rfl, hb1⟩ := h1
  exact ⟨rfl, pln_none (by rw [HZ.out, hc]; rfl) hb1⟩
 | some S1 =>
  rw [hc] at h1
  obtain ⟨rfl, vS1, hs1⟩ := h1
  clear hW1 y0 y1 y2 y3 y4 y5
  obtain ⟨y0, y1, y2, y3, y4, y5⟩ := hs1.at_
  have HZ1 : Hid (Z = some (⟨L, S1⟩ : Fr)) := hid (by rw [HZ.out, hc]; rfl)
  have HS1 := hid hs1
  have HR1 : Hid (RightS W S1) := hid (HR0.out.put (HT.out) hc)
  clear hc hs1
  go_wp2_with fail
  go_end0
  exact pln_some HZ1.out HS1.out.st HS1.out.oth
theorem spl_3 {w0 w : World} {B b : Nat} {W : WL} {fr gv : ByteArray} {vL vS : Value} {L S : List ByteArray} (a b2 : Int) (t c n : ByteArray)  (h : ST w0 w B b W fr gv vL vS L S) (hr : RightS W S) :
  Calls Tryz.prog 202 #[.pointer (some ⟨B, 0, none⟩), .agg #[.int .i64 3, .int .i64 a, .int .i64 b2, .string t, .string c, .string n]] w (PlnBy w0 w B b W fr gv (afterF W fr gv ⟨3, a, b2, t, c, n⟩ ⟨L, S⟩)) := by
 obtain ⟨Z, hZ⟩ : ∃ Z, afterF W fr gv ⟨3, a, b2, t, c, n⟩ ⟨L, S⟩ = Z := ⟨_, rfl⟩
 rw [hZ]
 have HZ : Hid (Z = (putS S tN).map (fun S => (⟨L, S⟩ : Fr))) := hid (by rw [← hZ]; try rfl)
 obtain ⟨bx, hbx⟩ : ∃ bx, w.heap.size = bx := ⟨_, rfl⟩
 obtain ⟨W1, hW1⟩ : ∃ W1, w.alloc (.cells #[.int .i64 3, .int .i64 a, .int .i64 b2, .string t, .string c, .string n] 56) = W1 := ⟨_, rfl⟩
 have HS0 : Hid (SX w0 w W1 B b W fr gv vL vS L S bx ⟨3, a, b2, t, c, n⟩) := hid (by rw [← hW1, ← hbx]; exact SX.box ⟨3, a, b2, t, c, n⟩ h)
 obtain ⟨y0, y1, y2, y3, y4, y5⟩ := HS0.out.at_
 obtain ⟨x0, x1, x2, x3, x4⟩ := HS0.out.st.cells
 have HR0 := hid hr
 clear hZ h hr
 go_enter Tryz.func202, Tryz.ntmps202
 go_wp2_with fail
 refine (pput_any tN HS0.out).mono ?_
 intro e w1 h1
 cases hc : putS S tN with
 | none =>
  rw [hc] at h1
  obtain ⟨rfl, hb1⟩ := h1
  exact ⟨rfl, pln_none (by rw [HZ.out, hc]; rfl) hb1⟩
 | some S1 =>
  rw [hc] at h1
  obtain ⟨rfl, vS1, hs1⟩ := h1
  clear hW1 y0 y1 y2 y3 y4 y5
  obtain ⟨y0, y1, y2, y3, y4, y5⟩ := hs1.at_
  have HZ1 : Hid (Z = some (⟨L, S1⟩ : Fr)) := hid (by rw [HZ.out, hc]; rfl)
  have HS1 := hid hs1
  have HR1 : Hid (RightS W S1) := hid (HR0.out.put (right_N W) hc)
  clear hc hs1
  go_wp2_with fail
  go_end0
  exact pln_some HZ1.out HS1.out.st HS1.out.oth
theorem spl_4out {w0 w : World} {B b : Nat} {W : WL} {fr gv : ByteArray} {vL vS : Value} {L S : List ByteArray} (a b2 : Int) (t c n : ByteArray) (ha0 : 0 ≤ a) (hl : L[a.toNat]? = none) (h : ST w0 w B b W fr gv vL vS L S) (hr : RightS W S) :
  Calls Tryz.prog 202 #[.pointer (some ⟨B, 0, none⟩), .agg #[.int .i64 4, .int .i64 a, .int .i64 b2, .string t, .string c, .string n]] w (PlnBy w0 w B b W fr gv (afterF W fr gv ⟨4, a, b2, t, c, n⟩ ⟨L, S⟩)) := by
 obtain ⟨Z, hZ⟩ : ∃ Z, afterF W fr gv ⟨4, a, b2, t, c, n⟩ ⟨L, S⟩ = Z := ⟨_, rfl⟩
 rw [hZ]
 have HZ : Hid (Z = none) := hid (by rw [← hZ]; show (match L[a.toNat]? with | none => none | some k => if k = tT then none else (putS S k).map (fun S => (⟨L, S⟩ : Fr))) = _; rw [hl])
 obtain ⟨bx, hbx⟩ : ∃ bx, w.heap.size = bx := ⟨_, rfl⟩
 obtain ⟨W1, hW1⟩ : ∃ W1, w.alloc (.cells #[.int .i64 4, .int .i64 a, .int .i64 b2, .string t, .string c, .string n] 56) = W1 := ⟨_, rfl⟩
 have HS0 : Hid (SX w0 w W1 B b W fr gv vL vS L S bx ⟨4, a, b2, t, c, n⟩) := hid (by rw [← hW1, ← hbx]; exact SX.box ⟨4, a, b2, t, c, n⟩ h)
 obtain ⟨y0, y1, y2, y3, y4, y5⟩ := HS0.out.at_
 obtain ⟨x0, x1, x2, x3, x4⟩ := HS0.out.st.cells
 have HR0 := hid hr
 clear hZ h hr
 obtain ⟨i, rfl⟩ : ∃ i : Nat, a = (i : Int) := ⟨a.toNat, by omega⟩
 rw [Int.toNat_natCast] at hl
 obtain ⟨aL, cL, hvL⟩ := HS0.out.st.oL.sl.val
 subst hvL
 have hi0 : (0 : Int) ≤ (i : Int) := by omega
 have hlt1 : ¬ (i : Int) < (L.length : Int) := by have := List.getElem?_eq_none_iff.1 hl; omega
 have HX : Hid (∀ u, Below W1.heap.size W1 u → u.cell? ⟨bx, 1, none⟩ = some (.int .i64 (i : Int)) ∧ u.cell? ⟨B, 3, none⟩ = some (.slice aL L.length cL)) := hid (fun u hu => ⟨(HS0.out.later hu).at_.2.1, (HS0.out.later hu).st.cells.2.2.2.1⟩)
 clear hl
 go_enter Tryz.func202, Tryz.ntmps202
 go_wp2_with fail
 refine wp_region_ext_tail 21 [] trivial (by kernel_rfl) (by kernel_rfl) ?_
 refine zgc 1 ?_
 go_frame
 refine wpG_read 2 rfl rfl (.int .i64 (i : Int)) rfl ?_ ?_
 ·intro u hu hh
  have q := (HX.out u hu).1
  go_simp
 go_frame
 refine zgc 3 ?_
 go_frame
 refine zgc 4 ?_
 go_frame
 refine zgc 5 ?_
 go_frame
 refine zgc 6 ?_
 go_frame
 refine wpG_read 7 rfl rfl (.slice aL L.length cL) rfl ?_ ?_
 ·intro u hu hh
  have q := (HX.out u hu).2
  go_simp
 go_frame
 refine wpG_calc (v := .int .i64 (L.length : Int)) 8 rfl rfl rfl (fun u => by first | (go_simp; done) | (go_simp; rfl) | (go_simp; omega)) ?_
 go_frame
 refine wpG_calc (v := .bool false) 9 rfl rfl rfl (fun u => by first | (go_simp; done) | (go_simp; rfl) | (go_simp; omega)) ?_
 go_frame
 refine zgc 10 ?_
 go_frame
 refine wpG_skip 11 rfl rfl ?_
 go_frame
 refine wpG_skip 12 rfl rfl ?_
 go_frame
 refine wpG_skip 13 rfl rfl ?_
 go_frame
 refine wpG_skip 14 rfl rfl ?_
 go_frame
 refine wpG_skip 15 rfl rfl ?_
 go_frame
 refine wpG_skip 16 rfl rfl ?_
 go_frame
 refine wpG_skip 17 rfl rfl ?_
 go_frame
 refine wpG_skip 18 rfl rfl ?_
 go_frame
 refine wpG_skip 19 rfl rfl ?_
 go_frame
 refine wpG_skip 20 rfl rfl ?_
 go_frame
 refine wpG_calc (v := .bool false) 21 rfl rfl rfl (fun u => by first | (go_simp; done) | (go_simp; rfl) | (go_simp; omega)) ?_
 go_frame
 refine wpG_nil fun w' hb' hF => ?_
 have HS2 := hid (HS0.out.later hb')
 have HB2 := hid hb'
 clear hb' hF HX y0 y1 y2 y3 y4 y5 x0 x1 x2 x3 x4 hW1
 go_wp2_with fail
 refine (need_no _).mono ?_
 rintro e w9 ⟨rfl, rfl⟩
 exact ⟨rfl, pln_none HZ.out ⟨HS2.out.st.below, HS2.out.oth⟩⟩
theorem spl_4no {w0 w : World} {B b : Nat} {W : WL} {fr gv : ByteArray} {vL vS : Value} {L S : List ByteArray} (a b2 : Int) (t c n : ByteArray) (ha0 : 0 ≤ a) (kk : ByteArray) (hl : L[a.toNat]? = some kk) (hT : kk = tT) (h : ST w0 w B b W fr gv vL vS L S) (hr : RightS W S) :
  Calls Tryz.prog 202 #[.pointer (some ⟨B, 0, none⟩), .agg #[.int .i64 4, .int .i64 a, .int .i64 b2, .string t, .string c, .string n]] w (PlnBy w0 w B b W fr gv (afterF W fr gv ⟨4, a, b2, t, c, n⟩ ⟨L, S⟩)) := by
 obtain ⟨Z, hZ⟩ : ∃ Z, afterF W fr gv ⟨4, a, b2, t, c, n⟩ ⟨L, S⟩ = Z := ⟨_, rfl⟩
 rw [hZ]
 have HZ : Hid (Z = none) := hid (by rw [← hZ]; show (match L[a.toNat]? with | none => none | some k => if k = tT then none else (putS S k).map (fun S => (⟨L, S⟩ : Fr))) = _; rw [hl]; exact if_pos hT)
 obtain ⟨bx, hbx⟩ : ∃ bx, w.heap.size = bx := ⟨_, rfl⟩
 obtain ⟨W1, hW1⟩ : ∃ W1, w.alloc (.cells #[.int .i64 4, .int .i64 a, .int .i64 b2, .string t, .string c, .string n] 56) = W1 := ⟨_, rfl⟩
 have HS0 : Hid (SX w0 w W1 B b W fr gv vL vS L S bx ⟨4, a, b2, t, c, n⟩) := hid (by rw [← hW1, ← hbx]; exact SX.box ⟨4, a, b2, t, c, n⟩ h)
 obtain ⟨y0, y1, y2, y3, y4, y5⟩ := HS0.out.at_
 obtain ⟨x0, x1, x2, x3, x4⟩ := HS0.out.st.cells
 have HR0 := hid hr
 clear hZ h hr
 obtain ⟨i, rfl⟩ : ∃ i : Nat, a = (i : Int) := ⟨a.toNat, by omega⟩
 rw [Int.toNat_natCast] at hl
 obtain ⟨aL, cL, hvL⟩ := HS0.out.st.oL.sl.val
 subst hvL
 have hi0 : (0 : Int) ≤ (i : Int) := by omega
 obtain ⟨hlt, hkk⟩ := List.getElem?_eq_some_iff.1 hl
 have hlt1 : (i : Int) < (L.length : Int) := by omega
 obtain ⟨bb, off, haL, hck⟩ := text_at HS0.out.st.oL.sl hlt
 subst haL
 rw [hkk] at hck
 have HXK : Hid (∀ u, Below W1.heap.size W1 u → u.cell? ⟨bb, off + i, none⟩ = some (.string kk)) := hid (fun u hu => by rw [hu.cell (p := ⟨bb, off + i, none⟩) (World.block_lt_of_cell? W1 _ hck)]; exact hck)
 have HX : Hid (∀ u, Below W1.heap.size W1 u → u.cell? ⟨bx, 1, none⟩ = some (.int .i64 (i : Int)) ∧ u.cell? ⟨B, 3, none⟩ = some (.slice (some ⟨bb, off, none⟩) L.length cL)) := hid (fun u hu => ⟨(HS0.out.later hu).at_.2.1, (HS0.out.later hu).st.cells.2.2.2.1⟩)
 clear hl
 have q1 : (kk.toList == [84]) = true := by rw [hT, ByteArray.toList_eq]; rfl
 have q2 : kk.toList = [84] := by simpa using q1
 have q3 : (kk.toList != [84]) = false := by rw [bne, q1]; rfl
 clear hT
 go_enter Tryz.func202, Tryz.ntmps202
 go_wp2_with fail
 refine wp_region_ext_tail 21 [] trivial (by kernel_rfl) (by kernel_rfl) ?_
 refine zgc 1 ?_
 go_frame
 refine wpG_read 2 rfl rfl (.int .i64 (i : Int)) rfl ?_ ?_
 ·intro u hu hh
  have q := (HX.out u hu).1
  go_simp
 go_frame
 refine zgc 3 ?_
 go_frame
 refine zgc 4 ?_
 go_frame
 refine zgc 5 ?_
 go_frame
 refine zgc 6 ?_
 go_frame
 refine wpG_read 7 rfl rfl (.slice (some ⟨bb, off, none⟩) L.length cL) rfl ?_ ?_
 ·intro u hu hh
  have q := (HX.out u hu).2
  go_simp
 go_frame
 refine wpG_calc (v := .int .i64 (L.length : Int)) 8 rfl rfl rfl (fun u => by first | (go_simp; done) | (go_simp; rfl) | (go_simp; omega)) ?_
 go_frame
 refine wpG_calc (v := .bool true) 9 rfl rfl rfl (fun u => by first | (go_simp; done) | (go_simp; rfl) | (go_simp; omega)) ?_
 go_frame
 refine zgc 10 ?_
 go_frame
 refine zgc 11 ?_
 go_frame
 refine zgc 12 ?_
 go_frame
 refine zgc 13 ?_
 go_frame
 refine zgc 14 ?_
 go_frame
 refine wpG_read 15 rfl rfl (.slice (some ⟨bb, off, none⟩) L.length cL) rfl ?_ ?_
 ·intro u hu hh
  have q := (HX.out u hu).2
  go_simp
 go_frame
 refine zgc 16 ?_
 go_frame
 refine wpG_read 17 rfl rfl (.int .i64 (i : Int)) rfl ?_ ?_
 ·intro u hu hh
  have q := (HX.out u hu).1
  go_simp
 go_frame
 refine wpG_calc (v := .pointer (some ⟨bb, off + i, none⟩)) 18 rfl rfl rfl (fun u => by first | (go_simp; done) | (go_simp; rfl) | (go_simp; omega)) ?_
 go_frame
 refine wpG_read 19 rfl rfl (.string kk) rfl ?_ ?_
 ·intro u hu hh
  have q := HXK.out u hu
  go_simp
 go_frame
 refine wpG_calc (v := .bool false) 20 rfl rfl rfl (fun u => by first | (go_simp; done) | (go_simp; rfl) | (go_simp; omega)) ?_
 go_frame
 refine wpG_calc (v := .bool false) 21 rfl rfl rfl (fun u => by first | (go_simp; done) | (go_simp; rfl) | (go_simp; omega)) ?_
 go_frame
 refine wpG_nil fun w' hb' hF => ?_
 have HS2 := hid (HS0.out.later hb')
 have HB2 := hid hb'
 clear hb' hF HX y0 y1 y2 y3 y4 y5 x0 x1 x2 x3 x4 hW1
 go_wp2_with fail
 refine (need_no _).mono ?_
 rintro e w9 ⟨rfl, rfl⟩
 exact ⟨rfl, pln_none HZ.out ⟨HS2.out.st.below, HS2.out.oth⟩⟩
theorem spl_4yes {w0 w : World} {B b : Nat} {W : WL} {fr gv : ByteArray} {vL vS : Value} {L S : List ByteArray} (a b2 : Int) (t c n : ByteArray) (ha0 : 0 ≤ a) (kk : ByteArray) (hl hl2 : L[a.toNat]? = some kk) (hT : ¬ kk = tT) (HRL : Hid (∀ k ∈ L, RightK W k.data.toList)) (h : ST w0 w B b W fr gv vL vS L S) (hr : RightS W S) :
  Calls Tryz.prog 202 #[.pointer (some ⟨B, 0, none⟩), .agg #[.int .i64 4, .int .i64 a, .int .i64 b2, .string t, .string c, .string n]] w (PlnBy w0 w B b W fr gv (afterF W fr gv ⟨4, a, b2, t, c, n⟩ ⟨L, S⟩)) := by
 obtain ⟨Z, hZ⟩ : ∃ Z, afterF W fr gv ⟨4, a, b2, t, c, n⟩ ⟨L, S⟩ = Z := ⟨_, rfl⟩
 rw [hZ]
 have HZ : Hid (Z = (putS S kk).map (fun S => (⟨L, S⟩ : Fr))) := hid (by rw [← hZ]; show (match L[a.toNat]? with | none => none | some k => if k = tT then none else (putS S k).map (fun S => (⟨L, S⟩ : Fr))) = _; rw [hl]; exact if_neg hT)
 obtain ⟨bx, hbx⟩ : ∃ bx, w.heap.size = bx := ⟨_, rfl⟩
 obtain ⟨W1, hW1⟩ : ∃ W1, w.alloc (.cells #[.int .i64 4, .int .i64 a, .int .i64 b2, .string t, .string c, .string n] 56) = W1 := ⟨_, rfl⟩
 have HS0 : Hid (SX w0 w W1 B b W fr gv vL vS L S bx ⟨4, a, b2, t, c, n⟩) := hid (by rw [← hW1, ← hbx]; exact SX.box ⟨4, a, b2, t, c, n⟩ h)
 obtain ⟨y0, y1, y2, y3, y4, y5⟩ := HS0.out.at_
 obtain ⟨x0, x1, x2, x3, x4⟩ := HS0.out.st.cells
 have HR0 := hid hr
 clear hZ h hr
 obtain ⟨i, rfl⟩ : ∃ i : Nat, a = (i : Int) := ⟨a.toNat, by omega⟩
 rw [Int.toNat_natCast] at hl
 obtain ⟨aL, cL, hvL⟩ := HS0.out.st.oL.sl.val
 subst hvL
 have hi0 : (0 : Int) ≤ (i : Int) := by omega
 obtain ⟨hlt, hkk⟩ := List.getElem?_eq_some_iff.1 hl
 have hlt1 : (i : Int) < (L.length : Int) := by omega
 obtain ⟨bb, off, haL, hck⟩ := text_at HS0.out.st.oL.sl hlt
 subst haL
 rw [hkk] at hck
 have HXK : Hid (∀ u, Below W1.heap.size W1 u → u.cell? ⟨bb, off + i, none⟩ = some (.string kk)) := hid (fun u hu => by rw [hu.cell (p := ⟨bb, off + i, none⟩) (World.block_lt_of_cell? W1 _ hck)]; exact hck)
 have HX : Hid (∀ u, Below W1.heap.size W1 u → u.cell? ⟨bx, 1, none⟩ = some (.int .i64 (i : Int)) ∧ u.cell? ⟨B, 3, none⟩ = some (.slice (some ⟨bb, off, none⟩) L.length cL)) := hid (fun u hu => ⟨(HS0.out.later hu).at_.2.1, (HS0.out.later hu).st.cells.2.2.2.1⟩)
 clear hl
 have q2 : ¬ kk.toList = [84] := fun e => hT (by rw [ByteArray.toList_eq] at e; rw [← bs_list kk, e]; rfl)
 have q1 : (kk.toList == [84]) = false := by simpa using q2
 have q3 : (kk.toList != [84]) = true := by rw [bne, q1]; rfl
 have HRK : Hid (RightK W kk.data.toList) := hid (HRL.out kk (List.mem_of_getElem? hl2))
 clear hT hl2
 go_enter Tryz.func202, Tryz.ntmps202
 go_wp2_with fail
 refine wp_region_ext_tail 21 [] trivial (by kernel_rfl) (by kernel_rfl) ?_
 refine zgc 1 ?_
 go_frame
 refine wpG_read 2 rfl rfl (.int .i64 (i : Int)) rfl ?_ ?_
 ·intro u hu hh
  have q := (HX.out u hu).1
  go_simp
 go_frame
 refine zgc 3 ?_
 go_frame
 refine zgc 4 ?_
 go_frame
 refine zgc 5 ?_
 go_frame
 refine zgc 6 ?_
 go_frame
 refine wpG_read 7 rfl rfl (.slice (some ⟨bb, off, none⟩) L.length cL) rfl ?_ ?_
 ·intro u hu hh
  have q := (HX.out u hu).2
  go_simp
 go_frame
 refine wpG_calc (v := .int .i64 (L.length : Int)) 8 rfl rfl rfl (fun u => by first | (go_simp; done) | (go_simp; rfl) | (go_simp; omega)) ?_
 go_frame
 refine wpG_calc (v := .bool true) 9 rfl rfl rfl (fun u => by first | (go_simp; done) | (go_simp; rfl) | (go_simp; omega)) ?_
 go_frame
 refine zgc 10 ?_
 go_frame
 refine zgc 11 ?_
 go_frame
 refine zgc 12 ?_
 go_frame
 refine zgc 13 ?_
 go_frame
 refine zgc 14 ?_
 go_frame
 refine wpG_read 15 rfl rfl (.slice (some ⟨bb, off, none⟩) L.length cL) rfl ?_ ?_
 ·intro u hu hh
  have q := (HX.out u hu).2
  go_simp
 go_frame
 refine zgc 16 ?_
 go_frame
 refine wpG_read 17 rfl rfl (.int .i64 (i : Int)) rfl ?_ ?_
 ·intro u hu hh
  have q := (HX.out u hu).1
  go_simp
 go_frame
 refine wpG_calc (v := .pointer (some ⟨bb, off + i, none⟩)) 18 rfl rfl rfl (fun u => by first | (go_simp; done) | (go_simp; rfl) | (go_simp; omega)) ?_
 go_frame
 refine wpG_read 19 rfl rfl (.string kk) rfl ?_ ?_
 ·intro u hu hh
  have q := HXK.out u hu
  go_simp
 go_frame
 refine wpG_calc (v := .bool true) 20 rfl rfl rfl (fun u => by first | (go_simp; done) | (go_simp; rfl) | (go_simp; omega)) ?_
 go_frame
 refine wpG_calc (v := .bool true) 21 rfl rfl rfl (fun u => by first | (go_simp; done) | (go_simp; rfl) | (go_simp; omega)) ?_
 go_frame
 refine wpG_nil fun w' hb' hF => ?_
 have HS2 := hid (HS0.out.later hb')
 have HB2 := hid hb'
 clear hb' hF HX y0 y1 y2 y3 y4 y5 x0 x1 x2 x3 x4 hW1
 go_wp2_with fail
 refine (need_yes _).mono ?_
 rintro e w9 ⟨rfl, rfl⟩
 have HX : Hid (∀ u, Below w'.heap.size w' u → u.cell? ⟨bx, 1, none⟩ = some (.int .i64 (i : Int)) ∧ u.cell? ⟨B, 3, none⟩ = some (.slice (some ⟨bb, off, none⟩) L.length cL)) := hid (fun u hu => ⟨(HS2.out.later hu).at_.2.1, (HS2.out.later hu).st.cells.2.2.2.1⟩)
 have HXK2 : Hid (∀ u, Below w'.heap.size w' u → u.cell? ⟨bb, off + i, none⟩ = some (.string kk)) := hid (fun u hu => HXK.out u (HB2.out.trans (hu.mono HB2.out.size)))
 go_wp2_with fail
 refine wp_region_ext_tail 10 [] trivial (by kernel_rfl) (by kernel_rfl) ?_
 refine zgc 1 ?_
 go_frame
 refine zgc 2 ?_
 go_frame
 refine zgc 3 ?_
 go_frame
 refine zgc 4 ?_
 go_frame
 refine zgc 5 ?_
 go_frame
 refine wpG_read 6 rfl rfl (.slice (some ⟨bb, off, none⟩) L.length cL) rfl ?_ ?_
 ·intro u hu hh
  have q := (HX.out u hu).2
  go_simp
 go_frame
 refine zgc 7 ?_
 go_frame
 refine wpG_read 8 rfl rfl (.int .i64 (i : Int)) rfl ?_ ?_
 ·intro u hu hh
  have q := (HX.out u hu).1
  go_simp
 go_frame
 refine wpG_calc (v := .pointer (some ⟨bb, off + i, none⟩)) 9 rfl rfl rfl (fun u => by first | (go_simp; done) | (go_simp; rfl) | (go_simp; omega)) ?_
 go_frame
 refine wpG_read 10 rfl rfl (.string kk) rfl ?_ ?_
 ·intro u hu hh
  have q := HXK2.out u hu
  go_simp
 go_frame
 refine wpG_nil fun w' hb' hF => ?_
 have HS3 := hid (HS2.out.later hb')
 clear hb' hF HX HXK2
 obtain ⟨y0, y1, y2, y3, y4, y5⟩ := HS3.out.at_
 go_wp2_with fail
 refine (pput_any kk HS3.out).mono ?_
 intro e w4 h4
 cases hc : putS S kk with
 | none =>
  rw [hc] at h4
  obtain ⟨rfl, hb4⟩ := h4
  exact ⟨rfl, pln_none (by rw [HZ.out, hc]; rfl) hb4⟩
 | some S4 =>
  rw [hc] at h4
  obtain ⟨rfl, vS4, hs4⟩ := h4
  clear y0 y1 y2 y3 y4 y5
  obtain ⟨y0, y1, y2, y3, y4, y5⟩ := hs4.at_
  have HZ4 : Hid (Z = some (⟨L, S4⟩ : Fr)) := hid (by rw [HZ.out, hc]; rfl)
  have HS4 := hid hs4
  have HR4 : Hid (RightS W S4) := hid (HR0.out.put (HRK.out) hc)
  clear hc hs4
  go_wp2_with fail
  go_end0
  exact pln_some HZ4.out HS4.out.st HS4.out.oth
theorem spl_5out {w0 w : World} {B b : Nat} {W : WL} {fr gv : ByteArray} {vL vS : Value} {L S : List ByteArray} (a b2 : Int) (t c n : ByteArray) (ha0 : 0 ≤ a) (hl : ¬ a.toNat < L.length) (h : ST w0 w B b W fr gv vL vS L S) (hr : RightS W S) :
  Calls Tryz.prog 202 #[.pointer (some ⟨B, 0, none⟩), .agg #[.int .i64 5, .int .i64 a, .int .i64 b2, .string t, .string c, .string n]] w (PlnBy w0 w B b W fr gv (afterF W fr gv ⟨5, a, b2, t, c, n⟩ ⟨L, S⟩)) := by
 obtain ⟨Z, hZ⟩ : ∃ Z, afterF W fr gv ⟨5, a, b2, t, c, n⟩ ⟨L, S⟩ = Z := ⟨_, rfl⟩
 rw [hZ]
 have HZ : Hid (Z = (popS S).bind fun _ => none) := hid (by rw [← hZ]; show ((popS S).bind fun p => if a.toNat < L.length then some (⟨L.set a.toNat p.1, p.2⟩ : Fr) else none) = _; simp only [if_neg hl])
 obtain ⟨bx, hbx⟩ : ∃ bx, w.heap.size = bx := ⟨_, rfl⟩
 obtain ⟨W1, hW1⟩ : ∃ W1, w.alloc (.cells #[.int .i64 5, .int .i64 a, .int .i64 b2, .string t, .string c, .string n] 56) = W1 := ⟨_, rfl⟩
 have HS0 : Hid (SX w0 w W1 B b W fr gv vL vS L S bx ⟨5, a, b2, t, c, n⟩) := hid (by rw [← hW1, ← hbx]; exact SX.box ⟨5, a, b2, t, c, n⟩ h)
 obtain ⟨y0, y1, y2, y3, y4, y5⟩ := HS0.out.at_
 obtain ⟨x0, x1, x2, x3, x4⟩ := HS0.out.st.cells
 have HR0 := hid hr
 clear hZ h hr
 obtain ⟨i, rfl⟩ : ∃ i : Nat, a = (i : Int) := ⟨a.toNat, by omega⟩
 rw [Int.toNat_natCast] at hl
 go_enter Tryz.func202, Tryz.ntmps202
 have hlt1 : ¬ (i : Int) < (L.length : Int) := by omega
 clear hl
 go_wp2_with fail
 refine (ppop_any HS0.out).mono ?_
 intro e w1 h1
 cases hc : popS S with
 | none =>
  rw [hc] at h1
  obtain ⟨rfl, hb1⟩ := h1
  exact ⟨rfl, pln_none (by rw [HZ.out, hc]; rfl) hb1⟩
 | some p1 =>
  obtain ⟨k1, S1⟩ := p1
  rw [hc] at h1
  obtain ⟨rfl, vS1, hs1⟩ := h1
  clear hW1 y0 y1 y2 y3 y4 y5
  obtain ⟨y0, y1, y2, y3, y4, y5⟩ := hs1.at_
  have HZ1 : Hid (Z = none) := hid (by rw [HZ.out, hc]; rfl)
  have HS1 := hid hs1
  have HR1 : Hid (RightS W S1) := hid ((HR0.out.pop hc).1)
  have HK1 : Hid (RightK W k1.data.toList) := hid (by first | exact (HR0.out.pop hc).2 | (obtain ⟨e, _⟩ := ref_some hc; exact HR0.out.right _ (by rw [e]; simp)))
  clear hc hs1
  obtain ⟨aL, cL, hvL⟩ := HS1.out.st.oL.sl.val
  subst hvL
  have hi0 : (0 : Int) ≤ (i : Int) := by omega
  have HX : Hid (∀ u, Below w1.heap.size w1 u → u.cell? ⟨bx, 1, none⟩ = some (.int .i64 (i : Int)) ∧ u.cell? ⟨B, 3, none⟩ = some (.slice aL L.length cL)) := hid (fun u hu => ⟨(HS1.out.later hu).at_.2.1, (HS1.out.later hu).st.cells.2.2.2.1⟩)
  go_wp2_with fail
  refine wp_region_ext_tail 9 [] trivial (by kernel_rfl) (by kernel_rfl) ?_
  refine zgc 1 ?_
  go_frame
  refine wpG_read 2 rfl rfl (.int .i64 (i : Int)) rfl ?_ ?_
  ·intro u hu hh
   have q := (HX.out u hu).1
   go_simp
  go_frame
  refine zgc 3 ?_
  go_frame
  refine zgc 4 ?_
  go_frame
  refine zgc 5 ?_
  go_frame
  refine zgc 6 ?_
  go_frame
  refine wpG_read 7 rfl rfl (.slice aL L.length cL) rfl ?_ ?_
  ·intro u hu hh
   have q := (HX.out u hu).2
   go_simp
  go_frame
  refine wpG_calc (v := .int .i64 (L.length : Int)) 8 rfl rfl rfl (fun u => by first | (go_simp; done) | (go_simp; rfl) | (go_simp; omega)) ?_
  go_frame
  refine wpG_calc (v := .bool false) 9 rfl rfl rfl (fun u => by first | (go_simp; done) | (go_simp; rfl) | (go_simp; omega)) ?_
  go_frame
  refine wpG_nil fun w' hb' hF => ?_
  have HS2 := hid (HS1.out.later hb')
  clear hb' hF HX y0 y1 y2 y3 y4 y5
  go_wp2_with fail
  refine (need_no _).mono ?_
  rintro e w9 ⟨rfl, rfl⟩
  exact ⟨rfl, pln_none HZ1.out ⟨HS2.out.st.below, HS2.out.oth⟩⟩
theorem spl_5yes {w0 w : World} {B b : Nat} {W : WL} {fr gv : ByteArray} {vL vS : Value} {L S : List ByteArray} (a b2 : Int) (t c n : ByteArray) (ha0 : 0 ≤ a) (hl : a.toNat < L.length) (h : ST w0 w B b W fr gv vL vS L S) (hr : RightS W S) :
  Calls Tryz.prog 202 #[.pointer (some ⟨B, 0, none⟩), .agg #[.int .i64 5, .int .i64 a, .int .i64 b2, .string t, .string c, .string n]] w (PlnBy w0 w B b W fr gv (afterF W fr gv ⟨5, a, b2, t, c, n⟩ ⟨L, S⟩)) := by
 obtain ⟨Z, hZ⟩ : ∃ Z, afterF W fr gv ⟨5, a, b2, t, c, n⟩ ⟨L, S⟩ = Z := ⟨_, rfl⟩
 rw [hZ]
 have HZ : Hid (Z = (popS S).bind fun p => some ⟨L.set a.toNat p.1, p.2⟩) := hid (by rw [← hZ]; show ((popS S).bind fun p => if a.toNat < L.length then some (⟨L.set a.toNat p.1, p.2⟩ : Fr) else none) = _; simp only [if_pos hl])
 obtain ⟨bx, hbx⟩ : ∃ bx, w.heap.size = bx := ⟨_, rfl⟩
 obtain ⟨W1, hW1⟩ : ∃ W1, w.alloc (.cells #[.int .i64 5, .int .i64 a, .int .i64 b2, .string t, .string c, .string n] 56) = W1 := ⟨_, rfl⟩
 have HS0 : Hid (SX w0 w W1 B b W fr gv vL vS L S bx ⟨5, a, b2, t, c, n⟩) := hid (by rw [← hW1, ← hbx]; exact SX.box ⟨5, a, b2, t, c, n⟩ h)
 obtain ⟨y0, y1, y2, y3, y4, y5⟩ := HS0.out.at_
 obtain ⟨x0, x1, x2, x3, x4⟩ := HS0.out.st.cells
 have HR0 := hid hr
 clear hZ h hr
 obtain ⟨i, rfl⟩ : ∃ i : Nat, a = (i : Int) := ⟨a.toNat, by omega⟩
 rw [Int.toNat_natCast] at hl
 go_enter Tryz.func202, Tryz.ntmps202
 have hlt1 : (i : Int) < (L.length : Int) := by omega
 have HLT := hid hl
 clear hl
 go_wp2_with fail
 refine (ppop_any HS0.out).mono ?_
 intro e w1 h1
 cases hc : popS S with
 | none =>
  rw [hc] at h1
  obtain ⟨rfl, hb1⟩ := h1
  exact ⟨rfl, pln_none (by rw [HZ.out, hc]; rfl) hb1⟩
 | some p1 =>
  obtain ⟨k1, S1⟩ := p1
  rw [hc] at h1
  obtain ⟨rfl, vS1, hs1⟩ := h1
  clear hW1 y0 y1 y2 y3 y4 y5
  obtain ⟨y0, y1, y2, y3, y4, y5⟩ := hs1.at_
  have HZ1 : Hid (Z = some ⟨L.set i k1, S1⟩) := hid (by rw [HZ.out, hc]; rfl)
  have HS1 := hid hs1
  have HR1 : Hid (RightS W S1) := hid ((HR0.out.pop hc).1)
  have HK1 : Hid (RightK W k1.data.toList) := hid (by first | exact (HR0.out.pop hc).2 | (obtain ⟨e, _⟩ := ref_some hc; exact HR0.out.right _ (by rw [e]; simp)))
  clear hc hs1
  obtain ⟨aL, cL, hvL⟩ := HS1.out.st.oL.sl.val
  subst hvL
  have hi0 : (0 : Int) ≤ (i : Int) := by omega
  have HX : Hid (∀ u, Below w1.heap.size w1 u → u.cell? ⟨bx, 1, none⟩ = some (.int .i64 (i : Int)) ∧ u.cell? ⟨B, 3, none⟩ = some (.slice aL L.length cL)) := hid (fun u hu => ⟨(HS1.out.later hu).at_.2.1, (HS1.out.later hu).st.cells.2.2.2.1⟩)
  go_wp2_with fail
  refine wp_region_ext_tail 9 [] trivial (by kernel_rfl) (by kernel_rfl) ?_
  refine zgc 1 ?_
  go_frame
  refine wpG_read 2 rfl rfl (.int .i64 (i : Int)) rfl ?_ ?_
  ·intro u hu hh
   have q := (HX.out u hu).1
   go_simp
  go_frame
  refine zgc 3 ?_
  go_frame
  refine zgc 4 ?_
  go_frame
  refine zgc 5 ?_
  go_frame
  refine zgc 6 ?_
  go_frame
  refine wpG_read 7 rfl rfl (.slice aL L.length cL) rfl ?_ ?_
  ·intro u hu hh
   have q := (HX.out u hu).2
   go_simp
  go_frame
  refine wpG_calc (v := .int .i64 (L.length : Int)) 8 rfl rfl rfl (fun u => by first | (go_simp; done) | (go_simp; rfl) | (go_simp; omega)) ?_
  go_frame
  refine wpG_calc (v := .bool true) 9 rfl rfl rfl (fun u => by first | (go_simp; done) | (go_simp; rfl) | (go_simp; omega)) ?_
  go_frame
  refine wpG_nil fun w' hb' hF => ?_
  have HS2 := hid (HS1.out.later hb')
  clear hb' hF HX y0 y1 y2 y3 y4 y5
  go_wp2_with fail
  refine (need_yes _).mono ?_
  rintro e w9 ⟨rfl, rfl⟩
  have HX : Hid (∀ u, Below w'.heap.size w' u → u.cell? ⟨bx, 1, none⟩ = some (.int .i64 (i : Int)) ∧ u.cell? ⟨B, 3, none⟩ = some (.slice aL L.length cL)) := hid (fun u hu => ⟨(HS2.out.later hu).at_.2.1, (HS2.out.later hu).st.cells.2.2.2.1⟩)
  obtain ⟨g, cap, hv, _, _, _, _⟩ := HS2.out.st.setL HLT.out k1
  obtain ⟨rfl, rfl⟩ : aL = some ⟨g, 0, none⟩ ∧ cL = cap := by injection hv with q1 _ q2; exact ⟨q1, q2⟩
  clear hv
  go_wp2_with fail
  refine wp_region_ext_tail 9 [] trivial (by kernel_rfl) (by kernel_rfl) ?_
  refine zgc 1 ?_
  go_frame
  refine zgc 2 ?_
  go_frame
  refine zgc 3 ?_
  go_frame
  refine zgc 4 ?_
  go_frame
  refine wpG_read 5 rfl rfl (.slice (some ⟨g, 0, none⟩) L.length cL) rfl ?_ ?_
  ·intro u hu hh
   have q := (HX.out u hu).2
   go_simp
  go_frame
  refine zgc 6 ?_
  go_frame
  refine wpG_read 7 rfl rfl (.int .i64 (i : Int)) rfl ?_ ?_
  ·intro u hu hh
   have q := (HX.out u hu).1
   go_simp
  go_frame
  refine zgc 8 ?_
  go_frame
  refine wpG_calc (v := .pointer (some ⟨g, i, none⟩)) 9 rfl rfl rfl (fun u => by first | (go_simp; done) | (go_simp; rfl) | (go_simp; omega)) ?_
  go_frame
  refine wpG_nil fun w' hb' hF => ?_
  have HS3 := hid (HS2.out.later hb')
  clear hb' hF HX
  obtain ⟨g2, cap2, hv, hfr, hcl, hst, _⟩ := HS3.out.st.setL HLT.out k1
  obtain ⟨rfl, rfl⟩ : g = g2 ∧ cL = cap2 := by injection hv with q1 _ q2; exact ⟨by injection (Option.some.inj q1), q2⟩
  have HS4 := hid hst
  have HO4 := hid (HS3.out.oth.trans (oth_of HS3.out.st (Keeps.set w' g i (.string k1)) (fun k hk => .inr (.inr (by rw [hk]; rfl)))))
  clear hv hst
  go_wp2_with fail
  go_end0
  exact pln_some HZ1.out HS4.out HO4.out
theorem spl_6 {w0 w : World} {B b : Nat} {W : WL} {fr gv : ByteArray} {vL vS : Value} {L S : List ByteArray} (a b2 : Int) (t c n : ByteArray)  (h : ST w0 w B b W fr gv vL vS L S) (hr : RightS W S) :
  Calls Tryz.prog 202 #[.pointer (some ⟨B, 0, none⟩), .agg #[.int .i64 6, .int .i64 a, .int .i64 b2, .string t, .string c, .string n]] w (PlnBy w0 w B b W fr gv (afterF W fr gv ⟨6, a, b2, t, c, n⟩ ⟨L, S⟩)) := by
 obtain ⟨Z, hZ⟩ : ∃ Z, afterF W fr gv ⟨6, a, b2, t, c, n⟩ ⟨L, S⟩ = Z := ⟨_, rfl⟩
 rw [hZ]
 have HZ : Hid (Z = ((popS S).map (·.2)).map (fun S => (⟨L, S⟩ : Fr))) := hid (by rw [← hZ]; try rfl)
 obtain ⟨bx, hbx⟩ : ∃ bx, w.heap.size = bx := ⟨_, rfl⟩
 obtain ⟨W1, hW1⟩ : ∃ W1, w.alloc (.cells #[.int .i64 6, .int .i64 a, .int .i64 b2, .string t, .string c, .string n] 56) = W1 := ⟨_, rfl⟩
 have HS0 : Hid (SX w0 w W1 B b W fr gv vL vS L S bx ⟨6, a, b2, t, c, n⟩) := hid (by rw [← hW1, ← hbx]; exact SX.box ⟨6, a, b2, t, c, n⟩ h)
 obtain ⟨y0, y1, y2, y3, y4, y5⟩ := HS0.out.at_
 obtain ⟨x0, x1, x2, x3, x4⟩ := HS0.out.st.cells
 have HR0 := hid hr
 clear hZ h hr
 go_enter Tryz.func202, Tryz.ntmps202
 go_wp2_with fail
 refine (ppop_any HS0.out).mono ?_
 intro e w1 h1
 cases hc : popS S with
 | none =>
  rw [hc] at h1
  obtain ⟨rfl, hb1⟩ := h1
  exact ⟨rfl, pln_none (by rw [HZ.out, hc]; rfl) hb1⟩
 | some p1 =>
  obtain ⟨k1, S1⟩ := p1
  rw [hc] at h1
  obtain ⟨rfl, vS1, hs1⟩ := h1
  clear hW1 y0 y1 y2 y3 y4 y5
  obtain ⟨y0, y1, y2, y3, y4, y5⟩ := hs1.at_
  have HZ1 : Hid (Z = some (⟨L, S1⟩ : Fr)) := hid (by rw [HZ.out, hc]; rfl)
  have HS1 := hid hs1
  have HR1 : Hid (RightS W S1) := hid ((HR0.out.pop hc).1)
  have HK1 : Hid (RightK W k1.data.toList) := hid (by first | exact (HR0.out.pop hc).2 | (obtain ⟨e, _⟩ := ref_some hc; exact HR0.out.right _ (by rw [e]; simp)))
  clear hc hs1
  go_wp2_with fail
  go_end0
  exact pln_some HZ1.out HS1.out.st HS1.out.oth
theorem spl_7 {w0 w : World} {B b : Nat} {W : WL} {fr gv : ByteArray} {vL vS : Value} {L S : List ByteArray} (a b2 : Int) (t c n : ByteArray)  (h : ST w0 w B b W fr gv vL vS L S) (hr : RightS W S) :
  Calls Tryz.prog 202 #[.pointer (some ⟨B, 0, none⟩), .agg #[.int .i64 7, .int .i64 a, .int .i64 b2, .string t, .string c, .string n]] w (PlnBy w0 w B b W fr gv (afterF W fr gv ⟨7, a, b2, t, c, n⟩ ⟨L, S⟩)) := by
 obtain ⟨Z, hZ⟩ : ∃ Z, afterF W fr gv ⟨7, a, b2, t, c, n⟩ ⟨L, S⟩ = Z := ⟨_, rfl⟩
 rw [hZ]
 have HZ : Hid (Z = ((popS S).bind fun p => (putS p.2 p.1).bind fun S => putS S p.1).map (fun S => (⟨L, S⟩ : Fr))) := hid (by rw [← hZ]; try rfl)
 obtain ⟨bx, hbx⟩ : ∃ bx, w.heap.size = bx := ⟨_, rfl⟩
 obtain ⟨W1, hW1⟩ : ∃ W1, w.alloc (.cells #[.int .i64 7, .int .i64 a, .int .i64 b2, .string t, .string c, .string n] 56) = W1 := ⟨_, rfl⟩
 have HS0 : Hid (SX w0 w W1 B b W fr gv vL vS L S bx ⟨7, a, b2, t, c, n⟩) := hid (by rw [← hW1, ← hbx]; exact SX.box ⟨7, a, b2, t, c, n⟩ h)
 obtain ⟨y0, y1, y2, y3, y4, y5⟩ := HS0.out.at_
 obtain ⟨x0, x1, x2, x3, x4⟩ := HS0.out.st.cells
 have HR0 := hid hr
 clear hZ h hr
 go_enter Tryz.func202, Tryz.ntmps202
 go_wp2_with fail
 refine (ppop_any HS0.out).mono ?_
 intro e w1 h1
 cases hc : popS S with
 | none =>
  rw [hc] at h1
  obtain ⟨rfl, hb1⟩ := h1
  exact ⟨rfl, pln_none (by rw [HZ.out, hc]; rfl) hb1⟩
 | some p1 =>
  obtain ⟨k1, S1⟩ := p1
  rw [hc] at h1
  obtain ⟨rfl, vS1, hs1⟩ := h1
  clear hW1 y0 y1 y2 y3 y4 y5
  obtain ⟨y0, y1, y2, y3, y4, y5⟩ := hs1.at_
  have HZ1 : Hid (Z = ((putS S1 k1).bind fun S => putS S k1).map (fun S => (⟨L, S⟩ : Fr))) := hid (by rw [HZ.out, hc]; rfl)
  have HS1 := hid hs1
  have HR1 : Hid (RightS W S1) := hid ((HR0.out.pop hc).1)
  have HK1 : Hid (RightK W k1.data.toList) := hid (by first | exact (HR0.out.pop hc).2 | (obtain ⟨e, _⟩ := ref_some hc; exact HR0.out.right _ (by rw [e]; simp)))
  clear hc hs1
  go_wp2_with fail
  refine (pput_any k1 HS1.out).mono ?_
  intro e w2 h2
  cases hc : putS S1 k1 with
  | none =>
   rw [hc] at h2
   obtain ⟨rfl, hb2⟩ := h2
   exact ⟨rfl, pln_none (by rw [HZ1.out, hc]; rfl) hb2⟩
  | some S2 =>
   rw [hc] at h2
   obtain ⟨rfl, vS2, hs2⟩ := h2
   clear y0 y1 y2 y3 y4 y5
   obtain ⟨y0, y1, y2, y3, y4, y5⟩ := hs2.at_
   have HZ2 : Hid (Z = (putS S2 k1).map (fun S => (⟨L, S⟩ : Fr))) := hid (by rw [HZ1.out, hc]; rfl)
   have HS2 := hid hs2
   have HR2 : Hid (RightS W S2) := hid (HR1.out.put (HK1.out) hc)
   clear hc hs2
   go_wp2_with fail
   refine (pput_any k1 HS2.out).mono ?_
   intro e w3 h3
   cases hc : putS S2 k1 with
   | none =>
    rw [hc] at h3
    obtain ⟨rfl, hb3⟩ := h3
    exact ⟨rfl, pln_none (by rw [HZ2.out, hc]; rfl) hb3⟩
   | some S3 =>
    rw [hc] at h3
    obtain ⟨rfl, vS3, hs3⟩ := h3
    clear y0 y1 y2 y3 y4 y5
    obtain ⟨y0, y1, y2, y3, y4, y5⟩ := hs3.at_
    have HZ3 : Hid (Z = some (⟨L, S3⟩ : Fr)) := hid (by rw [HZ2.out, hc]; rfl)
    have HS3 := hid hs3
    have HR3 : Hid (RightS W S3) := hid (HR2.out.put (HK1.out) hc)
    clear hc hs3
    go_wp2_with fail
    go_end0
    exact pln_some HZ3.out HS3.out.st HS3.out.oth
theorem spl_8 {w0 w : World} {B b : Nat} {W : WL} {fr gv : ByteArray} {vL vS : Value} {L S : List ByteArray} (a b2 : Int) (t c n : ByteArray)  (h : ST w0 w B b W fr gv vL vS L S) (hr : RightS W S) :
  Calls Tryz.prog 202 #[.pointer (some ⟨B, 0, none⟩), .agg #[.int .i64 8, .int .i64 a, .int .i64 b2, .string t, .string c, .string n]] w (PlnBy w0 w B b W fr gv (afterF W fr gv ⟨8, a, b2, t, c, n⟩ ⟨L, S⟩)) := by
 obtain ⟨Z, hZ⟩ : ∃ Z, afterF W fr gv ⟨8, a, b2, t, c, n⟩ ⟨L, S⟩ = Z := ⟨_, rfl⟩
 rw [hZ]
 have HZ : Hid (Z = ((popS S).bind fun a => (popS a.2).bind fun b => (putS b.2 a.1).bind fun S => putS S b.1).map (fun S => (⟨L, S⟩ : Fr))) := hid (by rw [← hZ]; try rfl)
 obtain ⟨bx, hbx⟩ : ∃ bx, w.heap.size = bx := ⟨_, rfl⟩
 obtain ⟨W1, hW1⟩ : ∃ W1, w.alloc (.cells #[.int .i64 8, .int .i64 a, .int .i64 b2, .string t, .string c, .string n] 56) = W1 := ⟨_, rfl⟩
 have HS0 : Hid (SX w0 w W1 B b W fr gv vL vS L S bx ⟨8, a, b2, t, c, n⟩) := hid (by rw [← hW1, ← hbx]; exact SX.box ⟨8, a, b2, t, c, n⟩ h)
 obtain ⟨y0, y1, y2, y3, y4, y5⟩ := HS0.out.at_
 obtain ⟨x0, x1, x2, x3, x4⟩ := HS0.out.st.cells
 have HR0 := hid hr
 clear hZ h hr
 go_enter Tryz.func202, Tryz.ntmps202
 go_wp2_with fail
 refine (ppop_any HS0.out).mono ?_
 intro e w1 h1
 cases hc : popS S with
 | none =>
  rw [hc] at h1
  obtain ⟨rfl, hb1⟩ := h1
  exact ⟨rfl, pln_none (by rw [HZ.out, hc]; rfl) hb1⟩
 | some p1 =>
  obtain ⟨k1, S1⟩ := p1
  rw [hc] at h1
  obtain ⟨rfl, vS1, hs1⟩ := h1
  clear hW1 y0 y1 y2 y3 y4 y5
  obtain ⟨y0, y1, y2, y3, y4, y5⟩ := hs1.at_
  have HZ1 : Hid (Z = ((popS S1).bind fun b => (putS b.2 k1).bind fun S => putS S b.1).map (fun S => (⟨L, S⟩ : Fr))) := hid (by rw [HZ.out, hc]; rfl)
  have HS1 := hid hs1
  have HR1 : Hid (RightS W S1) := hid ((HR0.out.pop hc).1)
  have HK1 : Hid (RightK W k1.data.toList) := hid (by first | exact (HR0.out.pop hc).2 | (obtain ⟨e, _⟩ := ref_some hc; exact HR0.out.right _ (by rw [e]; simp)))
  clear hc hs1
  go_wp2_with fail
  refine (ppop_any HS1.out).mono ?_
  intro e w2 h2
  cases hc : popS S1 with
  | none =>
   rw [hc] at h2
   obtain ⟨rfl, hb2⟩ := h2
   exact ⟨rfl, pln_none (by rw [HZ1.out, hc]; rfl) hb2⟩
  | some p2 =>
   obtain ⟨k2, S2⟩ := p2
   rw [hc] at h2
   obtain ⟨rfl, vS2, hs2⟩ := h2
   clear y0 y1 y2 y3 y4 y5
   obtain ⟨y0, y1, y2, y3, y4, y5⟩ := hs2.at_
   have HZ2 : Hid (Z = ((putS S2 k1).bind fun S => putS S k2).map (fun S => (⟨L, S⟩ : Fr))) := hid (by rw [HZ1.out, hc]; rfl)
   have HS2 := hid hs2
   have HR2 : Hid (RightS W S2) := hid ((HR1.out.pop hc).1)
   have HK2 : Hid (RightK W k2.data.toList) := hid (by first | exact (HR1.out.pop hc).2 | (obtain ⟨e, _⟩ := ref_some hc; exact HR1.out.right _ (by rw [e]; simp)))
   clear hc hs2
   go_wp2_with fail
   refine (pput_any k1 HS2.out).mono ?_
   intro e w3 h3
   cases hc : putS S2 k1 with
   | none =>
    rw [hc] at h3
    obtain ⟨rfl, hb3⟩ := h3
    exact ⟨rfl, pln_none (by rw [HZ2.out, hc]; rfl) hb3⟩
   | some S3 =>
    rw [hc] at h3
    obtain ⟨rfl, vS3, hs3⟩ := h3
    clear y0 y1 y2 y3 y4 y5
    obtain ⟨y0, y1, y2, y3, y4, y5⟩ := hs3.at_
    have HZ3 : Hid (Z = (putS S3 k2).map (fun S => (⟨L, S⟩ : Fr))) := hid (by rw [HZ2.out, hc]; rfl)
    have HS3 := hid hs3
    have HR3 : Hid (RightS W S3) := hid (HR2.out.put (HK1.out) hc)
    clear hc hs3
    go_wp2_with fail
    refine (pput_any k2 HS3.out).mono ?_
    intro e w4 h4
    cases hc : putS S3 k2 with
    | none =>
     rw [hc] at h4
     obtain ⟨rfl, hb4⟩ := h4
     exact ⟨rfl, pln_none (by rw [HZ3.out, hc]; rfl) hb4⟩
    | some S4 =>
     rw [hc] at h4
     obtain ⟨rfl, vS4, hs4⟩ := h4
     clear y0 y1 y2 y3 y4 y5
     obtain ⟨y0, y1, y2, y3, y4, y5⟩ := hs4.at_
     have HZ4 : Hid (Z = some (⟨L, S4⟩ : Fr)) := hid (by rw [HZ3.out, hc]; rfl)
     have HS4 := hid hs4
     have HR4 : Hid (RightS W S4) := hid (HR3.out.put (HK2.out) hc)
     clear hc hs4
     go_wp2_with fail
     go_end0
     exact pln_some HZ4.out HS4.out.st HS4.out.oth
theorem spl_9n {w0 w : World} {B b : Nat} {W : WL} {fr gv : ByteArray} {vL vS : Value} {L S : List ByteArray} (a b2 : Int) (t c n : ByteArray) (HT : Hid (isTy t.data.toList = true)) (HP : Hid (RightK W t.data.toList)) (ha : a = 12) (h : ST w0 w B b W fr gv vL vS L S) (hr : RightS W S) :
  Calls Tryz.prog 202 #[.pointer (some ⟨B, 0, none⟩), .agg #[.int .i64 9, .int .i64 a, .int .i64 b2, .string t, .string c, .string n]] w (PlnBy w0 w B b W fr gv (afterF W fr gv ⟨9, a, b2, t, c, n⟩ ⟨L, S⟩)) := by
 obtain ⟨Z, hZ⟩ : ∃ Z, afterF W fr gv ⟨9, a, b2, t, c, n⟩ ⟨L, S⟩ = Z := ⟨_, rfl⟩
 rw [hZ]
 have HZ : Hid (Z = ((takeS W S t).bind fun S => putS S t).map (fun S => (⟨L, S⟩ : Fr))) := hid (by rw [← hZ]; subst ha; rfl)
 obtain ⟨bx, hbx⟩ : ∃ bx, w.heap.size = bx := ⟨_, rfl⟩
 obtain ⟨W1, hW1⟩ : ∃ W1, w.alloc (.cells #[.int .i64 9, .int .i64 a, .int .i64 b2, .string t, .string c, .string n] 56) = W1 := ⟨_, rfl⟩
 have HS0 : Hid (SX w0 w W1 B b W fr gv vL vS L S bx ⟨9, a, b2, t, c, n⟩) := hid (by rw [← hW1, ← hbx]; exact SX.box ⟨9, a, b2, t, c, n⟩ h)
 obtain ⟨y0, y1, y2, y3, y4, y5⟩ := HS0.out.at_
 obtain ⟨x0, x1, x2, x3, x4⟩ := HS0.out.st.cells
 have HR0 := hid hr
 clear hZ h hr
 subst ha
 go_enter Tryz.func202, Tryz.ntmps202
 go_wp2_with fail
 refine (ptake_any t (HT.out) HS0.out HR0.out).mono ?_
 intro e w1 h1
 cases hc : takeS W S t with
 | none =>
  rw [hc] at h1
  obtain ⟨rfl, hb1⟩ := h1
  exact ⟨rfl, pln_none (by rw [HZ.out, hc]; rfl) hb1⟩
 | some S1 =>
  rw [hc] at h1
  obtain ⟨rfl, vS1, hs1⟩ := h1
  clear hW1 y0 y1 y2 y3 y4 y5
  obtain ⟨y0, y1, y2, y3, y4, y5⟩ := hs1.at_
  have HZ1 : Hid (Z = (putS S1 t).map (fun S => (⟨L, S⟩ : Fr))) := hid (by rw [HZ.out, hc]; rfl)
  have HS1 := hid hs1
  have HR1 : Hid (RightS W S1) := hid (HR0.out.take hc)
  clear hc hs1
  go_wp2_with fail
  refine (pput_any t HS1.out).mono ?_
  intro e w2 h2
  cases hc : putS S1 t with
  | none =>
   rw [hc] at h2
   obtain ⟨rfl, hb2⟩ := h2
   exact ⟨rfl, pln_none (by rw [HZ1.out, hc]; rfl) hb2⟩
  | some S2 =>
   rw [hc] at h2
   obtain ⟨rfl, vS2, hs2⟩ := h2
   clear y0 y1 y2 y3 y4 y5
   obtain ⟨y0, y1, y2, y3, y4, y5⟩ := hs2.at_
   have HZ2 : Hid (Z = some (⟨L, S2⟩ : Fr)) := hid (by rw [HZ1.out, hc]; rfl)
   have HS2 := hid hs2
   have HR2 : Hid (RightS W S2) := hid (HR1.out.put (HP.out) hc)
   clear hc hs2
   go_wp2_with fail
   go_end0
   exact pln_some HZ2.out HS2.out.st HS2.out.oth
theorem spl_9s {w0 w : World} {B b : Nat} {W : WL} {fr gv : ByteArray} {vL vS : Value} {L S : List ByteArray} (a b2 : Int) (t c n : ByteArray) (HT : Hid (isTy t.data.toList = true)) (HP : Hid (RightK W t.data.toList)) (ha : a = 9 ∨ a = 10 ∨ a = 11) (h : ST w0 w B b W fr gv vL vS L S) (hr : RightS W S) :
  Calls Tryz.prog 202 #[.pointer (some ⟨B, 0, none⟩), .agg #[.int .i64 9, .int .i64 a, .int .i64 b2, .string t, .string c, .string n]] w (PlnBy w0 w B b W fr gv (afterF W fr gv ⟨9, a, b2, t, c, n⟩ ⟨L, S⟩)) := by
 obtain ⟨Z, hZ⟩ : ∃ Z, afterF W fr gv ⟨9, a, b2, t, c, n⟩ ⟨L, S⟩ = Z := ⟨_, rfl⟩
 rw [hZ]
 have HZ : Hid (Z = ((takeS W S tI).bind fun S => (takeS W S t).bind fun S => putS S t).map (fun S => (⟨L, S⟩ : Fr))) := hid (by rw [← hZ]; rcases ha with rfl | rfl | rfl <;> rfl)
 obtain ⟨bx, hbx⟩ : ∃ bx, w.heap.size = bx := ⟨_, rfl⟩
 obtain ⟨W1, hW1⟩ : ∃ W1, w.alloc (.cells #[.int .i64 9, .int .i64 a, .int .i64 b2, .string t, .string c, .string n] 56) = W1 := ⟨_, rfl⟩
 have HS0 : Hid (SX w0 w W1 B b W fr gv vL vS L S bx ⟨9, a, b2, t, c, n⟩) := hid (by rw [← hW1, ← hbx]; exact SX.box ⟨9, a, b2, t, c, n⟩ h)
 obtain ⟨y0, y1, y2, y3, y4, y5⟩ := HS0.out.at_
 obtain ⟨x0, x1, x2, x3, x4⟩ := HS0.out.st.cells
 have HR0 := hid hr
 clear hZ h hr
 rcases ha with rfl | rfl | rfl
 ·go_enter Tryz.func202, Tryz.ntmps202
  go_wp2_with fail
  refine (ptake_any tI (ty_I) HS0.out HR0.out).mono ?_
  intro e w1 h1
  cases hc : takeS W S tI with
  | none =>
   rw [hc] at h1
   obtain ⟨rfl, hb1⟩ := h1
   exact ⟨rfl, pln_none (by rw [HZ.out, hc]; rfl) hb1⟩
  | some S1 =>
   rw [hc] at h1
   obtain ⟨rfl, vS1, hs1⟩ := h1
   clear hW1 y0 y1 y2 y3 y4 y5
   obtain ⟨y0, y1, y2, y3, y4, y5⟩ := hs1.at_
   have HZ1 : Hid (Z = ((takeS W S1 t).bind fun S => putS S t).map (fun S => (⟨L, S⟩ : Fr))) := hid (by rw [HZ.out, hc]; rfl)
   have HS1 := hid hs1
   have HR1 : Hid (RightS W S1) := hid (HR0.out.take hc)
   clear hc hs1
   go_wp2_with fail
   refine (ptake_any t (HT.out) HS1.out HR1.out).mono ?_
   intro e w2 h2
   cases hc : takeS W S1 t with
   | none =>
    rw [hc] at h2
    obtain ⟨rfl, hb2⟩ := h2
    exact ⟨rfl, pln_none (by rw [HZ1.out, hc]; rfl) hb2⟩
   | some S2 =>
    rw [hc] at h2
    obtain ⟨rfl, vS2, hs2⟩ := h2
    clear y0 y1 y2 y3 y4 y5
    obtain ⟨y0, y1, y2, y3, y4, y5⟩ := hs2.at_
    have HZ2 : Hid (Z = (putS S2 t).map (fun S => (⟨L, S⟩ : Fr))) := hid (by rw [HZ1.out, hc]; rfl)
    have HS2 := hid hs2
    have HR2 : Hid (RightS W S2) := hid (HR1.out.take hc)
    clear hc hs2
    go_wp2_with fail
    refine (pput_any t HS2.out).mono ?_
    intro e w3 h3
    cases hc : putS S2 t with
    | none =>
     rw [hc] at h3
     obtain ⟨rfl, hb3⟩ := h3
     exact ⟨rfl, pln_none (by rw [HZ2.out, hc]; rfl) hb3⟩
    | some S3 =>
     rw [hc] at h3
     obtain ⟨rfl, vS3, hs3⟩ := h3
     clear y0 y1 y2 y3 y4 y5
     obtain ⟨y0, y1, y2, y3, y4, y5⟩ := hs3.at_
     have HZ3 : Hid (Z = some (⟨L, S3⟩ : Fr)) := hid (by rw [HZ2.out, hc]; rfl)
     have HS3 := hid hs3
     have HR3 : Hid (RightS W S3) := hid (HR2.out.put (HP.out) hc)
     clear hc hs3
     go_wp2_with fail
     go_end0
     exact pln_some HZ3.out HS3.out.st HS3.out.oth
 ·go_enter Tryz.func202, Tryz.ntmps202
  go_wp2_with fail
  refine (ptake_any tI (ty_I) HS0.out HR0.out).mono ?_
  intro e w1 h1
  cases hc : takeS W S tI with
  | none =>
   rw [hc] at h1
   obtain ⟨rfl, hb1⟩ := h1
   exact ⟨rfl, pln_none (by rw [HZ.out, hc]; rfl) hb1⟩
  | some S1 =>
   rw [hc] at h1
   obtain ⟨rfl, vS1, hs1⟩ := h1
   clear hW1 y0 y1 y2 y3 y4 y5
   obtain ⟨y0, y1, y2, y3, y4, y5⟩ := hs1.at_
   have HZ1 : Hid (Z = ((takeS W S1 t).bind fun S => putS S t).map (fun S => (⟨L, S⟩ : Fr))) := hid (by rw [HZ.out, hc]; rfl)
   have HS1 := hid hs1
   have HR1 : Hid (RightS W S1) := hid (HR0.out.take hc)
   clear hc hs1
   go_wp2_with fail
   refine (ptake_any t (HT.out) HS1.out HR1.out).mono ?_
   intro e w2 h2
   cases hc : takeS W S1 t with
   | none =>
    rw [hc] at h2
    obtain ⟨rfl, hb2⟩ := h2
    exact ⟨rfl, pln_none (by rw [HZ1.out, hc]; rfl) hb2⟩
   | some S2 =>
    rw [hc] at h2
    obtain ⟨rfl, vS2, hs2⟩ := h2
    clear y0 y1 y2 y3 y4 y5
    obtain ⟨y0, y1, y2, y3, y4, y5⟩ := hs2.at_
    have HZ2 : Hid (Z = (putS S2 t).map (fun S => (⟨L, S⟩ : Fr))) := hid (by rw [HZ1.out, hc]; rfl)
    have HS2 := hid hs2
    have HR2 : Hid (RightS W S2) := hid (HR1.out.take hc)
    clear hc hs2
    go_wp2_with fail
    refine (pput_any t HS2.out).mono ?_
    intro e w3 h3
    cases hc : putS S2 t with
    | none =>
     rw [hc] at h3
     obtain ⟨rfl, hb3⟩ := h3
     exact ⟨rfl, pln_none (by rw [HZ2.out, hc]; rfl) hb3⟩
    | some S3 =>
     rw [hc] at h3
     obtain ⟨rfl, vS3, hs3⟩ := h3
     clear y0 y1 y2 y3 y4 y5
     obtain ⟨y0, y1, y2, y3, y4, y5⟩ := hs3.at_
     have HZ3 : Hid (Z = some (⟨L, S3⟩ : Fr)) := hid (by rw [HZ2.out, hc]; rfl)
     have HS3 := hid hs3
     have HR3 : Hid (RightS W S3) := hid (HR2.out.put (HP.out) hc)
     clear hc hs3
     go_wp2_with fail
     go_end0
     exact pln_some HZ3.out HS3.out.st HS3.out.oth
 ·go_enter Tryz.func202, Tryz.ntmps202
  go_wp2_with fail
  refine (ptake_any tI (ty_I) HS0.out HR0.out).mono ?_
  intro e w1 h1
  cases hc : takeS W S tI with
  | none =>
   rw [hc] at h1
   obtain ⟨rfl, hb1⟩ := h1
   exact ⟨rfl, pln_none (by rw [HZ.out, hc]; rfl) hb1⟩
  | some S1 =>
   rw [hc] at h1
   obtain ⟨rfl, vS1, hs1⟩ := h1
   clear hW1 y0 y1 y2 y3 y4 y5
   obtain ⟨y0, y1, y2, y3, y4, y5⟩ := hs1.at_
   have HZ1 : Hid (Z = ((takeS W S1 t).bind fun S => putS S t).map (fun S => (⟨L, S⟩ : Fr))) := hid (by rw [HZ.out, hc]; rfl)
   have HS1 := hid hs1
   have HR1 : Hid (RightS W S1) := hid (HR0.out.take hc)
   clear hc hs1
   go_wp2_with fail
   refine (ptake_any t (HT.out) HS1.out HR1.out).mono ?_
   intro e w2 h2
   cases hc : takeS W S1 t with
   | none =>
    rw [hc] at h2
    obtain ⟨rfl, hb2⟩ := h2
    exact ⟨rfl, pln_none (by rw [HZ1.out, hc]; rfl) hb2⟩
   | some S2 =>
    rw [hc] at h2
    obtain ⟨rfl, vS2, hs2⟩ := h2
    clear y0 y1 y2 y3 y4 y5
    obtain ⟨y0, y1, y2, y3, y4, y5⟩ := hs2.at_
    have HZ2 : Hid (Z = (putS S2 t).map (fun S => (⟨L, S⟩ : Fr))) := hid (by rw [HZ1.out, hc]; rfl)
    have HS2 := hid hs2
    have HR2 : Hid (RightS W S2) := hid (HR1.out.take hc)
    clear hc hs2
    go_wp2_with fail
    refine (pput_any t HS2.out).mono ?_
    intro e w3 h3
    cases hc : putS S2 t with
    | none =>
     rw [hc] at h3
     obtain ⟨rfl, hb3⟩ := h3
     exact ⟨rfl, pln_none (by rw [HZ2.out, hc]; rfl) hb3⟩
    | some S3 =>
     rw [hc] at h3
     obtain ⟨rfl, vS3, hs3⟩ := h3
     clear y0 y1 y2 y3 y4 y5
     obtain ⟨y0, y1, y2, y3, y4, y5⟩ := hs3.at_
     have HZ3 : Hid (Z = some (⟨L, S3⟩ : Fr)) := hid (by rw [HZ2.out, hc]; rfl)
     have HS3 := hid hs3
     have HR3 : Hid (RightS W S3) := hid (HR2.out.put (HP.out) hc)
     clear hc hs3
     go_wp2_with fail
     go_end0
     exact pln_some HZ3.out HS3.out.st HS3.out.oth
theorem spl_9o {w0 w : World} {B b : Nat} {W : WL} {fr gv : ByteArray} {vL vS : Value} {L S : List ByteArray} (a b2 : Int) (t c n : ByteArray) (HT : Hid (isTy t.data.toList = true)) (HP : Hid (RightK W t.data.toList)) (ha : ¬ a = 12 ∧ ¬ a = 9 ∧ ¬ a = 10 ∧ ¬ a = 11) (h : ST w0 w B b W fr gv vL vS L S) (hr : RightS W S) :
  Calls Tryz.prog 202 #[.pointer (some ⟨B, 0, none⟩), .agg #[.int .i64 9, .int .i64 a, .int .i64 b2, .string t, .string c, .string n]] w (PlnBy w0 w B b W fr gv (afterF W fr gv ⟨9, a, b2, t, c, n⟩ ⟨L, S⟩)) := by
 obtain ⟨Z, hZ⟩ : ∃ Z, afterF W fr gv ⟨9, a, b2, t, c, n⟩ ⟨L, S⟩ = Z := ⟨_, rfl⟩
 rw [hZ]
 have HZ : Hid (Z = ((takeS W S t).bind fun S => (takeS W S t).bind fun S => putS S t).map (fun S => (⟨L, S⟩ : Fr))) := hid (by rw [← hZ]; show ((if a = 12 then some S else if a = 9 ∨ a = 10 ∨ a = 11 then takeS W S tI else takeS W S t).bind fun S => (takeS W S t).bind fun S => putS S t).map (fun S => (⟨L, S⟩ : Fr)) = _; rw [if_neg ha.1, if_neg (fun e => by rcases e with e | e | e <;> simp [e] at ha)])
 obtain ⟨bx, hbx⟩ : ∃ bx, w.heap.size = bx := ⟨_, rfl⟩
 obtain ⟨W1, hW1⟩ : ∃ W1, w.alloc (.cells #[.int .i64 9, .int .i64 a, .int .i64 b2, .string t, .string c, .string n] 56) = W1 := ⟨_, rfl⟩
 have HS0 : Hid (SX w0 w W1 B b W fr gv vL vS L S bx ⟨9, a, b2, t, c, n⟩) := hid (by rw [← hW1, ← hbx]; exact SX.box ⟨9, a, b2, t, c, n⟩ h)
 obtain ⟨y0, y1, y2, y3, y4, y5⟩ := HS0.out.at_
 obtain ⟨x0, x1, x2, x3, x4⟩ := HS0.out.st.cells
 have HR0 := hid hr
 clear hZ h hr
 obtain ⟨a1, a2, a3, a4⟩ := ha
 go_enter Tryz.func202, Tryz.ntmps202
 go_wp2_with fail
 refine (ptake_any t (HT.out) HS0.out HR0.out).mono ?_
 intro e w1 h1
 cases hc : takeS W S t with
 | none =>
  rw [hc] at h1
  obtain ⟨rfl, hb1⟩ := h1
  exact ⟨rfl, pln_none (by rw [HZ.out, hc]; rfl) hb1⟩
 | some S1 =>
  rw [hc] at h1
  obtain ⟨rfl, vS1, hs1⟩ := h1
  clear hW1 y0 y1 y2 y3 y4 y5
  obtain ⟨y0, y1, y2, y3, y4, y5⟩ := hs1.at_
  have HZ1 : Hid (Z = ((takeS W S1 t).bind fun S => putS S t).map (fun S => (⟨L, S⟩ : Fr))) := hid (by rw [HZ.out, hc]; rfl)
  have HS1 := hid hs1
  have HR1 : Hid (RightS W S1) := hid (HR0.out.take hc)
  clear hc hs1
  go_wp2_with fail
  refine (ptake_any t (HT.out) HS1.out HR1.out).mono ?_
  intro e w2 h2
  cases hc : takeS W S1 t with
  | none =>
   rw [hc] at h2
   obtain ⟨rfl, hb2⟩ := h2
   exact ⟨rfl, pln_none (by rw [HZ1.out, hc]; rfl) hb2⟩
  | some S2 =>
   rw [hc] at h2
   obtain ⟨rfl, vS2, hs2⟩ := h2
   clear y0 y1 y2 y3 y4 y5
   obtain ⟨y0, y1, y2, y3, y4, y5⟩ := hs2.at_
   have HZ2 : Hid (Z = (putS S2 t).map (fun S => (⟨L, S⟩ : Fr))) := hid (by rw [HZ1.out, hc]; rfl)
   have HS2 := hid hs2
   have HR2 : Hid (RightS W S2) := hid (HR1.out.take hc)
   clear hc hs2
   go_wp2_with fail
   refine (pput_any t HS2.out).mono ?_
   intro e w3 h3
   cases hc : putS S2 t with
   | none =>
    rw [hc] at h3
    obtain ⟨rfl, hb3⟩ := h3
    exact ⟨rfl, pln_none (by rw [HZ2.out, hc]; rfl) hb3⟩
   | some S3 =>
    rw [hc] at h3
    obtain ⟨rfl, vS3, hs3⟩ := h3
    clear y0 y1 y2 y3 y4 y5
    obtain ⟨y0, y1, y2, y3, y4, y5⟩ := hs3.at_
    have HZ3 : Hid (Z = some (⟨L, S3⟩ : Fr)) := hid (by rw [HZ2.out, hc]; rfl)
    have HS3 := hid hs3
    have HR3 : Hid (RightS W S3) := hid (HR2.out.put (HP.out) hc)
    clear hc hs3
    go_wp2_with fail
    go_end0
    exact pln_some HZ3.out HS3.out.st HS3.out.oth
theorem spl_10 {w0 w : World} {B b : Nat} {W : WL} {fr gv : ByteArray} {vL vS : Value} {L S : List ByteArray} (a b2 : Int) (t c n : ByteArray) (HP : Hid (RightK W t.data.toList)) (h : ST w0 w B b W fr gv vL vS L S) (hr : RightS W S) :
  Calls Tryz.prog 202 #[.pointer (some ⟨B, 0, none⟩), .agg #[.int .i64 10, .int .i64 a, .int .i64 b2, .string t, .string c, .string n]] w (PlnBy w0 w B b W fr gv (afterF W fr gv ⟨10, a, b2, t, c, n⟩ ⟨L, S⟩)) := by
 obtain ⟨Z, hZ⟩ : ∃ Z, afterF W fr gv ⟨10, a, b2, t, c, n⟩ ⟨L, S⟩ = Z := ⟨_, rfl⟩
 rw [hZ]
 have HZ : Hid (Z = ((takeS W S (otherT t)).bind fun S => putS S t).map (fun S => (⟨L, S⟩ : Fr))) := hid (by rw [← hZ]; try rfl)
 obtain ⟨bx, hbx⟩ : ∃ bx, w.heap.size = bx := ⟨_, rfl⟩
 obtain ⟨W1, hW1⟩ : ∃ W1, w.alloc (.cells #[.int .i64 10, .int .i64 a, .int .i64 b2, .string t, .string c, .string n] 56) = W1 := ⟨_, rfl⟩
 have HS0 : Hid (SX w0 w W1 B b W fr gv vL vS L S bx ⟨10, a, b2, t, c, n⟩) := hid (by rw [← hW1, ← hbx]; exact SX.box ⟨10, a, b2, t, c, n⟩ h)
 obtain ⟨y0, y1, y2, y3, y4, y5⟩ := HS0.out.at_
 obtain ⟨x0, x1, x2, x3, x4⟩ := HS0.out.st.cells
 have HR0 := hid hr
 clear hZ h hr
 have HOT := hid (other_any t)
 have HTO : Hid (isTy (otherT t).data.toList = true) := hid (by unfold otherT; split; exact ty_J; exact ty_I)
 generalize otherT t = u at HZ HOT HTO
 go_enter Tryz.func202, Tryz.ntmps202
 go_wp2_with fail
 refine (HOT.out _).mono ?_
 rintro e w9 ⟨rfl, rfl⟩
 go_wp2_with fail
 refine (ptake_any u (HTO.out) HS0.out HR0.out).mono ?_
 intro e w1 h1
 cases hc : takeS W S u with
 | none =>
  rw [hc] at h1
  obtain ⟨rfl, hb1⟩ := h1
  exact ⟨rfl, pln_none (by rw [HZ.out, hc]; rfl) hb1⟩
 | some S1 =>
  rw [hc] at h1
  obtain ⟨rfl, vS1, hs1⟩ := h1
  clear hW1 y0 y1 y2 y3 y4 y5
  obtain ⟨y0, y1, y2, y3, y4, y5⟩ := hs1.at_
  have HZ1 : Hid (Z = (putS S1 t).map (fun S => (⟨L, S⟩ : Fr))) := hid (by rw [HZ.out, hc]; rfl)
  have HS1 := hid hs1
  have HR1 : Hid (RightS W S1) := hid (HR0.out.take hc)
  clear hc hs1
  go_wp2_with fail
  refine (pput_any t HS1.out).mono ?_
  intro e w2 h2
  cases hc : putS S1 t with
  | none =>
   rw [hc] at h2
   obtain ⟨rfl, hb2⟩ := h2
   exact ⟨rfl, pln_none (by rw [HZ1.out, hc]; rfl) hb2⟩
  | some S2 =>
   rw [hc] at h2
   obtain ⟨rfl, vS2, hs2⟩ := h2
   clear y0 y1 y2 y3 y4 y5
   obtain ⟨y0, y1, y2, y3, y4, y5⟩ := hs2.at_
   have HZ2 : Hid (Z = some (⟨L, S2⟩ : Fr)) := hid (by rw [HZ1.out, hc]; rfl)
   have HS2 := hid hs2
   have HR2 : Hid (RightS W S2) := hid (HR1.out.put (HP.out) hc)
   clear hc hs2
   go_wp2_with fail
   go_end0
   exact pln_some HZ2.out HS2.out.st HS2.out.oth
theorem spl_11 {w0 w : World} {B b : Nat} {W : WL} {fr gv : ByteArray} {vL vS : Value} {L S : List ByteArray} (a b2 : Int) (t c n : ByteArray)  (h : ST w0 w B b W fr gv vL vS L S) (hr : RightS W S) :
  Calls Tryz.prog 202 #[.pointer (some ⟨B, 0, none⟩), .agg #[.int .i64 11, .int .i64 a, .int .i64 b2, .string t, .string c, .string n]] w (PlnBy w0 w B b W fr gv (afterF W fr gv ⟨11, a, b2, t, c, n⟩ ⟨L, S⟩)) := by
 obtain ⟨Z, hZ⟩ : ∃ Z, afterF W fr gv ⟨11, a, b2, t, c, n⟩ ⟨L, S⟩ = Z := ⟨_, rfl⟩
 rw [hZ]
 have HZ : Hid (Z = ((takesS W [tJ, tJ] S).bind fun S => putS S tI).map (fun S => (⟨L, S⟩ : Fr))) := hid (by rw [← hZ]; try rfl)
 obtain ⟨bx, hbx⟩ : ∃ bx, w.heap.size = bx := ⟨_, rfl⟩
 obtain ⟨W1, hW1⟩ : ∃ W1, w.alloc (.cells #[.int .i64 11, .int .i64 a, .int .i64 b2, .string t, .string c, .string n] 56) = W1 := ⟨_, rfl⟩
 have HS0 : Hid (SX w0 w W1 B b W fr gv vL vS L S bx ⟨11, a, b2, t, c, n⟩) := hid (by rw [← hW1, ← hbx]; exact SX.box ⟨11, a, b2, t, c, n⟩ h)
 obtain ⟨y0, y1, y2, y3, y4, y5⟩ := HS0.out.at_
 obtain ⟨x0, x1, x2, x3, x4⟩ := HS0.out.st.cells
 have HR0 := hid hr
 clear hZ h hr
 go_enter Tryz.func202, Tryz.ntmps202
 go_wp2_with fail
 refine (ptake2_any tJ tJ ty_J ty_J HS0.out HR0.out).mono ?_
 intro e w1 h1
 cases hc : takesS W [tJ, tJ] S with
 | none =>
  rw [hc] at h1
  obtain ⟨rfl, hb1⟩ := h1
  exact ⟨rfl, pln_none (by rw [HZ.out, hc]; rfl) hb1⟩
 | some S1 =>
  rw [hc] at h1
  obtain ⟨rfl, vS1, hs1⟩ := h1
  clear hW1 y0 y1 y2 y3 y4 y5
  obtain ⟨y0, y1, y2, y3, y4, y5⟩ := hs1.at_
  have HZ1 : Hid (Z = (putS S1 tI).map (fun S => (⟨L, S⟩ : Fr))) := hid (by rw [HZ.out, hc]; rfl)
  have HS1 := hid hs1
  have HR1 : Hid (RightS W S1) := hid (HR0.out.takes hc)
  clear hc hs1
  go_wp2_with fail
  refine (pput_any tI HS1.out).mono ?_
  intro e w2 h2
  cases hc : putS S1 tI with
  | none =>
   rw [hc] at h2
   obtain ⟨rfl, hb2⟩ := h2
   exact ⟨rfl, pln_none (by rw [HZ1.out, hc]; rfl) hb2⟩
  | some S2 =>
   rw [hc] at h2
   obtain ⟨rfl, vS2, hs2⟩ := h2
   clear y0 y1 y2 y3 y4 y5
   obtain ⟨y0, y1, y2, y3, y4, y5⟩ := hs2.at_
   have HZ2 : Hid (Z = some (⟨L, S2⟩ : Fr)) := hid (by rw [HZ1.out, hc]; rfl)
   have HS2 := hid hs2
   have HR2 : Hid (RightS W S2) := hid (HR1.out.put (right_I W) hc)
   clear hc hs2
   go_wp2_with fail
   go_end0
   exact pln_some HZ2.out HS2.out.st HS2.out.oth
theorem spl_12 {w0 w : World} {B b : Nat} {W : WL} {fr gv : ByteArray} {vL vS : Value} {L S : List ByteArray} (a b2 : Int) (t c n : ByteArray)  (h : ST w0 w B b W fr gv vL vS L S) (hr : RightS W S) :
  Calls Tryz.prog 202 #[.pointer (some ⟨B, 0, none⟩), .agg #[.int .i64 12, .int .i64 a, .int .i64 b2, .string t, .string c, .string n]] w (PlnBy w0 w B b W fr gv (afterF W fr gv ⟨12, a, b2, t, c, n⟩ ⟨L, S⟩)) := by
 obtain ⟨Z, hZ⟩ : ∃ Z, afterF W fr gv ⟨12, a, b2, t, c, n⟩ ⟨L, S⟩ = Z := ⟨_, rfl⟩
 rw [hZ]
 have HZ : Hid (Z = (takeS W S tI).map (fun S => (⟨L, S⟩ : Fr))) := hid (by rw [← hZ]; try rfl)
 obtain ⟨bx, hbx⟩ : ∃ bx, w.heap.size = bx := ⟨_, rfl⟩
 obtain ⟨W1, hW1⟩ : ∃ W1, w.alloc (.cells #[.int .i64 12, .int .i64 a, .int .i64 b2, .string t, .string c, .string n] 56) = W1 := ⟨_, rfl⟩
 have HS0 : Hid (SX w0 w W1 B b W fr gv vL vS L S bx ⟨12, a, b2, t, c, n⟩) := hid (by rw [← hW1, ← hbx]; exact SX.box ⟨12, a, b2, t, c, n⟩ h)
 obtain ⟨y0, y1, y2, y3, y4, y5⟩ := HS0.out.at_
 obtain ⟨x0, x1, x2, x3, x4⟩ := HS0.out.st.cells
 have HR0 := hid hr
 clear hZ h hr
 go_enter Tryz.func202, Tryz.ntmps202
 go_wp2_with fail
 refine (ptake_any tI (ty_I) HS0.out HR0.out).mono ?_
 intro e w1 h1
 cases hc : takeS W S tI with
 | none =>
  rw [hc] at h1
  obtain ⟨rfl, hb1⟩ := h1
  exact ⟨rfl, pln_none (by rw [HZ.out, hc]; rfl) hb1⟩
 | some S1 =>
  rw [hc] at h1
  obtain ⟨rfl, vS1, hs1⟩ := h1
  clear hW1 y0 y1 y2 y3 y4 y5
  obtain ⟨y0, y1, y2, y3, y4, y5⟩ := hs1.at_
  have HZ1 : Hid (Z = some (⟨L, S1⟩ : Fr)) := hid (by rw [HZ.out, hc]; rfl)
  have HS1 := hid hs1
  have HR1 : Hid (RightS W S1) := hid (HR0.out.take hc)
  clear hc hs1
  go_wp2_with fail
  go_end0
  exact pln_some HZ1.out HS1.out.st HS1.out.oth
theorem spl_13 {w0 w : World} {B b : Nat} {W : WL} {fr gv : ByteArray} {vL vS : Value} {L S : List ByteArray} (a b2 : Int) (t c n : ByteArray)  (h : ST w0 w B b W fr gv vL vS L S) (hr : RightS W S) :
  Calls Tryz.prog 202 #[.pointer (some ⟨B, 0, none⟩), .agg #[.int .i64 13, .int .i64 a, .int .i64 b2, .string t, .string c, .string n]] w (PlnBy w0 w B b W fr gv (afterF W fr gv ⟨13, a, b2, t, c, n⟩ ⟨L, S⟩)) := by
 obtain ⟨Z, hZ⟩ : ∃ Z, afterF W fr gv ⟨13, a, b2, t, c, n⟩ ⟨L, S⟩ = Z := ⟨_, rfl⟩
 rw [hZ]
 have HZ : Hid (Z = ((refS S).map (·.2)).map (fun S => (⟨L, S⟩ : Fr))) := hid (by rw [← hZ]; try rfl)
 obtain ⟨bx, hbx⟩ : ∃ bx, w.heap.size = bx := ⟨_, rfl⟩
 obtain ⟨W1, hW1⟩ : ∃ W1, w.alloc (.cells #[.int .i64 13, .int .i64 a, .int .i64 b2, .string t, .string c, .string n] 56) = W1 := ⟨_, rfl⟩
 have HS0 : Hid (SX w0 w W1 B b W fr gv vL vS L S bx ⟨13, a, b2, t, c, n⟩) := hid (by rw [← hW1, ← hbx]; exact SX.box ⟨13, a, b2, t, c, n⟩ h)
 obtain ⟨y0, y1, y2, y3, y4, y5⟩ := HS0.out.at_
 obtain ⟨x0, x1, x2, x3, x4⟩ := HS0.out.st.cells
 have HR0 := hid hr
 clear hZ h hr
 go_enter Tryz.func202, Tryz.ntmps202
 go_wp2_with fail
 refine (pref_any HS0.out).mono ?_
 intro e w1 h1
 cases hc : refS S with
 | none =>
  rw [hc] at h1
  obtain ⟨rfl, hb1⟩ := h1
  exact ⟨rfl, pln_none (by rw [HZ.out, hc]; rfl) hb1⟩
 | some p1 =>
  obtain ⟨k1, S1⟩ := p1
  rw [hc] at h1
  obtain ⟨rfl, vS1, hs1⟩ := h1
  clear hW1 y0 y1 y2 y3 y4 y5
  obtain ⟨y0, y1, y2, y3, y4, y5⟩ := hs1.at_
  have HZ1 : Hid (Z = some (⟨L, S1⟩ : Fr)) := hid (by rw [HZ.out, hc]; rfl)
  have HS1 := hid hs1
  have HR1 : Hid (RightS W S1) := hid (HR0.out.ref hc)
  have HK1 : Hid (RightK W k1.data.toList) := hid (by first | exact (HR0.out.pop hc).2 | (obtain ⟨e, _⟩ := ref_some hc; exact HR0.out.right _ (by rw [e]; simp)))
  clear hc hs1
  go_wp2_with fail
  go_end0
  exact pln_some HZ1.out HS1.out.st HS1.out.oth
theorem spl_26y {w0 w : World} {B b : Nat} {W : WL} {fr gv : ByteArray} {vL vS : Value} {L S : List ByteArray} (a b2 : Int) (t c n : ByteArray) (hg : gv = { data := #[86] }) (h : ST w0 w B b W fr gv vL vS L S) (hr : RightS W S) :
  Calls Tryz.prog 202 #[.pointer (some ⟨B, 0, none⟩), .agg #[.int .i64 26, .int .i64 a, .int .i64 b2, .string t, .string c, .string n]] w (PlnBy w0 w B b W fr gv (afterF W fr gv ⟨26, a, b2, t, c, n⟩ ⟨L, S⟩)) := by
 obtain ⟨Z, hZ⟩ : ∃ Z, afterF W fr gv ⟨26, a, b2, t, c, n⟩ ⟨L, S⟩ = Z := ⟨_, rfl⟩
 rw [hZ]
 have HZ : Hid (Z = some ⟨L, S⟩) := hid (by rw [← hZ]; show (if gv = { data := #[86] } then some (⟨L, S⟩ : Fr) else none) = _; rw [if_pos hg])
 obtain ⟨bx, hbx⟩ : ∃ bx, w.heap.size = bx := ⟨_, rfl⟩
 obtain ⟨W1, hW1⟩ : ∃ W1, w.alloc (.cells #[.int .i64 26, .int .i64 a, .int .i64 b2, .string t, .string c, .string n] 56) = W1 := ⟨_, rfl⟩
 have HS0 : Hid (SX w0 w W1 B b W fr gv vL vS L S bx ⟨26, a, b2, t, c, n⟩) := hid (by rw [← hW1, ← hbx]; exact SX.box ⟨26, a, b2, t, c, n⟩ h)
 obtain ⟨y0, y1, y2, y3, y4, y5⟩ := HS0.out.at_
 obtain ⟨x0, x1, x2, x3, x4⟩ := HS0.out.st.cells
 have HR0 := hid hr
 clear hZ h hr
 have q1 : (gv.toList == [86]) = true := by rw [hg, ByteArray.toList_eq]; rfl
 have q2 : gv.toList = [86] := by simpa using q1
 clear hg
 go_enter Tryz.func202, Tryz.ntmps202
 go_wp2_with fail
 refine (need_yes _).mono ?_
 rintro e w9 ⟨rfl, rfl⟩
 go_wp2_with fail
 go_end0
 exact pln_some HZ.out HS0.out.st HS0.out.oth
theorem spl_26n {w0 w : World} {B b : Nat} {W : WL} {fr gv : ByteArray} {vL vS : Value} {L S : List ByteArray} (a b2 : Int) (t c n : ByteArray) (hg : ¬ gv = { data := #[86] }) (h : ST w0 w B b W fr gv vL vS L S) (hr : RightS W S) :
  Calls Tryz.prog 202 #[.pointer (some ⟨B, 0, none⟩), .agg #[.int .i64 26, .int .i64 a, .int .i64 b2, .string t, .string c, .string n]] w (PlnBy w0 w B b W fr gv (afterF W fr gv ⟨26, a, b2, t, c, n⟩ ⟨L, S⟩)) := by
 obtain ⟨Z, hZ⟩ : ∃ Z, afterF W fr gv ⟨26, a, b2, t, c, n⟩ ⟨L, S⟩ = Z := ⟨_, rfl⟩
 rw [hZ]
 have HZ : Hid (Z = none) := hid (by rw [← hZ]; show (if gv = { data := #[86] } then some (⟨L, S⟩ : Fr) else none) = _; rw [if_neg hg])
 obtain ⟨bx, hbx⟩ : ∃ bx, w.heap.size = bx := ⟨_, rfl⟩
 obtain ⟨W1, hW1⟩ : ∃ W1, w.alloc (.cells #[.int .i64 26, .int .i64 a, .int .i64 b2, .string t, .string c, .string n] 56) = W1 := ⟨_, rfl⟩
 have HS0 : Hid (SX w0 w W1 B b W fr gv vL vS L S bx ⟨26, a, b2, t, c, n⟩) := hid (by rw [← hW1, ← hbx]; exact SX.box ⟨26, a, b2, t, c, n⟩ h)
 obtain ⟨y0, y1, y2, y3, y4, y5⟩ := HS0.out.at_
 obtain ⟨x0, x1, x2, x3, x4⟩ := HS0.out.st.cells
 have HR0 := hid hr
 clear hZ h hr
 have q2 : ¬ gv.toList = [86] := fun e => hg (by rw [ByteArray.toList_eq] at e; rw [← bs_list gv, e]; rfl)
 have q1 : (gv.toList == [86]) = false := by simpa using q2
 clear hg
 go_enter Tryz.func202, Tryz.ntmps202
 go_wp2_with fail
 refine (need_no _).mono ?_
 rintro e w9 ⟨rfl, rfl⟩
 exact ⟨rfl, pln_none HZ.out ⟨HS0.out.st.below, HS0.out.oth⟩⟩
theorem spl_27y {w0 w : World} {B b : Nat} {W : WL} {fr gv : ByteArray} {vL vS : Value} {L S : List ByteArray} (a b2 : Int) (t c n : ByteArray) (hg : gv = { data := #[86] }) (h : ST w0 w B b W fr gv vL vS L S) (hr : RightS W S) :
  Calls Tryz.prog 202 #[.pointer (some ⟨B, 0, none⟩), .agg #[.int .i64 27, .int .i64 a, .int .i64 b2, .string t, .string c, .string n]] w (PlnBy w0 w B b W fr gv (afterF W fr gv ⟨27, a, b2, t, c, n⟩ ⟨L, S⟩)) := by
 obtain ⟨Z, hZ⟩ : ∃ Z, afterF W fr gv ⟨27, a, b2, t, c, n⟩ ⟨L, S⟩ = Z := ⟨_, rfl⟩
 rw [hZ]
 have HZ : Hid (Z = none) := hid (by rw [← hZ]; show (if gv = { data := #[86] } then none else (takeS W S gv).map (fun S => (⟨L, S⟩ : Fr))) = _; rw [if_pos hg])
 obtain ⟨bx, hbx⟩ : ∃ bx, w.heap.size = bx := ⟨_, rfl⟩
 obtain ⟨W1, hW1⟩ : ∃ W1, w.alloc (.cells #[.int .i64 27, .int .i64 a, .int .i64 b2, .string t, .string c, .string n] 56) = W1 := ⟨_, rfl⟩
 have HS0 : Hid (SX w0 w W1 B b W fr gv vL vS L S bx ⟨27, a, b2, t, c, n⟩) := hid (by rw [← hW1, ← hbx]; exact SX.box ⟨27, a, b2, t, c, n⟩ h)
 obtain ⟨y0, y1, y2, y3, y4, y5⟩ := HS0.out.at_
 obtain ⟨x0, x1, x2, x3, x4⟩ := HS0.out.st.cells
 have HR0 := hid hr
 clear hZ h hr
 have q1 : (gv.toList == [86]) = true := by rw [hg, ByteArray.toList_eq]; rfl
 have q2 : gv.toList = [86] := by simpa using q1
 have q3 : (gv.toList != [86]) = false := by rw [bne, q1]; rfl
 clear hg
 go_enter Tryz.func202, Tryz.ntmps202
 go_wp2_with fail
 refine (need_no _).mono ?_
 rintro e w9 ⟨rfl, rfl⟩
 exact ⟨rfl, pln_none HZ.out ⟨HS0.out.st.below, HS0.out.oth⟩⟩
theorem spl_27n {w0 w : World} {B b : Nat} {W : WL} {fr gv : ByteArray} {vL vS : Value} {L S : List ByteArray} (a b2 : Int) (t c n : ByteArray) (hg : ¬ gv = { data := #[86] }) (HG : Hid (isTy gv.data.toList = true)) (h : ST w0 w B b W fr gv vL vS L S) (hr : RightS W S) :
  Calls Tryz.prog 202 #[.pointer (some ⟨B, 0, none⟩), .agg #[.int .i64 27, .int .i64 a, .int .i64 b2, .string t, .string c, .string n]] w (PlnBy w0 w B b W fr gv (afterF W fr gv ⟨27, a, b2, t, c, n⟩ ⟨L, S⟩)) := by
 obtain ⟨Z, hZ⟩ : ∃ Z, afterF W fr gv ⟨27, a, b2, t, c, n⟩ ⟨L, S⟩ = Z := ⟨_, rfl⟩
 rw [hZ]
 have HZ : Hid (Z = (takeS W S gv).map (fun S => (⟨L, S⟩ : Fr))) := hid (by rw [← hZ]; show (if gv = { data := #[86] } then none else (takeS W S gv).map (fun S => (⟨L, S⟩ : Fr))) = _; rw [if_neg hg])
 obtain ⟨bx, hbx⟩ : ∃ bx, w.heap.size = bx := ⟨_, rfl⟩
 obtain ⟨W1, hW1⟩ : ∃ W1, w.alloc (.cells #[.int .i64 27, .int .i64 a, .int .i64 b2, .string t, .string c, .string n] 56) = W1 := ⟨_, rfl⟩
 have HS0 : Hid (SX w0 w W1 B b W fr gv vL vS L S bx ⟨27, a, b2, t, c, n⟩) := hid (by rw [← hW1, ← hbx]; exact SX.box ⟨27, a, b2, t, c, n⟩ h)
 obtain ⟨y0, y1, y2, y3, y4, y5⟩ := HS0.out.at_
 obtain ⟨x0, x1, x2, x3, x4⟩ := HS0.out.st.cells
 have HR0 := hid hr
 clear hZ h hr
 have q2 : ¬ gv.toList = [86] := fun e => hg (by rw [ByteArray.toList_eq] at e; rw [← bs_list gv, e]; rfl)
 have q1 : (gv.toList == [86]) = false := by simpa using q2
 clear hg
 have q3 : (gv.toList != [86]) = true := by rw [bne, q1]; rfl
 go_enter Tryz.func202, Tryz.ntmps202
 go_wp2_with fail
 refine (need_yes _).mono ?_
 rintro e w9 ⟨rfl, rfl⟩
 go_wp2_with fail
 refine (ptake_any gv (HG.out) HS0.out HR0.out).mono ?_
 intro e w1 h1
 cases hc : takeS W S gv with
 | none =>
  rw [hc] at h1
  obtain ⟨rfl, hb1⟩ := h1
  exact ⟨rfl, pln_none (by rw [HZ.out, hc]; rfl) hb1⟩
 | some S1 =>
  rw [hc] at h1
  obtain ⟨rfl, vS1, hs1⟩ := h1
  clear hW1 y0 y1 y2 y3 y4 y5
  obtain ⟨y0, y1, y2, y3, y4, y5⟩ := hs1.at_
  have HZ1 : Hid (Z = some (⟨L, S1⟩ : Fr)) := hid (by rw [HZ.out, hc]; rfl)
  have HS1 := hid hs1
  have HR1 : Hid (RightS W S1) := hid (HR0.out.take hc)
  clear hc hs1
  go_wp2_with fail
  go_end0
  exact pln_some HZ1.out HS1.out.st HS1.out.oth
theorem spl_28 {w0 w : World} {B b : Nat} {W : WL} {fr gv : ByteArray} {vL vS : Value} {L S : List ByteArray} (a b2 : Int) (t c n : ByteArray)  (h : ST w0 w B b W fr gv vL vS L S) (hr : RightS W S) :
  Calls Tryz.prog 202 #[.pointer (some ⟨B, 0, none⟩), .agg #[.int .i64 28, .int .i64 a, .int .i64 b2, .string t, .string c, .string n]] w (PlnBy w0 w B b W fr gv (afterF W fr gv ⟨28, a, b2, t, c, n⟩ ⟨L, S⟩)) := by
 obtain ⟨Z, hZ⟩ : ∃ Z, afterF W fr gv ⟨28, a, b2, t, c, n⟩ ⟨L, S⟩ = Z := ⟨_, rfl⟩
 rw [hZ]
 have HZ : Hid (Z = (takeS W S tFault).map (fun S => (⟨L, S⟩ : Fr))) := hid (by rw [← hZ]; try rfl)
 obtain ⟨bx, hbx⟩ : ∃ bx, w.heap.size = bx := ⟨_, rfl⟩
 obtain ⟨W1, hW1⟩ : ∃ W1, w.alloc (.cells #[.int .i64 28, .int .i64 a, .int .i64 b2, .string t, .string c, .string n] 56) = W1 := ⟨_, rfl⟩
 have HS0 : Hid (SX w0 w W1 B b W fr gv vL vS L S bx ⟨28, a, b2, t, c, n⟩) := hid (by rw [← hW1, ← hbx]; exact SX.box ⟨28, a, b2, t, c, n⟩ h)
 obtain ⟨y0, y1, y2, y3, y4, y5⟩ := HS0.out.at_
 obtain ⟨x0, x1, x2, x3, x4⟩ := HS0.out.st.cells
 have HR0 := hid hr
 clear hZ h hr
 have HTH : Hid (∀ u, Calls Tryz.prog 100 #[.string { data := #[70, 97, 117, 108, 116] }] u fun e w' => e = .returned (.string tFault) ∧ u = w') := hid (fun u => (thing_any fltB u (by decide)).mono fun e w' h => h)
 go_enter Tryz.func202, Tryz.ntmps202
 go_wp2_with fail
 refine (HTH.out _).mono ?_
 rintro e w9 ⟨rfl, rfl⟩
 go_wp2_with fail
 refine (ptake_any tFault (ty_fault) HS0.out HR0.out).mono ?_
 intro e w1 h1
 cases hc : takeS W S tFault with
 | none =>
  rw [hc] at h1
  obtain ⟨rfl, hb1⟩ := h1
  exact ⟨rfl, pln_none (by rw [HZ.out, hc]; rfl) hb1⟩
 | some S1 =>
  rw [hc] at h1
  obtain ⟨rfl, vS1, hs1⟩ := h1
  clear hW1 y0 y1 y2 y3 y4 y5
  obtain ⟨y0, y1, y2, y3, y4, y5⟩ := hs1.at_
  have HZ1 : Hid (Z = some (⟨L, S1⟩ : Fr)) := hid (by rw [HZ.out, hc]; rfl)
  have HS1 := hid hs1
  have HR1 : Hid (RightS W S1) := hid (HR0.out.take hc)
  clear hc hs1
  go_wp2_with fail
  go_end0
  exact pln_some HZ1.out HS1.out.st HS1.out.oth
theorem spl_no {w0 w : World} {B b : Nat} {W : WL} {fr gv : ByteArray} {vL vS : Value} {L S : List ByteArray} (op a b2 : Int) (t c n : ByteArray) (ho : ¬ op = 2 ∧ ¬ op = 3 ∧ ¬ op = 4 ∧ ¬ op = 5 ∧ ¬ op = 6 ∧ ¬ op = 7 ∧ ¬ op = 8 ∧ ¬ op = 9 ∧ ¬ op = 10 ∧ ¬ op = 11 ∧ ¬ op = 12 ∧ ¬ op = 13 ∧ ¬ op = 26 ∧ ¬ op = 27 ∧ ¬ op = 28) (h : ST w0 w B b W fr gv vL vS L S) (hr : RightS W S) :
  Calls Tryz.prog 202 #[.pointer (some ⟨B, 0, none⟩), .agg #[.int .i64 op, .int .i64 a, .int .i64 b2, .string t, .string c, .string n]] w (PlnBy w0 w B b W fr gv (some ⟨L, S⟩)) := by
 obtain ⟨Z, hZ⟩ : ∃ Z : Option Fr, some ⟨L, S⟩ = Z := ⟨_, rfl⟩
 rw [hZ]
 have HZ : Hid (Z = some (⟨L, S⟩ : Fr)) := hid (by rw [← hZ]; try rfl)
 obtain ⟨bx, hbx⟩ : ∃ bx, w.heap.size = bx := ⟨_, rfl⟩
 obtain ⟨W1, hW1⟩ : ∃ W1, w.alloc (.cells #[.int .i64 op, .int .i64 a, .int .i64 b2, .string t, .string c, .string n] 56) = W1 := ⟨_, rfl⟩
 have HS0 : Hid (SX w0 w W1 B b W fr gv vL vS L S bx ⟨op, a, b2, t, c, n⟩) := hid (by rw [← hW1, ← hbx]; exact SX.box ⟨op, a, b2, t, c, n⟩ h)
 obtain ⟨y0, y1, y2, y3, y4, y5⟩ := HS0.out.at_
 obtain ⟨x0, x1, x2, x3, x4⟩ := HS0.out.st.cells
 have HR0 := hid hr
 clear hZ h hr
 obtain ⟨o2, o3, o4, o5, o6, o7, o8, o9, o10, o11, o12, o13, o26, o27, o28⟩ := ho
 go_enter Tryz.func202, Tryz.ntmps202
 go_wp2_with fail
 go_end0
 exact pln_some HZ.out HS0.out.st HS0.out.oth
theorem sfield_any {w0 w : World} {B b : Nat} {W : WL} {fr gv : ByteArray} {vL vS : Value} {L S : List ByteArray} (op a b2 : Int) (t c n : ByteArray) (hF : Flat W) (hc : c.size ≤ 1000000) (h : ST w0 w B b W fr gv vL vS L S) :
  Calls Tryz.prog 243 #[.pointer (some ⟨B, 0, none⟩), .agg #[.int .i64 op, .int .i64 a, .int .i64 b2, .string t, .string c, .string n]] w fun e w' => e = .panicked unf ∧ Below w0.heap.size w0 w' ∧ Oth B w w' := by
 obtain ⟨bx, hbx⟩ : ∃ bx, w.heap.size = bx := ⟨_, rfl⟩
 obtain ⟨W1, hW1⟩ : ∃ W1, w.alloc (.cells #[.int .i64 op, .int .i64 a, .int .i64 b2, .string t, .string c, .string n] 56) = W1 := ⟨_, rfl⟩
 have HS0 : Hid (SX w0 w W1 B b W fr gv vL vS L S bx ⟨op, a, b2, t, c, n⟩) := hid (by rw [← hW1, ← hbx]; exact SX.box ⟨op, a, b2, t, c, n⟩ h)
 obtain ⟨y0, y1, y2, y3, y4, y5⟩ := HS0.out.at_
 have HTH := hid (fun u => thing_any c u (by omega))
 have hts : (bs (thingB c)).size ≤ 9223372036854775807 := by
  have : (bs (thingB c)).size = c.size + 2 := by
   show (bs (thingB c)).data.size = c.data.size + 2
   simp [bs, thingB]
  omega
 have HTS := hid hts
 have HFL := hid hF
 clear h hF hc hts
 go_enter Tryz.func243, Tryz.ntmps243
 go_wp2_with fail
 refine (HTH.out _).mono ?_
 rintro e w9 ⟨rfl, rfl⟩
 generalize bs (thingB c) = tc at HTS
 clear hW1
 go_wp2_with fail
 refine (pknown_any tc HTS.out HS0.out).mono ?_
 intro e w1 h1
 by_cases hk : knownK W tc
 ·rw [if_pos hk] at h1
  obtain ⟨rfl, vS1, hs1⟩ := h1
  have HS1 := hid hs1
  clear hs1 hk y0 y1 y2 y3 y4 y5
  have HX : Hid (∀ u, Below w1.heap.size w1 u → u.cell? ⟨bx, 4, none⟩ = some (.string c) ∧ u.cell? ⟨bx, 5, none⟩ = some (.string n) ∧ u.cell? ⟨B, 0, none⟩ = some (.map (some b)) ∧ Wd u b W) := hid (fun u hu => ⟨(HS1.out.later hu).at_.2.2.2.2.1, (HS1.out.later hu).at_.2.2.2.2.2, (HS1.out.later hu).st.cells.1, (HS1.out.later hu).st.wd'⟩)
  obtain ⟨WD, hwd⟩ : ∃ WD, World.drew w1 = WD := ⟨_, rfl⟩
  have HWD : Hid (Below (w1).heap.size w1 WD) := hid (hwd ▸ (Below.refl _ _).drew)
  go_wp2_with fail
  refine wp_region_s (fun u => Below WD.heap.size WD u) 8 (by kernel_rfl) ?_
  show grow.wpAnyS _ _ _ _ _ _ _ _ _ (World.drew _)
  rw [hwd]
  refine zsd 0 _ _ rfl (fun _ => Below.refl _ _) ?_
  simp only [zg1, zg2, zg3, Act.put, zg4, zg5, zg6]
  refine zsd 1 _ _ rfl (fun _ => Below.refl _ _) ?_
  simp only [zg1, zg2, zg3, Act.put, zg4, zg5, zg6]
  refine zsd 2 _ _ rfl (fun _ => Below.refl _ _) ?_
  simp only [zg1, zg2, zg3, Act.put, zg4, zg5, zg6]
  refine zst 3 _ _ rfl (fun _ => Below.refl _ _) (fun u hu => by have q := (HX.out u (HWD.out.trans (hu.mono HWD.out.size))).2.2.1; go_simp; rfl) ?_
  simp only [zg1, zg2, zg3, Act.put, zg4, zg5, zg6]
  refine zsd 4 _ _ rfl (fun _ => Below.refl _ _) ?_
  simp only [zg1, zg2, zg3, Act.put, zg4, zg5, zg6]
  refine zst 5 _ _ rfl (fun _ => Below.refl _ _) (fun u hu => by have q := (HX.out u (HWD.out.trans (hu.mono HWD.out.size))).1; go_simp; rfl) ?_
  simp only [zg1, zg2, zg3, Act.put, zg4, zg5, zg6]
  refine zsd 6 _ _ rfl (fun _ => Below.refl _ _) ?_
  simp only [zg1, zg2, zg3, Act.put, zg4, zg5, zg6]
  refine zst 7 _ _ rfl (fun _ => Below.refl _ _) (fun u hu => by have q := (HX.out u (HWD.out.trans (hu.mono HWD.out.size))).2.1; go_simp; rfl) ?_
  simp only [zg1, zg2, zg3, Act.put, zg4, zg5, zg6]
  refine s_two 8 13 _ _ rfl rfl (by kernel_rfl) ?_ ?_
  ·go_simp
   refine (ffield_any W b c n WD (HX.out WD (HWD.out.trans ((Below.refl _ _).mono HWD.out.size))).2.2.2 HFL.out).mono ?_
   rintro e wz ⟨rfl, hbz⟩
   have HBZ : Hid (Below WD.heap.size WD wz) := hid hbz
   refine ⟨(fun h => absurd h (by decide)), ?_⟩
   try simp only [zg1, zg2, zg3, Act.put, zg4, zg5, zg6]
   clear hbz
   refine zsd 9 _ _ rfl (fun h => absurd h (by decide)) ?_
   simp only [zg1, zg2, zg3, Act.put, zg4, zg5, zg6]
   refine zsd 10 _ _ rfl (fun h => absurd h (by decide)) ?_
   simp only [zg1, zg2, zg3, Act.put, zg4, zg5, zg6]
   refine zsd 11 _ _ rfl (fun h => absurd h (by decide)) ?_
   simp only [zg1, zg2, zg3, Act.put, zg4, zg5, zg6]
   refine zsd 12 _ _ rfl (fun h => absurd h (by decide)) ?_
   simp only [zg1, zg2, zg3, Act.put, zg4, zg5, zg6]
   refine s_only 13 _ rfl (by kernel_rfl) ?_
   obtain ⟨wy, hnx⟩ : ∃ wn, wz.alloc (.cells #[.string { data := #[] }, .string { data := #[] }] 153) = wn := ⟨_, rfl⟩
   obtain ⟨bz, hbz0⟩ : ∃ bz, wz.heap.size = bz := ⟨_, rfl⟩
   have HRZ : Hid (wy.heap[bz]? = some (.cells #[.string { data := #[] }, .string { data := #[] }] 153 (0, 0))) := hid (hnx ▸ hbz0 ▸ heap_alloc_new _ _)
   have HBA : Hid (Below WD.heap.size WD wy) := hid (hnx ▸ (HBZ.out).alloc (HBZ.out).size _)
   have HLE : Hid (WD.heap.size ≤ bz) := hid (hbz0 ▸ (HBZ.out).size)
   go_simp
   try rw [hnx, hbz0]
   refine ⟨(fun h => absurd h (by decide)), ?_⟩
   try simp only [zg1, zg2, zg3, Act.put, zg4, zg5, zg6]
   have HRY := HRZ
   have HBY := HBA
   refine zsd 14 _ _ rfl (fun h => absurd h (by decide)) ?_
   simp only [zg1, zg2, zg3, Act.put, zg4, zg5, zg6]
   refine s_only 15 _ rfl (by kernel_rfl) ?_
   try rw [if_pos (by rfl)]
   refine wp_store_row 153 (.tmp 6) (.tmp 24) rfl bz #[.string { data := #[] }, .string { data := #[] }] rfl rfl 153 _ HRY.out (by kernel_rfl) rfl (by simp [Value.oneCell']) ?_
   obtain ⟨WE, hWE⟩ : ∃ WE, wy.setRow bz #[.string { data := #[] }, .string { data := #[] }] = WE := ⟨_, rfl⟩
   have HRE : Hid (WE.heap[bz]? = some (.cells #[.string { data := #[] }, .string { data := #[] }] 153 (0, 0))) := hid (hWE ▸ setRow_heap _ _ _ _ _ _ HRY.out)
   have HBE : Hid (Below WD.heap.size WD WE) := hid (hWE ▸ below_setRow HBY.out HLE.out _)
   try rw [hWE]
   refine ⟨(fun h => absurd h (by decide)), ?_⟩
   try simp only [zg1, zg2, zg3, Act.put, zg4, zg5, zg6]
   refine zsd 16 _ _ rfl (fun h => absurd h (by decide)) ?_
   simp only [zg1, zg2, zg3, Act.put, zg4, zg5, zg6]
   refine s_end (by kernel_rfl) ?_
   clear hnx hbz0 hWE HRZ HBA HRY HBY HBZ hwd
   have HS2 := hid (HS1.out.later (HWD.out.trans (HBE.out.mono HWD.out.size)))
   clear HX
   go_wp2_with fail
   refine (need_no _).mono ?_
   rintro e w7 ⟨rfl, rfl⟩
   exact ⟨rfl, rfl, HS2.out.st.below, HS2.out.oth⟩
  ·obtain ⟨wx, hnx⟩ : ∃ wn, WD.alloc (.cells #[.string { data := #[] }, .string { data := #[] }] 153) = wn := ⟨_, rfl⟩
   obtain ⟨bz, hbz0⟩ : ∃ bz, WD.heap.size = bz := ⟨_, rfl⟩
   have HRZ : Hid (wx.heap[bz]? = some (.cells #[.string { data := #[] }, .string { data := #[] }] 153 (0, 0))) := hid (hnx ▸ hbz0 ▸ heap_alloc_new _ _)
   have HBA : Hid (Below WD.heap.size WD wx) := hid (hnx ▸ ((Below.refl WD.heap.size WD)).alloc ((Below.refl WD.heap.size WD)).size _)
   have HLE : Hid (WD.heap.size ≤ bz) := hid (hbz0 ▸ ((Below.refl WD.heap.size WD)).size)
   go_simp
   try rw [hnx, hbz0]
   refine ⟨fun _ => (by first | exact HBA.out | (show Below _ WD wx; rw [← hbz0]; exact HBA.out)), ?_⟩
   try simp only [zg1, zg2, zg3, Act.put, zg4, zg5, zg6]
   refine s_only 8 _ rfl (by kernel_rfl) ?_
   go_simp
   refine (ffield_any W b c n wx (HX.out wx (HWD.out.trans (HBA.out.mono HWD.out.size))).2.2.2 HFL.out).mono ?_
   rintro e wz ⟨rfl, hbz⟩
   have HRY := hid ((hbz.block bz (zh HRZ.out).1).trans HRZ.out)
   have HBY := hid (HBA.out.trans (hbz.mono HBA.out.size))
   refine ⟨(fun h => absurd h (by decide)), ?_⟩
   try simp only [zg1, zg2, zg3, Act.put, zg4, zg5, zg6]
   clear hbz
   refine zsd 9 _ _ rfl (fun h => absurd h (by decide)) ?_
   simp only [zg1, zg2, zg3, Act.put, zg4, zg5, zg6]
   refine zsd 10 _ _ rfl (fun h => absurd h (by decide)) ?_
   simp only [zg1, zg2, zg3, Act.put, zg4, zg5, zg6]
   refine zsd 11 _ _ rfl (fun h => absurd h (by decide)) ?_
   simp only [zg1, zg2, zg3, Act.put, zg4, zg5, zg6]
   refine zsd 12 _ _ rfl (fun h => absurd h (by decide)) ?_
   simp only [zg1, zg2, zg3, Act.put, zg4, zg5, zg6]
   refine zsd 14 _ _ rfl (fun h => absurd h (by decide)) ?_
   simp only [zg1, zg2, zg3, Act.put, zg4, zg5, zg6]
   refine s_only 15 _ rfl (by kernel_rfl) ?_
   try rw [if_pos (by rfl)]
   refine wp_store_row 153 (.tmp 6) (.tmp 24) rfl bz #[.string { data := #[] }, .string { data := #[] }] rfl rfl 153 _ HRY.out (by kernel_rfl) rfl (by simp [Value.oneCell']) ?_
   obtain ⟨WE, hWE⟩ : ∃ WE, wz.setRow bz #[.string { data := #[] }, .string { data := #[] }] = WE := ⟨_, rfl⟩
   have HRE : Hid (WE.heap[bz]? = some (.cells #[.string { data := #[] }, .string { data := #[] }] 153 (0, 0))) := hid (hWE ▸ setRow_heap _ _ _ _ _ _ HRY.out)
   have HBE : Hid (Below WD.heap.size WD WE) := hid (hWE ▸ below_setRow HBY.out HLE.out _)
   try rw [hWE]
   refine ⟨(fun h => absurd h (by decide)), ?_⟩
   try simp only [zg1, zg2, zg3, Act.put, zg4, zg5, zg6]
   refine zsd 16 _ _ rfl (fun h => absurd h (by decide)) ?_
   simp only [zg1, zg2, zg3, Act.put, zg4, zg5, zg6]
   refine s_end (by kernel_rfl) ?_
   clear hnx hbz0 hWE HRZ HBA HRY HBY hwd
   have HS2 := hid (HS1.out.later (HWD.out.trans (HBE.out.mono HWD.out.size)))
   clear HX
   go_wp2_with fail
   refine (need_no _).mono ?_
   rintro e w7 ⟨rfl, rfl⟩
   exact ⟨rfl, rfl, HS2.out.st.below, HS2.out.oth⟩
 ·rw [if_neg hk] at h1
  obtain ⟨rfl, hb1⟩ := h1
  exact ⟨rfl, rfl, hb1⟩
theorem revs_any {w0 w : World} {v : Value} {l : List ByteArray} (ho : Out w0 w 9 1 v l.length (l.map .string)) (hsz : l.length ≤ 1000000000) :
  Calls Tryz.prog 22 #[v] w fun e w' => e = .returned (.tuple #[]) ∧ Sl w' v l.length 1 (l.reverse.map .string) ∧ Below w0.heap.size w0 w' := by
 by_cases h0 : l = []
 ·subst h0
  obtain ⟨a, c, hv⟩ := ho.sl.val
  subst hv
  refine (Tryz.slices_Reverse_string_empty a c w).mono ?_
  rintro e w' ⟨rfl, rfl⟩
  exact ⟨rfl, ho.sl, ho.below⟩
 ·exact rev_any ho (by cases l with | nil => exact absurd rfl h0 | cons _ _ => simp) hsz
def TsBy (w0 ws : World) (B b : Nat) (W : WL) (fr gv : ByteArray) (vL : Value) (L : List ByteArray) (r : Option (List ByteArray)) (e : Ending) (w' : World) : Prop := Oth B ws w' ∧ match r with
 | none => e = .panicked unf ∧ Below w0.heap.size w0 w'
 | some T => e = .returned (.tuple #[]) ∧ ∃ vS', ST w0 w' B b W fr gv vL vS' L T
theorem ts_none {w0 ws w' : World} {B b : Nat} {W : WL} {fr gv : ByteArray} {vL : Value} {L : List ByteArray} {r : Option (List ByteArray)} (hr : r = none) (hb : Below w0.heap.size w0 w' ∧ Oth B ws w') : TsBy w0 ws B b W fr gv vL L r (.panicked unf) w' := by subst hr; exact ⟨hb.2, rfl, hb.1⟩
theorem ts_some {w0 ws w' : World} {B b : Nat} {W : WL} {fr gv : ByteArray} {vL vS : Value} {L T : List ByteArray} {r : Option (List ByteArray)} (hr : r = some T) (h : ST w0 w' B b W fr gv vL vS L T) (ho : Oth B ws w') : TsBy w0 ws B b W fr gv vL L r (.returned (.tuple #[])) w' := by subst hr; exact ⟨ho, rfl, vS, h⟩
theorem map_sv (ts : List (List UInt8)) : ts.map sv = (ts.map bs).map .string := by rw [List.map_map]; rfl
theorem rfound_flat {W : WL} (hF : Flat W) (fr cl nm ty : ByteArray) : rfoundF W fr cl nm ty false = none := by
 unfold rfoundF
 split
 ·rfl
 split
 ·rfl
 rename_i p hp
 split
 ·rfl
 have := (find_flat hF hp).1
 rw [if_neg]
 intro hst
 unfold cAt at this
 cases hg : getK W (p : ByteArray × MV).1 with
 | none => rw [hg] at this; exact (List.not_mem_nil this).elim
 | some cv => rw [hg] at this; have q := ((hF.plain _ cv hg).2.2.2 p.2 this).1; rw [q] at hst; cases hst
theorem callS_24 {W : WL} {fr : ByteArray} {x : I} {S : List ByteArray} (h : x.op = 24) : callS W fr x S = none := by
 unfold callS
 split
 ·rfl
 split
 ·rfl
 ·first | rfl | rw [if_pos h]
theorem callS_no {W : WL} {fr : ByteArray} {x : I} {S : List ByteArray} (hF : Flat W) (h : rfoundF W fr x.c x.n x.t true = none) : callS W fr x S = none := by
 unfold rfoundF at h
 unfold callS
 by_cases h1 : (getK W x.c).isSome = false
 ·rw [if_pos (.inl h1)]
 rw [if_neg h1] at h
 by_cases h2 : (getK W fr).isSome = false
 ·rw [if_pos (.inr h2)]
 rw [if_neg (fun e => by rcases e with e | e; exact h1 e; exact h2 e)]
 cases hf : findM W x.c x.n x.t with
 | none => rfl
 | some p =>
  rw [hf] at h
  simp only at h
  rw [if_neg h2] at h
  have := (find_flat hF hf).1
  unfold cAt at this
  cases hg : getK W (p : ByteArray × MV).1 with
  | none => rw [hg] at this; exact (List.not_mem_nil this).elim
  | some cv => rw [hg] at this; have q := ((hF.plain _ cv hg).2.2.2 p.2 this).1; rw [if_pos q] at h; cases h
theorem callS_yes {W : WL} {fr : ByteArray} {x : I} {S : List ByteArray} (h24 : ¬ x.op = 24) {p : ByteArray × MV} (h : rfoundF W fr x.c x.n x.t true = some p) {ts : List (List UInt8)} {g : List UInt8} (hm : methodOf x.t.data.toList = some (ts, g)) :
  callS W fr x S = (takesS W (ts.map bs).reverse S).bind fun S => if g = [86] then some S else if ¬ knownK W (bs g) then none else putS S (bs g) := by
 unfold rfoundF at h
 unfold callS
 by_cases h1 : (getK W x.c).isSome = false
 ·rw [if_pos h1] at h; cases h
 rw [if_neg h1] at h
 cases hf : findM W x.c x.n x.t with
 | none => rw [hf] at h; cases h
 | some q =>
  rw [hf] at h
  simp only at h
  by_cases h2 : (getK W fr).isSome = false
  ·rw [if_pos h2] at h; cases h
  rw [if_neg (fun e => by rcases e with e | e; exact h1 e; exact h2 e), hm]
  simp only
  rw [if_neg h24]
end Go.Proofs.YtloonnfelgokmaaGreatDoor.worlds
