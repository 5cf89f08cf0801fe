/- frame's stepper: need, known, pop, put, ref. Condition: the world was read. -/
import Derived.Maps.RangeWalk
import Derived.Test.YtloonnfelgokmaaGreatDoorZVrfZ
import Derived.Test.YtloonnfelgokmaaGreatDoorZKndZ
import Derived.Test.YtloonnfelgokmaaGreatDoorZGrowZ
import Derived.Test.YtloonnfelgokmaaGreatDoorZOwn
import Derived.Test.YtloonnfelgokmaaGreatDoorZJnZ
import Derived.Test.YtloonnfelgokmaaGreatDoorZFndZ
set_option maxRecDepth 100000
set_option maxHeartbeats 16000000
set_option linter.unusedSimpArgs false
set_option linter.unusedVariables false
namespace Go.Proofs.YtloonnfelgokmaaGreatDoor.worlds
open Go.RowKit lib maps classes errs descs names grow keep
def unf : List PanicEntry := [{ v := .iface 256 (.agg #[]), recovered := false }]
structure ST (w0 w : World) (B b : Nat) (W : WL) (fr gv : ByteArray) (vL vS : Value) (L S : List ByteArray) : Prop where
 row : w.heap[B]? = some (.cells #[.map (some b), .string fr, .string gv, vL, vS] 261 (0, 0))
 oL : Out w0 w 9 1 vL L.length (L.map .string)
 oS : Out w0 w 9 1 vS S.length (S.map .string)
 apart : Apart vS vL
 le : w0.heap.size ≤ B
 neL : vL.ownBlock ≠ some B
 neS : vS.ownBlock ≠ some B
 wd : Wd w0 b W
 lenL : L.length ≤ 8
 lenS : S.length ≤ 8
theorem ST.below {w0 w : World} {B b : Nat} {W : WL} {fr gv : ByteArray} {vL vS : Value} {L S : List ByteArray} (h : ST w0 w B b W fr gv vL vS L S) : Below w0.heap.size w0 w := h.oL.below
theorem ST.wd' {w0 w : World} {B b : Nat} {W : WL} {fr gv : ByteArray} {vL vS : Value} {L S : List ByteArray} (h : ST w0 w B b W fr gv vL vS L S) : Wd w b W := h.wd.below h.below
theorem ST.lt {w0 w : World} {B b : Nat} {W : WL} {fr gv : ByteArray} {vL vS : Value} {L S : List ByteArray} (h : ST w0 w B b W fr gv vL vS L S) : B < w.heap.size := (zh h.row).1
theorem ST.later {w0 w w' : World} {B b : Nat} {W : WL} {fr gv : ByteArray} {vL vS : Value} {L S : List ByteArray} (h : ST w0 w B b W fr gv vL vS L S) (hb : Below w.heap.size w w') : ST w0 w' B b W fr gv vL vS L S :=
 ⟨(hb.block _ h.lt).trans h.row, h.oL.later hb, h.oS.later hb, h.apart, h.le, h.neL, h.neS, h.wd, h.lenL, h.lenS⟩
theorem ST.cells {w0 w : World} {B b : Nat} {W : WL} {fr gv : ByteArray} {vL vS : Value} {L S : List ByteArray} (h : ST w0 w B b W fr gv vL vS L S) :
  w.cell? ⟨B, 0, none⟩ = some (.map (some b)) ∧ w.cell? ⟨B, 1, none⟩ = some (.string fr) ∧ w.cell? ⟨B, 2, none⟩ = some (.string gv) ∧ w.cell? ⟨B, 3, none⟩ = some vL ∧ w.cell? ⟨B, 4, none⟩ = some vS := by
 refine ⟨?_, ?_, ?_, ?_, ?_⟩ <;> (rw [cell_of_row _ _ _ _ _ _ h.row]; rfl)
theorem ST.frz {w0 w : World} {B b : Nat} {W : WL} {fr gv : ByteArray} {vL vS : Value} {L S : List ByteArray} (h : ST w0 w B b W fr gv vL vS L S) (j : Nat) : w.frozen? ⟨B, j, none⟩ = false := frozen_of_row _ _ _ _ _ h.row
theorem out_setB {w0 w : World} {e : TypeId} {s n B j : Nat} {v x : Value} {xs : List Value} (h : Out w0 w e s v n xs) (hle : w0.heap.size ≤ B) (hne : v.ownBlock ≠ some B) : Out w0 (w.setCell ⟨B, j, none⟩ x) e s v n xs :=
 ⟨h.own.kept (grown_set w ⟨B, j, none⟩ x) (.inr fun he => hne he), h.below.setCell hle x⟩
theorem ST.putS {w0 w w' : World} {B b : Nat} {W : WL} {fr gv : ByteArray} {vL vS vS' : Value} {L S S' : List ByteArray} (h : ST w0 w B b W fr gv vL vS L S) (hrow : w'.heap[B]? = w.heap[B]?) (hL : Out w0 w' 9 1 vL L.length (L.map .string)) (ho : Out w0 w' 9 1 vS' S'.length (S'.map .string)) (ha : Apart vS' vL) (hne : vS'.ownBlock ≠ some B) (hl : S'.length ≤ 8) :
  ST w0 (w'.setCell ⟨B, 4, none⟩ vS') B b W fr gv vL vS' L S' ∧ w'.cell? ⟨B, 4, none⟩ = some vS ∧ w'.frozen? ⟨B, 4, none⟩ = false := by
 have hr := hrow.trans h.row
 refine ⟨⟨?_, out_setB hL h.le h.neL, out_setB ho h.le hne, ha, h.le, h.neL, hne, h.wd, h.lenL, hl⟩, by rw [cell_of_row _ _ _ _ _ _ hr]; rfl, frozen_of_row _ _ _ _ _ hr⟩
 simp [World.setCell, Array.getElem?_modify, hr]
theorem ST.setS {w0 w : World} {B b : Nat} {W : WL} {fr gv : ByteArray} {vL vS vS' : Value} {L S S' : List ByteArray} (h : ST w0 w B b W fr gv vL vS L S) (ho : Out w0 w 9 1 vS' S'.length (S'.map .string)) (ha : Apart vS' vL) (hne : vS'.ownBlock ≠ some B) (hl : S'.length ≤ 8) :
  ST w0 (w.setCell ⟨B, 4, none⟩ vS') B b W fr gv vL vS' L S' := by
 refine ⟨?_, out_setB h.oL h.le h.neL, out_setB ho h.le hne, ha, h.le, h.neL, hne, h.wd, h.lenL, hl⟩
 simp [World.setCell, Array.getElem?_modify, h.row]
theorem need_yes (w : World) : Calls Tryz.prog 237 #[.bool true] w fun e w' => e = .returned (.tuple #[]) ∧ w = w' := by
 go_enter Tryz.func237, Tryz.ntmps237
 go_wp2
 go_end0
 exact ⟨rfl, rfl⟩
theorem need_no (w : World) : Calls Tryz.prog 237 #[.bool false] w fun e w' => e = .panicked unf ∧ w = w' := by
 go_enter Tryz.func237, Tryz.ntmps237
 go_wp2
 exact ⟨rfl, rfl, rfl⟩
theorem need_is (is : Bool) (w : World) : Calls Tryz.prog 237 #[.bool is] w fun e w' => e = (if is = true then .returned (.tuple #[]) else .panicked unf) ∧ w = w' := by
 cases is with
 | true => exact (need_yes w).mono fun e w' h => ⟨h.1, h.2⟩
 | false => exact (need_no w).mono fun e w' h => ⟨h.1, h.2⟩
def StpBy (F : Nat → Prop) (w0 w : World) (B b : Nat) (W : WL) (fr gv : ByteArray) (vL : Value) (L : List ByteArray) (r : Option (Value × List ByteArray)) (e : Ending) (w' : World) : Prop := Keeps F w w' ∧ match r with
 | none => e = .panicked unf ∧ Below w0.heap.size w0 w'
 | some (v, T) => e = .returned v ∧ ∃ vS', ST w0 w' B b W fr gv vL vS' L T
section
variable {F : Nat → Prop} {w0 w : World} {B b : Nat} {W : WL} {fr gv : ByteArray} {vL : Value} {L : List ByteArray} {e : Ending} {w' : World} {r : Option (Value × List ByteArray)}
theorem stp_no (h : StpBy F w0 w B b W fr gv vL L r e w') (hr : r = none) : e = .panicked unf ∧ Below w0.heap.size w0 w' := by subst hr; exact h.2
theorem stp_yes (h : StpBy F w0 w B b W fr gv vL L r e w') {v : Value} {T : List ByteArray} (hr : r = some (v, T)) : e = .returned v ∧ Keeps F w w' ∧ ∃ vS', ST w0 w' B b W fr gv vL vS' L T := by subst hr; exact ⟨h.2.1, h.1, h.2.2⟩
theorem stp_none (hr : r = none) (hk : Keeps F w w') (hb : Below w0.heap.size w0 w') : StpBy F w0 w B b W fr gv vL L r (.panicked unf) w' := by subst hr; exact ⟨hk, rfl, hb⟩
theorem stp_some {v vS' : Value} {T : List ByteArray} (hr : r = some (v, T)) (hk : Keeps F w w') (h : ST w0 w' B b W fr gv vL vS' L T) : StpBy F w0 w B b W fr gv vL L r (.returned v) w' := by subst hr; exact ⟨hk, rfl, vS', h⟩
end
def popR (S : List ByteArray) : Option (Value × List ByteArray) := (popS S).map fun p => (.string p.1, p.2)
def unitR (o : Option (List ByteArray)) : Option (Value × List ByteArray) := o.map fun S => (.tuple #[], S)
theorem snoc_of {S : List ByteArray} (h : S ≠ []) : ∃ T k, S = T ++ [k] := ⟨S.dropLast, S.getLast h, (List.dropLast_concat_getLast h).symm⟩
theorem spop_any {w0 w : World} {B b : Nat} {W : WL} {fr gv : ByteArray} {vL vS : Value} {L S : List ByteArray} (h : ST w0 w B b W fr gv vL vS L S) :
  Calls Tryz.prog 238 #[.pointer (some ⟨B, 0, none⟩)] w (StpBy (fun k => k = B) w0 w B b W fr gv vL L (popR S)) := by
 obtain ⟨x0, x1, x2, x3, x4⟩ := h.cells
 have f4 := h.frz 4
 by_cases hS : S = []
 ·subst hS
  have HR : Hid (popR [] = none) := hid rfl
  have HB := hid h.below
  obtain ⟨a, c, hv⟩ := h.oS.sl.val
  subst hv
  clear h
  go_enter Tryz.func238, Tryz.ntmps238
  go_wp2_with fail
  refine (need_no _).mono ?_
  rintro e w1 ⟨rfl, rfl⟩
  exact ⟨rfl, stp_none HR.out (Keeps.refl _ _) HB.out⟩
 ·obtain ⟨T, k, rfl⟩ := snoc_of hS
  have HR : Hid (popR (T ++ [k]) = some (.string k, T)) := hid (by unfold popR; rw [pop_snoc]; rfl)
  obtain ⟨a, c, hv⟩ := h.oS.sl.val
  obtain ⟨n, hn⟩ : ∃ n, T.length = n := ⟨_, rfl⟩
  have hl : (T ++ [k]).length = n + 1 := by rw [List.length_append, hn]; rfl
  have hn8 : n ≤ 7 := by have := h.lenS; omega
  have HO : Hid (Out w0 w 9 1 (.slice a (n + 1) c) (n + 1) ((T ++ [k]).map .string)) := hid (by have := h.oS; rw [hv, hl] at this; exact this)
  rw [hl] at hv
  subst hv
  have HCUT : Hid (Out w0 w 9 1 (.slice a n c) T.length (T.map .string)) := hid (by
   have := HO.out.cut (m := n) (by omega)
   rw [hn]
   have e : ((T ++ [k]).map Value.string).take (n * 1) = T.map .string := by rw [Nat.mul_one, ← List.map_take, ← hn, List.take_left]
   rw [e] at this
   exact this)
  have HST : Hid (ST w0 (w.setCell ⟨B, 4, none⟩ (.slice a n c)) B b W fr gv vL (.slice a n c) L T) := hid (h.setS HCUT.out (Apart.symm (Apart.cut (Apart.symm h.apart))) (by
   have := h.neS
   cases a with
   | none => simp [Value.ownBlock]
   | some ad => simpa [Value.ownBlock] using this) (by omega))
  have hcap : (n : Int) ≤ (c : Int) := by have := (HO.out.sl.cap).2; omega
  obtain ⟨bb, off, hab, hk⟩ := text_at (l := T ++ [k]) (k := n) (by have q := HO.out.sl; rw [← hl] at q; exact q) (by rw [hl]; omega)
  have hkk : (T ++ [k])[n]'(by rw [hl]; omega) = k := by simp [← hn]
  rw [hkk] at hk
  subst hab
  have hn0 : (0 : Int) ≤ (n : Int) := by omega
  clear h hS hl hn hkk
  go_enter Tryz.func238, Tryz.ntmps238
  go_wp2_with fail
  refine (need_yes _).mono ?_
  rintro e w1 ⟨rfl, rfl⟩
  go_wp2
  go_ret
  exact stp_some HR.out (Keeps.set _ _ _ _) HST.out
theorem sput_any {w0 w : World} {B b : Nat} {W : WL} {fr gv : ByteArray} {vL vS : Value} {L S : List ByteArray} (k : ByteArray) (h : ST w0 w B b W fr gv vL vS L S) :
  Calls Tryz.prog 236 #[.pointer (some ⟨B, 0, none⟩), .string k] w (StpBy (fun k => k = B ∨ vS.ownBlock = some k) w0 w B b W fr gv vL L (unitR (putS S k))) := by
 obtain ⟨x0, x1, x2, x3, x4⟩ := h.cells
 have f4 := h.frz 4
 obtain ⟨a, c, hv⟩ := h.oS.sl.val
 obtain ⟨n, hn⟩ : ∃ n, S.length = n := ⟨_, rfl⟩
 have HN := hid hn
 rw [hn] at hv
 subst hv
 have hn8 : n ≤ 8 := by have := h.lenS; omega
 have HST := hid h
 clear h hn
 by_cases hlt : n < 8
 ·have HR : Hid (unitR (putS S k) = some (.tuple #[], S ++ [k])) := hid (by unfold unitR putS; rw [if_pos (by rw [HN.out]; exact hlt)]; rfl)
  have hlt1 : (n : Int) < 8 := by omega
  have HO : Hid (Out w0 w 9 1 (.slice a n c) n (S.map .string)) := hid (by have := HST.out.oS; rwa [HN.out] at this)
  go_enter Tryz.func236, Tryz.ntmps236
  go_wp2_with fail
  refine (need_yes _).mono ?_
  rintro e w1 ⟨rfl, rfl⟩
  go_wp2_with (at_builtin; refine wpList_append_lit_at w0 w _ rfl _ _ 24 rfl 9 (.string { data := #[] }) 1 16 1 Tryz.underlying24 infoS rfl (by decide) _ _ _ HO.out rfl rfl rfl (by simp [Value.oneCell']) (by omega) (by omega) ?_)
  intro v2 w2 ho2 hg2 hat2
  obtain ⟨a2, c2, hv2⟩ := ho2.sl.val
  subst hv2
  have HST2 := hid (HST.out.putS (w' := w2) (vS' := .slice a2 (n + 1) c2) (S' := S ++ [k]) (hg2.block B HST.out.lt fun e => HST.out.neS e.symm) (HO.out.beside HST.out.oL HST.out.apart hg2) (by rw [List.length_append, HN.out, List.map_append]; exact ho2) (by
   intro q hq hq2
   rcases hat2 with he | ⟨j, he, hle⟩
   ·exact HST.out.apart q (by rw [← he]; exact hq) hq2
   ·rw [hq] at he
    have := Option.some.inj he
    have := (HST.out.oL.own.lt q hq2).2
    omega) (fun e => by
   rcases hat2 with he | ⟨j, he, hle⟩
   ·rw [he] at e; exact HST.out.neS e
   ·rw [he] at e
    have := Option.some.inj e
    have := HST.out.lt
    omega) (by rw [List.length_append, HN.out]; simp only [List.length_singleton]; omega))
  have HK2 : Hid (Keeps (fun k => k = B ∨ (Value.slice a n c).ownBlock = some k) w (w2.setCell ⟨B, 4, none⟩ (.slice a2 (n + 1) c2))) := hid (((Keeps.grown hg2).mono fun k _ hk => .inr hk.symm).then (Keeps.set w2 B 4 _) fun k _ hk => .inl hk)
  obtain ⟨_, y4, g4⟩ := HST2.out
  clear ho2 hg2 hat2
  go_wp2_with fail
  go_end0
  exact stp_some HR.out HK2.out HST2.out.1
 ·have HR : Hid (unitR (putS S k) = none) := hid (by unfold unitR putS; rw [if_neg (by rw [HN.out]; exact hlt)]; rfl)
  have hlt1 : ¬ (n : Int) < 8 := by omega
  go_enter Tryz.func236, Tryz.ntmps236
  go_wp2_with fail
  refine (need_no _).mono ?_
  rintro e w1 ⟨rfl, rfl⟩
  exact ⟨rfl, stp_none HR.out (Keeps.refl _ _) HST.out.below⟩
theorem sknown_any {w0 w : World} {B b : Nat} {W : WL} {fr gv : ByteArray} {vL vS : Value} {L S : List ByteArray} (k : ByteArray) (hk : k.size ≤ 9223372036854775807) (h : ST w0 w B b W fr gv vL vS L S) :
  Calls Tryz.prog 242 #[.pointer (some ⟨B, 0, none⟩), .string k] w (StpBy (fun k => k = B) w0 w B b W fr gv vL L (if kindF W k.data.toList = 0 then some (.tuple #[], S) else none)) := by
 obtain ⟨x0, x1, x2, x3, x4⟩ := h.cells
 have HST := hid h
 have HKD := hid (kind_any W b k w h.wd'.at_ hk)
 obtain ⟨z, hz⟩ : ∃ z, kindF W k.data.toList = z := ⟨_, rfl⟩
 rw [hz] at HKD ⊢
 clear h hz hk
 by_cases h0 : z = 0
 ·subst h0
  rw [if_pos rfl]
  rw [show errVal 0 = .nilIface from rfl] at HKD
  go_enter Tryz.func242, Tryz.ntmps242
  go_wp2_with fail
  refine HKD.out.mono ?_
  rintro e w1 ⟨rfl, hb1⟩
  have HK1 : Hid (Keeps (fun k => k = B) w w1) := hid (Keeps.of_below hb1)
  have HS1 := hid (HST.out.later hb1)
  clear hb1
  go_wp2_with fail
  refine (need_yes _).mono ?_
  rintro e w2 ⟨rfl, rfl⟩
  go_wp2
  go_end0
  exact stp_some rfl HK1.out HS1.out
 ·rw [if_neg h0]
  have HEV : Hid (errVal z = .iface 53 (.int .i64 z)) := hid (by unfold errVal; rw [if_neg h0])
  rw [HEV.out] at HKD
  go_enter Tryz.func242, Tryz.ntmps242
  go_wp2_with fail
  refine HKD.out.mono ?_
  rintro e w1 ⟨rfl, hb1⟩
  have HK1 : Hid (Keeps (fun k => k = B) w w1) := hid (Keeps.of_below hb1)
  have HS1 := hid (HST.out.later hb1)
  clear hb1
  go_wp2_with fail
  refine (need_no _).mono ?_
  rintro e w2 ⟨rfl, rfl⟩
  exact ⟨rfl, stp_none rfl HK1.out HS1.out.below⟩
def refR (S : List ByteArray) : Option (Value × List ByteArray) := (refS S).map fun p => (.string p.1, p.2)
theorem sref_any {w0 w : World} {B b : Nat} {W : WL} {fr gv : ByteArray} {vL vS : Value} {L S : List ByteArray} (h : ST w0 w B b W fr gv vL vS L S) :
  Calls Tryz.prog 241 #[.pointer (some ⟨B, 0, none⟩)] w (StpBy (fun k => k = B) w0 w B b W fr gv vL L (refR S)) := by
 have HP := hid (spop_any h)
 have hbw := h.below
 clear h hbw
 cases hp : popS S with
 | none =>
  have HPR : Hid (popR S = none) := hid (by unfold popR; rw [hp]; rfl)
  have HR : Hid (refR S = none) := hid (by unfold refR refS; rw [hp]; rfl)
  clear hp
  go_enter Tryz.func241, Tryz.ntmps241
  go_wp2_with fail
  refine HP.out.mono ?_
  intro e w1 h1
  have hk1 := h1.1
  obtain ⟨rfl, hb⟩ := stp_no h1 HPR.out
  exact ⟨rfl, stp_none HR.out hk1 hb⟩
 | some p =>
  obtain ⟨k, T⟩ := p
  have HPR : Hid (popR S = some (.string k, T)) := hid (by unfold popR; rw [hp]; rfl)
  have HRR := hid (refs_any k)
  by_cases hN : k.data.toList = [78]
  ·have g1 : k.toList = [78] := str_list.2 hN
   have HR : Hid (refR S = some (.string k, T)) := hid (by
    unfold refR refS
    rw [hp, Option.bind_some, if_pos (.inl (by rw [← bs_list k, hN]; rfl))]; rfl)
   clear hp hN
   go_enter Tryz.func241, Tryz.ntmps241
   go_wp2_with fail
   refine HP.out.mono ?_
   intro e w1 h1
   obtain ⟨rfl, hk1, vS1, hs1⟩ := stp_yes h1 HPR.out
   have HK1 := hid hk1; have HS1 := hid hs1
   clear h1 hk1 hs1
   go_wp2_with fail
   refine (need_yes _).mono ?_
   rintro e w2 ⟨rfl, rfl⟩
   go_wp2
   go_ret
   exact stp_some HR.out HK1.out HS1.out
  ·obtain ⟨g1, g2⟩ := (show (k.toList == [78]) = false ∧ ¬ k.toList = [78] from ⟨beq_eq_false_iff_ne.2 fun e => hN (str_list.1 e), fun e => hN (str_list.1 e)⟩)
   have hNe : ¬ k = tN := fun e => hN (by rw [e]; rfl)
   cases hr : refs k.data.toList with
   | true =>
    rw [hr] at HRR
    have HR : Hid (refR S = some (.string k, T)) := hid (by
     unfold refR refS
     rw [hp, Option.bind_some, if_pos (.inr hr)]; rfl)
    clear hp hN hr hNe
    go_enter Tryz.func241, Tryz.ntmps241
    go_wp2_with fail
    refine HP.out.mono ?_
    intro e w1 h1
    obtain ⟨rfl, hk1, vS1, hs1⟩ := stp_yes h1 HPR.out
    have HK1 := hid hk1; have HS1 := hid hs1
    clear h1 hk1 hs1
    go_wp2_with fail
    refine (HRR.out _).mono ?_
    rintro e w2 ⟨rfl, rfl⟩
    go_wp2_with fail
    refine (need_yes _).mono ?_
    rintro e w2 ⟨rfl, rfl⟩
    go_wp2
    go_ret
    exact stp_some HR.out HK1.out HS1.out
   | false =>
    rw [hr] at HRR
    have HR : Hid (refR S = none) := hid (by
     unfold refR refS
     rw [hp, Option.bind_some, if_neg (by rintro (e | e); exact hNe e; rw [hr] at e; cases e)]; rfl)
    clear hp hN hr hNe
    go_enter Tryz.func241, Tryz.ntmps241
    go_wp2_with fail
    refine HP.out.mono ?_
    intro e w1 h1
    obtain ⟨rfl, hk1, vS1, hs1⟩ := stp_yes h1 HPR.out
    have HK1 := hid hk1; have HS1 := hid hs1
    clear h1 hk1 hs1
    go_wp2_with fail
    refine (HRR.out _).mono ?_
    rintro e w2 ⟨rfl, rfl⟩
    go_wp2_with fail
    refine (need_no _).mono ?_
    rintro e w2 ⟨rfl, rfl⟩
    exact ⟨rfl, stp_none HR.out HK1.out HS1.out.below⟩
theorem takes_drop {W : WL} {ks S : List ByteArray} {i : Nat} (h : i < ks.length) : takesS W (ks.drop i) S = (takeS W S ks[i]).bind fun S => takesS W (ks.drop (i + 1)) S := by
 rw [List.drop_eq_getElem_cons h]; rfl
theorem stake_any {w0 w : World} {B b : Nat} {W : WL} {fr gv : ByteArray} {vL vS : Value} {L S : List ByteArray} (va : Value) (ks : List ByteArray) (h : ST w0 w B b W fr gv vL vS L S) (ha : Sl w va ks.length 1 (ks.map .string)) (hab : va.ownBlock ≠ some B)
  (hr : ∀ k ∈ S, RightK W k.data.toList) (hk : ∀ k ∈ ks, k.size ≤ 1000000 ∧ (kindF W k.data.toList = 0 → isTy k.data.toList = true)) (hn : ks.length ≤ 1000) :
  Calls Tryz.prog 239 #[.pointer (some ⟨B, 0, none⟩), va] w (StpBy (fun k => k = B) w0 w B b W fr gv vL L (unitR (takesS W ks S))) := by
 obtain ⟨aa, ca, rfl⟩ := ha.val
 have HST := hid h; have HA := hid ha; have HAB := hid hab; have HR := hid hr; have HK := hid hk
 obtain ⟨Z, hZ⟩ : ∃ Z, unitR (takesS W ks S) = Z := ⟨_, rfl⟩
 rw [hZ]
 have HZ := hid hZ
 clear h ha hab hr hk hZ
 go_enter Tryz.func239, Tryz.ntmps239
 go_wp2
 go_loopw [8] (fun v wr => ∃ (i : Nat) (S1 : List ByteArray) (vS1 : Value), i ≤ ks.length ∧ v = .int .i64 (i : Int) ∧ Hid (ST w0 wr B b W fr gv vL vS1 L S1) ∧ Hid (takesS W ks S = takesS W (ks.drop i) S1) ∧ Hid (Keeps (fun k => k = B) w wr) ∧ Hid (∀ k ∈ S1, RightK W k.data.toList)) (fun v _ => ks.length - (intOf v).toNat)
 case atStart => exact ⟨0, S, vS, Nat.zero_le _, rfl, HST, hid rfl, hid (Keeps.refl _ _), HR⟩
 case round =>
  obtain ⟨i, S1, vS1, hi, rfl, HS, HT, HKP, HRR⟩ := hrel
  obtain ⟨wb, hwb⟩ : ∃ wb, wb = wr := ⟨_, rfl⟩
  subst hwb
  have hi0 : (0 : Int) ≤ (i : Int) := by omega
  by_cases hlt : i < ks.length
  ·have hi1 : (i : Int) < (ks.length : Int) := by omega
   obtain ⟨bb, off, hbo, hd0⟩ := text_at (sl_keeps HA.out HKP.out fun k hk e => HAB.out (by rw [hk, e])) hlt
   subst hbo
   have HTD := hid (HT.out.trans (takes_drop hlt))
   have HKI := hid (HK.out _ (List.getElem_mem hlt))
   generalize ks[i] = k at hd0 HTD HKI
   have HKN := hid (sknown_any k (by have := HKI.out.1; omega) HS.out)
   by_cases h0 : kindF W k.data.toList = 0
   ·rw [if_pos h0] at HKN
    have HTY := hid (HKI.out.2 h0)
    have HK0 := hid h0
    clear h0
    go_wp2_with fail
    refine HKN.out.mono ?_
    intro e w2 h2
    obtain ⟨rfl, hk2, vS2, hs2⟩ := stp_yes h2 rfl
    have HS2 := hid hs2
    have HK2 := hid (HKP.out.trans hk2)
    clear h2 hk2 hs2
    have HSD := hid (HS2.out.later (Below.refl w2.heap.size w2).drew)
    have HKD : Hid (Keeps (fun k => k = B) w w2.drew) := hid (HK2.out.trans (Keeps.of_below (Below.refl w2.heap.size w2).drew))
    obtain ⟨WD, hwd⟩ : ∃ WD, w2.drew = WD := ⟨_, rfl⟩
    rw [hwd] at HSD HKD
    have HCD := hid HSD.out.cells.1
    cases hp : popS S1 with
    | none =>
     have HPR : Hid (popR S1 = none) := hid (by unfold popR; rw [hp]; rfl)
     have HZN : Hid (Z = none) := hid (by rw [← HZ.out, HTD.out]; unfold takeS; rw [if_neg (by rw [HK0.out]; decide), hp]; rfl)
     clear hp
     go_wp2_with fail
     refine wp_region_c (fun u => u.cell? ⟨B, 0, none⟩ = some (.map (some b))) (by kernel_rfl) ?_
     show wpAnyC _ _ _ _ _ _ _ _ w2.drew
     rw [hwd]
     refine zct 0 _ _ rfl HCD.out (fun u hu => by go_simp; rfl) ?_
     simp only [zg1, zg2, zg3, Act.put, zg4, zg5, zg6]
     refine zct 1 _ _ rfl HCD.out (fun u hu => by go_simp; rfl) ?_
     simp only [zg1, zg2, zg3, Act.put, zg4, zg5, zg6]
     refine zct 2 _ _ rfl HCD.out (fun u hu => by go_simp; rfl) ?_
     simp only [zg1, zg2, zg3, Act.put, zg4, zg5, zg6]
     refine zct 3 _ _ rfl HCD.out (fun u hu => by go_simp; rfl) ?_
     simp only [zg1, zg2, zg3, Act.put, zg4, zg5, zg6]
     refine zct 4 _ _ rfl HCD.out (fun u hu => by go_simp; rfl) ?_
     simp only [zg1, zg2, zg3, Act.put, zg4, zg5, zg6]
     refine zct 6 _ _ rfl HCD.out (fun u hu => by go_simp; rfl) ?_
     simp only [zg1, zg2, zg3, Act.put, zg4, zg5, zg6]
     refine c_only 5 _ rfl (by kernel_rfl) ?_
     go_simp
     refine (spop_any HSD.out).mono ?_
     intro e w3 h3
     have hk3 := h3.1
     obtain ⟨rfl, hb3⟩ := stp_no h3 HPR.out
     exact ⟨rfl, stp_none HZN.out (HKD.out.trans hk3) hb3⟩
    | some p =>
     obtain ⟨j, T⟩ := p
     have HPR : Hid (popR S1 = some (.string j, T)) := hid (by unfold popR; rw [hp]; rfl)
     have hsp := pop_some hp
     have HRJ : Hid (RightK W j.data.toList) := hid (HRR.out j (by rw [hsp]; simp))
     have HRT : Hid (∀ q ∈ T, RightK W q.data.toList) := hid (fun q hq => HRR.out q (by rw [hsp]; exact List.mem_append_left _ hq))
     have HDO := hid (fun (u : World) (hu : Wd u b W) => doesK_any W b j k u hu HRJ.out HTY.out)
     cases hd : doesL W j.data.toList k.data.toList with
     | true =>
      rw [hd] at HDO
      have HTN : Hid (takesS W ks S = takesS W (ks.drop (i + 1)) T) := hid (by rw [HTD.out]; unfold takeS; rw [if_neg (by rw [HK0.out]; decide), hp, Option.bind_some, if_pos hd]; rfl)
      clear hp hd hsp
      go_wp2_with fail
      refine wp_region_c (fun u => u.cell? ⟨B, 0, none⟩ = some (.map (some b))) (by kernel_rfl) ?_
      show wpAnyC _ _ _ _ _ _ _ _ w2.drew
      rw [hwd]
      refine zct 0 _ _ rfl HCD.out (fun u hu => by go_simp; rfl) ?_
      simp only [zg1, zg2, zg3, Act.put, zg4, zg5, zg6]
      refine zct 1 _ _ rfl HCD.out (fun u hu => by go_simp; rfl) ?_
      simp only [zg1, zg2, zg3, Act.put, zg4, zg5, zg6]
      refine zct 2 _ _ rfl HCD.out (fun u hu => by go_simp; rfl) ?_
      simp only [zg1, zg2, zg3, Act.put, zg4, zg5, zg6]
      refine zct 3 _ _ rfl HCD.out (fun u hu => by go_simp; rfl) ?_
      simp only [zg1, zg2, zg3, Act.put, zg4, zg5, zg6]
      refine zct 4 _ _ rfl HCD.out (fun u hu => by go_simp; rfl) ?_
      simp only [zg1, zg2, zg3, Act.put, zg4, zg5, zg6]
      refine zct 6 _ _ rfl HCD.out (fun u hu => by go_simp; rfl) ?_
      simp only [zg1, zg2, zg3, Act.put, zg4, zg5, zg6]
      refine c_only 5 _ rfl (by kernel_rfl) ?_
      go_simp
      refine (spop_any HSD.out).mono ?_
      intro e w3 h3
      obtain ⟨rfl, hk3, vS3, hs3⟩ := stp_yes h3 HPR.out
      have HS3 := hid hs3
      have HK3 := hid (HKD.out.trans hk3)
      have HC3 := hid hs3.cells.1
      clear h3 hk3 hs3
      refine ⟨HC3.out, ?_⟩
      try simp only [zg1, zg2, zg3, Act.put, zg4, zg5, zg6]
      refine c_only 7 _ rfl (by kernel_rfl) ?_
      go_simp
      refine (HDO.out w3 HS3.out.wd').mono ?_
      rintro e w4 ⟨rfl, hb4⟩
      have HS4 := hid (HS3.out.later hb4)
      have HK4 : Hid (Keeps (fun k => k = B) w w4) := hid (HK3.out.trans (Keeps.of_below hb4))
      have HC4 := hid HS4.out.cells.1
      clear hb4
      refine ⟨HC4.out, ?_⟩
      try simp only [zg1, zg2, zg3, Act.put, zg4, zg5, zg6]
      refine c_only 8 _ rfl (by kernel_rfl) ?_
      go_simp
      refine (need_yes _).mono ?_
      rintro e w5 ⟨rfl, hw5⟩
      subst hw5
      refine ⟨HC4.out, ?_⟩
      try simp only [zg1, zg2, zg3, Act.put, zg4, zg5, zg6]
      refine c_end (by kernel_rfl) ?_
      go_wp2_with fail
      go_roundw
      case rel => exact ⟨i + 1, T, vS3, by omega, by simp, HS4, HTN, HK4, HRT⟩
      case measure => simp [intOf]; omega
     | false =>
      rw [hd] at HDO
      have HZN : Hid (Z = none) := hid (by rw [← HZ.out, HTD.out]; unfold takeS; rw [if_neg (by rw [HK0.out]; decide), hp, Option.bind_some, if_neg (by rw [hd]; decide)]; rfl)
      clear hp hd hsp
      go_wp2_with fail
      refine wp_region_c (fun u => u.cell? ⟨B, 0, none⟩ = some (.map (some b))) (by kernel_rfl) ?_
      show wpAnyC _ _ _ _ _ _ _ _ w2.drew
      rw [hwd]
      refine zct 0 _ _ rfl HCD.out (fun u hu => by go_simp; rfl) ?_
      simp only [zg1, zg2, zg3, Act.put, zg4, zg5, zg6]
      refine zct 1 _ _ rfl HCD.out (fun u hu => by go_simp; rfl) ?_
      simp only [zg1, zg2, zg3, Act.put, zg4, zg5, zg6]
      refine zct 2 _ _ rfl HCD.out (fun u hu => by go_simp; rfl) ?_
      simp only [zg1, zg2, zg3, Act.put, zg4, zg5, zg6]
      refine zct 3 _ _ rfl HCD.out (fun u hu => by go_simp; rfl) ?_
      simp only [zg1, zg2, zg3, Act.put, zg4, zg5, zg6]
      refine zct 4 _ _ rfl HCD.out (fun u hu => by go_simp; rfl) ?_
      simp only [zg1, zg2, zg3, Act.put, zg4, zg5, zg6]
      refine zct 6 _ _ rfl HCD.out (fun u hu => by go_simp; rfl) ?_
      simp only [zg1, zg2, zg3, Act.put, zg4, zg5, zg6]
      refine c_only 5 _ rfl (by kernel_rfl) ?_
      go_simp
      refine (spop_any HSD.out).mono ?_
      intro e w3 h3
      obtain ⟨rfl, hk3, vS3, hs3⟩ := stp_yes h3 HPR.out
      have HS3 := hid hs3
      have HK3 := hid (HKD.out.trans hk3)
      have HC3 := hid hs3.cells.1
      clear h3 hk3 hs3
      refine ⟨HC3.out, ?_⟩
      try simp only [zg1, zg2, zg3, Act.put, zg4, zg5, zg6]
      refine c_only 7 _ rfl (by kernel_rfl) ?_
      go_simp
      refine (HDO.out w3 HS3.out.wd').mono ?_
      rintro e w4 ⟨rfl, hb4⟩
      have HS4 := hid (HS3.out.later hb4)
      have HK4 : Hid (Keeps (fun k => k = B) w w4) := hid (HK3.out.trans (Keeps.of_below hb4))
      have HC4 := hid HS4.out.cells.1
      clear hb4
      refine ⟨HC4.out, ?_⟩
      try simp only [zg1, zg2, zg3, Act.put, zg4, zg5, zg6]
      refine c_only 8 _ rfl (by kernel_rfl) ?_
      go_simp
      refine (need_no _).mono ?_
      rintro e w5 ⟨rfl, hw5⟩
      subst hw5
      exact ⟨rfl, stp_none HZN.out HK4.out HS4.out.below⟩
   ·rw [if_neg h0] at HKN
    have HZN : Hid (Z = none) := hid (by rw [← HZ.out, HTD.out]; unfold takeS; rw [if_pos h0]; rfl)
    clear h0
    go_wp2_with fail
    refine HKN.out.mono ?_
    intro e w2 h2
    have hk2 := h2.1
    obtain ⟨rfl, hb2⟩ := stp_no h2 rfl
    exact ⟨rfl, stp_none HZN.out (HKP.out.trans hk2) hb2⟩
  ·have HZS : Hid (Z = some (.tuple #[], S1)) := hid (by rw [← HZ.out, HT.out, List.drop_eq_nil_of_le (by omega)]; rfl)
   obtain rfl : i = ks.length := by omega
   clear hlt
   go_wp2
   go_end0
   exact stp_some HZS.out HKP.out HS.out
theorem takes_one (W : WL) (S : List ByteArray) (k : ByteArray) : takesS W [k] S = takeS W S k := by
 simp only [takesS]
 cases takeS W S k <;> rfl
theorem sarray_any {w0 w : World} {B b : Nat} {W : WL} {fr gv : ByteArray} {vL vS : Value} {L S : List ByteArray} (t : ByteArray) (ht : isTy t.data.toList = true) (h : ST w0 w B b W fr gv vL vS L S) (hr : ∀ k ∈ S, RightK W k.data.toList) :
  Calls Tryz.prog 244 #[.pointer (some ⟨B, 0, none⟩), .string t] w (StpBy (fun k => k = B) w0 w B b W fr gv vL L (unitR (arrayS W S t))) := by
 obtain ⟨Z, hZ⟩ : ∃ Z, unitR (arrayS W S t) = Z := ⟨_, rfl⟩
 rw [hZ]
 have HZ := hid hZ
 have HTY := hid ht
 have hts : t.size ≤ 25 := ins.isTy_size ht
 have HKN := hid (sknown_any t (by omega) h)
 have HR := hid hr
 have HRT := hid (refs_any t)
 obtain ⟨rt, hrt⟩ : ∃ rt, refs t.data.toList = rt := ⟨_, rfl⟩
 have HRTE := hid hrt
 rw [hrt] at HRT
 clear hZ ht hr hrt hts
 by_cases h0 : kindF W t.data.toList = 0
 ·rw [if_pos h0] at HKN
  have HK0 := hid h0
  clear h h0
  go_enter Tryz.func244, Tryz.ntmps244
  go_wp2_with fail
  refine HKN.out.mono ?_
  intro e w1 h1
  obtain ⟨rfl, hk1, vS1, hs1⟩ := stp_yes h1 rfl
  clear h1
  obtain ⟨W2, hW2⟩ : ∃ W2, w1.alloc (.cells #[.string { data := #[73] }] 9) = W2 := ⟨_, rfl⟩
  have HS2 := hid (hs1.later (hW2 ▸ ext_alloc w1 _))
  have HK2 : Hid (Keeps (fun k => k = B) w W2) := hid (hk1.trans (hW2 ▸ Keeps.alloc _ w1 _))
  have HTK := hid (stake_any (.slice (some ⟨w1.heap.size, 0, none⟩) 1 1) [tI] HS2.out (hW2 ▸ Sl.lit w1 #[.string { data := #[73] }] 9 1 1 rfl) (by
   intro e
   have := Option.some.inj e
   have := hs1.lt
   simp only at *
   omega) HR.out (fun k hk => by rw [List.mem_singleton.1 hk]; exact ⟨by decide, fun _ => by decide +kernel⟩) (by decide))
  clear hs1 hk1
  go_wp2_with fail
  refine HTK.out.mono ?_
  intro e w3 h3
  cases ht1 : takeS W S tI with
  | none =>
   have hz : unitR (takesS W [tI] S) = none := by rw [takes_one, ht1]; rfl
   have HZN : Hid (Z = none) := hid (by rw [← HZ.out]; unfold arrayS; rw [if_neg (fun e => e HK0.out), ht1]; rfl)
   have hk3 := h3.1
   obtain ⟨rfl, hb3⟩ := stp_no h3 hz
   exact ⟨rfl, stp_none HZN.out (HK2.out.trans hk3) hb3⟩
  | some T =>
   have hz : unitR (takesS W [tI] S) = some (.tuple #[], T) := by rw [takes_one, ht1]; rfl
   obtain ⟨rfl, hk3, vS3, hs3⟩ := stp_yes h3 hz
   have HT1 := hid ht1
   have HRT1 : Hid (∀ k ∈ T, RightK W k.data.toList) := hid (fun k hk => by
    obtain ⟨j, hj, _⟩ := take_some ht1
    exact HR.out k (by rw [hj]; exact List.mem_append_left _ hk))
   have HK3 := hid (HK2.out.trans hk3)
   have HRF := hid (sref_any hs3)
   clear h3 hz hk3 hs3 ht1
   go_wp2_with fail
   refine HRF.out.mono ?_
   intro e w4 h4
   cases hp : refS T with
   | none =>
    have hpr : refR T = none := by unfold refR; rw [hp]; rfl
    have HZN : Hid (Z = none) := hid (by rw [← HZ.out]; unfold arrayS; rw [if_neg (fun e => e HK0.out), HT1.out, Option.bind_some, hp]; rfl)
    have hk4 := h4.1
    obtain ⟨rfl, hb4⟩ := stp_no h4 hpr
    exact ⟨rfl, stp_none HZN.out (HK3.out.trans hk4) hb4⟩
   | some p =>
    obtain ⟨k, U⟩ := p
    have hpr : refR T = some (.string k, U) := by unfold refR; rw [hp]; rfl
    obtain ⟨rfl, hk4, vS4, hs4⟩ := stp_yes h4 hpr
    have HS4 := hid hs4
    have HK4 := hid (HK3.out.trans hk4)
    have HAR : Hid (Z = unitR (if k = tN then some U else match k.data.toList with
     | 91 :: a => if doesL W a t.data.toList = true ∧ refs a = refs t.data.toList then some U else none
     | _ => none)) := hid (by rw [← HZ.out]; unfold arrayS; rw [if_neg (fun e => e HK0.out), HT1.out, Option.bind_some, hp]; rfl)
    have HRK : Hid (RightK W k.data.toList) := hid (by
     obtain ⟨hj, _⟩ := ref_some hp
     exact HRT1.out k (by rw [hj]; simp))
    have HRR := hid (ref_some hp).2
    have HMP : Hid (∀ u, Below w4.heap.size w4 u → u.cell? ⟨B, 0, none⟩ = some (.map (some b))) := hid (fun u hu => (hs4.later hu).cells.1)
    have HWD : Hid (∀ u, Below w4.heap.size w4 u → Wd u b W) := hid (fun u hu => (hs4.later hu).wd')
    clear h4 hpr hk4 hs4 hp
    by_cases hN : k = tN
    ·have HZY : Hid (Z = some (.tuple #[], U)) := hid (by rw [HAR.out, if_pos hN]; rfl)
     have q1 : (k.toList == [78]) = true := by rw [hN, ByteArray.toList_eq]; rfl
     have q2 : k.toList = [78] := by simpa using q1
     clear HAR hN
     go_wp2_with fail
     refine wp_region_ext_tail 25 [] trivial (by kernel_rfl) (by kernel_rfl) ?_
     refine zgc 1 ?_
     go_frame
     refine wpG_calc (v := .bool true) 2 rfl rfl rfl (fun u => by first | (go_simp; done) | (go_simp; rfl)) ?_
     go_frame
     refine zgc 3 ?_
     go_frame
     refine wpG_skip 4 rfl rfl ?_
     go_frame
     refine wpG_skip 5 rfl rfl ?_
     go_frame
     refine wpG_skip 6 rfl rfl ?_
     go_frame
     refine wpG_skip 7 rfl rfl ?_
     go_frame
     refine wpG_skip 8 rfl rfl ?_
     go_frame
     refine wpG_skip 9 rfl rfl ?_
     go_frame
     refine wpG_skip 10 rfl rfl ?_
     go_frame
     refine wpG_skip 11 rfl rfl ?_
     go_frame
     refine wpG_skip 12 rfl rfl ?_
     go_frame
     refine wpG_skip 13 rfl rfl ?_
     go_frame
     refine wpG_skip 14 rfl rfl ?_
     go_frame
     refine wpG_skip 15 rfl rfl ?_
     go_frame
     refine wpG_skip 16 rfl rfl ?_
     go_frame
     refine wpG_skip 17 rfl rfl ?_
     go_frame
     refine wpG_skip 18 rfl rfl ?_
     go_frame
     refine wpG_skip 19 rfl rfl ?_
     go_frame
     refine wpG_skip 20 rfl rfl ?_
     go_frame
     refine wpG_skip 21 rfl rfl ?_
     go_frame
     refine wpG_skip 22 rfl rfl ?_
     go_frame
     refine wpG_skip 23 rfl rfl ?_
     go_frame
     refine wpG_skip 24 rfl rfl ?_
     go_frame
     refine zgc 25 ?_
     go_frame
     refine wpG_nil fun w' hb' hF => ?_
     have HS5 := hid (HS4.out.later hb')
     have HK5 : Hid (Keeps (fun k => k = B) w w') := hid (HK4.out.trans (Keeps.of_below hb'))
     clear hb' hF
     go_wp2_with fail
     refine (need_yes _).mono ?_
     rintro e w6 ⟨rfl, rfl⟩
     go_wp2
     go_end0
     exact stp_some HZY.out HK5.out HS5.out
    ·have hr1 : refs k.data.toList = true := HRR.out.resolve_left hN
     have HAR2 := HAR.out
     rw [if_neg hN] at HAR2
     have k78 : ¬ k.data.toList = [78] := fun e => hN (by rw [← bs_list k, e]; rfl)
     have g1 : (k.toList == [78]) = false := beq_eq_false_iff_ne.2 fun e => k78 (str_list.1 e)
     have g2 : ¬ k.toList = [78] := fun e => k78 (str_list.1 e)
     rcases refs_cases hr1 with ⟨a, ha⟩ | ⟨a, ha⟩
     ·have HZN : Hid (Z = none) := hid (by rw [HAR2, ha]; rfl)
      obtain ⟨hk0, hkx⟩ := first_byte ha
      have hk0' : (0 : Int) < (k.size : Int) := by omega
      clear HAR HAR2 hN hr1 k78 ha
      go_wp2_with fail
      refine wp_region_ext_tail 25 [] trivial (by kernel_rfl) (by kernel_rfl) ?_
      refine zgc 1 ?_
      go_frame
      refine zgc 2 ?_
      go_frame
      refine zgc 3 ?_
      go_frame
      refine zgc 4 ?_
      go_frame
      refine wpG_calc 5 rfl rfl rfl (fun u => by first | (go_simp; done) | (go_simp; rfl)) ?_
      go_frame
      refine wpG_calc 6 rfl rfl rfl (fun u => by first | (go_simp; done) | (go_simp; rfl)) ?_
      go_frame
      refine zgc 7 ?_
      go_frame
      refine wpG_skip 8 rfl rfl ?_
      go_frame
      refine wpG_skip 9 rfl rfl ?_
      go_frame
      refine wpG_skip 10 rfl rfl ?_
      go_frame
      refine wpG_skip 11 rfl rfl ?_
      go_frame
      refine wpG_skip 12 rfl rfl ?_
      go_frame
      refine wpG_skip 13 rfl rfl ?_
      go_frame
      refine wpG_skip 14 rfl rfl ?_
      go_frame
      refine wpG_skip 15 rfl rfl ?_
      go_frame
      refine zgc 16 ?_
      go_frame
      refine zgc 17 ?_
      go_frame
      refine wpG_skip 18 rfl rfl ?_
      go_frame
      refine wpG_skip 19 rfl rfl ?_
      go_frame
      refine wpG_skip 20 rfl rfl ?_
      go_frame
      refine wpG_skip 21 rfl rfl ?_
      go_frame
      refine wpG_skip 22 rfl rfl ?_
      go_frame
      refine wpG_skip 23 rfl rfl ?_
      go_frame
      refine zgc 24 ?_
      go_frame
      refine zgc 25 ?_
      go_frame
      refine wpG_nil fun w' hb' hF => ?_
      have HS5 := hid (HS4.out.later hb')
      have HK5 : Hid (Keeps (fun k => k = B) w w') := hid (HK4.out.trans (Keeps.of_below hb'))
      clear hb' hF
      go_wp2_with fail
      refine (need_no _).mono ?_
      rintro e w6 ⟨rfl, rfl⟩
      exact ⟨rfl, stp_none HZN.out HK5.out HS5.out.below⟩
     ·have HZ1 : Hid (Z = unitR (if doesL W a t.data.toList = true ∧ refs a = refs t.data.toList then some U else none)) := hid (by rw [HAR2, ha]; try rfl)
      have hka := HRK.out
      rw [ha] at hka
      obtain ⟨hra, hta⟩ := arr_right hka
      obtain ⟨hk0, hkx⟩ := first_byte ha
      have hk0' : (0 : Int) < (k.size : Int) := by omega
      have q1 : (1 : Int) ≤ (k.size : Int) := by omega
      obtain ⟨FA, hFA⟩ : ∃ FA, k.extract 1 k.size = FA := ⟨_, rfl⟩
      obtain ⟨hFAl, hfs⟩ := tail_of ha
      rw [hFA] at hFAl
      have HRA := hid (refs_any FA)
      rw [hFAl] at HRA
      obtain ⟨ra, hrq⟩ : ∃ ra, refs a = ra := ⟨_, rfl⟩
      rw [hrq] at HRA
      have HRAE := hid hrq
      have HDO : Hid (∀ u, Wd u b W → Calls Tryz.prog 57 #[.map (some b), .string FA, .string t] u fun e w' => e = .returned (.bool (doesL W a t.data.toList)) ∧ Below u.heap.size u w') := hid (fun u hu => by
       have := doesK_any W b FA t u hu (by rw [hFAl]; exact hra) HTY.out
       rwa [hFAl] at this)
      clear HAR HAR2 hN hr1 k78 hka hra hta hFAl hfs hrq ha
      cases hd : doesL W a t.data.toList with
      | false =>
       rw [hd] at HDO
       have HZN : Hid (Z = none) := hid (by rw [HZ1.out, hd, if_neg (by simp)]; rfl)
       clear hd
       go_wp2_with fail
       refine wp_region_ext_tail 25 [(14, is (.bool false))] ⟨is_stays _, trivial⟩ (by kernel_rfl) (by kernel_rfl) ?_
       refine zgc 1 ?_
       go_frame
       refine zgc 2 ?_
       go_frame
       refine zgc 3 ?_
       go_frame
       refine zgc 4 ?_
       go_frame
       refine wpG_calc 5 rfl rfl rfl (fun u => by first | (go_simp; done) | (go_simp; rfl)) ?_
       go_frame
       refine wpG_calc 6 rfl rfl rfl (fun u => by first | (go_simp; done) | (go_simp; rfl)) ?_
       go_frame
       refine zgc 7 ?_
       go_frame
       refine zgc 8 ?_
       go_frame
       refine zgc 9 ?_
       go_frame
       refine zgc 10 ?_
       go_frame
       refine wpG_read 11 rfl rfl (.map (some b)) rfl ?_ ?_
       ·intro u hu hh
        have q := HMP.out u hu
        go_simp
       go_frame
       refine zgc 12 ?_
       go_frame
       refine wpG_calc (v := .string FA) 13 rfl rfl rfl (fun u => by first | (go_simp; done) | (go_simp; rfl)) ?_
       go_frame
       refine zgc 14 ?_
       go_frame
       refine wpG_rel 15 rfl rfl rfl ?_ ?_
       ·intro u hu hh
        go_simp
        refine (HDO.out u (HWD.out u hu)).mono ?_
        rintro e w9 ⟨rfl, hb9⟩
        first | (subst hb9; exact ⟨_, rfl, rfl, Below.refl _ _⟩) | exact ⟨_, rfl, rfl, hb9⟩
       intro vA ⟨uA, _, hrA⟩
       have hvA : vA = .bool false := hrA
       subst hvA
       go_frame
       refine zgc 16 ?_
       go_frame
       refine zgc 17 ?_
       go_frame
       refine wpG_skip 18 rfl rfl ?_
       go_frame
       refine wpG_skip 19 rfl rfl ?_
       go_frame
       refine wpG_skip 20 rfl rfl ?_
       go_frame
       refine wpG_skip 21 rfl rfl ?_
       go_frame
       refine wpG_skip 22 rfl rfl ?_
       go_frame
       refine wpG_skip 23 rfl rfl ?_
       go_frame
       refine zgc 24 ?_
       go_frame
       refine zgc 25 ?_
       go_frame
       refine wpG_nil fun w' hb' hF => ?_
       have HS5 := hid (HS4.out.later hb')
       have HK5 : Hid (Keeps (fun k => k = B) w w') := hid (HK4.out.trans (Keeps.of_below hb'))
       clear hb' hF
       go_wp2_with fail
       refine (need_no _).mono ?_
       rintro e w6 ⟨rfl, rfl⟩
       exact ⟨rfl, stp_none HZN.out HK5.out HS5.out.below⟩
      | true =>
       rw [hd] at HDO
       have HZ2 : Hid (Z = if ra = rt then some (.tuple #[], U) else none) := hid (by
        rw [HZ1.out, hd, HRAE.out, HRTE.out]
        by_cases e : ra = rt
        ·rw [if_pos ⟨rfl, e⟩, if_pos e]; rfl
        ·rw [if_neg (fun q => e q.2), if_neg e]; rfl)
       clear hd
       go_wp2_with fail
       refine wp_region_ext_tail 25 [(14, is (.bool true)), (19, is (.bool ra)), (21, is (.bool rt))] ⟨is_stays _, is_stays _, is_stays _, trivial⟩ (by kernel_rfl) (by kernel_rfl) ?_
       refine zgc 1 ?_
       go_frame
       refine zgc 2 ?_
       go_frame
       refine zgc 3 ?_
       go_frame
       refine zgc 4 ?_
       go_frame
       refine wpG_calc 5 rfl rfl rfl (fun u => by first | (go_simp; done) | (go_simp; rfl)) ?_
       go_frame
       refine wpG_calc 6 rfl rfl rfl (fun u => by first | (go_simp; done) | (go_simp; rfl)) ?_
       go_frame
       refine zgc 7 ?_
       go_frame
       refine zgc 8 ?_
       go_frame
       refine zgc 9 ?_
       go_frame
       refine zgc 10 ?_
       go_frame
       refine wpG_read 11 rfl rfl (.map (some b)) rfl ?_ ?_
       ·intro u hu hh
        have q := HMP.out u hu
        go_simp
       go_frame
       refine zgc 12 ?_
       go_frame
       refine wpG_calc (v := .string FA) 13 rfl rfl rfl (fun u => by first | (go_simp; done) | (go_simp; rfl)) ?_
       go_frame
       refine zgc 14 ?_
       go_frame
       refine wpG_rel 15 rfl rfl rfl ?_ ?_
       ·intro u hu hh
        go_simp
        refine (HDO.out u (HWD.out u hu)).mono ?_
        rintro e w9 ⟨rfl, hb9⟩
        first | (subst hb9; exact ⟨_, rfl, rfl, Below.refl _ _⟩) | exact ⟨_, rfl, rfl, hb9⟩
       intro vA ⟨uA, _, hrA⟩
       have hvA : vA = .bool true := hrA
       subst hvA
       go_frame
       refine zgc 16 ?_
       go_frame
       refine zgc 17 ?_
       go_frame
       refine zgc 18 ?_
       go_frame
       refine wpG_calc (v := .string FA) 19 rfl rfl rfl (fun u => by first | (go_simp; done) | (go_simp; rfl)) ?_
       go_frame
       refine wpG_rel 20 rfl rfl rfl ?_ ?_
       ·intro u hu hh
        go_simp
        refine (HRA.out u).mono ?_
        rintro e w9 ⟨rfl, hb9⟩
        first | (subst hb9; exact ⟨_, rfl, rfl, Below.refl _ _⟩) | exact ⟨_, rfl, rfl, hb9⟩
       intro vA ⟨uA, _, hrA⟩
       have hvA : vA = .bool ra := hrA
       subst hvA
       go_frame
       refine zgc 21 ?_
       go_frame
       refine wpG_rel 22 rfl rfl rfl ?_ ?_
       ·intro u hu hh
        go_simp
        refine (HRT.out u).mono ?_
        rintro e w9 ⟨rfl, hb9⟩
        first | (subst hb9; exact ⟨_, rfl, rfl, Below.refl _ _⟩) | exact ⟨_, rfl, rfl, hb9⟩
       intro vA ⟨uA, _, hrA⟩
       have hvA : vA = .bool rt := hrA
       subst hvA
       go_frame
       refine wpG_calc 23 rfl rfl rfl (fun u => by first | (go_simp; done) | (go_simp; rfl)) ?_
       go_frame
       refine wpG_calc 24 rfl rfl rfl (fun u => by first | (go_simp; done) | (go_simp; rfl)) ?_
       go_frame
       refine wpG_calc 25 rfl rfl rfl (fun u => by first | (go_simp; done) | (go_simp; rfl)) ?_
       go_frame
       refine wpG_nil fun w' hb' hF => ?_
       have HS5 := hid (HS4.out.later hb')
       have HK5 : Hid (Keeps (fun k => k = B) w w') := hid (HK4.out.trans (Keeps.of_below hb'))
       clear hb' hF
       go_wp2_with fail
       refine (need_is _ _).mono ?_
       rintro e w6 ⟨rfl, rfl⟩
       cases ra <;> cases rt
       all_goals first
        | (go_wp2; go_end0; exact stp_some HZ2.out HK5.out HS5.out)
        | exact ⟨rfl, stp_none HZ2.out HK5.out HS5.out.below⟩
 ·rw [if_neg h0] at HKN
  have HZN : Hid (Z = none) := hid (by rw [← HZ.out]; unfold arrayS; rw [if_pos (show ¬ knownK W t from h0)]; rfl)
  clear h h0
  go_enter Tryz.func244, Tryz.ntmps244
  go_wp2_with fail
  refine HKN.out.mono ?_
  intro e w2 h2
  have hk2 := h2.1
  obtain ⟨rfl, hb2⟩ := stp_no h2 rfl
  exact ⟨rfl, stp_none HZN.out hk2 hb2⟩
def rfoundF (W : WL) (fr cl nm ty : ByteArray) (st : Bool) : Option (ByteArray × MV) :=
 if (getK W cl).isSome = false then none else match findM W cl nm ty with
  | none => none
  | some p => if (getK W fr).isSome = false then none else if p.2.st = st then some p else none
def RFoundBy (w : World) (r : Option (ByteArray × MV)) (e : Ending) (w' : World) : Prop := Below w.heap.size w w' ∧ match r with
 | some (c, m) => e = .returned (.tuple #[.string c, .agg m.cells.toArray, .nilIface])
 | none => ∃ z, e = .returned (.tuple #[.string { data := #[] }, .agg zeroM.cells.toArray, .iface 53 (.int .i64 z)])
def zrow : Array Value := #[.string { data := #[] }, .string { data := #[] }, .bool false, .bool false, .bool false, .int .i64 0, .slice none 0 0, .slice none 0 0]
theorem rf_none {w w' : World} {r : Option (ByteArray × MV)} {z : Int} (hr : r = none) (hb : Below w.heap.size w w') : RFoundBy w r (.returned (.tuple #[.string { data := #[] }, .agg zrow, .iface 53 (.int .i64 z)])) w' := by
 subst hr
 exact ⟨hb, z, rfl⟩
theorem bool_other {a b : Bool} (h : ¬ a = b) : a = !b := by revert h; cases a <;> cases b <;> decide
theorem find_flat {W : WL} (hF : Flat W) {n nm ty c : ByteArray} {m : MV} (h : findM W n nm ty = some (c, m)) : m ∈ (cAt W c).mets ∧ m.pr = false := by
 unfold findM at h
 obtain ⟨x, _, hx⟩ := List.exists_of_findSome?_eq_some h
 rw [Option.map_eq_some_iff] at hx
 obtain ⟨m', hm', he⟩ := hx
 obtain ⟨rfl, rfl⟩ := Prod.mk.inj he
 have hmem := List.mem_of_find?_eq_some hm'
 refine ⟨hmem, ?_⟩
 unfold cAt at hmem
 cases hg : getK W x with
 | none => rw [hg] at hmem; exact (List.not_mem_nil hmem).elim
 | some cv => rw [hg] at hmem; exact ((hF.plain x cv hg).2.2.2 m' hmem).2.2.1
theorem rfound_any (W : WL) (b : Nat) (fr cl nm ty : ByteArray) (st : Bool) (w : World) (hW : Wd w b W) (hF : Flat W) :
  Calls Tryz.prog 269 #[.map (some b), .string fr, .string cl, .string nm, .string ty, .bool st] w (RFoundBy w (rfoundF W fr cl nm ty st)) := by
 obtain ⟨b13, hb13⟩ : ∃ b13, w.heap.size = b13 := ⟨_, rfl⟩
 obtain ⟨W1, hW1⟩ : ∃ W1, w.alloc (.cells #[.string { data := #[] }, .string { data := #[] }, .bool false, .bool false, .bool false, .int .i64 0, .slice none 0 0, .slice none 0 0] 44) = W1 := ⟨_, rfl⟩
 have HB1 : Hid (Below w.heap.size w W1) := hid (hW1 ▸ ext_alloc _ _)
 have HR1 : Hid (W1.heap[b13]? = some (.cells #[.string { data := #[] }, .string { data := #[] }, .bool false, .bool false, .bool false, .int .i64 0, .slice none 0 0, .slice none 0 0] 44 (0, 0))) := hid (by rw [← hW1, ← hb13]; exact heap_alloc_new _ _)
 have HE13 := hid hb13
 have HW := hid hW
 have HFL := hid hF
 obtain ⟨Z, hZ⟩ : ∃ Z, rfoundF W fr cl nm ty st = Z := ⟨_, rfl⟩
 have HZ := hid hZ
 rw [hZ]
 obtain ⟨q1, r1, a1, d1, a2, d2, a3, d3, hsh, _, _⟩ := cls_shape (hW.at_.below HB1.out) cl
 have hlk := world_look_ok (hW.at_.below HB1.out) cl
 rw [hsh] at hlk
 obtain ⟨n1, hn1⟩ : ∃ n, (cAt W cl).faces.length = n := ⟨_, rfl⟩
 obtain ⟨n2, hn2⟩ : ∃ n, (cAt W cl).fields.length = n := ⟨_, rfl⟩
 obtain ⟨n3, hn3⟩ : ∃ n, (cAt W cl).mets.length = n := ⟨_, rfl⟩
 obtain ⟨fc, hfc⟩ : ∃ n, (cAt W cl).face = n := ⟨_, rfl⟩
 rw [hn1, hn2, hn3, hfc] at hlk
 clear hW hF hZ hsh hn1 hn2 hn3 hfc
 obtain ⟨W2, hW2⟩ : ∃ W2, W1.alloc (.cells #[.string q1, .string r1, .slice a1 n1 d1, .bool fc, .slice a2 n2 d2, .slice a3 n3 d3] 28) = W2 := ⟨_, rfl⟩
 have HB12 : Hid (Below W1.heap.size W1 W2) := hid (hW2 ▸ ext_alloc _ _)
 have HB2 := hid (HB1.out.trans (HB12.out.mono HB1.out.size))
 have HR2 := hid ((HB12.out.block _ (zh HR1.out).1).trans HR1.out)
 cases hg : (getK W cl).isSome with
 | false =>
  have HZN : Hid (Z = none) := hid (by rw [← HZ.out]; unfold rfoundF; rw [if_pos hg])
  rw [hg] at hlk
  clear hg
  go_enter Tryz.func269, Tryz.ntmps269
  go_wp2_with (first | refine wpList_store_row rfl 44 (.tmp 13) (.tmp 30) rfl b13 _ rfl rfl 44 _ HR2.out (by kernel_rfl) rfl (by simp [Value.oneCell']) ?_)
  refine bodyPost_ret (results_cell_mid rfl _ _ b13 _ _ _ _ rfl (setRow_heap _ _ _ _ _ _ HR2.out) Tryz.underlying44 rfl (by kernel_rfl)) rfl ?_
  exact rf_none HZN.out (below_setRow HB2.out (by have := HE13.out; omega) _)
 | true =>
  have HZ1 : Hid (Z = match findM W cl nm ty with
   | none => none
   | some p => if (getK W fr).isSome = false then none else if p.2.st = st then some p else none) := hid (by rw [← HZ.out]; unfold rfoundF; rw [if_neg (by rw [hg]; decide)])
  rw [hg] at hlk
  have HM := hid (fmethod_any W b cl nm ty W2 (HW.out.below HB2.out) HFL.out)
  clear hg
  go_enter Tryz.func269, Tryz.ntmps269
  go_wp2_with fail
  clear hlk hW2 hW1
  refine HM.out.mono ?_
  rintro e w3 ⟨rfl, hb3⟩
  have HB3 := hid (HB2.out.trans (hb3.mono HB2.out.size))
  have HR3 := hid ((hb3.block _ (zh HR2.out).1).trans HR2.out)
  clear hb3
  cases hf : findM W cl nm ty with
  | none =>
   have HZN : Hid (Z = none) := hid (by rw [HZ1.out, hf])
   rw [show foundV none = .tuple #[.string { data := #[] }, .agg #[.string { data := #[] }, .string { data := #[] }, .bool false, .bool false, .bool false, .int .i64 0, .slice none 0 0, .slice none 0 0], .bool false] from rfl]
   obtain ⟨W4, hW4⟩ : ∃ W4, w3.alloc (.cells #[.string { data := #[] }, .string { data := #[] }, .bool false, .bool false, .bool false, .int .i64 0, .slice none 0 0, .slice none 0 0] 44) = W4 := ⟨_, rfl⟩
   have HB34 : Hid (Below w3.heap.size w3 W4) := hid (hW4 ▸ ext_alloc _ _)
   have HB4 := hid (HB3.out.trans (HB34.out.mono HB3.out.size))
   have HR4 := hid ((HB34.out.block _ (zh HR3.out).1).trans HR3.out)
   have HR18 : Hid (W4.heap[w3.heap.size]? = some (.cells #[.string { data := #[] }, .string { data := #[] }, .bool false, .bool false, .bool false, .int .i64 0, .slice none 0 0, .slice none 0 0] 44 (0, 0))) := hid (hW4 ▸ heap_alloc_new _ _)
   have HLT : Hid (b13 < w3.heap.size) := hid ((zh HR3.out).1)
   have HR5 : Hid ((W4.setRow w3.heap.size #[.string { data := #[] }, .string { data := #[] }, .bool false, .bool false, .bool false, .int .i64 0, .slice none 0 0, .slice none 0 0]).heap[b13]? = some (.cells #[.string { data := #[] }, .string { data := #[] }, .bool false, .bool false, .bool false, .int .i64 0, .slice none 0 0, .slice none 0 0] 44 (0, 0))) := hid (by rw [heap_setRow_other _ _ _ _ (by have := HLT.out; omega)]; exact HR4.out)
   have HB5 : Hid (Below w.heap.size w (W4.setRow w3.heap.size #[.string { data := #[] }, .string { data := #[] }, .bool false, .bool false, .bool false, .int .i64 0, .slice none 0 0, .slice none 0 0])) := hid (below_setRow HB4.out HB3.out.size _)
   clear hf
   go_wp2_with (first
    | refine wpList_store_row rfl 44 (.tmp 18) (.tmp 39) rfl w3.heap.size _ rfl rfl 44 _ HR18.out (by kernel_rfl) rfl (by simp [Value.oneCell']) ?_
    | refine wpList_store_row rfl 44 (.tmp 13) (.tmp 43) rfl b13 _ rfl rfl 44 _ HR5.out (by kernel_rfl) rfl (by simp [Value.oneCell']) ?_)
   refine bodyPost_ret (results_cell_mid rfl _ _ b13 _ _ _ _ rfl (setRow_heap _ _ _ _ _ _ HR5.out) Tryz.underlying44 rfl (by kernel_rfl)) rfl ?_
   exact rf_none HZN.out (below_setRow HB5.out (by have := HE13.out; omega) _)
  | some p =>
   obtain ⟨c, m⟩ := p
   obtain ⟨hmem, hpl⟩ := find_flat HFL.out hf
   have HPL := hid hpl
   obtain ⟨ac, cc, h1⟩ := ((HW.out.at_.at_ c).mets.at_ m hmem).code.val
   obtain ⟨ah, ch, h2⟩ := ((HW.out.at_.at_ c).mets.at_ m hmem).hs.val
   have HMR : Hid (m.cells.toArray = #[.string m.nm, .string m.ty, .bool m.st, .bool m.ab, .bool m.pr, .int .i64 m.lo, .slice ac m.code.length cc, .slice ah m.hs.length ch]) := hid (by unfold MV.cells; rw [h1, h2])
   have HZ2 : Hid (Z = if (getK W fr).isSome = false then none else if m.st = st then some (c, m) else none) := hid (by rw [HZ1.out, hf])
   rw [show foundV (some (c, m)) = .tuple #[.string c, .agg m.cells.toArray, .bool true] from rfl, HMR.out]
   obtain ⟨mn, hmn⟩ : ∃ x, m.nm = x := ⟨_, rfl⟩
   obtain ⟨mt, hmt⟩ : ∃ x, m.ty = x := ⟨_, rfl⟩
   obtain ⟨ms, hms⟩ : ∃ x, m.st = x := ⟨_, rfl⟩
   obtain ⟨ma, hma⟩ : ∃ x, m.ab = x := ⟨_, rfl⟩
   obtain ⟨mp, hmp⟩ : ∃ x, m.pr = x := ⟨_, rfl⟩
   obtain ⟨ml, hml⟩ : ∃ x, m.lo = x := ⟨_, rfl⟩
   obtain ⟨nc, hnc⟩ : ∃ x, m.code.length = x := ⟨_, rfl⟩
   obtain ⟨nh, hnh⟩ : ∃ x, m.hs.length = x := ⟨_, rfl⟩
   rw [hmn, hmt, hms, hma, hmp, hml, hnc, hnh] at HMR
   rw [hmp] at HPL
   rw [hms] at HZ2
   rw [hmn, hmt, hms, hma, hmp, hml, hnc, hnh]
   obtain rfl := HPL.out
   obtain ⟨W4, hW4⟩ : ∃ W4, w3.alloc (.cells #[.string { data := #[] }, .string { data := #[] }, .bool false, .bool false, .bool false, .int .i64 0, .slice none 0 0, .slice none 0 0] 44) = W4 := ⟨_, rfl⟩
   have HB34 : Hid (Below w3.heap.size w3 W4) := hid (hW4 ▸ ext_alloc _ _)
   have HB4 := hid (HB3.out.trans (HB34.out.mono HB3.out.size))
   have HR4 := hid ((HB34.out.block _ (zh HR3.out).1).trans HR3.out)
   have HR18 : Hid (W4.heap[w3.heap.size]? = some (.cells #[.string { data := #[] }, .string { data := #[] }, .bool false, .bool false, .bool false, .int .i64 0, .slice none 0 0, .slice none 0 0] 44 (0, 0))) := hid (hW4 ▸ heap_alloc_new _ _)
   have HLT : Hid (b13 < w3.heap.size) := hid ((zh HR3.out).1)
   obtain ⟨W5, hW5⟩ : ∃ W5, W4.setRow w3.heap.size #[.string mn, .string mt, .bool ms, .bool ma, .bool false, .int .i64 ml, .slice ac nc cc, .slice ah nh ch] = W5 := ⟨_, rfl⟩
   have HR5 : Hid (W5.heap[b13]? = some (.cells #[.string { data := #[] }, .string { data := #[] }, .bool false, .bool false, .bool false, .int .i64 0, .slice none 0 0, .slice none 0 0] 44 (0, 0))) := hid (by rw [← hW5, heap_setRow_other _ _ _ _ (by have := HLT.out; omega)]; exact HR4.out)
   have HM5 : Hid (W5.heap[w3.heap.size]? = some (.cells #[.string mn, .string mt, .bool ms, .bool ma, .bool false, .int .i64 ml, .slice ac nc cc, .slice ah nh ch] 44 (0, 0))) := hid (hW5 ▸ setRow_heap _ _ _ _ _ _ HR18.out)
   have HB5 : Hid (Below w.heap.size w W5) := hid (hW5 ▸ below_setRow HB4.out HB3.out.size _)
   obtain ⟨q2, r2, e1, f1, e2, f2, e3, f3, hsh2, _, _⟩ := cls_shape (HW.out.at_.below HB5.out) fr
   have hlk2 := world_look_ok (HW.out.at_.below HB5.out) fr
   rw [hsh2] at hlk2
   obtain ⟨m1, hm1⟩ : ∃ n, (cAt W fr).faces.length = n := ⟨_, rfl⟩
   obtain ⟨m2, hm2⟩ : ∃ n, (cAt W fr).fields.length = n := ⟨_, rfl⟩
   obtain ⟨m3, hm3⟩ : ∃ n, (cAt W fr).mets.length = n := ⟨_, rfl⟩
   obtain ⟨fd, hfd⟩ : ∃ n, (cAt W fr).face = n := ⟨_, rfl⟩
   rw [hm1, hm2, hm3, hfd] at hlk2
   clear hsh2 hm1 hm2 hm3 hfd hf hmem hpl h1 h2 hmn hmt hms hma hmp hml hnc hnh
   obtain ⟨W6, hW6⟩ : ∃ W6, W5.alloc (.cells #[.string q2, .string r2, .slice e1 m1 f1, .bool fd, .slice e2 m2 f2, .slice e3 m3 f3] 28) = W6 := ⟨_, rfl⟩
   have HB56 : Hid (Below W5.heap.size W5 W6) := hid (hW6 ▸ ext_alloc _ _)
   have HB6 := hid (HB5.out.trans (HB56.out.mono HB5.out.size))
   have HR6 := hid ((HB56.out.block _ (zh HR5.out).1).trans HR5.out)
   have HM6 := hid ((HB56.out.block _ (zh HM5.out).1).trans HM5.out)
   have y2 : W6.cell? ⟨w3.heap.size, 2, none⟩ = some (.bool ms) := by rw [cell_of_row _ _ _ _ _ _ HM6.out]; rfl
   have y4 : W6.cell? ⟨w3.heap.size, 4, none⟩ = some (.bool false) := by rw [cell_of_row _ _ _ _ _ _ HM6.out]; rfl
   cases hg2 : (getK W fr).isSome with
   | false =>
    have HZN : Hid (Z = none) := hid (by rw [HZ2.out, if_pos hg2])
    rw [hg2] at hlk2
    clear hg2
    go_wp2_with (first
     | (refine wpList_store_row rfl 44 (.tmp 18) (.tmp 39) rfl w3.heap.size _ rfl rfl 44 _ HR18.out (by kernel_rfl) rfl (by simp [Value.oneCell']) ?_; rw [hW5])
     | refine wpList_store_row rfl 44 (.tmp 13) (.tmp 53) rfl b13 _ rfl rfl 44 _ HR6.out (by kernel_rfl) rfl (by simp [Value.oneCell']) ?_)
    refine bodyPost_ret (results_cell_mid rfl _ _ b13 _ _ _ _ rfl (setRow_heap _ _ _ _ _ _ HR6.out) Tryz.underlying44 rfl (by kernel_rfl)) rfl ?_
    exact rf_none HZN.out (below_setRow HB6.out (by have := HE13.out; omega) _)
   | true =>
    rw [hg2] at hlk2
    by_cases hst : ms = st
    ·have HZY : Hid (Z = some (c, m)) := hid (by rw [HZ2.out, if_neg (by rw [hg2]; decide), if_pos hst])
     clear hg2
     subst hst
     go_wp2_with (refine wpList_store_row rfl 44 (.tmp 18) (.tmp 39) rfl w3.heap.size _ rfl rfl 44 _ HR18.out (by kernel_rfl) rfl (by simp [Value.oneCell']) ?_; rw [hW5])
     obtain ⟨WD, hwd⟩ : ∃ WD, W6.drew = WD := ⟨_, rfl⟩
     have HM6d : Hid (WD.heap[w3.heap.size]? = some (.cells #[.string mn, .string mt, .bool ms, .bool ma, .bool false, .int .i64 ml, .slice ac nc cc, .slice ah nh ch] 44 (0, 0))) := hid (by rw [← hwd]; exact HM6.out)
     have HR6d : Hid (WD.heap[b13]? = some (.cells #[.string { data := #[] }, .string { data := #[] }, .bool false, .bool false, .bool false, .int .i64 0, .slice none 0 0, .slice none 0 0] 44 (0, 0))) := hid (by rw [← hwd]; exact HR6.out)
     have HBD : Hid (Below w.heap.size w WD) := hid (by rw [← hwd]; exact HB6.out.trans ((Below.refl _ _).drew.mono HB6.out.size))
     have HRK : Hid ((WD.setRow b13 #[.string mn, .string mt, .bool ms, .bool ma, .bool false, .int .i64 ml, .slice ac nc cc, .slice ah nh ch]).heap[w3.heap.size]? = some (.cells #[.string mn, .string mt, .bool ms, .bool ma, .bool false, .int .i64 ml, .slice ac nc cc, .slice ah nh ch] 44 (0, 0))) := hid (by rw [heap_setRow_other _ _ _ _ (by have := HLT.out; omega)]; exact HM6d.out)
     refine wp_region_c (fun u => u.heap[w3.heap.size]? = some (.cells #[.string mn, .string mt, .bool ms, .bool ma, .bool false, .int .i64 ml, .slice ac nc cc, .slice ah nh ch] 44 (0, 0))) (by kernel_rfl) ?_
     show wpAnyC _ _ _ _ _ _ _ _ W6.drew
     rw [hwd]
     refine zct 0 _ _ rfl HM6d.out (fun u hu => by go_simp; rfl) ?_
     simp only [zg1, zg2, zg3, Act.put, zg4, zg5, zg6]
     refine zct 1 _ (.agg #[.string mn, .string mt, .bool ms, .bool ma, .bool false, .int .i64 ml, .slice ac nc cc, .slice ah nh ch]) rfl HM6d.out (fun u hu => by have hl := run_loadVar_row (P := Tryz.prog) u w3.heap.size 44 44 #[.string mn, .string mt, .bool ms, .bool ma, .bool false, .int .i64 ml, .slice ac nc cc, .slice ah nh ch] (0, 0) _ hu Tryz.underlying44 rfl (by kernel_rfl); simp only [List.getElem_toArray, List.getElem_cons_zero, List.getElem_cons_succ]; unfold execOp; simp only [Act.eval, Instr.loadAt, Instr.sureAddr, Sem.run_bind, Sem.run_pure]; change ((Sem.run Tryz.prog (loadVar 44 ⟨w3.heap.size, 0, none⟩) u).andThen fun a w' => Result.ok (Next.value a) w') = _; rw [hl]; rfl) ?_
     simp only [zg1, zg2, zg3, Act.put, zg4, zg5, zg6]
     refine zct 2 _ _ rfl HM6d.out (fun u hu => by go_simp; rfl) ?_
     simp only [zg1, zg2, zg3, Act.put, zg4, zg5, zg6]
     refine c_only 3 _ rfl (by kernel_rfl) ?_
     rw [if_pos (by rfl)]
     refine wp_store_row 44 (.tmp 13) (.tmp 71) rfl b13 #[.string mn, .string mt, .bool ms, .bool ma, .bool false, .int .i64 ml, .slice ac nc cc, .slice ah nh ch] rfl rfl 44 _ HR6d.out (by kernel_rfl) rfl (by simp [Value.oneCell']) ?_
     refine ⟨HRK.out, ?_⟩
     try simp only [zg1, zg2, zg3, Act.put, zg4, zg5, zg6]
     refine zct 4 _ _ rfl HRK.out (fun u hu => by go_simp; rfl) ?_
     try simp only [zg1, zg2, zg3, Act.put, zg4, zg5, zg6]
     refine c_end (by kernel_rfl) ?_
     go_wp2_with fail
     refine bodyPost_ret (results_cell_mid rfl _ _ b13 _ _ _ _ rfl (setRow_heap _ _ _ _ _ _ HR6d.out) Tryz.underlying44 rfl (by kernel_rfl)) rfl ?_
     rw [HZY.out]
     refine ⟨below_setRow HBD.out (by have := HE13.out; omega) _, ?_⟩
     show _ = Ending.returned (.tuple #[.string c, .agg m.cells.toArray, .nilIface])
     rw [HMR.out]
     rfl
    ·have HZN : Hid (Z = none) := hid (by rw [HZ2.out, if_neg (by rw [hg2]; decide), if_neg hst])
     have hsn : ms = !st := bool_other hst
     clear hg2 hst
     subst hsn
     go_wp2_with (first
      | (refine wpList_store_row rfl 44 (.tmp 18) (.tmp 39) rfl w3.heap.size _ rfl rfl 44 _ HR18.out (by kernel_rfl) rfl (by simp [Value.oneCell']) ?_; rw [hW5])
      | refine wpList_store_row rfl 44 (.tmp 13) (.tmp 59) rfl b13 _ rfl rfl 44 _ HR6.out (by kernel_rfl) rfl (by simp [Value.oneCell']) ?_)
     refine bodyPost_ret (results_cell_mid rfl _ _ b13 _ _ _ _ rfl (setRow_heap _ _ _ _ _ _ HR6.out) Tryz.underlying44 rfl (by kernel_rfl)) rfl ?_
     exact rf_none HZN.out (below_setRow HB6.out (by have := HE13.out; omega) _)
end Go.Proofs.YtloonnfelgokmaaGreatDoor.worlds
