/- Kinds joined: join.classes, join.Of. Condition: the world was read. -/
import Derived.Maps.RangeWalk
import Derived.Test.YtloonnfelgokmaaGreatDoorZKndZ
import Derived.Test.YtloonnfelgokmaaGreatDoorZWldY
import Derived.Test.YtloonnfelgokmaaGreatDoorZVrfZ
set_option maxRecDepth 100000
set_option maxHeartbeats 16000000
set_option linter.unusedSimpArgs false
set_option linter.unusedVariables false
namespace Go.Proofs.YtloonnfelgokmaaGreatDoor.worlds
open Go.RowKit lib maps classes errs descs names grow
theorem cls_shape {w : World} {b : Nat} {W : WL} (h : WAt w b W) (n : ByteArray) : ∃ nm sup a1 c1 a2 c2 a3 c3, (cAt W n).cells.toArray = #[.string nm, .string sup, .slice a1 (cAt W n).faces.length c1, .bool (cAt W n).face, .slice a2 (cAt W n).fields.length c2, .slice a3 (cAt W n).mets.length c3] ∧
  (cAt W n).vd = .slice a2 (cAt W n).fields.length c2 ∧ (cAt W n).vm = .slice a3 (cAt W n).mets.length c3 := by
 have hat := h.at_ n
 obtain ⟨a1, c1, a2, c2, a3, c3, e1, e2, e3⟩ := cls_vals hat
 refine ⟨(cAt W n).nm, (cAt W n).sup, a1, c1, a2, c2, a3, c3, ?_, e2, e3⟩
 unfold CV.cells
 rw [e1, e2, e3]
theorem find_drop {p : ByteArray → Bool} {L : List ByteArray} {k : Nat} (hk : k < L.length) : (L.drop k).find? p = if p L[k] = true then some L[k] else (L.drop (k + 1)).find? p := by
 rw [List.drop_eq_getElem_cons hk, List.find?_cons]
 cases p L[k] <;> rfl
theorem Wd.line {w : World} {b : Nat} {W : WL} (h : Wd w b W) (n : ByteArray) : Line W n (lineOf W n) ∧ (lineOf W n).length ≤ 13000001 := by
 obtain ⟨h1, h2⟩ := line_of h.good.sound n
 exact ⟨h1, by have := h.most; omega⟩
theorem classes_any (W : WL) (b : Nat) (n m : ByteArray) (w : World) (hW : Wd w b W) :
  Calls Tryz.prog 219 #[.map (some b), .string n, .string m] w fun e w' => e = .returned (.string (joinC W n m)) ∧ Below w.heap.size w w' := by
 have HW := hid hW
 obtain ⟨nm1, sp1, a1, c1, a2, c2, a3, c3, hsh1, _, _⟩ := cls_shape hW.at_ n
 obtain ⟨nm2, sp2, b1, d1, b2, d2, b3, d3, hsh2, _, _⟩ := cls_shape hW.at_ m
 have hlk1 := world_look hW.at_ n
 have hlk2 := world_look hW.at_ m
 rw [hsh1] at hlk1
 rw [hsh2] at hlk2
 obtain ⟨F1, hF1⟩ : ∃ F1, (cAt W n).face = F1 := ⟨_, rfl⟩
 obtain ⟨F2, hF2⟩ : ∃ F2, (cAt W m).face = F2 := ⟨_, rfl⟩
 have HJ : Hid (joinC W n m = if F1 = true ∨ F2 = true then objB else ((lineOf W n).find? fun c => inTexts c (lineOf W m)).getD objB) := hid (by rw [← hF1, ← hF2]; rfl)
 rw [hF1] at hlk1
 rw [hF2] at hlk2
 have hf1 := fun u => run_face (.string nm1) (.string sp1) (.slice a1 (cAt W n).faces.length c1) (.slice a2 (cAt W n).fields.length c2) (.slice a3 (cAt W n).mets.length c3) F1 u
 have hf2 := fun u => run_face (.string nm2) (.string sp2) (.slice b1 (cAt W m).faces.length d1) (.slice b2 (cAt W m).fields.length d2) (.slice b3 (cAt W m).mets.length d3) F2 u
 clear hsh1 hsh2 hF1 hF2 hW
 cases F1 with
 | true =>
  have HZ : Hid (joinC W n m = objB) := hid (by rw [HJ.out, if_pos (.inl rfl)])
  go_enter Tryz.func219, Tryz.ntmps219
  go_wp2
  go_ret
  exact ⟨by rw [HZ.out]; rfl, Below.refl _ _⟩
 | false =>
  cases F2 with
  | true =>
   have HZ : Hid (joinC W n m = objB) := hid (by rw [HJ.out, if_pos (.inr rfl)])
   go_enter Tryz.func219, Tryz.ntmps219
   go_wp2
   go_ret
   exact ⟨by rw [HZ.out]; rfl, Below.refl _ _⟩
  | false =>
   have HZ : Hid (joinC W n m = ((lineOf W n).find? fun c => inTexts c (lineOf W m)).getD objB) := hid (by rw [HJ.out, if_neg (by simp)])
   obtain ⟨hln, hlnl⟩ := HW.out.line n
   obtain ⟨hlm, hlml⟩ := HW.out.line m
   have HLM := hid (line_any W b m (lineOf W m) w HW.out.at_ hlm (by omega))
   have HLN := hid (fun (u : World) (hu : Below w.heap.size w u) => line_any W b n (lineOf W n) u (HW.out.at_.below hu) hln (by omega))
   obtain ⟨LN, hLN⟩ : ∃ LN, lineOf W n = LN := ⟨_, rfl⟩
   obtain ⟨LM, hLM⟩ : ∃ LM, lineOf W m = LM := ⟨_, rfl⟩
   rw [hLN] at HZ HLN hlnl
   rw [hLM] at HZ HLM hlml
   have HML := hid hlml
   clear hLN hLM hln hlm HJ hlml
   go_enter Tryz.func219, Tryz.ntmps219
   go_wp2_with fail
   refine HLM.out.mono ?_
   rintro e w1 ⟨v1, rfl, ho1⟩
   have HO1 := hid ho1
   obtain ⟨p1, q1, rfl⟩ := ho1.sl.val
   clear ho1
   go_wp2_with fail
   refine (HLN.out w1 HO1.out.below).mono ?_
   rintro e w2 ⟨v2, rfl, ho2⟩
   have HB2 := hid (HO1.out.below.trans (ho2.below.mono HO1.out.below.size))
   have HS1 := hid (HO1.out.sl.below ho2.below)
   have HS2 := hid ho2.sl
   obtain ⟨p2, q2, rfl⟩ := ho2.sl.val
   clear ho2
   go_wp2_with fail
   go_loopw [27] (fun v wr => ∃ k : Nat, k ≤ LN.length ∧ v = .int .i64 (k : Int) ∧ w2 = wr ∧ Hid ((LN.find? fun c => inTexts c LM) = (LN.drop k).find? fun c => inTexts c LM)) (fun v _ => LN.length - (intOf v).toNat)
   case atStart => exact ⟨0, Nat.zero_le _, rfl, rfl, hid rfl⟩
   case round =>
    obtain ⟨k, hk, rfl, rfl, HF⟩ := hrel
    have hk0 : (0 : Int) ≤ (k : Int) := by omega
    by_cases hlt : k < LN.length
    ·have hk1 : (k : Int) < (LN.length : Int) := by omega
     obtain ⟨bb, off, hab, hd0⟩ := text_at HS2.out hlt
     subst hab
     have HFD := hid (find_drop (p := fun c => inTexts c LM) hlt)
     generalize LN[k] = x at hd0 HFD
     have HHT := hid (hasText_any p1 LM.length q1 LM x w2 HS1.out (by have := HML.out; omega))
     cases hin : inTexts x LM with
     | true =>
      rw [hin] at HHT
      have HX : Hid (joinC W n m = x) := hid (by rw [HZ.out, HF.out, HFD.out, if_pos hin]; rfl)
      clear hin
      go_wp2_with fail
      refine HHT.out.mono ?_
      rintro e w3 ⟨rfl, rfl⟩
      go_wp2
      go_ret
      exact ⟨by rw [HX.out]; rfl, HB2.out⟩
     | false =>
      rw [hin] at HHT
      have HF2 : Hid ((LN.find? fun c => inTexts c LM) = (LN.drop (k + 1)).find? fun c => inTexts c LM) := hid (by rw [HF.out, HFD.out, if_neg (by simp [hin])])
      clear hin
      go_wp2_with fail
      refine HHT.out.mono ?_
      rintro e w3 ⟨rfl, rfl⟩
      go_wp2_with fail
      go_roundw
      case rel => exact ⟨k + 1, by omega, by simp, by first | rfl | trivial, HF2⟩
      case measure => simp [intOf]; omega
    ·obtain rfl : k = LN.length := by omega
     have HX : Hid (joinC W n m = objB) := hid (by rw [HZ.out, HF.out, List.drop_length]; rfl)
     clear hlt
     go_wp2
     go_ret
     exact ⟨by rw [HX.out]; rfl, HB2.out⟩
theorem bs_eq {f : ByteArray} : bs f.data.toList = f := bs_list f
theorem text_ne {f : ByteArray} {l : List UInt8} (h : ¬ f.data.toList = l) : (f.toList == l) = false ∧ ¬ f.toList = l := by
 have : ¬ f.toList = l := fun e => h (str_list.1 e)
 exact ⟨beq_eq_false_iff_ne.2 this, this⟩
theorem tail_of {f : ByteArray} {x : UInt8} {a : List UInt8} (hF : f.data.toList = x :: a) : (f.extract 1 f.size).data.toList = a ∧ f.size = a.length + 1 := by
 have hs : f.size = a.length + 1 := by
  show f.data.size = _
  rw [← Array.length_toList, hF]; rfl
 refine ⟨?_, hs⟩
 rw [ByteArray.data_extract, Array.toList_extract, hF, hs]
 simp [List.extract]
theorem right_len {W : WL} {k : List UInt8} (h : RightK W k) : k.length ≤ 25 := by
 rcases h with rfl | rfl | ⟨h, _⟩
 ·simp
 ·simp
 ·exact (ty_append h []).2.1
theorem name_size {n : ByteArray} (h : nameOk n.data.toList = true) : n.size ≤ 20 := by
 simp only [nameOk, Bool.and_eq_true, decide_eq_true_eq] at h
 have := h.1.1.2
 rw [Array.length_toList] at this
 exact this
theorem jof_any (W : WL) (hC : Closed W) (b : Nat) : ∀ (N : Nat) (f t : ByteArray) (w : World), f.size ≤ N → RightK W f.data.toList → RightK W t.data.toList → Wd w b W →
  Calls Tryz.prog 189 #[.map (some b), .string f, .string t] w fun e w' => e = .returned (.string (bs (joinK W f.data.toList t.data.toList))) ∧ Below w.heap.size w w' := by
 intro N
 induction N with
 | zero =>
  intro f t w hN hf
  have : f.data.toList = [] := by
   have h : f.data.size = 0 := Nat.le_zero.1 hN
   rw [← Array.length_toList] at h
   exact List.eq_nil_of_length_eq_zero h
  exact absurd this (right_ne hf)
 | succ N ih =>
  intro f t w hN hf ht hW
  have HW := hid hW
  have HRF := hid (refs_any f)
  have HRT := hid (refs_any t)
  by_cases hft : f = t
  ·have s1 := str_eqb hft
   have s2 : f.toList = t.toList := by rw [hft]
   have HZ : Hid (bs (joinK W f.data.toList t.data.toList) = f) := hid (by rw [← hft, join_same, bs_eq])
   clear hft hf ht hW ih
   go_enter Tryz.func189, Tryz.ntmps189
   go_wp2
   go_ret
   exact ⟨by rw [HZ.out]; rfl, Below.refl _ _⟩
  have s1 := str_neb hft
  have s2 : ¬ f.toList = t.toList := fun h => hft (by
   rw [ByteArray.toList_eq, ByteArray.toList_eq] at h
   exact ByteArray.ext (Array.toList_inj.1 h))
  have nne : ¬ f.data.toList = t.data.toList := fun h => hft (ByteArray.ext (Array.toList_inj.1 h))
  obtain ⟨r1, hr1⟩ : ∃ r1, refs f.data.toList = r1 := ⟨_, rfl⟩
  obtain ⟨r2, hr2⟩ : ∃ r2, refs t.data.toList = r2 := ⟨_, rfl⟩
  rw [hr1] at HRF
  rw [hr2] at HRT
  by_cases h78 : f.data.toList = [78]
  ·have g1 : f.toList = [78] := str_list.2 h78
   have t78 : ¬ t.data.toList = [78] := fun e => nne (h78.trans e.symm)
   obtain ⟨g3, g4⟩ := text_ne t78
   have g5 : ([78] == t.toList) = false := beq_eq_false_iff_ne.2 fun h => g4 h.symm
   have g6 : ¬ [78] = t.toList := fun h => g4 h.symm
   have hr1f : r1 = false := by rw [← hr1, h78]; rfl
   subst hr1f
   cases r2 with
   | true =>
    have HZ : Hid (bs (joinK W f.data.toList t.data.toList) = t) := hid (by
     rw [h78]
     unfold joinK
     rw [if_neg (fun e => t78 e.symm), if_pos ⟨rfl, hr2⟩, bs_eq])
    clear hft hf ht hW ih h78 t78 hr1 hr2 nne
    go_enter Tryz.func189, Tryz.ntmps189
    go_wp2_with fail
    refine (HRT.out _).mono ?_
    rintro e w1 ⟨rfl, rfl⟩
    go_wp2
    go_ret
    exact ⟨by rw [HZ.out]; rfl, Below.refl _ _⟩
   | false =>
    have HZ : Hid (bs (joinK W f.data.toList t.data.toList) = tT) := hid (by
     rw [h78]
     unfold joinK
     rw [if_neg (fun e => t78 e.symm), if_neg (by rw [hr2]; simp), if_neg (by simp [refs]), if_pos (.inl rfl)]
     rfl)
    clear hft hf ht hW ih h78 t78 hr1 hr2 nne
    go_enter Tryz.func189, Tryz.ntmps189
    go_wp2_with fail
    refine (HRT.out _).mono ?_
    rintro e w1 ⟨rfl, rfl⟩
    go_wp2_with fail
    refine (HRF.out _).mono ?_
    rintro e w1 ⟨rfl, rfl⟩
    go_wp2
    go_ret
    exact ⟨by rw [HZ.out]; rfl, Below.refl _ _⟩
  obtain ⟨g1, g2⟩ := text_ne h78
  obtain ⟨x, a, hF⟩ : ∃ x a, f.data.toList = x :: a := by
   cases h : f.data.toList with
   | nil => exact absurd h (right_ne hf)
   | cons x a => exact ⟨x, a, rfl⟩
  obtain ⟨y, c, hT⟩ : ∃ y c, t.data.toList = y :: c := by
   cases h : t.data.toList with
   | nil => exact absurd h (right_ne ht)
   | cons x a => exact ⟨x, a, rfl⟩
  by_cases t78 : t.data.toList = [78]
  ·have g3 : t.toList = [78] := str_list.2 t78
   have hr2f : r2 = false := by rw [← hr2, t78]; rfl
   subst hr2f
   cases r1 with
   | true =>
    have HZ : Hid (bs (joinK W f.data.toList t.data.toList) = f) := hid (by
     rw [hF] at nne h78 hr1 ⊢
     unfold joinK
     rw [if_neg nne, if_neg (fun e => h78 e.1), if_pos ⟨t78, hr1⟩, ← hF, bs_eq])
    clear hft hf ht hW ih h78 t78 hr1 hr2 nne hF hT
    go_enter Tryz.func189, Tryz.ntmps189
    go_wp2_with fail
    refine (HRF.out _).mono ?_
    rintro e w1 ⟨rfl, rfl⟩
    go_wp2
    go_ret
    exact ⟨by rw [HZ.out]; rfl, Below.refl _ _⟩
   | false =>
    have HZ : Hid (bs (joinK W f.data.toList t.data.toList) = tT) := hid (by
     rw [hF] at nne h78 hr1 ⊢
     unfold joinK
     rw [if_neg nne, if_neg (fun e => h78 e.1), if_neg (by rw [hr1]; simp), if_pos (.inl hr1)]
     rfl)
    clear hft hf ht hW ih h78 t78 hr1 hr2 nne hF hT
    go_enter Tryz.func189, Tryz.ntmps189
    go_wp2_with fail
    refine (HRF.out _).mono ?_
    rintro e w1 ⟨rfl, rfl⟩
    go_wp2_with fail
    refine (HRF.out _).mono ?_
    rintro e w1 ⟨rfl, rfl⟩
    go_wp2
    go_ret
    exact ⟨by rw [HZ.out]; rfl, Below.refl _ _⟩
  obtain ⟨g3, g4⟩ := text_ne t78
  cases r1 with
  | false =>
   have HZ : Hid (bs (joinK W f.data.toList t.data.toList) = tT) := hid (by
    rw [hF] at nne h78 hr1 ⊢
    unfold joinK
    rw [if_neg nne, if_neg (fun e => h78 e.1), if_neg (fun e => t78 e.1), if_pos (.inl hr1)]
    rfl)
   clear hft hf ht hW ih h78 t78 hr1 hr2 nne hF hT
   go_enter Tryz.func189, Tryz.ntmps189
   go_wp2_with fail
   refine (HRF.out _).mono ?_
   rintro e w1 ⟨rfl, rfl⟩
   go_wp2
   go_ret
   exact ⟨by rw [HZ.out]; rfl, Below.refl _ _⟩
  | true =>
   cases r2 with
   | false =>
    have HZ : Hid (bs (joinK W f.data.toList t.data.toList) = tT) := hid (by
     rw [hF] at nne h78 hr1 ⊢
     unfold joinK
     rw [if_neg nne, if_neg (fun e => h78 e.1), if_neg (fun e => t78 e.1), if_pos (.inr hr2)]
     rfl)
    clear hft hf ht hW ih h78 t78 hr1 hr2 nne hF hT
    go_enter Tryz.func189, Tryz.ntmps189
    go_wp2_with fail
    refine (HRF.out _).mono ?_
    rintro e w1 ⟨rfl, rfl⟩
    go_wp2_with fail
    refine (HRT.out _).mono ?_
    rintro e w1 ⟨rfl, rfl⟩
    go_wp2
    go_ret
    exact ⟨by rw [HZ.out]; rfl, Below.refl _ _⟩
   | true =>
    have HJ : Hid (joinK W f.data.toList t.data.toList = if x = 76 ∧ y = 76 then thingB (joinC W (classN (x :: a)) (classN (y :: c))) else if x = 91 ∧ y = 91 ∧ refs a = true ∧ refs c = true then 91 :: joinK W a c else objT) := hid (by
     rw [hF] at nne hr1 ⊢
     rw [hT] at nne hr2 ⊢
     exact join_head nne hr1 hr2)
    have HTF := hid (refs_ty hf hr1)
    have HTT := hid (refs_ty ht hr2)
    obtain ⟨hf0, hfx⟩ := first_byte hF
    obtain ⟨ht0, hty⟩ := first_byte hT
    have hf0' : (0 : Int) < (f.size : Int) := by omega
    have ht0' : (0 : Int) < (t.size : Int) := by omega
    have hx := refs_head.1 (hF ▸ hr1)
    have hy := refs_head.1 (hT ▸ hr2)
    have HFR := hid hf; have HTR := hid ht; have HF := hid hF; have HT := hid hT; have HNN := hid hN
    rcases hx with rfl | rfl
    ·rcases hy with rfl | rfl
     ·have HCF := hid (fun u => class_any f u HTF.out)
      have HCT := hid (fun u => class_any t u HTT.out)
      rw [hF] at HCF
      rw [hT] at HCT
      have HZ : Hid (joinK W f.data.toList t.data.toList = thingB (joinC W (classN (76 :: a)) (classN (76 :: c)))) := hid (by rw [HJ.out, if_pos ⟨rfl, rfl⟩])
      have HSZ : Hid ((joinC W (classN (76 :: a)) (classN (76 :: c))).size ≤ 10000000) := hid (by
       have h1 := (ref_thing hC (by rw [← hF]; exact hf)).1
       have h2 := (ref_thing hC (by rw [← hT]; exact ht)).1
       have h3 := (joinC_line hC h1 h2).1
       have := name_size (hC.nm ((hC.line h1).1 _ h3).1)
       omega)
      have HCL := hid (fun (u : World) (hu : Below w.heap.size w u) => classes_any W b (classN (76 :: a)) (classN (76 :: c)) u (HW.out.below hu))
      clear hft hf ht hW ih h78 t78 hr1 hr2 nne hF hT hN HJ
      go_enter Tryz.func189, Tryz.ntmps189
      go_wp2_with fail
      refine (HRF.out _).mono ?_
      rintro e w1 ⟨rfl, rfl⟩
      go_wp2_with fail
      refine (HRT.out _).mono ?_
      rintro e w1 ⟨rfl, rfl⟩
      go_wp2_with fail
      refine (HCF.out _).mono ?_
      rintro e w1 ⟨rfl, rfl⟩
      go_wp2_with fail
      refine (HCT.out _).mono ?_
      rintro e w1 ⟨rfl, rfl⟩
      go_wp2_with fail
      refine (HCL.out _ (Below.refl _ _)).mono ?_
      rintro e w1 ⟨rfl, hb1⟩
      have HB1 := hid hb1
      clear hb1
      go_wp2_with fail
      refine (thing_any _ _ HSZ.out).mono ?_
      rintro e w2 ⟨rfl, rfl⟩
      go_wp2
      go_ret
      exact ⟨by rw [HZ.out]; rfl, HB1.out⟩
     ·have HZ : Hid (joinK W f.data.toList t.data.toList = objT) := hid (by rw [HJ.out, if_neg (by simp), if_neg (by simp)])
      clear hft hf ht hW ih h78 t78 hr1 hr2 nne hF hT hN HJ
      go_enter Tryz.func189, Tryz.ntmps189
      go_wp2_with fail
      refine (HRF.out _).mono ?_
      rintro e w1 ⟨rfl, rfl⟩
      go_wp2_with fail
      refine (HRT.out _).mono ?_
      rintro e w1 ⟨rfl, rfl⟩
      go_wp2_with fail
      refine (thing_any objB _ (by decide)).mono ?_
      rintro e w2 ⟨rfl, rfl⟩
      go_wp2
      go_ret
      exact ⟨by rw [HZ.out]; rfl, Below.refl _ _⟩
    ·rcases hy with rfl | rfl
     ·have HZ : Hid (joinK W f.data.toList t.data.toList = objT) := hid (by rw [HJ.out, if_neg (by simp), if_neg (by simp)])
      clear hft hf ht hW ih h78 t78 hr1 hr2 nne hF hT hN HJ
      go_enter Tryz.func189, Tryz.ntmps189
      go_wp2_with fail
      refine (HRF.out _).mono ?_
      rintro e w1 ⟨rfl, rfl⟩
      go_wp2_with fail
      refine (HRT.out _).mono ?_
      rintro e w1 ⟨rfl, rfl⟩
      go_wp2_with fail
      refine (thing_any objB _ (by decide)).mono ?_
      rintro e w2 ⟨rfl, rfl⟩
      go_wp2
      go_ret
      exact ⟨by rw [HZ.out]; rfl, Below.refl _ _⟩
     ·have HJ2 : Hid (joinK W f.data.toList t.data.toList = if refs a = true ∧ refs c = true then 91 :: joinK W a c else objT) := hid (by
       rw [HJ.out, if_neg (by simp)]
       by_cases hq : refs a = true ∧ refs c = true
       ·rw [if_pos ⟨rfl, rfl, hq⟩, if_pos hq]
       ·rw [if_neg (fun e => hq e.2.2), if_neg hq])
      obtain ⟨FA, hFA⟩ : ∃ FA, f.extract 1 f.size = FA := ⟨_, rfl⟩
      obtain ⟨TA, hTA⟩ : ∃ TA, t.extract 1 t.size = TA := ⟨_, rfl⟩
      obtain ⟨hFAl, hfs⟩ := tail_of hF
      obtain ⟨hTAl, hts⟩ := tail_of hT
      rw [hFA] at hFAl
      rw [hTA] at hTAl
      have q1 : (1 : Int) ≤ (f.size : Int) := by omega
      have q2 : (1 : Int) ≤ (t.size : Int) := by omega
      have HRA := hid (refs_any FA)
      have HRC := hid (refs_any TA)
      rw [hFAl] at HRA
      rw [hTAl] at HRC
      have HIH : Hid (∀ u, Wd u b W → Calls Tryz.prog 189 #[.map (some b), .string FA, .string TA] u fun e w' => e = .returned (.string (bs (joinK W a c))) ∧ Below u.heap.size u w') := hid (fun u hu => by
       have h := ih FA TA u (by
        have : FA.size = a.length := by show FA.data.size = _; rw [← Array.length_toList, hFAl]
        omega) (by rw [hFAl]; exact (arr_right (hF ▸ hf)).1) (by rw [hTAl]; exact (arr_right (hT ▸ ht)).1) hu
       rw [hFAl, hTAl] at h; exact h)
      obtain ⟨ra, hra⟩ : ∃ ra, refs a = ra := ⟨_, rfl⟩
      obtain ⟨rc, hrc⟩ : ∃ rc, refs c = rc := ⟨_, rfl⟩
      rw [hra] at HRA HJ2
      rw [hrc] at HRC HJ2
      obtain ⟨RJ, hRJ⟩ : ∃ RJ, bs (joinK W a c) = RJ := ⟨_, rfl⟩
      rw [hRJ] at HIH
      obtain ⟨RF, hRF⟩ : ∃ RF, ({ data := #[91] } : ByteArray) ++ RJ = RF := ⟨_, rfl⟩
      have HRF2 := hid hRF
      have HRL : Hid (bs (91 :: joinK W a c) = RF) := hid (by
       rw [← hRF, ← hRJ]
       apply ByteArray.ext
       apply Array.toList_inj.1
       rw [ByteArray.data_append, Array.toList_append]
       rfl)
      have hjs : RJ.size ≤ 25 := by
       rw [← hRJ, bs_size]
       exact right_len (join_right hC (arr_right (hF ▸ hf)).1 (arr_right (hT ▸ ht)).1).1
      clear hft hf ht hW ih h78 t78 hr1 hr2 nne hF hT hN HJ hra hrc hRJ hRF hFAl hTAl hfs hts
      cases ra with
      | false =>
       have HZ : Hid (joinK W f.data.toList t.data.toList = objT) := hid (by rw [HJ2.out, if_neg (by simp)])
       go_enter Tryz.func189, Tryz.ntmps189
       go_wp2_with fail
       refine (HRF.out _).mono ?_
       rintro e w1 ⟨rfl, rfl⟩
       go_wp2_with fail
       refine (HRT.out _).mono ?_
       rintro e w1 ⟨rfl, rfl⟩
       go_wp2_with fail
       refine (HRA.out _).mono ?_
       rintro e w1 ⟨rfl, rfl⟩
       go_wp2_with fail
       refine (thing_any objB _ (by decide)).mono ?_
       rintro e w2 ⟨rfl, rfl⟩
       go_wp2
       go_ret
       exact ⟨by rw [HZ.out]; rfl, Below.refl _ _⟩
      | true =>
       cases rc with
       | false =>
        have HZ : Hid (joinK W f.data.toList t.data.toList = objT) := hid (by rw [HJ2.out, if_neg (by simp)])
        go_enter Tryz.func189, Tryz.ntmps189
        go_wp2_with fail
        refine (HRF.out _).mono ?_
        rintro e w1 ⟨rfl, rfl⟩
        go_wp2_with fail
        refine (HRT.out _).mono ?_
        rintro e w1 ⟨rfl, rfl⟩
        go_wp2_with fail
        refine (HRA.out _).mono ?_
        rintro e w1 ⟨rfl, rfl⟩
        go_wp2_with fail
        refine (HRC.out _).mono ?_
        rintro e w1 ⟨rfl, rfl⟩
        go_wp2_with fail
        refine (thing_any objB _ (by decide)).mono ?_
        rintro e w2 ⟨rfl, rfl⟩
        go_wp2
        go_ret
        exact ⟨by rw [HZ.out]; rfl, Below.refl _ _⟩
       | true =>
       have HZ : Hid (bs (joinK W f.data.toList t.data.toList) = RF) := hid (by rw [HJ2.out, if_pos ⟨rfl, rfl⟩]; exact HRL.out)
       go_enter Tryz.func189, Tryz.ntmps189
       go_wp2_with fail
       refine (HRF.out _).mono ?_
       rintro e w1 ⟨rfl, rfl⟩
       go_wp2_with fail
       refine (HRT.out _).mono ?_
       rintro e w1 ⟨rfl, rfl⟩
       go_wp2_with fail
       refine (HRA.out _).mono ?_
       rintro e w1 ⟨rfl, rfl⟩
       go_wp2_with fail
       refine (HRC.out _).mono ?_
       rintro e w1 ⟨rfl, rfl⟩
       go_wp2_with fail
       refine wp_region_ext [(5, is (.string RJ))] ⟨is_stays _, trivial⟩ (by kernel_rfl) (by kernel_rfl) ?_
       refine zgc 1 ?_
       go_frame
       refine zgc 2 ?_
       go_frame
       refine wpG_calc (v := .string FA) 3 rfl rfl rfl (fun u => by first | (go_simp; done) | (go_simp; rfl)) ?_
       go_frame
       refine zgc 4 ?_
       go_frame
       refine wpG_calc (v := .string TA) 5 rfl rfl rfl (fun u => by first | (go_simp; done) | (go_simp; rfl)) ?_
       go_frame
       refine wpG_rel 6 rfl rfl rfl ?_ ?_
       ·intro u hu hh
        go_simp
        refine (HIH.out u (HW.out.below (Below.trans (Below.refl _ _) hu))).mono ?_
        rintro e w2 ⟨rfl, hb2⟩
        exact ⟨_, rfl, rfl, hb2⟩
       intro vA ⟨uA, _, hrA⟩
       have hvA : vA = .string RJ := hrA
       subst hvA
       go_frame
       refine wpG_calc (v := .string RF) 7 rfl rfl rfl (fun u => by have hq := HRF2.out; first | (go_simp; done) | (go_simp; omega) | (go_simp; exact hq) | (go_simp; rw [hq])) ?_
       go_frame
       refine zgc 8 ?_
       go_frame
       refine wpG_nil fun w' hb' hF => ?_
       have HBE := hid hb'
       clear hb' hF
       go_wp2
       go_ret
       exact ⟨by rw [HZ.out]; rfl, HBE.out⟩
end Go.Proofs.YtloonnfelgokmaaGreatDoor.worlds
