/- The reference's kinds: Fits. Condition: the world was read. -/
import Derived.Maps.RangeWalk
import Derived.Test.YtlhobhnbgdicjaaGreatDoorZRWldA
set_option linter.unusedSimpArgs false
set_option linter.unusedVariables false
namespace Go.Proofs.YtlhobhnbgdicjaaGreatDoor.worlds
open Go.RowKit lib maps classes errs descs names grow ins
section
variable {W : WL} {x y : UInt8} {a c : List UInt8} (h84 : ¬ y :: c = [84]) (hne : ¬ x :: a = y :: c) (h78 : ¬ x :: a = [78])
include h84 hne h78
theorem fl_no (hr : isRefT (x :: a) = false ∨ isRefT (y :: c) = false) : fitsL W (x :: a) (y :: c) = false := by
 rw [fitsL, if_neg (fun h => h.elim h84 hne), if_neg h78, if_pos hr]
theorem fl_obj (h1 : isRefT (x :: a) = true) (h2 : isRefT (y :: c) = true) (ho : y :: c = objT) : fitsL W (x :: a) (y :: c) = true := by
 rw [fitsL, if_neg (fun h => h.elim h84 hne), if_neg h78, if_neg (by rw [h1, h2]; simp), if_pos ho]
theorem fl_arr (h1 : isRefT (x :: a) = true) (h2 : isRefT (y :: c) = true) (ho : ¬ y :: c = objT) (hx : x = 91) (hy : y = 91) : fitsL W (x :: a) (y :: c) = (isRefT a && (isRefT c && fitsL W a c)) := by
 rw [fitsL, if_neg (fun h => h.elim h84 hne), if_neg h78, if_neg (by rw [h1, h2]; simp), if_neg ho, if_pos ⟨hx, by rw [hy]; rfl⟩]; rfl
theorem fl_cls (h1 : isRefT (x :: a) = true) (h2 : isRefT (y :: c) = true) (ho : ¬ y :: c = objT) (hn : ¬ (x = 91 ∧ y = 91)) : fitsL W (x :: a) (y :: c) = (decide (x = 76) && (decide (y = 76) && inTexts (classN (y :: c)) (everyU W (classN (x :: a))))) := by
 rw [fitsL, if_neg (fun h => h.elim h84 hne), if_neg h78, if_neg (by rw [h1, h2]; simp), if_neg ho, if_neg (fun h => hn ⟨h.1, by simpa using h.2⟩)]
 simp
end
theorem sel_in {l : List CV} {W : WL} (h : ∀ n, getK W n = getL l n) {n x : ByteArray} (hx : x ≠ noB) : inTexts x (selR ltS (n :: upAll l n) (n :: upAll l n).length) = inTexts x (everyU W n) := by
 rw [Bool.eq_iff_iff, inT_mem, inT_mem, mem_ev ltS hx, mem_name_up h]
set_option maxRecDepth 100000 in
set_option maxHeartbeats 16000000 in
theorem rfits_any {l : List CV} {W : WL} (hR : RW l W) (va : Value) : ∀ (N : Nat) (f t : ByteArray) (w : World), f.size ≤ N → isTy f.data.toList = true → isTy t.data.toList = true → Clss w va l →
  Calls Tryz.prog 26 #[va, .string f, .string t] w fun e w' => e = .returned (.bool (fitsL W f.data.toList t.data.toList)) ∧ Below w.heap.size w w' := by
 intro N
 induction N with
 | zero =>
  intro f t w hN hf
  have : f.data.toList = [] := by
   have h : f.data.size = 0 := Nat.le_zero.1 hN
   rw [← Array.length_toList] at h
   exact List.eq_nil_of_length_eq_zero h
  rw [this] at hf
  exact absurd hf (by decide)
 | succ N ih =>
  intro f t w hN hf ht hl
  obtain ⟨al, cl, rfl⟩ := hl.val
  obtain ⟨x, a, hF⟩ : ∃ x a, f.data.toList = x :: a := by
   cases h : f.data.toList with
   | nil => rw [h] at hf; exact absurd hf (by decide)
   | cons x a => exact ⟨x, a, rfl⟩
  obtain ⟨y, c, hT⟩ : ∃ y c, t.data.toList = y :: c := by
   cases h : t.data.toList with
   | nil => rw [h] at ht; exact absurd ht (by decide)
   | cons x a => exact ⟨x, a, rfl⟩
  have n84 : ¬ y :: c = [84] := fun h => by rw [hT, h] at ht; exact absurd ht (by decide +kernel)
  have n78 : ¬ x :: a = [78] := fun h => by rw [hF, h] at hf; exact absurd hf (by decide +kernel)
  have g1 : ¬ t.toList = [84] := fun h => n84 (hT ▸ str_list.1 h)
  have g2 : ¬ f.toList = [78] := fun h => n78 (hF ▸ str_list.1 h)
  have g3 : (t.toList == [84]) = false := beq_eq_false_iff_ne.2 g1
  have g4 : (f.toList == [78]) = false := beq_eq_false_iff_ne.2 g2
  have hfs := isTy_size hf
  have hts := isTy_size ht
  have HL := hid hl; have HTF := hid hf; have HTT := hid ht; have HFE := hid hF; have HTE := hid hT
  by_cases hft : f = t
  ·have s1 := str_eqb hft
   have HZ : Hid (fitsL W f.data.toList t.data.toList = true) := hid (by rw [← hft, hF]; unfold fitsL; rw [if_pos (.inr rfl)])
   have s2 : f.toList = t.toList := by rw [hft]
   clear hft hl hF hT hf ht n84 n78 ih
   go_enter Tryz.func26, Tryz.ntmps26
   go_wp2
   go_ret
   exact ⟨by rw [HZ.out]; rfl, Below.refl _ _⟩
  have s1 := str_neb hft
  have s2 : ¬ f.toList = t.toList := fun h => hft (by
   rw [ByteArray.toList_eq, ByteArray.toList_eq] at h
   exact ByteArray.ext (Array.toList_inj.1 h))
  have nne : ¬ x :: a = y :: c := fun h => hft (ByteArray.ext (Array.toList_inj.1 (by rw [hF, hT]; exact h)))
  have HRF : Hid (∀ u, Calls Tryz.prog 25 #[.string f] u fun e w' => e = .returned (.bool (isRefT (x :: a))) ∧ u = w') := hid (fun u => by rw [← hF]; exact isRef_any f u (by omega))
  have HRT : Hid (∀ u, Calls Tryz.prog 25 #[.string t] u fun e w' => e = .returned (.bool (isRefT (y :: c))) ∧ u = w') := hid (fun u => by rw [← hT]; exact isRef_any t u (by omega))
  rw [hF, hT]
  cases hr1 : isRefT (x :: a) with
  | false =>
   have HZ := hid (fl_no (W := W) n84 nne n78 (.inl hr1))
   rw [hr1] at HRF
   clear hft hl hF hT hf ht n84 n78 nne ih hr1
   go_enter Tryz.func26, Tryz.ntmps26
   go_wp2_with fail
   refine (HRF.out _).mono ?_
   rintro e w1 ⟨rfl, rfl⟩
   go_wp2
   go_ret
   exact ⟨by rw [HZ.out]; rfl, Below.refl _ _⟩
  | true =>
   rw [hr1] at HRF
   cases hr2 : isRefT (y :: c) with
   | false =>
    have HZ := hid (fl_no (W := W) n84 nne n78 (.inr hr2))
    rw [hr2] at HRT
    clear hft hl hF hT hf ht n84 n78 nne ih hr1 hr2
    go_enter Tryz.func26, Tryz.ntmps26
    go_wp2_with fail
    refine (HRF.out _).mono ?_
    rintro e w1 ⟨rfl, rfl⟩
    go_wp2_with fail
    refine (HRT.out _).mono ?_
    rintro e w1 ⟨rfl, rfl⟩
    go_wp2
    go_ret
    exact ⟨by rw [HZ.out]; rfl, Below.refl _ _⟩
   | true =>
    rw [hr2] at HRT
    obtain ⟨hf0, hfx⟩ := first_byte hF
    obtain ⟨ht0, hty⟩ := first_byte hT
    have hf0' : (0 : Int) < (f.size : Int) := by omega
    have ht0' : (0 : Int) < (t.size : Int) := by omega
    by_cases ho : y :: c = objT
    ·have HZ := hid (fl_obj (W := W) n84 nne n78 hr1 hr2 ho)
     have o1 : t.toList = [76, 79, 98, 106, 101, 99, 116, 59] := str_list.2 (hT.trans ho)
     have o3 : ¬ f.toList = [76, 79, 98, 106, 101, 99, 116, 59] := fun h => s2 (h.trans o1.symm)
     have o4 : (f.toList == [76, 79, 98, 106, 101, 99, 116, 59]) = false := beq_eq_false_iff_ne.2 o3
     clear hft hl hF hT hf ht n84 n78 nne ih hr1 hr2 ho
     go_enter Tryz.func26, Tryz.ntmps26
     go_wp2_with fail
     refine (HRF.out _).mono ?_
     rintro e w1 ⟨rfl, rfl⟩
     go_wp2_with fail
     refine (HRT.out _).mono ?_
     rintro e w1 ⟨rfl, rfl⟩
     go_wp2
     go_ret
     exact ⟨by rw [HZ.out]; rfl, Below.refl _ _⟩
    have o1 : ¬ t.toList = [76, 79, 98, 106, 101, 99, 116, 59] := fun h => ho (hT ▸ str_list.1 h)
    have o2 : (t.toList == [76, 79, 98, 106, 101, 99, 116, 59]) = false := beq_eq_false_iff_ne.2 o1
    by_cases hxy : x = 91 ∧ y = 91
    ·obtain ⟨hx91, hy91⟩ := hxy
     subst hx91 hy91
     have HZ := hid (fl_arr (W := W) n84 nne n78 hr1 hr2 ho rfl rfl)
     obtain ⟨fa, hfa⟩ : ∃ fa, f.extract 1 f.size = fa := ⟨_, rfl⟩
     obtain ⟨tc, htc⟩ : ∃ tc, t.extract 1 t.size = tc := ⟨_, rfl⟩
     have ea : fa.data.toList = a := by rw [← hfa, extract_tail hF]; simp [bs]
     have ec : tc.data.toList = c := by rw [← htc, extract_tail hT]; simp [bs]
     have ta : isTy fa.data.toList = true := by rw [ea]; exact ty_tail (hF ▸ hf)
     have tc' : isTy tc.data.toList = true := by rw [ec]; exact ty_tail (hT ▸ ht)
     have hfas := isTy_size ta
     have htcs := isTy_size tc'
     have hfN : fa.size ≤ N := by
      have h1 := size_len fa
      have h2 := size_len f
      rw [ea] at h1
      rw [hF, List.length_cons] at h2
      omega
     have HRA : Hid (∀ u, Calls Tryz.prog 25 #[.string fa] u fun e w' => e = .returned (.bool (isRefT a)) ∧ u = w') := hid (fun u => by rw [← ea]; exact isRef_any fa u (by omega))
     have HRC : Hid (∀ u, Calls Tryz.prog 25 #[.string tc] u fun e w' => e = .returned (.bool (isRefT c)) ∧ u = w') := hid (fun u => by rw [← ec]; exact isRef_any tc u (by omega))
     have HREC : Hid (∀ u, Below w.heap.size w u → Calls Tryz.prog 26 #[.slice al l.length cl, .string fa, .string tc] u fun e w' => e = .returned (.bool (fitsL W a c)) ∧ Below u.heap.size u w') := hid (fun u hu => by
      have := ih fa tc u hfN ta tc' (HL.out.below hu)
      rw [ea, ec] at this; exact this)
     have hf1 : (1 : Int) ≤ (f.size : Int) := by omega
     have ht1 : (1 : Int) ≤ (t.size : Int) := by omega
     clear hft hl hF hT hf ht n84 n78 nne ih hr1 hr2 ho ea ec ta tc'
     generalize fitsL W a c = fz at HREC HZ
     generalize isRefT a = ra at HRA HZ
     generalize isRefT c = rc at HRC HZ
     cases ra with
     | false =>
      have HZ : Hid (fitsL W (91 :: a) (91 :: c) = false) := hid (by rw [HZ.out]; rfl)
      go_enter Tryz.func26, Tryz.ntmps26
      go_wp2_with fail
      refine (HRF.out _).mono ?_
      rintro e w1 ⟨rfl, rfl⟩
      go_wp2_with fail
      refine (HRT.out _).mono ?_
      rintro e w1 ⟨rfl, rfl⟩
      go_wp2_with fail
      refine wp_region_ext [(2, is (.bool false))] ⟨is_stays _, trivial⟩ (by kernel_rfl) (by kernel_rfl) ?_
      refine wpG_calc 1 rfl rfl rfl (fun u => by go_simp; rfl) ?_
      go_frame
      refine wpG_calc (v := .string fa) 2 rfl rfl rfl (fun u => by first | (go_simp; done) | (go_simp; rfl)) ?_
      go_frame
      refine wpG_rel 3 rfl rfl rfl ?_ ?_
      ·intro u hu hh
       go_simp
       refine (HRA.out u).mono ?_
       rintro e w2 ⟨rfl, rfl⟩
       exact ⟨_, rfl, rfl, Below.refl _ _⟩
      intro vA ⟨uA, _, hrA⟩
      have hvA : vA = .bool false := hrA
      subst hvA
      go_frame
      refine wpG_calc 4 rfl rfl rfl (fun u => by go_simp; rfl) ?_
      go_frame
      refine wpG_skip 5 rfl rfl ?_
      go_frame
      refine wpG_skip 6 rfl rfl ?_
      go_frame
      refine wpG_skip 7 rfl rfl ?_
      go_frame
      refine wpG_calc 8 rfl rfl rfl (fun u => by go_simp; rfl) ?_
      go_frame
      refine wpG_calc 9 rfl rfl rfl (fun u => by go_simp; rfl) ?_
      go_frame
      refine wpG_skip 10 rfl rfl ?_
      go_frame
      refine wpG_skip 11 rfl rfl ?_
      go_frame
      refine wpG_skip 12 rfl rfl ?_
      go_frame
      refine wpG_skip 13 rfl rfl ?_
      go_frame
      refine wpG_skip 14 rfl rfl ?_
      go_frame
      refine wpG_skip 15 rfl rfl ?_
      go_frame
      refine wpG_calc 16 rfl rfl rfl (fun u => by go_simp; rfl) ?_
      go_frame
      refine wpG_calc 17 rfl rfl rfl (fun u => by go_simp; rfl) ?_
      go_frame
      refine wpG_nil fun w' hb' hF => ?_
      clear hF
      have HBf := hid hb'
      clear hb'
      go_wp2
      go_ret
      exact ⟨by rw [HZ.out]; rfl, HBf.out⟩
     | true =>
      cases rc with
      | false =>
       have HZ : Hid (fitsL W (91 :: a) (91 :: c) = false) := hid (by rw [HZ.out]; rfl)
       go_enter Tryz.func26, Tryz.ntmps26
       go_wp2_with fail
       refine (HRF.out _).mono ?_
       rintro e w1 ⟨rfl, rfl⟩
       go_wp2_with fail
       refine (HRT.out _).mono ?_
       rintro e w1 ⟨rfl, rfl⟩
       go_wp2_with fail
       refine wp_region_ext [(2, is (.bool true)), (6, is (.bool false))] ⟨is_stays _, is_stays _, trivial⟩ (by kernel_rfl) (by kernel_rfl) ?_
       refine wpG_calc 1 rfl rfl rfl (fun u => by go_simp; rfl) ?_
       go_frame
       refine wpG_calc (v := .string fa) 2 rfl rfl rfl (fun u => by first | (go_simp; done) | (go_simp; rfl)) ?_
       go_frame
       refine wpG_rel 3 rfl rfl rfl ?_ ?_
       ·intro u hu hh
        go_simp
        refine (HRA.out u).mono ?_
        rintro e w2 ⟨rfl, rfl⟩
        exact ⟨_, rfl, rfl, Below.refl _ _⟩
       intro vA ⟨uA, _, hrA⟩
       have hvA : vA = .bool true := hrA
       subst hvA
       go_frame
       refine wpG_calc 4 rfl rfl rfl (fun u => by go_simp; rfl) ?_
       go_frame
       refine wpG_calc 5 rfl rfl rfl (fun u => by go_simp; rfl) ?_
       go_frame
       refine wpG_calc (v := .string tc) 6 rfl rfl rfl (fun u => by first | (go_simp; done) | (go_simp; rfl)) ?_
       go_frame
       refine wpG_rel 7 rfl rfl rfl ?_ ?_
       ·intro u hu hh
        go_simp
        refine (HRC.out u).mono ?_
        rintro e w2 ⟨rfl, rfl⟩
        exact ⟨_, rfl, rfl, Below.refl _ _⟩
       intro vC ⟨uC, _, hrC⟩
       have hvC : vC = .bool false := hrC
       subst hvC
       go_frame
       refine wpG_calc 8 rfl rfl rfl (fun u => by go_simp; rfl) ?_
       go_frame
       refine wpG_calc 9 rfl rfl rfl (fun u => by go_simp; rfl) ?_
       go_frame
       refine wpG_skip 10 rfl rfl ?_
       go_frame
       refine wpG_skip 11 rfl rfl ?_
       go_frame
       refine wpG_skip 12 rfl rfl ?_
       go_frame
       refine wpG_skip 13 rfl rfl ?_
       go_frame
       refine wpG_skip 14 rfl rfl ?_
       go_frame
       refine wpG_skip 15 rfl rfl ?_
       go_frame
       refine wpG_calc 16 rfl rfl rfl (fun u => by go_simp; rfl) ?_
       go_frame
       refine wpG_calc 17 rfl rfl rfl (fun u => by go_simp; rfl) ?_
       go_frame
       refine wpG_nil fun w' hb' hF => ?_
       clear hF
       have HBf := hid hb'
       clear hb'
       go_wp2
       go_ret
       exact ⟨by rw [HZ.out]; rfl, HBf.out⟩
      | true =>
       have HZ : Hid (fitsL W (91 :: a) (91 :: c) = fz) := hid (by rw [HZ.out]; simp)
       go_enter Tryz.func26, Tryz.ntmps26
       go_wp2_with fail
       refine (HRF.out _).mono ?_
       rintro e w1 ⟨rfl, rfl⟩
       go_wp2_with fail
       refine (HRT.out _).mono ?_
       rintro e w1 ⟨rfl, rfl⟩
       go_wp2_with fail
       refine wp_region_ext [(2, is (.bool true)), (6, is (.bool true)), (14, is (.bool fz))] ⟨is_stays _, is_stays _, is_stays _, trivial⟩ (by kernel_rfl) (by kernel_rfl) ?_
       refine wpG_calc 1 rfl rfl rfl (fun u => by go_simp; rfl) ?_
       go_frame
       refine wpG_calc (v := .string fa) 2 rfl rfl rfl (fun u => by first | (go_simp; done) | (go_simp; rfl)) ?_
       go_frame
       refine wpG_rel 3 rfl rfl rfl ?_ ?_
       ·intro u hu hh
        go_simp
        refine (HRA.out u).mono ?_
        rintro e w2 ⟨rfl, rfl⟩
        exact ⟨_, rfl, rfl, Below.refl _ _⟩
       intro vA ⟨uA, _, hrA⟩
       have hvA : vA = .bool true := hrA
       subst hvA
       go_frame
       refine wpG_calc 4 rfl rfl rfl (fun u => by go_simp; rfl) ?_
       go_frame
       refine wpG_calc 5 rfl rfl rfl (fun u => by go_simp; rfl) ?_
       go_frame
       refine wpG_calc (v := .string tc) 6 rfl rfl rfl (fun u => by first | (go_simp; done) | (go_simp; rfl)) ?_
       go_frame
       refine wpG_rel 7 rfl rfl rfl ?_ ?_
       ·intro u hu hh
        go_simp
        refine (HRC.out u).mono ?_
        rintro e w2 ⟨rfl, rfl⟩
        exact ⟨_, rfl, rfl, Below.refl _ _⟩
       intro vC ⟨uC, _, hrC⟩
       have hvC : vC = .bool true := hrC
       subst hvC
       go_frame
       refine wpG_calc 8 rfl rfl rfl (fun u => by go_simp; rfl) ?_
       go_frame
       refine wpG_calc 9 rfl rfl rfl (fun u => by go_simp; rfl) ?_
       go_frame
       refine wpG_calc 10 rfl rfl rfl (fun u => by go_simp; rfl) ?_
       go_frame
       refine wpG_calc 11 rfl rfl rfl (fun u => by go_simp; rfl) ?_
       go_frame
       refine wpG_calc (v := .string fa) 12 rfl rfl rfl (fun u => by first | (go_simp; done) | (go_simp; rfl)) ?_
       go_frame
       refine wpG_calc 13 rfl rfl rfl (fun u => by go_simp; rfl) ?_
       go_frame
       refine wpG_calc (v := .string tc) 14 rfl rfl rfl (fun u => by first | (go_simp; done) | (go_simp; rfl)) ?_
       go_frame
       refine wpG_rel 15 rfl rfl rfl ?_ ?_
       ·intro u hu hh
        go_simp
        refine (HREC.out u hu).mono ?_
        rintro e w2 ⟨rfl, hb2⟩
        exact ⟨_, rfl, rfl, hb2⟩
       intro vZ ⟨uZ, _, hrZ⟩
       have hvZ : vZ = .bool fz := hrZ
       subst hvZ
       go_frame
       refine wpG_calc 16 rfl rfl rfl (fun u => by go_simp; rfl) ?_
       go_frame
       refine wpG_calc 17 rfl rfl rfl (fun u => by go_simp; rfl) ?_
       go_frame
       refine wpG_nil fun w' hb' hF => ?_
       clear hF
       have HBf := hid hb'
       clear hb'
       go_wp2
       go_ret
       exact ⟨by rw [HZ.out]; rfl, HBf.out⟩
    ·have HZ := hid (fl_cls (W := W) n84 nne n78 hr1 hr2 ho hxy)
     by_cases hx : x = 76
     ·subst hx
      by_cases hy : y = 76
      ·subst hy
       have HCF := hid (fun u => classIn_any f u HTF.out)
       have HCT := hid (fun u => classIn_any t u HTT.out)
       have hnb : classN (76 :: c) ≠ noB := fun h => (head_name (t := 76 :: c) (hT ▸ ht) rfl).2 ((clsN_no _).1 h)
       rw [hF] at HCF
       rw [hT] at HCT
       have HEV := hid (revery_any (.slice al l.length cl) l (classN (76 :: a)) w HL.out hR.small)
       have HIN : Hid (inTexts (classN (76 :: c)) (selR ltS (classN (76 :: a) :: upAll l (classN (76 :: a))) (classN (76 :: a) :: upAll l (classN (76 :: a))).length) = fitsL W (76 :: a) (76 :: c)) := hid (by
        rw [HZ.out, sel_in hR.get hnb]; simp)
       have HLE : Hid ((selR ltS (classN (76 :: a) :: upAll l (classN (76 :: a))) (classN (76 :: a) :: upAll l (classN (76 :: a))).length).length ≤ 1000000000000) := hid (by
        rw [selR_len, List.length_cons]
        have h4 := upR_most l (classN (76 :: a)) (mostL l (classN (76 :: a)))
        have h5 := hR.small.most (classN (76 :: a))
        unfold upAll; omega)
       generalize selR ltS (classN (76 :: a) :: upAll l (classN (76 :: a))) (classN (76 :: a) :: upAll l (classN (76 :: a))).length = SR at HEV HIN HLE
       clear hft hl hF hT hf ht n84 n78 nne ih hr1 hr2 ho hxy hnb HZ
       go_enter Tryz.func26, Tryz.ntmps26
       go_wp2_with fail
       refine (HRF.out _).mono ?_
       rintro e w1 ⟨rfl, rfl⟩
       go_wp2_with fail
       refine (HRT.out _).mono ?_
       rintro e w1 ⟨rfl, rfl⟩
       go_wp2_with fail
       refine (HCF.out _).mono ?_
       rintro e w1 ⟨rfl, rfl⟩
       go_wp2_with fail
       refine HEV.out.mono ?_
       rintro e w4 ⟨v, rfl, ho4⟩
       have HS4 := hid ho4.sl
       have HB4 := hid ho4.below
       obtain ⟨av, cv, hv⟩ := ho4.sl.val
       subst hv
       clear ho4
       go_wp2_with fail
       refine (HCT.out _).mono ?_
       rintro e w1 ⟨rfl, rfl⟩
       go_wp2_with fail
       refine (rin_any _ _ _ SR _ _ HS4.out HLE.out).mono ?_
       rintro e w6 ⟨rfl, rfl⟩
       rw [HIN.out]
       go_wp2
       go_ret
       exact ⟨rfl, HB4.out⟩
      ·have HZ : Hid (fitsL W (76 :: a) (y :: c) = false) := hid (by rw [HZ.out]; simp [hy])
       have hy91 : y = 91 := (refs_head.1 (by rw [← refT_refs (hT ▸ ht)]; exact hr2)).resolve_left hy
       clear hy hxy
       subst hy91
       clear hft hl hF hT hf ht n84 n78 nne ih hr1 hr2 ho
       go_enter Tryz.func26, Tryz.ntmps26
       go_wp2_with fail
       refine (HRF.out _).mono ?_
       rintro e w1 ⟨rfl, rfl⟩
       go_wp2_with fail
       refine (HRT.out _).mono ?_
       rintro e w1 ⟨rfl, rfl⟩
       go_wp2
       go_ret
       exact ⟨by rw [HZ.out]; rfl, Below.refl _ _⟩
     ·have HZ : Hid (fitsL W (x :: a) (y :: c) = false) := hid (by rw [HZ.out]; simp [hx])
      have hx91 : x = 91 := (refs_head.1 (by rw [← refT_refs (hF ▸ hf)]; exact hr1)).resolve_left hx
      have hy76 : y = 76 := (refs_head.1 (by rw [← refT_refs (hT ▸ ht)]; exact hr2)).resolve_right (fun h => hxy ⟨hx91, h⟩)
      clear hx hxy
      subst hx91 hy76
      clear hft hl hF hT hf ht n84 n78 nne ih hr1 hr2 ho
      go_enter Tryz.func26, Tryz.ntmps26
      go_wp2_with fail
      refine (HRF.out _).mono ?_
      rintro e w1 ⟨rfl, rfl⟩
      go_wp2_with fail
      refine (HRT.out _).mono ?_
      rintro e w1 ⟨rfl, rfl⟩
      go_wp2
      go_ret
      exact ⟨by rw [HZ.out]; rfl, Below.refl _ _⟩
end Go.Proofs.YtlhobhnbgdicjaaGreatDoor.worlds
namespace Go.Proofs.YtlhobhnbgdicjaaGreatDoor.worlds
open Go.RowKit lib maps classes errs descs names grow ins
def TypesOk (W : WL) (H : List Th) : Prop := ∀ x ∈ H, isTy x.ty.data.toList = true ∧ (classB x.ty.data.toList ≠ [] → (getK W (classN x.ty.data.toList)).isSome = true)
theorem form_ok {W : WL} {x : Th} (h : formF W x = 0) : isTy x.ty.data.toList = true ∧ (classB x.ty.data.toList ≠ [] → (getK W (classN x.ty.data.toList)).isSome = true) := by
 have ht := form_ty h
 refine ⟨ht, fun hc => ?_⟩
 unfold formF at h
 by_cases h1 : isTy x.ty.data.toList = false ∨ isWd x.ty.data.toList = true
 ·rw [if_pos h1] at h; cases h
 rw [if_neg h1] at h
 by_cases h2 : kindF W x.ty.data.toList ≠ 0
 ·rw [if_pos h2] at h; exact absurd h h2
 have h3 : kindF W x.ty.data.toList = 0 := by simpa using h2
 unfold kindF at h3
 by_cases h4 : x.ty.data.toList = [78] ∨ x.ty.data.toList = [84]
 ·rcases h4 with h4 | h4
  ·rw [h4, no_N] at ht; cases ht
  ·rw [h4, no_T] at ht; cases ht
 rw [if_neg h4, if_neg (by rw [ht]; decide)] at h3
 by_cases h5 : classB x.ty.data.toList ≠ [] ∧ getK W (classN x.ty.data.toList) = none
 ·rw [if_pos h5] at h3; cases h3
 ·cases hg : getK W (classN x.ty.data.toList) with
  | none => exact absurd ⟨hc, hg⟩ h5
  | some c => rfl
set_option maxRecDepth 100000 in
set_option maxHeartbeats 16000000 in
theorem rholds_any {l : List CV} {W : WL} (hR : RW l W) (va vt : Value) (H : List Th) (v : Vl) (t : ByteArray) (w : World) (hl : Clss w va l) (hH : Ths w vt H) (hO : TypesOk W H) (hm : H.length ≤ 1048576) (ht : isTy t.data.toList = true) :
  Calls Tryz.prog 16 #[va, vt, .agg #[.int .i64 v.k, .int .i64 v.n], .string t] w fun e w' => e = .returned (.bool (doesV W H v t.data.toList)) ∧ Below w.heap.size w w' := by
 obtain ⟨k, n⟩ := v
 obtain ⟨al, cl, rfl⟩ := hl.val
 obtain ⟨ah, ch, rfl⟩ := hH.sl.val
 simp only
 have HL := hid hl; have HH := hid hH; have HTY := hid ht
 have hts := isTy_size ht
 obtain ⟨W1, hW1⟩ : ∃ W1, w.alloc (.cells #[.int .i64 k, .int .i64 n] 49) = W1 := ⟨_, rfl⟩
 have HB1 : Hid (Below w.heap.size w W1) := hid (hW1 ▸ ext_alloc _ _)
 obtain ⟨B, hB⟩ : ∃ B, w.heap.size = B := ⟨_, rfl⟩
 have HR1 : Hid (W1.heap[B]? = some (.cells #[.int .i64 k, .int .i64 n] 49 (0, 0))) := hid (hW1 ▸ hB ▸ heap_alloc_new _ _)
 rw [hB] at HB1
 have x0 : W1.cell? ⟨B, 0, none⟩ = some (.int .i64 k) := by rw [cell_of_row _ _ _ _ _ _ HR1.out]; rfl
 have x1 : W1.cell? ⟨B, 1, none⟩ = some (.int .i64 n) := by rw [cell_of_row _ _ _ _ _ _ HR1.out]; rfl
 have HRT : Hid (∀ u, Calls Tryz.prog 25 #[.string t] u fun e w' => e = .returned (.bool (isRefT t.data.toList)) ∧ u = w') := hid (fun u => isRef_any t u (by omega))
 rw [refT_refs ht] at HRT
 rw [hB]
 clear hl hH ht
 by_cases h1 : k = 1
 ·subst h1
  by_cases h73 : t.data.toList = [73]
  ·have g1 : t.toList = [73] := str_list.2 h73
   have HZ : Hid (doesV W H ⟨1, n⟩ t.data.toList = (decide (-2147483648 ≤ n) && decide (n ≤ 2147483647))) := hid (by
    unfold doesV
    rw [if_pos rfl, h73, Bool.eq_iff_iff]
    simp only [decide_eq_true_eq, Bool.and_eq_true, true_and]
    unfold wrap32
    omega)
   clear h73
   go_enter Tryz.func16, Tryz.ntmps16
   go_wp2_with fail
   refine (word32_any n _).mono ?_
   rintro e w1 ⟨rfl, rfl⟩
   rw [← HZ.out]
   go_wp2
   go_ret
   exact ⟨rfl, HB1.out⟩
  ·have g1 : ¬ t.toList = [73] := fun h => h73 (str_list.1 h)
   have g2 : (t.toList == [73]) = false := beq_eq_false_iff_ne.2 g1
   have HZ : Hid (doesV W H ⟨1, n⟩ t.data.toList = false) := hid (by unfold doesV; rw [if_pos rfl]; simp [h73])
   clear h73
   go_enter Tryz.func16, Tryz.ntmps16
   go_wp2
   go_ret
   exact ⟨by rw [HZ.out]; rfl, HB1.out⟩
 by_cases h2 : k = 2
 ·subst h2
  by_cases h74 : t.data.toList = [74]
  ·have g1 : t.toList = [74] := str_list.2 h74
   have HZ : Hid (doesV W H ⟨2, n⟩ t.data.toList = true) := hid (by unfold doesV; rw [if_neg (show ¬ (2 : Int) = 1 by decide), if_pos rfl]; simp [h74])
   clear h74
   go_enter Tryz.func16, Tryz.ntmps16
   go_wp2
   go_ret
   exact ⟨by rw [HZ.out]; rfl, HB1.out⟩
  ·have g1 : ¬ t.toList = [74] := fun h => h74 (str_list.1 h)
   have g2 : (t.toList == [74]) = false := beq_eq_false_iff_ne.2 g1
   have HZ : Hid (doesV W H ⟨2, n⟩ t.data.toList = false) := hid (by unfold doesV; rw [if_neg (show ¬ (2 : Int) = 1 by decide), if_pos rfl]; simp [h74])
   clear h74
   go_enter Tryz.func16, Tryz.ntmps16
   go_wp2
   go_ret
   exact ⟨by rw [HZ.out]; rfl, HB1.out⟩
 by_cases h3 : ¬ k = 3
 ·have HZ : Hid (doesV W H ⟨k, n⟩ t.data.toList = false) := hid (by unfold doesV; rw [if_neg h1, if_neg h2, if_neg h3])
  go_enter Tryz.func16, Tryz.ntmps16
  go_wp2
  go_ret
  exact ⟨by rw [HZ.out]; rfl, HB1.out⟩
 obtain rfl : k = 3 := by omega
 have HZ0 : Hid (doesV W H ⟨3, n⟩ t.data.toList = (if refs t.data.toList = false ∨ n < 0 ∨ (H.length : Int) < n then false else if n = 0 then true else match H[(n - 1).toNat]? with
  | none => false
  | some x => doesL W x.ty.data.toList t.data.toList)) := hid (by unfold doesV; rw [if_neg (show ¬ (3 : Int) = 1 by decide), if_neg (show ¬ (3 : Int) = 2 by decide), if_pos rfl]; rfl)
 clear h1 h2 h3
 cases hrt : refs t.data.toList with
 | false =>
  have HZ : Hid (doesV W H ⟨3, n⟩ t.data.toList = false) := hid (by rw [HZ0.out, if_pos (.inl hrt)])
  rw [hrt] at HRT
  clear hrt
  go_enter Tryz.func16, Tryz.ntmps16
  go_wp2_with fail
  refine (HRT.out _).mono ?_
  rintro e w1 ⟨rfl, rfl⟩
  go_wp2
  go_ret
  exact ⟨by rw [HZ.out]; rfl, HB1.out⟩
 | true =>
  rw [hrt] at HRT
  by_cases h4 : n < 0
  ·have HZ : Hid (doesV W H ⟨3, n⟩ t.data.toList = false) := hid (by rw [HZ0.out, if_pos (.inr (.inl h4))])
   clear hrt
   go_enter Tryz.func16, Tryz.ntmps16
   go_wp2_with fail
   refine (HRT.out _).mono ?_
   rintro e w1 ⟨rfl, rfl⟩
   go_wp2
   go_ret
   exact ⟨by rw [HZ.out]; rfl, HB1.out⟩
  by_cases h5 : (H.length : Int) < n
  ·have HZ : Hid (doesV W H ⟨3, n⟩ t.data.toList = false) := hid (by rw [HZ0.out, if_pos (.inr (.inr h5))])
   clear hrt
   go_enter Tryz.func16, Tryz.ntmps16
   go_wp2_with fail
   refine (HRT.out _).mono ?_
   rintro e w1 ⟨rfl, rfl⟩
   go_wp2
   go_ret
   exact ⟨by rw [HZ.out]; rfl, HB1.out⟩
  have HZ1 : Hid (doesV W H ⟨3, n⟩ t.data.toList = (if n = 0 then true else match H[(n - 1).toNat]? with
   | none => false
   | some x => doesL W x.ty.data.toList t.data.toList)) := hid (by rw [HZ0.out, if_neg (by rw [hrt]; rintro (h | h | h) <;> first | (cases h; done) | exact h4 h | exact h5 h)])
  clear hrt
  by_cases h6 : n = 0
  ·subst h6
   have HZ : Hid (doesV W H ⟨3, 0⟩ t.data.toList = true) := hid (by rw [HZ1.out, if_pos rfl])
   go_enter Tryz.func16, Tryz.ntmps16
   go_wp2_with fail
   refine (HRT.out _).mono ?_
   rintro e w1 ⟨rfl, rfl⟩
   go_wp2
   go_ret
   exact ⟨by rw [HZ.out]; rfl, HB1.out⟩
  have hlt : (n - 1).toNat < H.length := by omega
  obtain ⟨q, hq⟩ : ∃ q : Nat, n = (q : Int) + 1 := ⟨(n - 1).toNat, by omega⟩
  subst hq
  have hqn : ((q : Int) + 1 - 1).toNat = q := by omega
  rw [hqn] at hlt HZ1
  have HX := hid (hO H[q] (List.getElem_mem hlt))
  have HZ2 : Hid (doesV W H ⟨3, (q : Int) + 1⟩ t.data.toList = doesL W H[q].ty.data.toList t.data.toList) := hid (by rw [HZ1.out, if_neg h6, List.getElem?_eq_getElem hlt])
  obtain ⟨bb, off, hab, hc0, hc1⟩ := th_at (HH.out.below (by subst hB; exact HB1.out)) hlt
  subst hab
  generalize H[q] = x at HX HZ2 hc0 hc1
  obtain ⟨ty, hty⟩ : ∃ ty, x.ty = ty := ⟨_, rfl⟩
  rw [hty] at HX HZ2 hc0
  have HF := hid (rfits_any hR (.slice al l.length cl) ty.size ty t W1 (Nat.le_refl _) HX.out.1 HTY.out (HL.out.below (by subst hB; exact HB1.out)))
  rw [fits_eq hR.obj _ _ HX.out.1 HTY.out HX.out.2, ← HZ2.out] at HF
  have hw1 : wrap64 ((q : Int) + 1 - 1) = (q : Int) := by unfold wrap64; omega
  have hq0 : (0 : Int) ≤ (q : Int) := by omega
  have hq1 : (q : Int) < (H.length : Int) := by omega
  clear hqn hty hc1
  go_enter Tryz.func16, Tryz.ntmps16
  go_wp2_with fail
  refine (HRT.out _).mono ?_
  rintro e w1 ⟨rfl, rfl⟩
  go_wp2_with fail
  refine HF.out.mono ?_
  rintro e w5 ⟨rfl, hb5⟩
  have HB5 := hid (HB1.out.trans (hb5.mono (by subst hB; exact HB1.out.size)))
  clear hb5
  go_wp2
  go_ret
  exact ⟨rfl, HB5.out⟩
end Go.Proofs.YtlhobhnbgdicjaaGreatDoor.worlds
namespace Go.Proofs.YtlhobhnbgdicjaaGreatDoor.worlds
open Go.RowKit lib maps classes errs descs names grow ins
set_option maxRecDepth 100000 in
set_option maxHeartbeats 16000000 in
theorem rthing_any {l : List CV} {W : WL} (hR : RW l W) (va : Value) (x : Th) (w : World) (hl : Clss w va l) (hx : Vls w x.vh x.has) (hsz : x.ty.size ≤ 9223372036854775807) (hn : x.has.length ≤ 2000000) :
  Calls Tryz.prog 22 #[va, .agg #[.string x.ty, x.vh]] w fun e w' => e = .returned (.int .i64 (formF W x)) ∧ Below w.heap.size w w' := by
 obtain ⟨ty, vh, has⟩ := x
 simp only at hx hsz hn ⊢
 obtain ⟨ah, ch, rfl⟩ := hx.val
 obtain ⟨al, cl, rfl⟩ := hl.val
 have HL := hid hl; have HV := hid hx; have HLN := hid hn
 obtain ⟨W1, hW1⟩ : ∃ W1, w.alloc (.cells #[.string ty, .slice ah has.length ch] 42) = W1 := ⟨_, rfl⟩
 have HB1 : Hid (Below w.heap.size w W1) := hid (hW1 ▸ ext_alloc _ _)
 have hlt1 : w.heap.size < W1.heap.size := by rw [← hW1]; simp
 have hr1 : W1.heap[w.heap.size]? = some (.cells #[.string ty, .slice ah has.length ch] 42 (0, 0)) := hW1 ▸ heap_alloc_new _ _
 have HX : Hid (∀ u, Below W1.heap.size W1 u → u.cell? ⟨w.heap.size, 0, none⟩ = some (.string ty) ∧ u.cell? ⟨w.heap.size, 1, none⟩ = some (.slice ah has.length ch)) := hid (fun u hu => by
  have h := (hu.block _ hlt1).trans hr1
  refine ⟨?_, ?_⟩ <;> (rw [cell_of_row _ _ _ _ _ _ h]; rfl))
 obtain ⟨x0, x1⟩ := HX.out _ (Below.refl _ _)
 have HRT := hid (fun (u : World) => isRef_any ty u hsz)
 have HKD := hid (rkind_any _ l ty W1 (hl.below HB1.out) hR.small.len hsz)
 rw [kind_eq hR.get] at HKD
 clear hl hx hsz hr1
 by_cases hne0 : isTy ty.data.toList = false ∨ isWd ty.data.toList = true
 ·have HZ : Hid (formF W ⟨ty, .slice ah has.length ch, has⟩ = 1) := hid (if_pos hne0)
  have hrb : (isTy ty.data.toList && !isWd ty.data.toList) = false := by
   rcases hne0 with h | h <;> simp [h]
  rw [hrb] at HRT
  clear hne0 hrb
  go_enter Tryz.func22, Tryz.ntmps22
  go_wp2_with fail
  refine (HRT.out _).mono ?_
  rintro e w1 ⟨rfl, rfl⟩
  go_wp2
  go_ret
  exact ⟨by rw [HZ.out]; rfl, HB1.out⟩
 have hty : isTy ty.data.toList = true := by cases h : isTy ty.data.toList with | true => rfl | false => exact absurd (.inl h) hne0
 have hwd : isWd ty.data.toList = false := by cases h : isWd ty.data.toList with | false => rfl | true => exact absurd (.inr h) hne0
 have HTY := hid hty
 rw [hty, hwd] at HRT
 obtain ⟨z, hz⟩ : ∃ z, kindF W ty.data.toList = z := ⟨_, rfl⟩
 rw [hz] at HKD
 by_cases hz0 : z = 0
 ·have hz1 : kindF W ty.data.toList = 0 := by rw [hz, hz0]
  have hfm : formF W ⟨ty, .slice ah has.length ch, has⟩ = if ty.data.toList.head? = some 76 ∧ (cAt W (classN ty.data.toList)).face = true then 7 else if (ty.data.toList.head? = some 91 ∧ 10 < has.length) ∨ (typesT W ty.data.toList has.length).length ≠ has.length then 8 else 0 := by
   unfold formF
   rw [if_neg hne0]
   simp only [hz1]
   rw [if_neg (by simp)]
  rw [hz0] at HKD
  obtain ⟨TL, hTLd⟩ : ∃ TL, (typesT W ty.data.toList has.length).length = TL := ⟨_, rfl⟩
  rw [hTLd] at hfm
  have HTLD := hid hTLd
  obtain ⟨y, e0, hT⟩ : ∃ y e0, ty.data.toList = y :: e0 := by
   cases h : ty.data.toList with
   | nil => rw [h] at hty; exact absurd hty (by decide)
   | cons y e0 => exact ⟨y, e0, rfl⟩
  obtain ⟨hf0, hfy⟩ := first_byte hT
  have hf0' : (0 : Int) < (ty.size : Int) := by omega
  have HCI := hid (fun u => classIn_any ty u hty)
  obtain ⟨cn, hcn⟩ : ∃ cn, classN ty.data.toList = cn := ⟨_, rfl⟩
  rw [hcn] at hfm HCI
  obtain ⟨face, hface⟩ : ∃ face, (cAt W cn).face = face := ⟨_, rfl⟩
  have HFACE : Hid (((getL l cn).getD zeroC).face = face) := hid (by rw [← hface]; unfold cAt; rw [hR.get])
  rw [hface] at hfm
  by_cases hy : y = 76
  ·subst hy
   have hh76 : ty.data.toList.head? = some 76 := by rw [hT]; rfl
   have hh91 : ¬ ty.data.toList.head? = some 91 := by rw [hT]; simp
   cases face with
   | true =>
    have HZ : Hid (formF W ⟨ty, .slice ah has.length ch, has⟩ = 7) := hid (by rw [hfm, if_pos ⟨hh76, rfl⟩])
    clear hty hwd hz hne0 hz0 hz1 hfm hTLd hT hh76 hh91 hcn hface
    go_enter Tryz.func22, Tryz.ntmps22
    go_wp2_with fail
    refine (HRT.out _).mono ?_
    rintro e w1 ⟨rfl, rfl⟩
    go_wp2_with fail
    refine HKD.out.mono ?_
    rintro e w2 ⟨rfl, hb2⟩
    have H12 := hid hb2
    have HB2 := hid (HB1.out.trans (hb2.mono HB1.out.size))
    obtain ⟨x0, x1⟩ := HX.out _ hb2
    clear hb2
    obtain ⟨C, f1, d1, m1, f2, d2, m2, hC, _, _, _, hcall⟩ := clsOf_parts _ l cn w2 (HL.out.below HB2.out) hR.small.len
    have hfc : C.face = true := by rw [← hC]; exact HFACE.out
    rw [hfc] at hcall
    have HCALL := hid hcall
    clear hcall hC hfc
    go_wp2_with fail
    refine (HCI.out _).mono ?_
    rintro e w3 ⟨rfl, rfl⟩
    go_wp2_with fail
    refine HCALL.out.mono ?_
    rintro e w4 ⟨rfl, hb4⟩
    have H14 := hid (H12.out.trans (hb4.mono H12.out.size))
    have HB4 := hid (HB2.out.trans (hb4.mono HB2.out.size))
    clear hb4
    obtain ⟨w5, hw5⟩ : ∃ w5, w4.alloc (.cells #[.string C.nm, .string C.sup, .slice f1 C.faces.length f2, .bool true, .slice d1 C.fields.length d2, .slice m1 C.mets.length m2] 74) = w5 := ⟨_, rfl⟩
    obtain ⟨b4, hb4⟩ : ∃ b4, w4.heap.size = b4 := ⟨_, rfl⟩
    have HR5 : Hid (w5.heap[b4]? = some (.cells #[.string C.nm, .string C.sup, .slice f1 C.faces.length f2, .bool true, .slice d1 C.fields.length d2, .slice m1 C.mets.length m2] 74 (0, 0))) := hid (hw5 ▸ hb4 ▸ heap_alloc_new _ _)
    have H15 : Hid (Below W1.heap.size W1 w5) := hid (hw5 ▸ H14.out.alloc H14.out.size _)
    have HB5 : Hid (Below w.heap.size w w5) := hid (hw5 ▸ HB4.out.alloc HB4.out.size _)
    have x3 : w5.cell? ⟨b4, 3, none⟩ = some (.bool true) := by rw [cell_of_row _ _ _ _ _ _ HR5.out]; rfl
    obtain ⟨x0, x1⟩ := HX.out _ H15.out
    go_wp2
    go_ret
    exact ⟨by rw [HZ.out]; rfl, HB5.out⟩
   | false =>
    rw [if_neg (by simp)] at hfm
    by_cases hTL : TL = has.length
    ·have HZ : Hid (formF W ⟨ty, .slice ah has.length ch, has⟩ = 0) := hid (by rw [hfm, if_neg (by rintro (h | h); exact hh91 h.1; exact h hTL)])
     clear hty hwd hz hne0 hz0 hz1 hfm hTLd hT hh76 hh91 hcn hface
     go_enter Tryz.func22, Tryz.ntmps22
     go_wp2_with fail
     refine (HRT.out _).mono ?_
     rintro e w1 ⟨rfl, rfl⟩
     go_wp2_with fail
     refine HKD.out.mono ?_
     rintro e w2 ⟨rfl, hb2⟩
     have H12 := hid hb2
     have HB2 := hid (HB1.out.trans (hb2.mono HB1.out.size))
     obtain ⟨x0, x1⟩ := HX.out _ hb2
     clear hb2
     obtain ⟨C, f1, d1, m1, f2, d2, m2, hC, _, _, _, hcall⟩ := clsOf_parts _ l cn w2 (HL.out.below HB2.out) hR.small.len
     have hfc : C.face = false := by rw [← hC]; exact HFACE.out
     rw [hfc] at hcall
     have HCALL := hid hcall
     clear hcall hC hfc
     go_wp2_with fail
     refine (HCI.out _).mono ?_
     rintro e w3 ⟨rfl, rfl⟩
     go_wp2_with fail
     refine HCALL.out.mono ?_
     rintro e w4 ⟨rfl, hb4⟩
     have H14 := hid (H12.out.trans (hb4.mono H12.out.size))
     have HB4 := hid (HB2.out.trans (hb4.mono HB2.out.size))
     clear hb4
     obtain ⟨w5, hw5⟩ : ∃ w5, w4.alloc (.cells #[.string C.nm, .string C.sup, .slice f1 C.faces.length f2, .bool false, .slice d1 C.fields.length d2, .slice m1 C.mets.length m2] 74) = w5 := ⟨_, rfl⟩
     obtain ⟨b4, hb4⟩ : ∃ b4, w4.heap.size = b4 := ⟨_, rfl⟩
     have HR5 : Hid (w5.heap[b4]? = some (.cells #[.string C.nm, .string C.sup, .slice f1 C.faces.length f2, .bool false, .slice d1 C.fields.length d2, .slice m1 C.mets.length m2] 74 (0, 0))) := hid (hw5 ▸ hb4 ▸ heap_alloc_new _ _)
     have H15 : Hid (Below W1.heap.size W1 w5) := hid (hw5 ▸ H14.out.alloc H14.out.size _)
     have HB5 : Hid (Below w.heap.size w w5) := hid (hw5 ▸ HB4.out.alloc HB4.out.size _)
     have x3 : w5.cell? ⟨b4, 3, none⟩ = some (.bool false) := by rw [cell_of_row _ _ _ _ _ _ HR5.out]; rfl
     obtain ⟨x0, x1⟩ := HX.out _ H15.out
     go_wp2_with fail
     have HU := hid H15.out
     have HBU := hid HB5.out
     refine wp_region_ext [(13, slR TL)] ⟨slR_stays _, trivial⟩ (by kernel_rfl) (by kernel_rfl) ?_
     refine wpG_calc 1 rfl rfl rfl (fun u => by go_simp; rfl) ?_
     go_frame
     refine wpG_read 2 rfl rfl (.string ty) rfl ?_ ?_
     ·intro u hu hh
      obtain ⟨y0, y1⟩ := HX.out u (HU.out.trans (hu.mono HU.out.size))
      go_simp
     go_frame
     refine wpG_calc 3 rfl rfl rfl (fun u => by go_simp; rfl) ?_
     go_frame
     refine wpG_calc (v := .bool false) 4 rfl rfl rfl (fun u => by first | (go_simp; done) | (go_simp; rfl)) ?_
     go_frame
     refine wpG_calc 5 rfl rfl rfl (fun u => by go_simp; rfl) ?_
     go_frame
     refine wpG_skip 6 rfl rfl ?_
     go_frame
     refine wpG_skip 7 rfl rfl ?_
     go_frame
     refine wpG_skip 8 rfl rfl ?_
     go_frame
     refine wpG_skip 9 rfl rfl ?_
     go_frame
     refine wpG_calc 10 rfl rfl rfl (fun u => by go_simp; rfl) ?_
     go_frame
     refine wpG_calc 11 rfl rfl rfl (fun u => by go_simp; rfl) ?_
     go_frame
     refine wpG_calc 12 rfl rfl rfl (fun u => by go_simp; rfl) ?_
     go_frame
     refine wpG_read 13 rfl rfl (.agg #[.string ty, .slice ah has.length ch]) rfl ?_ ?_
     ·intro u hu hh
      obtain ⟨y0, y1⟩ := HX.out u (HU.out.trans (hu.mono HU.out.size))
      go_simp
     go_frame
     refine wpG_rel 14 rfl rfl rfl ?_ ?_
     ·intro u hu hh
      go_simp
      refine (rtypes_any hR _ ⟨ty, .slice ah has.length ch, has⟩ u (HL.out.below (HBU.out.trans (hu.mono HBU.out.size))) (HV.out.below (HBU.out.trans (hu.mono HBU.out.size))) HTY.out HLN.out).mono ?_
      rintro e w2 ⟨v, rfl, ho2⟩
      obtain ⟨a9, c9, h9⟩ := ho2.sl.val
      exact ⟨_, rfl, ⟨a9, c9, h9.trans (congrArg (fun q => Value.slice a9 q c9) (by first | exact HTLD.out | exact HTLD.out.trans hTL))⟩, ho2.below⟩
     intro vT ⟨uT, _, hrT⟩
     obtain ⟨at_, ct, hvT⟩ := hrT
     subst hvT
     go_frame
     refine wpG_calc 15 rfl rfl rfl (fun u => by go_simp; rfl) ?_
     go_frame
     refine wpG_calc 16 rfl rfl rfl (fun u => by go_simp; rfl) ?_
     go_frame
     refine wpG_read 17 rfl rfl (.slice ah has.length ch) rfl ?_ ?_
     ·intro u hu hh
      obtain ⟨y0, y1⟩ := HX.out u (HU.out.trans (hu.mono HU.out.size))
      go_simp
     go_frame
     refine wpG_calc 18 rfl rfl rfl (fun u => by go_simp; rfl) ?_
     go_frame
     refine wpG_calc (v := .bool false) 19 rfl rfl rfl (fun u => by first | (go_simp; done) | (go_simp; simp [hTL]; done) | (go_simp; omega)) ?_
     go_frame
     refine wpG_calc 20 rfl rfl rfl (fun u => by go_simp; rfl) ?_
     go_frame
     refine wpG_nil fun w' hb' hF => ?_
     clear hF
     have HBf := hid (HB5.out.trans (hb'.mono HB5.out.size))
     clear hb'
     go_wp2
     go_ret
     exact ⟨by rw [HZ.out]; rfl, HBf.out⟩
    ·have HZ : Hid (formF W ⟨ty, .slice ah has.length ch, has⟩ = 8) := hid (by rw [hfm, if_pos (.inr hTL)])
     clear hty hwd hz hne0 hz0 hz1 hfm hTLd hT hh76 hh91 hcn hface
     go_enter Tryz.func22, Tryz.ntmps22
     go_wp2_with fail
     refine (HRT.out _).mono ?_
     rintro e w1 ⟨rfl, rfl⟩
     go_wp2_with fail
     refine HKD.out.mono ?_
     rintro e w2 ⟨rfl, hb2⟩
     have H12 := hid hb2
     have HB2 := hid (HB1.out.trans (hb2.mono HB1.out.size))
     obtain ⟨x0, x1⟩ := HX.out _ hb2
     clear hb2
     obtain ⟨C, f1, d1, m1, f2, d2, m2, hC, _, _, _, hcall⟩ := clsOf_parts _ l cn w2 (HL.out.below HB2.out) hR.small.len
     have hfc : C.face = false := by rw [← hC]; exact HFACE.out
     rw [hfc] at hcall
     have HCALL := hid hcall
     clear hcall hC hfc
     go_wp2_with fail
     refine (HCI.out _).mono ?_
     rintro e w3 ⟨rfl, rfl⟩
     go_wp2_with fail
     refine HCALL.out.mono ?_
     rintro e w4 ⟨rfl, hb4⟩
     have H14 := hid (H12.out.trans (hb4.mono H12.out.size))
     have HB4 := hid (HB2.out.trans (hb4.mono HB2.out.size))
     clear hb4
     obtain ⟨w5, hw5⟩ : ∃ w5, w4.alloc (.cells #[.string C.nm, .string C.sup, .slice f1 C.faces.length f2, .bool false, .slice d1 C.fields.length d2, .slice m1 C.mets.length m2] 74) = w5 := ⟨_, rfl⟩
     obtain ⟨b4, hb4⟩ : ∃ b4, w4.heap.size = b4 := ⟨_, rfl⟩
     have HR5 : Hid (w5.heap[b4]? = some (.cells #[.string C.nm, .string C.sup, .slice f1 C.faces.length f2, .bool false, .slice d1 C.fields.length d2, .slice m1 C.mets.length m2] 74 (0, 0))) := hid (hw5 ▸ hb4 ▸ heap_alloc_new _ _)
     have H15 : Hid (Below W1.heap.size W1 w5) := hid (hw5 ▸ H14.out.alloc H14.out.size _)
     have HB5 : Hid (Below w.heap.size w w5) := hid (hw5 ▸ HB4.out.alloc HB4.out.size _)
     have x3 : w5.cell? ⟨b4, 3, none⟩ = some (.bool false) := by rw [cell_of_row _ _ _ _ _ _ HR5.out]; rfl
     obtain ⟨x0, x1⟩ := HX.out _ H15.out
     go_wp2_with fail
     have HU := hid H15.out
     have HBU := hid HB5.out
     refine wp_region_ext [(13, slR TL)] ⟨slR_stays _, trivial⟩ (by kernel_rfl) (by kernel_rfl) ?_
     refine wpG_calc 1 rfl rfl rfl (fun u => by go_simp; rfl) ?_
     go_frame
     refine wpG_read 2 rfl rfl (.string ty) rfl ?_ ?_
     ·intro u hu hh
      obtain ⟨y0, y1⟩ := HX.out u (HU.out.trans (hu.mono HU.out.size))
      go_simp
     go_frame
     refine wpG_calc 3 rfl rfl rfl (fun u => by go_simp; rfl) ?_
     go_frame
     refine wpG_calc (v := .bool false) 4 rfl rfl rfl (fun u => by first | (go_simp; done) | (go_simp; rfl)) ?_
     go_frame
     refine wpG_calc 5 rfl rfl rfl (fun u => by go_simp; rfl) ?_
     go_frame
     refine wpG_skip 6 rfl rfl ?_
     go_frame
     refine wpG_skip 7 rfl rfl ?_
     go_frame
     refine wpG_skip 8 rfl rfl ?_
     go_frame
     refine wpG_skip 9 rfl rfl ?_
     go_frame
     refine wpG_calc 10 rfl rfl rfl (fun u => by go_simp; rfl) ?_
     go_frame
     refine wpG_calc 11 rfl rfl rfl (fun u => by go_simp; rfl) ?_
     go_frame
     refine wpG_calc 12 rfl rfl rfl (fun u => by go_simp; rfl) ?_
     go_frame
     refine wpG_read 13 rfl rfl (.agg #[.string ty, .slice ah has.length ch]) rfl ?_ ?_
     ·intro u hu hh
      obtain ⟨y0, y1⟩ := HX.out u (HU.out.trans (hu.mono HU.out.size))
      go_simp
     go_frame
     refine wpG_rel 14 rfl rfl rfl ?_ ?_
     ·intro u hu hh
      go_simp
      refine (rtypes_any hR _ ⟨ty, .slice ah has.length ch, has⟩ u (HL.out.below (HBU.out.trans (hu.mono HBU.out.size))) (HV.out.below (HBU.out.trans (hu.mono HBU.out.size))) HTY.out HLN.out).mono ?_
      rintro e w2 ⟨v, rfl, ho2⟩
      obtain ⟨a9, c9, h9⟩ := ho2.sl.val
      exact ⟨_, rfl, ⟨a9, c9, h9.trans (congrArg (fun q => Value.slice a9 q c9) (by first | exact HTLD.out | exact HTLD.out.trans hTL))⟩, ho2.below⟩
     intro vT ⟨uT, _, hrT⟩
     obtain ⟨at_, ct, hvT⟩ := hrT
     subst hvT
     go_frame
     refine wpG_calc 15 rfl rfl rfl (fun u => by go_simp; rfl) ?_
     go_frame
     refine wpG_calc 16 rfl rfl rfl (fun u => by go_simp; rfl) ?_
     go_frame
     refine wpG_read 17 rfl rfl (.slice ah has.length ch) rfl ?_ ?_
     ·intro u hu hh
      obtain ⟨y0, y1⟩ := HX.out u (HU.out.trans (hu.mono HU.out.size))
      go_simp
     go_frame
     refine wpG_calc 18 rfl rfl rfl (fun u => by go_simp; rfl) ?_
     go_frame
     refine wpG_calc (v := .bool true) 19 rfl rfl rfl (fun u => by first | (go_simp; done) | (go_simp; simp [hTL]; done) | (go_simp; omega)) ?_
     go_frame
     refine wpG_calc 20 rfl rfl rfl (fun u => by go_simp; rfl) ?_
     go_frame
     refine wpG_nil fun w' hb' hF => ?_
     clear hF
     have HBf := hid (HB5.out.trans (hb'.mono HB5.out.size))
     clear hb'
     go_wp2
     go_ret
     exact ⟨by rw [HZ.out]; rfl, HBf.out⟩
  ·have hh76 : ¬ ty.data.toList.head? = some 76 := by rw [hT]; simpa using hy
   obtain rfl : y = 91 := by
    have h1 := refs_of_ty hty hwd
    rw [hT] at h1
    exact (refs_head.1 h1).resolve_left hy
   have hh91 : ty.data.toList.head? = some 91 := by rw [hT]; rfl
   rw [if_neg (fun h => hh76 h.1)] at hfm
   by_cases hbig : 10 < has.length
   ·have HZ : Hid (formF W ⟨ty, .slice ah has.length ch, has⟩ = 8) := hid (by rw [hfm, if_pos (.inl ⟨hh91, hbig⟩)])
    have hb1 : (10 : Int) < (has.length : Int) := by omega
    clear hty hwd hz hne0 hz0 hz1 hfm hTLd hT hh76 hh91 hcn hface
    clear hy
    go_enter Tryz.func22, Tryz.ntmps22
    go_wp2_with fail
    refine (HRT.out _).mono ?_
    rintro e w1 ⟨rfl, rfl⟩
    go_wp2_with fail
    refine HKD.out.mono ?_
    rintro e w2 ⟨rfl, hb2⟩
    have H12 := hid hb2
    have HB2 := hid (HB1.out.trans (hb2.mono HB1.out.size))
    obtain ⟨x0, x1⟩ := HX.out _ hb2
    clear hb2
    obtain ⟨C, f1, d1, m1, f2, d2, m2, hC, _, _, _, hcall⟩ := clsOf_parts _ l cn w2 (HL.out.below HB2.out) hR.small.len
    have hfc : C.face = face := by rw [← hC]; exact HFACE.out
    rw [hfc] at hcall
    have HCALL := hid hcall
    clear hcall hC hfc
    go_wp2_with fail
    refine (HCI.out _).mono ?_
    rintro e w3 ⟨rfl, rfl⟩
    go_wp2_with fail
    refine HCALL.out.mono ?_
    rintro e w4 ⟨rfl, hb4⟩
    have H14 := hid (H12.out.trans (hb4.mono H12.out.size))
    have HB4 := hid (HB2.out.trans (hb4.mono HB2.out.size))
    clear hb4
    obtain ⟨w5, hw5⟩ : ∃ w5, w4.alloc (.cells #[.string C.nm, .string C.sup, .slice f1 C.faces.length f2, .bool face, .slice d1 C.fields.length d2, .slice m1 C.mets.length m2] 74) = w5 := ⟨_, rfl⟩
    obtain ⟨b4, hb4⟩ : ∃ b4, w4.heap.size = b4 := ⟨_, rfl⟩
    have HR5 : Hid (w5.heap[b4]? = some (.cells #[.string C.nm, .string C.sup, .slice f1 C.faces.length f2, .bool face, .slice d1 C.fields.length d2, .slice m1 C.mets.length m2] 74 (0, 0))) := hid (hw5 ▸ hb4 ▸ heap_alloc_new _ _)
    have H15 : Hid (Below W1.heap.size W1 w5) := hid (hw5 ▸ H14.out.alloc H14.out.size _)
    have HB5 : Hid (Below w.heap.size w w5) := hid (hw5 ▸ HB4.out.alloc HB4.out.size _)
    have x3 : w5.cell? ⟨b4, 3, none⟩ = some (.bool face) := by rw [cell_of_row _ _ _ _ _ _ HR5.out]; rfl
    obtain ⟨x0, x1⟩ := HX.out _ H15.out
    go_wp2_with fail
    have HU := hid H15.out
    have HBU := hid HB5.out
    refine wp_region_ext [] trivial (by kernel_rfl) (by kernel_rfl) ?_
    refine wpG_calc 1 rfl rfl rfl (fun u => by go_simp; rfl) ?_
    go_frame
    refine wpG_read 2 rfl rfl (.string ty) rfl ?_ ?_
    ·intro u hu hh
     obtain ⟨y0, y1⟩ := HX.out u (HU.out.trans (hu.mono HU.out.size))
     go_simp
    go_frame
    refine wpG_calc 3 rfl rfl rfl (fun u => by go_simp; rfl) ?_
    go_frame
    refine wpG_calc (v := .bool true) 4 rfl rfl rfl (fun u => by first | (go_simp; done) | (go_simp; rfl)) ?_
    go_frame
    refine wpG_calc 5 rfl rfl rfl (fun u => by go_simp; rfl) ?_
    go_frame
    refine wpG_calc 6 rfl rfl rfl (fun u => by go_simp; rfl) ?_
    go_frame
    refine wpG_read 7 rfl rfl (.slice ah has.length ch) rfl ?_ ?_
    ·intro u hu hh
     obtain ⟨y0, y1⟩ := HX.out u (HU.out.trans (hu.mono HU.out.size))
     go_simp
    go_frame
    refine wpG_calc 8 rfl rfl rfl (fun u => by go_simp; rfl) ?_
    go_frame
    refine wpG_calc (v := .bool true) 9 rfl rfl rfl (fun u => by first | (go_simp; done) | (go_simp; simp [hbig])) ?_
    go_frame
    refine wpG_calc 10 rfl rfl rfl (fun u => by go_simp; rfl) ?_
    go_frame
    refine wpG_calc 11 rfl rfl rfl (fun u => by go_simp; rfl) ?_
    go_frame
    refine wpG_skip 12 rfl rfl ?_
    go_frame
    refine wpG_skip 13 rfl rfl ?_
    go_frame
    refine wpG_skip 14 rfl rfl ?_
    go_frame
    refine wpG_skip 15 rfl rfl ?_
    go_frame
    refine wpG_skip 16 rfl rfl ?_
    go_frame
    refine wpG_skip 17 rfl rfl ?_
    go_frame
    refine wpG_skip 18 rfl rfl ?_
    go_frame
    refine wpG_skip 19 rfl rfl ?_
    go_frame
    refine wpG_calc 20 rfl rfl rfl (fun u => by go_simp; rfl) ?_
    go_frame
    refine wpG_nil fun w' hb' hF => ?_
    clear hF
    have HBf := hid (HB5.out.trans (hb'.mono HB5.out.size))
    clear hb'
    go_wp2
    go_ret
    exact ⟨by rw [HZ.out]; rfl, HBf.out⟩
   ·have hb1 : ¬ (10 : Int) < (has.length : Int) := by omega
    by_cases hTL : TL = has.length
    ·have HZ : Hid (formF W ⟨ty, .slice ah has.length ch, has⟩ = 0) := hid (by rw [hfm, if_neg (by rintro (h | h); exact hbig h.2; exact h hTL)])
     clear hty hwd hz hne0 hz0 hz1 hfm hTLd hT hh76 hh91 hcn hface
     clear hy
     go_enter Tryz.func22, Tryz.ntmps22
     go_wp2_with fail
     refine (HRT.out _).mono ?_
     rintro e w1 ⟨rfl, rfl⟩
     go_wp2_with fail
     refine HKD.out.mono ?_
     rintro e w2 ⟨rfl, hb2⟩
     have H12 := hid hb2
     have HB2 := hid (HB1.out.trans (hb2.mono HB1.out.size))
     obtain ⟨x0, x1⟩ := HX.out _ hb2
     clear hb2
     obtain ⟨C, f1, d1, m1, f2, d2, m2, hC, _, _, _, hcall⟩ := clsOf_parts _ l cn w2 (HL.out.below HB2.out) hR.small.len
     have hfc : C.face = face := by rw [← hC]; exact HFACE.out
     rw [hfc] at hcall
     have HCALL := hid hcall
     clear hcall hC hfc
     go_wp2_with fail
     refine (HCI.out _).mono ?_
     rintro e w3 ⟨rfl, rfl⟩
     go_wp2_with fail
     refine HCALL.out.mono ?_
     rintro e w4 ⟨rfl, hb4⟩
     have H14 := hid (H12.out.trans (hb4.mono H12.out.size))
     have HB4 := hid (HB2.out.trans (hb4.mono HB2.out.size))
     clear hb4
     obtain ⟨w5, hw5⟩ : ∃ w5, w4.alloc (.cells #[.string C.nm, .string C.sup, .slice f1 C.faces.length f2, .bool face, .slice d1 C.fields.length d2, .slice m1 C.mets.length m2] 74) = w5 := ⟨_, rfl⟩
     obtain ⟨b4, hb4⟩ : ∃ b4, w4.heap.size = b4 := ⟨_, rfl⟩
     have HR5 : Hid (w5.heap[b4]? = some (.cells #[.string C.nm, .string C.sup, .slice f1 C.faces.length f2, .bool face, .slice d1 C.fields.length d2, .slice m1 C.mets.length m2] 74 (0, 0))) := hid (hw5 ▸ hb4 ▸ heap_alloc_new _ _)
     have H15 : Hid (Below W1.heap.size W1 w5) := hid (hw5 ▸ H14.out.alloc H14.out.size _)
     have HB5 : Hid (Below w.heap.size w w5) := hid (hw5 ▸ HB4.out.alloc HB4.out.size _)
     have x3 : w5.cell? ⟨b4, 3, none⟩ = some (.bool face) := by rw [cell_of_row _ _ _ _ _ _ HR5.out]; rfl
     obtain ⟨x0, x1⟩ := HX.out _ H15.out
     go_wp2_with fail
     have HU := hid H15.out
     have HBU := hid HB5.out
     refine wp_region_ext [(13, slR TL)] ⟨slR_stays _, trivial⟩ (by kernel_rfl) (by kernel_rfl) ?_
     refine wpG_calc 1 rfl rfl rfl (fun u => by go_simp; rfl) ?_
     go_frame
     refine wpG_read 2 rfl rfl (.string ty) rfl ?_ ?_
     ·intro u hu hh
      obtain ⟨y0, y1⟩ := HX.out u (HU.out.trans (hu.mono HU.out.size))
      go_simp
     go_frame
     refine wpG_calc 3 rfl rfl rfl (fun u => by go_simp; rfl) ?_
     go_frame
     refine wpG_calc (v := .bool true) 4 rfl rfl rfl (fun u => by first | (go_simp; done) | (go_simp; rfl)) ?_
     go_frame
     refine wpG_calc 5 rfl rfl rfl (fun u => by go_simp; rfl) ?_
     go_frame
     refine wpG_calc 6 rfl rfl rfl (fun u => by go_simp; rfl) ?_
     go_frame
     refine wpG_read 7 rfl rfl (.slice ah has.length ch) rfl ?_ ?_
     ·intro u hu hh
      obtain ⟨y0, y1⟩ := HX.out u (HU.out.trans (hu.mono HU.out.size))
      go_simp
     go_frame
     refine wpG_calc 8 rfl rfl rfl (fun u => by go_simp; rfl) ?_
     go_frame
     refine wpG_calc (v := .bool false) 9 rfl rfl rfl (fun u => by first | (go_simp; done) | (go_simp; simp [hbig])) ?_
     go_frame
     refine wpG_calc 10 rfl rfl rfl (fun u => by go_simp; rfl) ?_
     go_frame
     refine wpG_calc 11 rfl rfl rfl (fun u => by go_simp; rfl) ?_
     go_frame
     refine wpG_calc 12 rfl rfl rfl (fun u => by go_simp; rfl) ?_
     go_frame
     refine wpG_read 13 rfl rfl (.agg #[.string ty, .slice ah has.length ch]) rfl ?_ ?_
     ·intro u hu hh
      obtain ⟨y0, y1⟩ := HX.out u (HU.out.trans (hu.mono HU.out.size))
      go_simp
     go_frame
     refine wpG_rel 14 rfl rfl rfl ?_ ?_
     ·intro u hu hh
      go_simp
      refine (rtypes_any hR _ ⟨ty, .slice ah has.length ch, has⟩ u (HL.out.below (HBU.out.trans (hu.mono HBU.out.size))) (HV.out.below (HBU.out.trans (hu.mono HBU.out.size))) HTY.out HLN.out).mono ?_
      rintro e w2 ⟨v, rfl, ho2⟩
      obtain ⟨a9, c9, h9⟩ := ho2.sl.val
      exact ⟨_, rfl, ⟨a9, c9, h9.trans (congrArg (fun q => Value.slice a9 q c9) (by first | exact HTLD.out | exact HTLD.out.trans hTL))⟩, ho2.below⟩
     intro vT ⟨uT, _, hrT⟩
     obtain ⟨at_, ct, hvT⟩ := hrT
     subst hvT
     go_frame
     refine wpG_calc 15 rfl rfl rfl (fun u => by go_simp; rfl) ?_
     go_frame
     refine wpG_calc 16 rfl rfl rfl (fun u => by go_simp; rfl) ?_
     go_frame
     refine wpG_read 17 rfl rfl (.slice ah has.length ch) rfl ?_ ?_
     ·intro u hu hh
      obtain ⟨y0, y1⟩ := HX.out u (HU.out.trans (hu.mono HU.out.size))
      go_simp
     go_frame
     refine wpG_calc 18 rfl rfl rfl (fun u => by go_simp; rfl) ?_
     go_frame
     refine wpG_calc (v := .bool false) 19 rfl rfl rfl (fun u => by first | (go_simp; done) | (go_simp; simp [hTL]; done) | (go_simp; omega)) ?_
     go_frame
     refine wpG_calc 20 rfl rfl rfl (fun u => by go_simp; rfl) ?_
     go_frame
     refine wpG_nil fun w' hb' hF => ?_
     clear hF
     have HBf := hid (HB5.out.trans (hb'.mono HB5.out.size))
     clear hb'
     go_wp2
     go_ret
     exact ⟨by rw [HZ.out]; rfl, HBf.out⟩
    ·have HZ : Hid (formF W ⟨ty, .slice ah has.length ch, has⟩ = 8) := hid (by rw [hfm, if_pos (.inr hTL)])
     clear hty hwd hz hne0 hz0 hz1 hfm hTLd hT hh76 hh91 hcn hface
     clear hy
     go_enter Tryz.func22, Tryz.ntmps22
     go_wp2_with fail
     refine (HRT.out _).mono ?_
     rintro e w1 ⟨rfl, rfl⟩
     go_wp2_with fail
     refine HKD.out.mono ?_
     rintro e w2 ⟨rfl, hb2⟩
     have H12 := hid hb2
     have HB2 := hid (HB1.out.trans (hb2.mono HB1.out.size))
     obtain ⟨x0, x1⟩ := HX.out _ hb2
     clear hb2
     obtain ⟨C, f1, d1, m1, f2, d2, m2, hC, _, _, _, hcall⟩ := clsOf_parts _ l cn w2 (HL.out.below HB2.out) hR.small.len
     have hfc : C.face = face := by rw [← hC]; exact HFACE.out
     rw [hfc] at hcall
     have HCALL := hid hcall
     clear hcall hC hfc
     go_wp2_with fail
     refine (HCI.out _).mono ?_
     rintro e w3 ⟨rfl, rfl⟩
     go_wp2_with fail
     refine HCALL.out.mono ?_
     rintro e w4 ⟨rfl, hb4⟩
     have H14 := hid (H12.out.trans (hb4.mono H12.out.size))
     have HB4 := hid (HB2.out.trans (hb4.mono HB2.out.size))
     clear hb4
     obtain ⟨w5, hw5⟩ : ∃ w5, w4.alloc (.cells #[.string C.nm, .string C.sup, .slice f1 C.faces.length f2, .bool face, .slice d1 C.fields.length d2, .slice m1 C.mets.length m2] 74) = w5 := ⟨_, rfl⟩
     obtain ⟨b4, hb4⟩ : ∃ b4, w4.heap.size = b4 := ⟨_, rfl⟩
     have HR5 : Hid (w5.heap[b4]? = some (.cells #[.string C.nm, .string C.sup, .slice f1 C.faces.length f2, .bool face, .slice d1 C.fields.length d2, .slice m1 C.mets.length m2] 74 (0, 0))) := hid (hw5 ▸ hb4 ▸ heap_alloc_new _ _)
     have H15 : Hid (Below W1.heap.size W1 w5) := hid (hw5 ▸ H14.out.alloc H14.out.size _)
     have HB5 : Hid (Below w.heap.size w w5) := hid (hw5 ▸ HB4.out.alloc HB4.out.size _)
     have x3 : w5.cell? ⟨b4, 3, none⟩ = some (.bool face) := by rw [cell_of_row _ _ _ _ _ _ HR5.out]; rfl
     obtain ⟨x0, x1⟩ := HX.out _ H15.out
     go_wp2_with fail
     have HU := hid H15.out
     have HBU := hid HB5.out
     refine wp_region_ext [(13, slR TL)] ⟨slR_stays _, trivial⟩ (by kernel_rfl) (by kernel_rfl) ?_
     refine wpG_calc 1 rfl rfl rfl (fun u => by go_simp; rfl) ?_
     go_frame
     refine wpG_read 2 rfl rfl (.string ty) rfl ?_ ?_
     ·intro u hu hh
      obtain ⟨y0, y1⟩ := HX.out u (HU.out.trans (hu.mono HU.out.size))
      go_simp
     go_frame
     refine wpG_calc 3 rfl rfl rfl (fun u => by go_simp; rfl) ?_
     go_frame
     refine wpG_calc (v := .bool true) 4 rfl rfl rfl (fun u => by first | (go_simp; done) | (go_simp; rfl)) ?_
     go_frame
     refine wpG_calc 5 rfl rfl rfl (fun u => by go_simp; rfl) ?_
     go_frame
     refine wpG_calc 6 rfl rfl rfl (fun u => by go_simp; rfl) ?_
     go_frame
     refine wpG_read 7 rfl rfl (.slice ah has.length ch) rfl ?_ ?_
     ·intro u hu hh
      obtain ⟨y0, y1⟩ := HX.out u (HU.out.trans (hu.mono HU.out.size))
      go_simp
     go_frame
     refine wpG_calc 8 rfl rfl rfl (fun u => by go_simp; rfl) ?_
     go_frame
     refine wpG_calc (v := .bool false) 9 rfl rfl rfl (fun u => by first | (go_simp; done) | (go_simp; simp [hbig])) ?_
     go_frame
     refine wpG_calc 10 rfl rfl rfl (fun u => by go_simp; rfl) ?_
     go_frame
     refine wpG_calc 11 rfl rfl rfl (fun u => by go_simp; rfl) ?_
     go_frame
     refine wpG_calc 12 rfl rfl rfl (fun u => by go_simp; rfl) ?_
     go_frame
     refine wpG_read 13 rfl rfl (.agg #[.string ty, .slice ah has.length ch]) rfl ?_ ?_
     ·intro u hu hh
      obtain ⟨y0, y1⟩ := HX.out u (HU.out.trans (hu.mono HU.out.size))
      go_simp
     go_frame
     refine wpG_rel 14 rfl rfl rfl ?_ ?_
     ·intro u hu hh
      go_simp
      refine (rtypes_any hR _ ⟨ty, .slice ah has.length ch, has⟩ u (HL.out.below (HBU.out.trans (hu.mono HBU.out.size))) (HV.out.below (HBU.out.trans (hu.mono HBU.out.size))) HTY.out HLN.out).mono ?_
      rintro e w2 ⟨v, rfl, ho2⟩
      obtain ⟨a9, c9, h9⟩ := ho2.sl.val
      exact ⟨_, rfl, ⟨a9, c9, h9.trans (congrArg (fun q => Value.slice a9 q c9) (by first | exact HTLD.out | exact HTLD.out.trans hTL))⟩, ho2.below⟩
     intro vT ⟨uT, _, hrT⟩
     obtain ⟨at_, ct, hvT⟩ := hrT
     subst hvT
     go_frame
     refine wpG_calc 15 rfl rfl rfl (fun u => by go_simp; rfl) ?_
     go_frame
     refine wpG_calc 16 rfl rfl rfl (fun u => by go_simp; rfl) ?_
     go_frame
     refine wpG_read 17 rfl rfl (.slice ah has.length ch) rfl ?_ ?_
     ·intro u hu hh
      obtain ⟨y0, y1⟩ := HX.out u (HU.out.trans (hu.mono HU.out.size))
      go_simp
     go_frame
     refine wpG_calc 18 rfl rfl rfl (fun u => by go_simp; rfl) ?_
     go_frame
     refine wpG_calc (v := .bool true) 19 rfl rfl rfl (fun u => by first | (go_simp; done) | (go_simp; simp [hTL]; done) | (go_simp; omega)) ?_
     go_frame
     refine wpG_calc 20 rfl rfl rfl (fun u => by go_simp; rfl) ?_
     go_frame
     refine wpG_nil fun w' hb' hF => ?_
     clear hF
     have HBf := hid (HB5.out.trans (hb'.mono HB5.out.size))
     clear hb'
     go_wp2
     go_ret
     exact ⟨by rw [HZ.out]; rfl, HBf.out⟩
 ·have HZ : Hid (formF W ⟨ty, .slice ah has.length ch, has⟩ = z) := hid (by
   unfold formF
   rw [if_neg hne0]
   simp only [hz]
   rw [if_pos hz0])
  clear hty hwd hz hne0
  go_enter Tryz.func22, Tryz.ntmps22
  go_wp2_with fail
  refine (HRT.out _).mono ?_
  rintro e w1 ⟨rfl, rfl⟩
  go_wp2_with fail
  refine HKD.out.mono ?_
  rintro e w2 ⟨rfl, hb2⟩
  have H12 := hid hb2
  have HB2 := hid (HB1.out.trans (hb2.mono HB1.out.size))
  obtain ⟨x0, x1⟩ := HX.out _ hb2
  clear hb2
  go_wp2
  go_ret
  exact ⟨by rw [HZ.out]; rfl, HB2.out⟩
end Go.Proofs.YtlhobhnbgdicjaaGreatDoor.worlds
namespace Go.Proofs.YtlhobhnbgdicjaaGreatDoor.worlds
open Go.RowKit lib maps classes errs descs names grow ins
theorem vals_K (W : WL) (H : List Th) (x : Th) : valsF W H x = if valsK W H (typesT W x.ty.data.toList x.has.length) x.has 0 = true then 0 else 7 := by
 unfold valsF valsK; rw [List.drop_zero]
set_option maxRecDepth 100000 in
set_option maxHeartbeats 16000000 in
theorem rheap_any (va vt : Value) (l : List CV) (H : List Th) (w : World) (hl : Clss w va l) (hsm : ∀ c ∈ l, SmallC c) (hn : l.length ≤ 1048576) (hH : Ths w vt H) (hs : SmallH H) (hm : H.length ≤ 1048576) :
  Calls Tryz.prog 15 #[va, .agg #[vt]] w fun e w' => e = .returned (.int .i64 (heapF l H)) ∧ Below w.heap.size w w' := by
 obtain ⟨al, cl, rfl⟩ := hl.val
 obtain ⟨ah, ch, rfl⟩ := hH.sl.val
 obtain ⟨W1, hW1⟩ : ∃ W1, w.alloc (.cells #[.slice ah H.length ch] 25) = W1 := ⟨_, rfl⟩
 obtain ⟨B, hB⟩ : ∃ B, w.heap.size = B := ⟨_, rfl⟩
 have HB1 : Hid (Below w.heap.size w W1) := hid (hW1 ▸ ext_alloc _ _)
 have hr1 : W1.heap[B]? = some (.cells #[.slice ah H.length ch] 25 (0, 0)) := hW1 ▸ hB ▸ heap_alloc_new _ _
 have HX : Hid (∀ u, Below W1.heap.size W1 u → u.cell? ⟨B, 0, none⟩ = some (.slice ah H.length ch)) := hid (fun u hu => by
  have h := (hu.block B (Array.getElem?_eq_some_iff.1 hr1).1).trans hr1
  rw [cell_of_row _ _ _ _ _ _ h]; rfl)
 have x0 := HX.out W1 (Below.refl _ _)
 have HWL := hid (rworld_any _ l W1 (hl.below HB1.out) hsm hn)
 rw [← (world_eq l).1] at HWL
 have HL := hid hl; have HH := hid hH; have HS := hid hs; have HSM := hid hsm
 obtain ⟨Z, hZ⟩ : ∃ Z, heapF l H = Z := ⟨_, rfl⟩
 have HZ : Hid ((if (readW l).1 ≠ 0 then (readW l).1 else rightF (readW l).2 H) = Z) := hid hZ
 rw [hZ]
 obtain ⟨z, hz⟩ : ∃ z, (readW l).1 = z := ⟨_, rfl⟩
 obtain ⟨W, hW⟩ : ∃ W, (readW l).2 = W := ⟨_, rfl⟩
 have HRW : Hid (z = 0 → RW l W) := hid (fun h0 => by
  have e : readW l = (0, W) := by rw [← h0, ← hz, ← hW]
  refine rw_of e (small_L ?_ hsm)
  apply Classical.byContradiction
  intro h10
  have h4 : (readW l).1 = 4 := read_many (by omega)
  rw [hz, h0] at h4
  cases h4)
 rw [hz, hW] at HZ
 rw [hz] at HWL
 clear hl hH hs hsm hr1 hZ hz hW
 by_cases hz0 : z ≠ 0
 ·have HZ1 : Hid (z = Z) := hid (by have := HZ.out; rwa [if_pos hz0] at this)
  go_enter Tryz.func15, Tryz.ntmps15
  go_wp2_with fail
  refine HWL.out.mono ?_
  rintro e w2 ⟨rfl, hb2⟩
  have HB2 := hid (HB1.out.trans (hb2.mono HB1.out.size))
  clear hb2
  go_wp2
  go_ret
  rw [← HZ1.out]
  exact ⟨rfl, by first | exact HB2.out | (subst hB; exact HB2.out)⟩
 obtain rfl : z = 0 := by simpa using hz0
 have hR := HRW.out rfl
 have HZ : Hid ((if 50 < H.length then 4 else if firstF (formF W) H ≠ 0 then firstF (formF W) H else firstF (valsF W H) H) = Z) := hid (by have := HZ.out; rwa [if_neg hz0] at this)
 clear hz0
 go_enter Tryz.func15, Tryz.ntmps15
 go_wp2_with fail
 refine HWL.out.mono ?_
 rintro e w2 ⟨rfl, hb2⟩
 have HB2 := hid (HB1.out.trans (hb2.mono HB1.out.size))
 have H12 := hid hb2
 have x0 := HX.out w2 hb2
 clear hb2
 by_cases h50 : 50 < H.length
 ·have HZ1 : Hid (4 = Z) := hid (by have := HZ.out; rwa [if_pos h50] at this)
  have h51 : (50 : Int) < (H.length : Int) := by omega
  go_wp2
  go_ret
  rw [← HZ1.out]
  exact ⟨rfl, by first | exact HB2.out | (subst hB; exact HB2.out)⟩
 have HZ : Hid ((if firstF (formF W) H ≠ 0 then firstF (formF W) H else firstF (valsF W H) H) = Z) := hid (by have := HZ.out; rwa [if_neg h50] at this)
 have h51 : ¬ (50 : Int) < (H.length : Int) := by omega
 clear h50
 go_wp2
 go_loopw [6] (fun v wr => ∃ k : Nat, k ≤ H.length ∧ v = .int .i64 (k : Int) ∧ Hid (Below W1.heap.size W1 wr) ∧ Hid (firstF (formF W) H = firstF (formF W) (H.drop k))) (fun v _ => H.length - (intOf v).toNat)
 case atStart => exact ⟨0, Nat.zero_le _, rfl, H12, hid rfl⟩
 case round =>
  obtain ⟨k, hk, rfl, HBR, HP⟩ := hrel
  obtain ⟨wa, hwa⟩ : ∃ wa, wa = wr := ⟨_, rfl⟩
  subst hwa
  clear x0
  have x0 := HX.out wa HBR.out
  have HBW : Hid (Below w.heap.size w wa) := hid (HB1.out.trans (HBR.out.mono HB1.out.size))
  have hk0 : (0 : Int) ≤ (k : Int) := by omega
  by_cases hlt : k < H.length
  ·have hk1 : (k : Int) < (H.length : Int) := by omega
   obtain ⟨bh, oh, hah, hc0, hc1⟩ := th_at (HH.out.below HBW.out) hlt
   subst hah
   have hxv := HH.out.at_ _ (List.getElem_mem hlt)
   have hxs := HS.out _ (List.getElem_mem hlt)
   have HY := hid (fun h => HP.out.trans (ff_no (f := formF W) hlt h))
   have HN := hid (fun h => HP.out.trans (ff_ok (f := formF W) hlt h))
   generalize H[k] = x at hc0 hc1 hxv hxs HY HN
   have HT := hid (rthing_any hR (.slice al l.length cl) x wa (HL.out.below HBW.out) (hxv.below HBW.out) (by omega) (by omega))
   obtain ⟨ty, hty⟩ : ∃ ty, x.ty = ty := ⟨_, rfl⟩
   obtain ⟨av, cv, hvh⟩ := hxv.val
   rw [hvh] at hc1 HT
   rw [hty] at hc0 HT
   obtain ⟨z, hz⟩ : ∃ z, formF W x = z := ⟨_, rfl⟩
   rw [hz] at HT HY HN
   obtain ⟨nv, hnv⟩ : ∃ nv, x.has.length = nv := ⟨_, rfl⟩
   rw [hnv] at hc1 HT
   clear hz hvh hty hxv hxs hnv
   go_wp2_with fail
   refine HT.out.mono ?_
   rintro e w4 ⟨rfl, hb4⟩
   have HB4 : Hid (Below W1.heap.size W1 w4) := hid (HBR.out.trans (hb4.mono HBR.out.size))
   clear hb4
   by_cases h0 : z = 0
   ·subst h0
    have HP2 := hid (HN.out (by simp))
    go_wp2
    go_roundw
    case rel => exact ⟨k + 1, by omega, by simp, HB4, HP2⟩
    case measure => simp [intOf]; omega
   ·have HZ1 : Hid (z = Z) := hid (by
     have h5 := HY.out h0
     have := HZ.out
     rw [h5, if_pos h0] at this; exact this)
    have HBE := hid (HB1.out.trans (HB4.out.mono HB1.out.size))
    go_wp2
    go_ret
    rw [← HZ1.out]
    exact ⟨rfl, by first | exact HBE.out | (subst hB; exact HBE.out)⟩
  ·have hge : ¬ (k : Int) < (H.length : Int) := by omega
   have HF0 : Hid (firstF (formF W) H = 0) := hid (by rw [HP.out, ff_end hlt])
   have HZ2 : Hid (firstF (valsF W H) H = Z) := hid (by
    have := HZ.out
    rw [if_neg (by rw [HF0.out]; decide)] at this; exact this)
   have HTO : Hid (TypesOk W H) := hid (fun x hx => form_ok (ff_all.1 HF0.out x hx))
   clear HP hlt hk hk0
   go_wp2_with fail
   go_loopw [8] (fun v wr => ∃ k : Nat, k ≤ H.length ∧ v = .int .i64 (k : Int) ∧ Hid (Below W1.heap.size W1 wr) ∧ Hid (firstF (valsF W H) H = firstF (valsF W H) (H.drop k))) (fun v _ => H.length - (intOf v).toNat)
   case atStart => exact ⟨0, Nat.zero_le _, rfl, HBR, hid rfl⟩
   case round =>
    obtain ⟨k, hk, rfl, HBR, HP⟩ := hrel
    obtain ⟨wa, hwa⟩ : ∃ wa, wa = wr := ⟨_, rfl⟩
    subst hwa
    clear x0
    have x0 := HX.out wa HBR.out
    have HBW : Hid (Below w.heap.size w wa) := hid (HB1.out.trans (HBR.out.mono HB1.out.size))
    have hk0 : (0 : Int) ≤ (k : Int) := by omega
    by_cases hlt : k < H.length
    ·have hk1 : (k : Int) < (H.length : Int) := by omega
     obtain ⟨bh, oh, hah, hc0, hc1⟩ := th_at (HH.out.below HBW.out) hlt
     subst hah
     have hxv := HH.out.at_ _ (List.getElem_mem hlt)
     have hxs := HS.out _ (List.getElem_mem hlt)
     have hxf := ff_all.1 HF0.out _ (List.getElem_mem hlt)
     have HY := hid (fun h => HP.out.trans (ff_no (f := valsF W H) hlt h))
     have HN := hid (fun h => HP.out.trans (ff_ok (f := valsF W H) hlt h))
     generalize H[k] = x at hc0 hc1 hxv hxs HY HN hxf
     have hxt := form_ty hxf
     have HT := hid (rtypes_any hR (.slice al l.length cl) x wa (HL.out.below HBW.out) (hxv.below HBW.out) hxt (by omega))
     have HVK := hid (vals_K W H x)
     have HTT : Hid (∀ e ∈ typesT W x.ty.data.toList x.has.length, isTy e.data.toList = true) := hid (types_ty hR.good hxt)
     have HLN : Hid ((typesT W x.ty.data.toList x.has.length).length = x.has.length) := hid (form_len hxf)
     have hvn : x.has.length ≤ 1048576 := hxs.2
     obtain ⟨ty, hty⟩ : ∃ ty, x.ty = ty := ⟨_, rfl⟩
     obtain ⟨av, cv, hvh⟩ := hxv.val
     rw [hvh] at hc1 HT
     rw [hty] at hc0 HT HVK HTT HLN
     obtain ⟨V, hV⟩ : ∃ V, x.has = V := ⟨_, rfl⟩
     rw [hV] at hc1 HT HVK HTT HLN hvn
     have HVS : Hid (Vls wa (.slice av V.length cv) V) := hid (by rw [← hV, ← hvh]; exact hxv.below HBW.out)
     obtain ⟨T, hTd⟩ : ∃ T, typesT W ty.data.toList V.length = T := ⟨_, rfl⟩
     rw [hTd] at HT HVK HTT HLN
     obtain ⟨z, hz⟩ : ∃ z, valsF W H x = z := ⟨_, rfl⟩
     rw [hz] at HY HN HVK
     clear hz hvh hty hxv hxs hV hTd hxf hxt
     have hd1 : wa.cell? ⟨bh, oh + k * 2 + 1, none⟩ = some (.slice av V.length cv) := hc1
     go_wp2_with fail
     refine HT.out.mono ?_
     rintro e w4 ⟨vT, rfl, ho4⟩
     have HB4 : Hid (Below W1.heap.size W1 w4) := hid (HBR.out.trans (ho4.below.mono HBR.out.size))
     have HA4 : Hid (Below wa.heap.size wa w4) := hid ho4.below
     have HST := hid ho4.sl
     obtain ⟨aT, cT, hvT⟩ := ho4.sl.val
     subst hvT
     clear ho4
     go_wp2
     go_loopw [10] (fun v wq => ∃ j : Nat, j ≤ T.length ∧ v = .int .i64 (j : Int) ∧ Hid (Below w4.heap.size w4 wq) ∧ Hid (valsK W H T V 0 = valsK W H T V j)) (fun v _ => T.length - (intOf v).toNat)
     case atStart => exact ⟨0, Nat.zero_le _, rfl, hid (Below.refl _ _), hid rfl⟩
     case round =>
      obtain ⟨j, hj, rfl, HBQ, HPJ⟩ := hrel
      obtain ⟨wc, hwc⟩ : ∃ wc, wc = wr := ⟨_, rfl⟩
      subst hwc
      have hj0 : (0 : Int) ≤ (j : Int) := by omega
      have HBc : Hid (Below W1.heap.size W1 wc) := hid (HB4.out.trans (HBQ.out.mono HB4.out.size))
      by_cases hlj : j < T.length
      ·have hljv : j < V.length := by have := HLN.out; omega
       have hj1 : (j : Int) < (T.length : Int) := by omega
       have hj2 : (j : Int) < (V.length : Int) := by omega
       have HcD : Hid (Below wc.heap.size wc wc) := hid (Below.refl _ _)
       have H4D := hid (HBQ.out.trans (HcD.out.mono HBQ.out.size))
       have H1D := hid (HBc.out.trans (HcD.out.mono HBc.out.size))
       have HAD := hid (HA4.out.trans (H4D.out.mono HA4.out.size))
       have HWD := hid (HB1.out.trans (H1D.out.mono HB1.out.size))
       obtain ⟨bt, ot, hat, hct⟩ := text_at (HST.out.below H4D.out) hlj
       subst hat
       obtain ⟨bv, ov, hav, hv0, hv1⟩ := vl_at (HVS.out.below HAD.out) hljv
       subst hav
       have hd1 : wc.cell? ⟨bh, oh + k * 2 + 1, none⟩ = some (.slice (some ⟨bv, ov, none⟩) V.length cv) := by
        rw [HAD.out.cell (p := ⟨bh, oh + k * 2 + 1, none⟩) (World.block_lt_of_cell? wa _ hd1)]; exact hd1
       have hKS := HPJ.out.trans (valsK_step (W := W) (H := H) hlj hljv)
       have htt := HTT.out _ (List.getElem_mem hlj)
       have HTL := HLN.out
       generalize T[j] = tj at hct hKS htt
       generalize V[j] = vj at hv0 hv1 hKS
       obtain ⟨vk, vn⟩ := vj
       simp only at hv0 hv1
       have HXR : Hid (∀ u, Below wc.heap.size wc u → u.cell? ⟨B, 0, none⟩ = some (.slice (some ⟨bh, oh, none⟩) H.length ch) ∧ u.cell? ⟨bh, oh + k * 2 + 1, none⟩ = some (.slice (some ⟨bv, ov, none⟩) V.length cv) ∧ u.cell? ⟨bv, ov + j * 2, none⟩ = some (.int .i64 vk) ∧ u.cell? ⟨bv, ov + j * 2 + 1, none⟩ = some (.int .i64 vn) ∧ u.cell? ⟨bt, ot + j, none⟩ = some (.string tj)) := hid (fun u hu => by
        refine ⟨HX.out u (H1D.out.trans (hu.mono H1D.out.size)), ?_, ?_, ?_, ?_⟩
        ·rw [hu.cell (p := ⟨bh, oh + k * 2 + 1, none⟩) (World.block_lt_of_cell? wc _ hd1)]; exact hd1
        ·rw [hu.cell (p := ⟨bv, ov + j * 2, none⟩) (World.block_lt_of_cell? wc _ hv0)]; exact hv0
        ·rw [hu.cell (p := ⟨bv, ov + j * 2 + 1, none⟩) (World.block_lt_of_cell? wc _ hv1)]; exact hv1
        ·rw [hu.cell (p := ⟨bt, ot + j, none⟩) (World.block_lt_of_cell? wc _ hct)]; exact hct)
       obtain ⟨dv, hdv⟩ : ∃ dv, doesV W H ⟨vk, vn⟩ tj.data.toList = dv := ⟨_, rfl⟩
       have HKS := hid hKS
       rw [hdv] at HKS
       have HHO : Hid (∀ u, Below wc.heap.size wc u → Calls Tryz.prog 16 #[.slice al l.length cl, .slice (some ⟨bh, oh, none⟩) H.length ch, .agg #[.int .i64 vk, .int .i64 vn], .string tj] u fun e w' => e = .returned (.bool dv) ∧ Below u.heap.size u w') := hid (fun u hu => by
        have hwu := HWD.out.trans (hu.mono HWD.out.size)
        rw [← hdv]
        exact rholds_any hR _ _ H ⟨vk, vn⟩ tj u (HL.out.below hwu) (HH.out.below hwu) HTO.out hm htt)
       clear hKS htt hdv hc0 hc1
       cases dv with
       | true =>
        have HP2 : Hid (valsK W H T V 0 = valsK W H T V (j + 1)) := hid (by rw [HKS.out]; rfl)
        go_wp2_with fail
        refine wp_region_ext [(16, is (.bool true))] ⟨is_stays _, trivial⟩ (by kernel_rfl) (by kernel_rfl) ?_
        refine wpG_calc 1 rfl rfl rfl (fun u => by go_simp; rfl) ?_
        go_frame
        refine wpG_calc 2 rfl rfl rfl (fun u => by go_simp; rfl) ?_
        go_frame
        refine wpG_read 3 rfl rfl (.slice (some ⟨bh, oh, none⟩) H.length ch) rfl ?_ ?_
        ·intro u hu hh
         have HXu := HXR.out u hu
         obtain ⟨y0, y1, y2, y3, y4⟩ := HXu
         go_simp
        go_frame
        refine wpG_calc 4 rfl rfl rfl (fun u => by go_simp; rfl) ?_
        go_frame
        refine wpG_read 5 rfl rfl (.slice (some ⟨bh, oh, none⟩) H.length ch) rfl ?_ ?_
        ·intro u hu hh
         have HXu := HXR.out u hu
         obtain ⟨y0, y1, y2, y3, y4⟩ := HXu
         go_simp
        go_frame
        refine wpG_calc 6 rfl rfl rfl (fun u => by go_simp; rfl) ?_
        go_frame
        refine wpG_calc 7 rfl rfl rfl (fun u => by go_simp; rfl) ?_
        go_frame
        refine wpG_calc 8 rfl rfl rfl (fun u => by go_simp; rfl) ?_
        go_frame
        refine wpG_read 9 rfl rfl (.slice (some ⟨bv, ov, none⟩) V.length cv) rfl ?_ ?_
        ·intro u hu hh
         have HXu := HXR.out u hu
         obtain ⟨y0, y1, y2, y3, y4⟩ := HXu
         go_simp
        go_frame
        refine wpG_calc 10 rfl rfl rfl (fun u => by go_simp; rfl) ?_
        go_frame
        refine wpG_calc 11 rfl rfl rfl (fun u => by go_simp; rfl) ?_
        go_frame
        refine wpG_read 12 rfl rfl (.agg #[.int .i64 vk, .int .i64 vn]) rfl ?_ ?_
        ·intro u hu hh
         have HXu := HXR.out u hu
         obtain ⟨y0, y1, y2, y3, y4⟩ := HXu
         go_simp
        go_frame
        refine wpG_calc 13 rfl rfl rfl (fun u => by go_simp; rfl) ?_
        go_frame
        refine wpG_calc 14 rfl rfl rfl (fun u => by go_simp; rfl) ?_
        go_frame
        refine wpG_calc 15 rfl rfl rfl (fun u => by go_simp; rfl) ?_
        go_frame
        refine wpG_read 16 rfl rfl (.string tj) rfl ?_ ?_
        ·intro u hu hh
         have HXu := HXR.out u hu
         obtain ⟨y0, y1, y2, y3, y4⟩ := HXu
         go_simp
        go_frame
        refine wpG_rel 17 rfl rfl rfl ?_ ?_
        ·intro u hu hh
         go_simp
         refine (HHO.out u hu).mono ?_
         rintro e w2 ⟨rfl, hb2⟩
         exact ⟨_, rfl, rfl, hb2⟩
        intro vA ⟨uA, _, hrA⟩
        have hvA : vA = .bool true := hrA
        subst hvA
        go_frame
        refine wpG_calc 18 rfl rfl rfl (fun u => by go_simp; rfl) ?_
        go_frame
        refine wpG_nil fun w' hb' hF => ?_
        clear hF
        have HBf : Hid (Below w4.heap.size w4 w') := hid (H4D.out.trans (hb'.mono H4D.out.size))
        clear hb'
        go_wp2
        go_roundw
        case rel => exact ⟨j + 1, by omega, by simp, HBf, HP2⟩
        case measure => simp [intOf]; omega
       | false =>
        have HZ7 : Hid (7 = Z) := hid (by
         have h1 : valsK W H T V 0 = false := by rw [HKS.out]; rfl
         have h2 := HVK.out
         rw [h1, if_neg (by decide)] at h2
         have h3 := HY.out (by rw [h2]; decide)
         rw [← HZ2.out, h3, h2])
        go_wp2_with fail
        refine wp_region_ext [(16, is (.bool false))] ⟨is_stays _, trivial⟩ (by kernel_rfl) (by kernel_rfl) ?_
        refine wpG_calc 1 rfl rfl rfl (fun u => by go_simp; rfl) ?_
        go_frame
        refine wpG_calc 2 rfl rfl rfl (fun u => by go_simp; rfl) ?_
        go_frame
        refine wpG_read 3 rfl rfl (.slice (some ⟨bh, oh, none⟩) H.length ch) rfl ?_ ?_
        ·intro u hu hh
         have HXu := HXR.out u hu
         obtain ⟨y0, y1, y2, y3, y4⟩ := HXu
         go_simp
        go_frame
        refine wpG_calc 4 rfl rfl rfl (fun u => by go_simp; rfl) ?_
        go_frame
        refine wpG_read 5 rfl rfl (.slice (some ⟨bh, oh, none⟩) H.length ch) rfl ?_ ?_
        ·intro u hu hh
         have HXu := HXR.out u hu
         obtain ⟨y0, y1, y2, y3, y4⟩ := HXu
         go_simp
        go_frame
        refine wpG_calc 6 rfl rfl rfl (fun u => by go_simp; rfl) ?_
        go_frame
        refine wpG_calc 7 rfl rfl rfl (fun u => by go_simp; rfl) ?_
        go_frame
        refine wpG_calc 8 rfl rfl rfl (fun u => by go_simp; rfl) ?_
        go_frame
        refine wpG_read 9 rfl rfl (.slice (some ⟨bv, ov, none⟩) V.length cv) rfl ?_ ?_
        ·intro u hu hh
         have HXu := HXR.out u hu
         obtain ⟨y0, y1, y2, y3, y4⟩ := HXu
         go_simp
        go_frame
        refine wpG_calc 10 rfl rfl rfl (fun u => by go_simp; rfl) ?_
        go_frame
        refine wpG_calc 11 rfl rfl rfl (fun u => by go_simp; rfl) ?_
        go_frame
        refine wpG_read 12 rfl rfl (.agg #[.int .i64 vk, .int .i64 vn]) rfl ?_ ?_
        ·intro u hu hh
         have HXu := HXR.out u hu
         obtain ⟨y0, y1, y2, y3, y4⟩ := HXu
         go_simp
        go_frame
        refine wpG_calc 13 rfl rfl rfl (fun u => by go_simp; rfl) ?_
        go_frame
        refine wpG_calc 14 rfl rfl rfl (fun u => by go_simp; rfl) ?_
        go_frame
        refine wpG_calc 15 rfl rfl rfl (fun u => by go_simp; rfl) ?_
        go_frame
        refine wpG_read 16 rfl rfl (.string tj) rfl ?_ ?_
        ·intro u hu hh
         have HXu := HXR.out u hu
         obtain ⟨y0, y1, y2, y3, y4⟩ := HXu
         go_simp
        go_frame
        refine wpG_rel 17 rfl rfl rfl ?_ ?_
        ·intro u hu hh
         go_simp
         refine (HHO.out u hu).mono ?_
         rintro e w2 ⟨rfl, hb2⟩
         exact ⟨_, rfl, rfl, hb2⟩
        intro vA ⟨uA, _, hrA⟩
        have hvA : vA = .bool false := hrA
        subst hvA
        go_frame
        refine wpG_calc 18 rfl rfl rfl (fun u => by go_simp; rfl) ?_
        go_frame
        refine wpG_nil fun w' hb' hF => ?_
        clear hF
        have HBf := hid (HWD.out.trans (hb'.mono HWD.out.size))
        clear hb'
        go_wp2
        go_ret
        rw [← HZ7.out]
        exact ⟨rfl, by first | exact HBf.out | (subst hB; exact HBf.out)⟩
      ·have hge : ¬ (j : Int) < (T.length : Int) := by omega
       have HP2 : Hid (firstF (valsF W H) H = firstF (valsF W H) (H.drop (k + 1))) := hid (by
        have h1 : valsK W H T V 0 = true := by rw [HPJ.out, valsK_end (by omega)]
        have h2 := HVK.out
        rw [h1, if_pos rfl] at h2
        exact HN.out h2)
       clear hlj
       go_wp2_with fail
       go_roundw
       case rel => exact ⟨k + 1, by omega, by simp, HBc, HP2⟩
       case measure => simp [intOf]; omega
    ·have hge : ¬ (k : Int) < (H.length : Int) := by omega
     have HZ8 : Hid (0 = Z) := hid (by rw [← HZ2.out, HP.out, ff_end hlt])
     clear hlt
     go_wp2_with fail
     go_ret
     rw [← HZ8.out]
     exact ⟨rfl, by first | exact HBW.out | (subst hB; exact HBW.out)⟩
end Go.Proofs.YtlhobhnbgdicjaaGreatDoor.worlds
namespace Go.Proofs.YtlhobhnbgdicjaaGreatDoor.worlds
open Go.RowKit lib maps classes errs descs names grow ins
def objSR : ByteArray := { data := #[76, 79, 98, 106, 101, 99, 116, 59] }
set_option maxHeartbeats 2000000 in
theorem robj_any (w : World) : Calls Tryz.prog 17 #[.string { data := #[79, 98, 106, 101, 99, 116] }] w fun e w' => e = .returned (.string objSR) ∧ w = w' := by
 go_enter Tryz.func17, Tryz.ntmps17
 go_wp2
 go_ret
 exact ⟨by first | rfl | (congr 1; done) | (simp only [objSR]; congr 2; decide +kernel), rfl⟩
theorem heap_form {l : List CV} {H : List Th} (h : heapF l H = 0) : (readW l).1 = 0 ∧ TypesOk (readW l).2 H := by
 obtain ⟨h1, h2, _⟩ := heap_types h
 refine ⟨h1, fun x hx => form_ok ?_⟩
 unfold rightF at h2
 by_cases h3 : 50 < H.length
 ·rw [if_pos h3] at h2; cases h2
 rw [if_neg h3] at h2
 by_cases h4 : firstF (formF (readW l).2) H ≠ 0
 ·rw [if_pos h4] at h2; exact absurd h2 h4
 ·exact ff_all.1 (show firstF (formF (readW l).2) H = 0 by simpa using h4) x hx
set_option maxRecDepth 100000 in
set_option maxHeartbeats 16000000 in
theorem rroots_any (va vt vr : Value) (l : List CV) (H : List Th) (R : List Vl) (w : World) (hl : Clss w va l) (hsm : ∀ c ∈ l, SmallC c) (hn : l.length ≤ 1048576) (hH : Ths w vt H) (hs : SmallH H) (hm : H.length ≤ 1048576) (hR : Vls w vr R) :
  Calls Tryz.prog 5 #[va, .agg #[vt], vr] w fun e w' => e = .returned (.int .i64 (rootsF l H R)) ∧ Below w.heap.size w w' := by
 obtain ⟨al, cl, rfl⟩ := hl.val
 obtain ⟨ah, ch, rfl⟩ := hH.sl.val
 obtain ⟨ar, cr, rfl⟩ := hR.val
 obtain ⟨W1, hW1⟩ : ∃ W1, w.alloc (.cells #[.slice ah H.length ch] 25) = W1 := ⟨_, rfl⟩
 obtain ⟨B, hB⟩ : ∃ B, w.heap.size = B := ⟨_, rfl⟩
 have HB1 : Hid (Below w.heap.size w W1) := hid (hW1 ▸ ext_alloc _ _)
 have hr1 : W1.heap[B]? = some (.cells #[.slice ah H.length ch] 25 (0, 0)) := hW1 ▸ hB ▸ heap_alloc_new _ _
 have HX : Hid (∀ u, Below W1.heap.size W1 u → u.cell? ⟨B, 0, none⟩ = some (.slice ah H.length ch)) := hid (fun u hu => by
  have h := (hu.block B (Array.getElem?_eq_some_iff.1 hr1).1).trans hr1
  rw [cell_of_row _ _ _ _ _ _ h]; rfl)
 have x0 := HX.out W1 (Below.refl _ _)
 have HHF := hid (rheap_any _ _ l H W1 (hl.below HB1.out) hsm hn (hH.below HB1.out) hs hm)
 have HL := hid hl; have HH := hid hH; have HV := hid hR
 obtain ⟨Z, hZ⟩ : ∃ Z, rootsF l H R = Z := ⟨_, rfl⟩
 obtain ⟨W, hW⟩ : ∃ W, (readW l).2 = W := ⟨_, rfl⟩
 have HZ : Hid ((if heapF l H ≠ 0 then heapF l H else if 50 < R.length then 4 else firstF (rootF W H) R) = Z) := hid (by rw [← hW]; exact hZ)
 rw [hZ]
 have HRW : Hid (heapF l H = 0 → RW l W ∧ TypesOk W H) := hid (fun h0 => by
  obtain ⟨h1, h2⟩ := heap_form h0
  rw [hW] at h2
  have e : readW l = (0, W) := by rw [← h1, ← hW]
  refine ⟨rw_of e (small_L ?_ hsm), h2⟩
  apply Classical.byContradiction
  intro h10
  have h4 : (readW l).1 = 4 := read_many (by omega)
  rw [h1] at h4
  cases h4)
 obtain ⟨z, hz⟩ : ∃ z, heapF l H = z := ⟨_, rfl⟩
 rw [hz] at HZ HHF HRW
 clear hl hH hR hs hsm hr1 hZ hz hW
 by_cases hz0 : z ≠ 0
 ·have HZ1 : Hid (z = Z) := hid (by have := HZ.out; rwa [if_pos hz0] at this)
  go_enter Tryz.func5, Tryz.ntmps5
  go_wp2_with fail
  refine HHF.out.mono ?_
  rintro e w2 ⟨rfl, hb2⟩
  have HB2 := hid (HB1.out.trans (hb2.mono HB1.out.size))
  clear hb2
  go_wp2
  go_ret
  rw [← HZ1.out]
  exact ⟨rfl, by first | exact HB2.out | (subst hB; exact HB2.out)⟩
 obtain rfl : z = 0 := by simpa using hz0
 obtain ⟨hRW, hTO⟩ := HRW.out rfl
 have HTO := hid hTO
 have HZ : Hid ((if 50 < R.length then 4 else firstF (rootF W H) R) = Z) := hid (by have := HZ.out; rwa [if_neg hz0] at this)
 clear hz0 hTO
 go_enter Tryz.func5, Tryz.ntmps5
 go_wp2_with fail
 refine HHF.out.mono ?_
 rintro e w2 ⟨rfl, hb2⟩
 have HB2 := hid (HB1.out.trans (hb2.mono HB1.out.size))
 have H12 := hid hb2
 have x0 := HX.out w2 hb2
 clear hb2
 by_cases h50 : 50 < R.length
 ·have HZ1 : Hid (4 = Z) := hid (by have := HZ.out; rwa [if_pos h50] at this)
  have h51 : (50 : Int) < (R.length : Int) := by omega
  go_wp2
  go_ret
  rw [← HZ1.out]
  exact ⟨rfl, by first | exact HB2.out | (subst hB; exact HB2.out)⟩
 have HZ2 : Hid (firstF (rootF W H) R = Z) := hid (by have := HZ.out; rwa [if_neg h50] at this)
 have h51 : ¬ (50 : Int) < (R.length : Int) := by omega
 clear h50
 go_wp2
 go_loopw [8] (fun v wr => ∃ k : Nat, k ≤ R.length ∧ v = .int .i64 (k : Int) ∧ Hid (Below W1.heap.size W1 wr) ∧ Hid (firstF (rootF W H) R = firstF (rootF W H) (R.drop k))) (fun v _ => R.length - (intOf v).toNat)
 case atStart => exact ⟨0, Nat.zero_le _, rfl, H12, hid rfl⟩
 case round =>
  obtain ⟨k, hk, rfl, HBR, HP⟩ := hrel
  obtain ⟨wa, hwa⟩ : ∃ wa, wa = wr := ⟨_, rfl⟩
  subst hwa
  clear x0
  have x0 := HX.out wa HBR.out
  have HBW : Hid (Below w.heap.size w wa) := hid (HB1.out.trans (HBR.out.mono HB1.out.size))
  have hk0 : (0 : Int) ≤ (k : Int) := by omega
  by_cases hlt : k < R.length
  ·have hk1 : (k : Int) < (R.length : Int) := by omega
   obtain ⟨bv, ov, hav, hv0, hv1⟩ := vl_at (HV.out.below HBW.out) hlt
   subst hav
   have HY := hid (fun h => HP.out.trans (ff_no (f := rootF W H) hlt h))
   have HN := hid (fun h => HP.out.trans (ff_ok (f := rootF W H) hlt h))
   generalize R[k] = vj at hv0 hv1 HY HN
   obtain ⟨vk, vn⟩ := vj
   simp only at hv0 hv1
   obtain ⟨W5, hW5⟩ : ∃ W5, wa.alloc (.cells #[.int .i64 vk, .int .i64 vn] 49) = W5 := ⟨_, rfl⟩
   obtain ⟨b5, hb5⟩ : ∃ b5, wa.heap.size = b5 := ⟨_, rfl⟩
   have HR5 : Hid (W5.heap[b5]? = some (.cells #[.int .i64 vk, .int .i64 vn] 49 (0, 0))) := hid (hW5 ▸ hb5 ▸ heap_alloc_new _ _)
   have HB5 : Hid (Below W1.heap.size W1 W5) := hid (hW5 ▸ HBR.out.alloc HBR.out.size _)
   have HW5 := hid (HB1.out.trans (HB5.out.mono HB1.out.size))
   have HXR : Hid (∀ u, Below W5.heap.size W5 u → u.cell? ⟨B, 0, none⟩ = some (.slice ah H.length ch) ∧ u.cell? ⟨b5, 0, none⟩ = some (.int .i64 vk) ∧ u.cell? ⟨b5, 1, none⟩ = some (.int .i64 vn)) := hid (fun u hu => by
    have h4 := (hu.block b5 (Array.getElem?_eq_some_iff.1 HR5.out).1).trans HR5.out
    refine ⟨HX.out u (HB5.out.trans (hu.mono HB5.out.size)), ?_, ?_⟩ <;> (rw [cell_of_row _ _ _ _ _ _ h4]; rfl))
   have HHO : ∀ (s : ByteArray), isTy s.data.toList = true → Hid (∀ u, Below W5.heap.size W5 u → Calls Tryz.prog 16 #[.slice al l.length cl, .slice ah H.length ch, .agg #[.int .i64 vk, .int .i64 vn], .string s] u fun e w' => e = .returned (.bool (doesV W H ⟨vk, vn⟩ s.data.toList)) ∧ Below u.heap.size u w') := fun s hs => hid (fun u hu => by
    have hwu := HW5.out.trans (hu.mono HW5.out.size)
    exact rholds_any hRW _ _ H ⟨vk, vn⟩ s u (HL.out.below hwu) (HH.out.below hwu) HTO.out hm hs)
   have H1 := HHO { data := #[73] } (by decide +kernel)
   have H2 := HHO { data := #[74] } (by decide +kernel)
   have H3 := HHO objSR (by decide +kernel)
   clear HHO
   have e1 : ({ data := #[73] } : ByteArray).data.toList = [73] := rfl
   have e2 : ({ data := #[74] } : ByteArray).data.toList = [74] := rfl
   have e3 : objSR.data.toList = objT := rfl
   rw [e1] at H1
   rw [e2] at H2
   rw [e3] at H3
   clear e1 e2 e3
   obtain ⟨d1, hd1⟩ : ∃ d1, doesV W H ⟨vk, vn⟩ [73] = d1 := ⟨_, rfl⟩
   obtain ⟨d2, hd2⟩ : ∃ d2, doesV W H ⟨vk, vn⟩ [74] = d2 := ⟨_, rfl⟩
   obtain ⟨d3, hd3⟩ : ∃ d3, doesV W H ⟨vk, vn⟩ objT = d3 := ⟨_, rfl⟩
   have HD1 := hid hd1; have HD2 := hid hd2; have HD3 := hid hd3
   rw [hd1] at H1
   rw [hd2] at H2
   rw [hd3] at H3
   clear hd1 hd2 hd3
   cases d1 with
   | true =>
    go_wp2_with fail
    refine wp_region_ext [(4, is (.bool true))] ⟨is_stays _, trivial⟩ (by kernel_rfl) (by kernel_rfl) ?_
    refine wpG_calc 1 rfl rfl rfl (fun u => by go_simp; rfl) ?_
    go_frame
    refine wpG_calc 2 rfl rfl rfl (fun u => by go_simp; rfl) ?_
    go_frame
    refine wpG_read 3 rfl rfl (.slice ah H.length ch) rfl ?_ ?_
    ·intro u hu hh
     obtain ⟨y0, y1, y2⟩ := HXR.out u hu
     go_simp
    go_frame
    refine wpG_read 4 rfl rfl (.agg #[.int .i64 vk, .int .i64 vn]) rfl ?_ ?_
    ·intro u hu hh
     obtain ⟨y0, y1, y2⟩ := HXR.out u hu
     go_simp
    go_frame
    refine wpG_rel 5 rfl rfl rfl ?_ ?_
    ·intro u hu hh
     go_simp
     refine (H1.out u hu).mono ?_
     rintro e w2 ⟨rfl, hb2⟩
     exact ⟨_, rfl, rfl, hb2⟩
    intro vA ⟨uA, _, hrA⟩
    have hvA : vA = .bool true := hrA
    subst hvA
    go_frame
    refine wpG_calc 6 rfl rfl rfl (fun u => by go_simp; rfl) ?_
    go_frame
    refine wpG_calc 7 rfl rfl rfl (fun u => by go_simp; rfl) ?_
    go_frame
    refine wpG_skip 8 rfl rfl ?_
    go_frame
    refine wpG_skip 9 rfl rfl ?_
    go_frame
    refine wpG_skip 10 rfl rfl ?_
    go_frame
    refine wpG_skip 11 rfl rfl ?_
    go_frame
    refine wpG_skip 12 rfl rfl ?_
    go_frame
    refine wpG_skip 13 rfl rfl ?_
    go_frame
    refine wpG_calc 14 rfl rfl rfl (fun u => by go_simp; rfl) ?_
    go_frame
    refine wpG_calc 15 rfl rfl rfl (fun u => by go_simp; rfl) ?_
    go_frame
    refine wpG_skip 16 rfl rfl ?_
    go_frame
    refine wpG_skip 17 rfl rfl ?_
    go_frame
    refine wpG_skip 18 rfl rfl ?_
    go_frame
    refine wpG_skip 19 rfl rfl ?_
    go_frame
    refine wpG_skip 20 rfl rfl ?_
    go_frame
    refine wpG_skip 21 rfl rfl ?_
    go_frame
    refine wpG_skip 22 rfl rfl ?_
    go_frame
    refine wpG_calc 23 rfl rfl rfl (fun u => by go_simp; rfl) ?_
    go_frame
    refine wpG_nil fun w' hb' hF => ?_
    clear hF
    have HBf := hid (HB5.out.trans (hb'.mono HB5.out.size))
    clear hb'
    have HP2 := hid (HN.out (by unfold rootF rootOk; simp [HD1.out, HD2.out, HD3.out]))
    go_wp2
    go_roundw
    case rel => exact ⟨k + 1, by omega, by simp, HBf, HP2⟩
    case measure => simp [intOf]; omega
   | false =>
    cases d2 with
    | true =>
     go_wp2_with fail
     refine wp_region_ext [(4, is (.bool false)), (11, is (.bool true))] ⟨is_stays _, is_stays _, trivial⟩ (by kernel_rfl) (by kernel_rfl) ?_
     refine wpG_calc 1 rfl rfl rfl (fun u => by go_simp; rfl) ?_
     go_frame
     refine wpG_calc 2 rfl rfl rfl (fun u => by go_simp; rfl) ?_
     go_frame
     refine wpG_read 3 rfl rfl (.slice ah H.length ch) rfl ?_ ?_
     ·intro u hu hh
      obtain ⟨y0, y1, y2⟩ := HXR.out u hu
      go_simp
     go_frame
     refine wpG_read 4 rfl rfl (.agg #[.int .i64 vk, .int .i64 vn]) rfl ?_ ?_
     ·intro u hu hh
      obtain ⟨y0, y1, y2⟩ := HXR.out u hu
      go_simp
     go_frame
     refine wpG_rel 5 rfl rfl rfl ?_ ?_
     ·intro u hu hh
      go_simp
      refine (H1.out u hu).mono ?_
      rintro e w2 ⟨rfl, hb2⟩
      exact ⟨_, rfl, rfl, hb2⟩
     intro vA ⟨uA, _, hrA⟩
     have hvA : vA = .bool false := hrA
     subst hvA
     go_frame
     refine wpG_calc 6 rfl rfl rfl (fun u => by go_simp; rfl) ?_
     go_frame
     refine wpG_calc 7 rfl rfl rfl (fun u => by go_simp; rfl) ?_
     go_frame
     refine wpG_calc 8 rfl rfl rfl (fun u => by go_simp; rfl) ?_
     go_frame
     refine wpG_calc 9 rfl rfl rfl (fun u => by go_simp; rfl) ?_
     go_frame
     refine wpG_read 10 rfl rfl (.slice ah H.length ch) rfl ?_ ?_
     ·intro u hu hh
      obtain ⟨y0, y1, y2⟩ := HXR.out u hu
      go_simp
     go_frame
     refine wpG_read 11 rfl rfl (.agg #[.int .i64 vk, .int .i64 vn]) rfl ?_ ?_
     ·intro u hu hh
      obtain ⟨y0, y1, y2⟩ := HXR.out u hu
      go_simp
     go_frame
     refine wpG_rel 12 rfl rfl rfl ?_ ?_
     ·intro u hu hh
      go_simp
      refine (H2.out u hu).mono ?_
      rintro e w2 ⟨rfl, hb2⟩
      exact ⟨_, rfl, rfl, hb2⟩
     intro vB ⟨uB, _, hrB⟩
     have hvB : vB = .bool true := hrB
     subst hvB
     go_frame
     refine wpG_calc 13 rfl rfl rfl (fun u => by go_simp; rfl) ?_
     go_frame
     refine wpG_calc 14 rfl rfl rfl (fun u => by go_simp; rfl) ?_
     go_frame
     refine wpG_calc 15 rfl rfl rfl (fun u => by go_simp; rfl) ?_
     go_frame
     refine wpG_skip 16 rfl rfl ?_
     go_frame
     refine wpG_skip 17 rfl rfl ?_
     go_frame
     refine wpG_skip 18 rfl rfl ?_
     go_frame
     refine wpG_skip 19 rfl rfl ?_
     go_frame
     refine wpG_skip 20 rfl rfl ?_
     go_frame
     refine wpG_skip 21 rfl rfl ?_
     go_frame
     refine wpG_skip 22 rfl rfl ?_
     go_frame
     refine wpG_calc 23 rfl rfl rfl (fun u => by go_simp; rfl) ?_
     go_frame
     refine wpG_nil fun w' hb' hF => ?_
     clear hF
     have HBf := hid (HB5.out.trans (hb'.mono HB5.out.size))
     clear hb'
     have HP2 := hid (HN.out (by unfold rootF rootOk; simp [HD1.out, HD2.out, HD3.out]))
     go_wp2
     go_roundw
     case rel => exact ⟨k + 1, by omega, by simp, HBf, HP2⟩
     case measure => simp [intOf]; omega
    | false =>
     cases d3 with
     | true =>
      go_wp2_with fail
      refine wp_region_ext [(4, is (.bool false)), (11, is (.bool false)), (19, is (.string objSR)), (20, is (.bool true))] ⟨is_stays _, is_stays _, is_stays _, is_stays _, trivial⟩ (by kernel_rfl) (by kernel_rfl) ?_
      refine wpG_calc 1 rfl rfl rfl (fun u => by go_simp; rfl) ?_
      go_frame
      refine wpG_calc 2 rfl rfl rfl (fun u => by go_simp; rfl) ?_
      go_frame
      refine wpG_read 3 rfl rfl (.slice ah H.length ch) rfl ?_ ?_
      ·intro u hu hh
       obtain ⟨y0, y1, y2⟩ := HXR.out u hu
       go_simp
      go_frame
      refine wpG_read 4 rfl rfl (.agg #[.int .i64 vk, .int .i64 vn]) rfl ?_ ?_
      ·intro u hu hh
       obtain ⟨y0, y1, y2⟩ := HXR.out u hu
       go_simp
      go_frame
      refine wpG_rel 5 rfl rfl rfl ?_ ?_
      ·intro u hu hh
       go_simp
       refine (H1.out u hu).mono ?_
       rintro e w2 ⟨rfl, hb2⟩
       exact ⟨_, rfl, rfl, hb2⟩
      intro vA ⟨uA, _, hrA⟩
      have hvA : vA = .bool false := hrA
      subst hvA
      go_frame
      refine wpG_calc 6 rfl rfl rfl (fun u => by go_simp; rfl) ?_
      go_frame
      refine wpG_calc 7 rfl rfl rfl (fun u => by go_simp; rfl) ?_
      go_frame
      refine wpG_calc 8 rfl rfl rfl (fun u => by go_simp; rfl) ?_
      go_frame
      refine wpG_calc 9 rfl rfl rfl (fun u => by go_simp; rfl) ?_
      go_frame
      refine wpG_read 10 rfl rfl (.slice ah H.length ch) rfl ?_ ?_
      ·intro u hu hh
       obtain ⟨y0, y1, y2⟩ := HXR.out u hu
       go_simp
      go_frame
      refine wpG_read 11 rfl rfl (.agg #[.int .i64 vk, .int .i64 vn]) rfl ?_ ?_
      ·intro u hu hh
       obtain ⟨y0, y1, y2⟩ := HXR.out u hu
       go_simp
      go_frame
      refine wpG_rel 12 rfl rfl rfl ?_ ?_
      ·intro u hu hh
       go_simp
       refine (H2.out u hu).mono ?_
       rintro e w2 ⟨rfl, hb2⟩
       exact ⟨_, rfl, rfl, hb2⟩
      intro vB ⟨uB, _, hrB⟩
      have hvB : vB = .bool false := hrB
      subst hvB
      go_frame
      refine wpG_calc 13 rfl rfl rfl (fun u => by go_simp; rfl) ?_
      go_frame
      refine wpG_calc 14 rfl rfl rfl (fun u => by go_simp; rfl) ?_
      go_frame
      refine wpG_calc 15 rfl rfl rfl (fun u => by go_simp; rfl) ?_
      go_frame
      refine wpG_calc 16 rfl rfl rfl (fun u => by go_simp; rfl) ?_
      go_frame
      refine wpG_calc 17 rfl rfl rfl (fun u => by go_simp; rfl) ?_
      go_frame
      refine wpG_read 18 rfl rfl (.slice ah H.length ch) rfl ?_ ?_
      ·intro u hu hh
       obtain ⟨y0, y1, y2⟩ := HXR.out u hu
       go_simp
      go_frame
      refine wpG_read 19 rfl rfl (.agg #[.int .i64 vk, .int .i64 vn]) rfl ?_ ?_
      ·intro u hu hh
       obtain ⟨y0, y1, y2⟩ := HXR.out u hu
       go_simp
      go_frame
      refine wpG_rel 20 rfl rfl rfl ?_ ?_
      ·intro u hu hh
       go_simp
       refine (robj_any u).mono ?_
       rintro e w2 ⟨rfl, rfl⟩
       exact ⟨_, rfl, rfl, Below.refl _ _⟩
      intro vT ⟨uT, _, hrT⟩
      have hvT : vT = .string objSR := hrT
      subst hvT
      go_frame
      refine wpG_rel 21 rfl rfl rfl ?_ ?_
      ·intro u hu hh
       go_simp
       refine (H3.out u hu).mono ?_
       rintro e w2 ⟨rfl, hb2⟩
       exact ⟨_, rfl, rfl, hb2⟩
      intro vC ⟨uC, _, hrC⟩
      have hvC : vC = .bool true := hrC
      subst hvC
      go_frame
      refine wpG_calc 22 rfl rfl rfl (fun u => by go_simp; rfl) ?_
      go_frame
      refine wpG_calc 23 rfl rfl rfl (fun u => by go_simp; rfl) ?_
      go_frame
      refine wpG_nil fun w' hb' hF => ?_
      clear hF
      have HBf := hid (HB5.out.trans (hb'.mono HB5.out.size))
      clear hb'
      have HP2 := hid (HN.out (by unfold rootF rootOk; simp [HD1.out, HD2.out, HD3.out]))
      go_wp2
      go_roundw
      case rel => exact ⟨k + 1, by omega, by simp, HBf, HP2⟩
      case measure => simp [intOf]; omega
     | false =>
      go_wp2_with fail
      refine wp_region_ext [(4, is (.bool false)), (11, is (.bool false)), (19, is (.string objSR)), (20, is (.bool false))] ⟨is_stays _, is_stays _, is_stays _, is_stays _, trivial⟩ (by kernel_rfl) (by kernel_rfl) ?_
      refine wpG_calc 1 rfl rfl rfl (fun u => by go_simp; rfl) ?_
      go_frame
      refine wpG_calc 2 rfl rfl rfl (fun u => by go_simp; rfl) ?_
      go_frame
      refine wpG_read 3 rfl rfl (.slice ah H.length ch) rfl ?_ ?_
      ·intro u hu hh
       obtain ⟨y0, y1, y2⟩ := HXR.out u hu
       go_simp
      go_frame
      refine wpG_read 4 rfl rfl (.agg #[.int .i64 vk, .int .i64 vn]) rfl ?_ ?_
      ·intro u hu hh
       obtain ⟨y0, y1, y2⟩ := HXR.out u hu
       go_simp
      go_frame
      refine wpG_rel 5 rfl rfl rfl ?_ ?_
      ·intro u hu hh
       go_simp
       refine (H1.out u hu).mono ?_
       rintro e w2 ⟨rfl, hb2⟩
       exact ⟨_, rfl, rfl, hb2⟩
      intro vA ⟨uA, _, hrA⟩
      have hvA : vA = .bool false := hrA
      subst hvA
      go_frame
      refine wpG_calc 6 rfl rfl rfl (fun u => by go_simp; rfl) ?_
      go_frame
      refine wpG_calc 7 rfl rfl rfl (fun u => by go_simp; rfl) ?_
      go_frame
      refine wpG_calc 8 rfl rfl rfl (fun u => by go_simp; rfl) ?_
      go_frame
      refine wpG_calc 9 rfl rfl rfl (fun u => by go_simp; rfl) ?_
      go_frame
      refine wpG_read 10 rfl rfl (.slice ah H.length ch) rfl ?_ ?_
      ·intro u hu hh
       obtain ⟨y0, y1, y2⟩ := HXR.out u hu
       go_simp
      go_frame
      refine wpG_read 11 rfl rfl (.agg #[.int .i64 vk, .int .i64 vn]) rfl ?_ ?_
      ·intro u hu hh
       obtain ⟨y0, y1, y2⟩ := HXR.out u hu
       go_simp
      go_frame
      refine wpG_rel 12 rfl rfl rfl ?_ ?_
      ·intro u hu hh
       go_simp
       refine (H2.out u hu).mono ?_
       rintro e w2 ⟨rfl, hb2⟩
       exact ⟨_, rfl, rfl, hb2⟩
      intro vB ⟨uB, _, hrB⟩
      have hvB : vB = .bool false := hrB
      subst hvB
      go_frame
      refine wpG_calc 13 rfl rfl rfl (fun u => by go_simp; rfl) ?_
      go_frame
      refine wpG_calc 14 rfl rfl rfl (fun u => by go_simp; rfl) ?_
      go_frame
      refine wpG_calc 15 rfl rfl rfl (fun u => by go_simp; rfl) ?_
      go_frame
      refine wpG_calc 16 rfl rfl rfl (fun u => by go_simp; rfl) ?_
      go_frame
      refine wpG_calc 17 rfl rfl rfl (fun u => by go_simp; rfl) ?_
      go_frame
      refine wpG_read 18 rfl rfl (.slice ah H.length ch) rfl ?_ ?_
      ·intro u hu hh
       obtain ⟨y0, y1, y2⟩ := HXR.out u hu
       go_simp
      go_frame
      refine wpG_read 19 rfl rfl (.agg #[.int .i64 vk, .int .i64 vn]) rfl ?_ ?_
      ·intro u hu hh
       obtain ⟨y0, y1, y2⟩ := HXR.out u hu
       go_simp
      go_frame
      refine wpG_rel 20 rfl rfl rfl ?_ ?_
      ·intro u hu hh
       go_simp
       refine (robj_any u).mono ?_
       rintro e w2 ⟨rfl, rfl⟩
       exact ⟨_, rfl, rfl, Below.refl _ _⟩
      intro vT ⟨uT, _, hrT⟩
      have hvT : vT = .string objSR := hrT
      subst hvT
      go_frame
      refine wpG_rel 21 rfl rfl rfl ?_ ?_
      ·intro u hu hh
       go_simp
       refine (H3.out u hu).mono ?_
       rintro e w2 ⟨rfl, hb2⟩
       exact ⟨_, rfl, rfl, hb2⟩
      intro vC ⟨uC, _, hrC⟩
      have hvC : vC = .bool false := hrC
      subst hvC
      go_frame
      refine wpG_calc 22 rfl rfl rfl (fun u => by go_simp; rfl) ?_
      go_frame
      refine wpG_calc 23 rfl rfl rfl (fun u => by go_simp; rfl) ?_
      go_frame
      refine wpG_nil fun w' hb' hF => ?_
      clear hF
      have HBf := hid (HB5.out.trans (hb'.mono HB5.out.size))
      clear hb'
      have HZ7 : Hid (7 = Z) := hid (by
       have h2 : rootF W H ⟨vk, vn⟩ = 7 := by unfold rootF rootOk; simp [HD1.out, HD2.out, HD3.out]
       have h3 := HY.out (by rw [h2]; decide)
       rw [← HZ2.out, h3, h2])
      have HBE := hid (HB1.out.trans (HBf.out.mono HB1.out.size))
      go_wp2
      go_ret
      rw [← HZ7.out]
      exact ⟨rfl, by first | exact HBE.out | (subst hB; exact HBE.out)⟩
  ·have hge : ¬ (k : Int) < (R.length : Int) := by omega
   have HZ8 : Hid (0 = Z) := hid (by rw [← HZ2.out, HP.out, ff_end hlt])
   clear hlt
   go_wp2_with fail
   go_ret
   rw [← HZ8.out]
   exact ⟨rfl, by first | exact HBW.out | (subst hB; exact HBW.out)⟩
end Go.Proofs.YtlhobhnbgdicjaaGreatDoor.worlds
