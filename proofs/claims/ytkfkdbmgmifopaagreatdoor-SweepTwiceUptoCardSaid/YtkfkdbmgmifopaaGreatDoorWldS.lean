/- SW1: the walk of SweepTwice. Condition: the texts and lists are not great. -/
import Derived.Test.YtkfkdbmgmifopaaGreatDoorWldR
set_option linter.unusedSimpArgs false
set_option linter.unusedVariables false
namespace Go.Proofs.YtkfkdbmgmifopaaGreatDoor.worlds
open Go.RowKit Go.Proofs.YtkfkdbmgmifopaaGreatDoor.lib Go.Proofs.YtkfkdbmgmifopaaGreatDoor.maps Go.Proofs.YtkfkdbmgmifopaaGreatDoor.classes Go.Proofs.YtkfkdbmgmifopaaGreatDoor.errs Go.Proofs.YtkfkdbmgmifopaaGreatDoor.descs Go.Proofs.YtkfkdbmgmifopaaGreatDoor.names Go.Proofs.YtkfkdbmgmifopaaGreatDoor.grow Go.Proofs.YtkfkdbmgmifopaaGreatDoor.ins

set_option maxRecDepth 100000 in
set_option maxHeartbeats 16000000 in
theorem sweeptwice_any (va vt vr : Value) (l : List CV) (H : List Th) (R : List Vl) (w : World) (hl : Clss w va l) (hf : FormsAt w) (hsm : ∀ c ∈ l, SmallC c) (hn : l.length ≤ 1048576) (hH : Ths w vt H) (hs : SmallH H) (hm : H.length ≤ 1048576) (hR : Vls w vr R) :
    Calls Tryz.prog 6 #[va, .agg #[vt], vr] w fun e w' => e = .returned (.bool true) ∧ Below w.heap.size w w' := by
  obtain ⟨ah, ch, rfl⟩ := hH.sl.val
  obtain ⟨al, cl, rfl⟩ := hl.val
  obtain ⟨ar, cr, rfl⟩ := hR.val
  obtain ⟨b1, hb1⟩ : ∃ b1, w.heap.size = b1 := ⟨_, rfl⟩
  obtain ⟨w1, hw1⟩ : ∃ w1, w.alloc (.cells #[.slice ah H.length ch] 25) = w1 := ⟨_, rfl⟩
  have HB1 : Hid (Below w.heap.size w w1) := hid (hw1 ▸ ext_alloc _ _)
  have hr1 : w1.heap[b1]? = some (.cells #[.slice ah H.length ch] 25 (0, 0)) := by rw [← hw1, ← hb1]; exact heap_alloc_new _ _
  have hlt1 := (Array.getElem?_eq_some_iff.1 hr1).1
  have HX : Hid (∀ u, Below w1.heap.size w1 u → u.cell? ⟨b1, 0, none⟩ = some (.slice ah H.length ch)) := hid (fun u hu => by
    have h := (hu.block _ hlt1).trans hr1
    rw [cell_of_row _ _ _ _ _ _ h]; rfl)
  have HL := hid hl; have HF := hid hf; have HSM := hid hsm; have HN := hid hn; have HH := hid hH; have HS := hid hs; have HM := hid hm; have HR := hid hR
  have HSW0 := hid (swept_any w1 (hf.below HB1.out))
  clear hl hf hsm hn hH hs hm hR hr1
  go_enter Tryz.func6, Tryz.ntmps6
  go_wp2_with fail
  refine HSW0.out.mono ?_
  rintro e w2 ⟨rfl, hb2⟩
  have H12 := hid hb2
  have HB2 := hid (HB1.out.trans (hb2.mono HB1.out.size))
  have x0 := HX.out _ hb2
  clear hb2
  go_wp2_with fail
  refine (sweep_any _ _ _ l H R w2 (HL.out.below HB2.out) (HF.out.below HB2.out) HSM.out HN.out (HH.out.below HB2.out) HS.out HM.out (HR.out.below HB2.out)).mono ?_
  intro e w3 h3
  unfold SweepBy at h3
  by_cases h0 : rootsF l H R = 0
  · rw [if_pos h0] at h3
    obtain ⟨v, vr2, L, bs, rfl, hd, ho, hL, hr⟩ := h3
    have HT := hid (twice_of h0 hd hL HS.out)
    have HLB := hid hL
    obtain ⟨R2, hR2⟩ : ∃ R2, R.map (movedV (false :: bs)) = R2 := ⟨_, rfl⟩
    have HR2L : Hid (R2.length = R.length) := hid (by rw [← hR2, List.length_map])
    obtain ⟨htr, hts, htl, hta, htsm, htm⟩ := HT.out
    rw [hR2] at htr hta htm hr
    obtain ⟨hn50, hlp, hrp, hr50⟩ := roots_ok htr
    have HTR := hid htr; have HTS := hid hts; have HTL := hid htl; have HTA := hid hta; have HTSM := hid htsm; have HTM := hid htm
    have HB3 := hid (HB2.out.trans (hr.below.mono HB2.out.size))
    have H13 := hid (H12.out.trans (hr.below.mono H12.out.size))
    have HO := hid ho.ths
    have HV3 : Hid (Vls w3 vr2 R2) := hid (by have := hr.sl; rw [← HR2L.out] at this; exact this)
    obtain ⟨av, cv, hv⟩ := ho.own.sl.val
    subst hv
    obtain ⟨ar2, cr2, hv2⟩ := HV3.out.val
    subst hv2
    have hn50' : (L.length : Int) ≤ 50 := by omega
    have HN50 := hid hn50
    have HR50 := hid hr50
    clear hd ho hL hr HT htr hts hta htsm htm hlp hrp h0
    obtain ⟨b8, hb8⟩ : ∃ b8, w3.heap.size = b8 := ⟨_, rfl⟩
    obtain ⟨W4, hW4⟩ : ∃ W4, w3.alloc (.cells #[.slice av L.length cv] 25) = W4 := ⟨_, rfl⟩
    have H34 : Hid (Below w3.heap.size w3 W4) := hid (hW4 ▸ ext_alloc _ _)
    have HB4 := hid (HB3.out.trans (H34.out.mono HB3.out.size))
    have H14 := hid (H13.out.trans (H34.out.mono H13.out.size))
    have hr8 : W4.heap[b8]? = some (.cells #[.slice av L.length cv] 25 (0, 0)) := by rw [← hW4, ← hb8]; exact heap_alloc_new _ _
    have hlt8 := (Array.getElem?_eq_some_iff.1 hr8).1
    have HX8 : Hid (∀ u, Below W4.heap.size W4 u → u.cell? ⟨b8, 0, none⟩ = some (.slice av L.length cv)) := hid (fun u hu => by
      have h := (hu.block _ hlt8).trans hr8
      rw [cell_of_row _ _ _ _ _ _ h]; rfl)
    have x8 := HX8.out _ (Below.refl _ _)
    clear hr8 x0
    go_wp2_with fail
    refine (slive_any _ _ _ l L R2 W4 (HL.out.below HB4.out) (HF.out.below HB4.out) HSM.out HN.out (HO.out.below H34.out) HTS.out (by have := HN50.out; omega) (HV3.out.below H34.out)).mono ?_
    intro e w5 h5
    unfold LiveBy at h5
    rw [if_pos HTR.out] at h5
    obtain ⟨v5, cs, rfl, hd5, ho5⟩ := h5
    have HPL : Hid ((placesL (false :: cs)).length = L.length) := hid (by rw [HTA.out cs hd5]; exact places_true _)
    have H45 := hid ho5.below
    have HB5 := hid (HB4.out.trans (ho5.below.mono HB4.out.size))
    have H15 := hid (H14.out.trans (ho5.below.mono H14.out.size))
    have H35 := hid (H34.out.trans (ho5.below.mono H34.out.size))
    have x8b := HX8.out _ H45.out
    obtain ⟨a5, c5, hv5⟩ := ho5.sl.val
    rw [HPL.out] at hv5
    subst hv5
    clear hd5 ho5 x8
    go_wp2_with fail
    refine (sweep_any _ _ _ l L R2 w5 (HL.out.below HB5.out) (HF.out.below HB5.out) HSM.out HN.out (HO.out.below H35.out) HTS.out (by have := HN50.out; omega) (HV3.out.below H35.out)).mono ?_
    intro e w6 h6
    unfold SweepBy at h6
    rw [if_pos HTR.out] at h6
    obtain ⟨v6, vr6, L6, cs6, rfl, hd6, ho6, hL6, hr6⟩ := h6
    have hcs := HTA.out cs6 hd6
    subst hcs
    have HE6 : Hid (L.map bare = L6.map bare) := hid (by rw [hL6, HTSM.out])
    have H56 := hid hr6.below
    have HB6 := hid (HB5.out.trans (hr6.below.mono HB5.out.size))
    have H16 := hid (H15.out.trans (hr6.below.mono H15.out.size))
    have H36 := hid (H35.out.trans (hr6.below.mono H35.out.size))
    have H46 := hid (H45.out.trans (hr6.below.mono H45.out.size))
    have HV6 : Hid (Vls w6 vr6 R2) := hid (by have := hr6.sl; rwa [HTM.out] at this)
    have HO6 := hid ho6.ths
    obtain ⟨av6, cv6, hv6⟩ := ho6.own.sl.val
    subst hv6
    obtain ⟨ar6, cr6, hv7⟩ := HV6.out.val
    subst hv7
    clear hd6 ho6 hL6 hr6 x8b
    obtain ⟨b13, hb13⟩ : ∃ b13, w6.heap.size = b13 := ⟨_, rfl⟩
    obtain ⟨W7, hW7⟩ : ∃ W7, w6.alloc (.cells #[.slice av6 L6.length cv6] 25) = W7 := ⟨_, rfl⟩
    have H67 : Hid (Below w6.heap.size w6 W7) := hid (hW7 ▸ ext_alloc _ _)
    have HB7 := hid (HB6.out.trans (H67.out.mono HB6.out.size))
    have H37 := hid (H36.out.trans (H67.out.mono H36.out.size))
    have H47 := hid (H46.out.trans (H67.out.mono H46.out.size))
    have hr13 : W7.heap[b13]? = some (.cells #[.slice av6 L6.length cv6] 25 (0, 0)) := by rw [← hW7, ← hb13]; exact heap_alloc_new _ _
    have x13 : W7.cell? ⟨b13, 0, none⟩ = some (.slice av6 L6.length cv6) := by rw [cell_of_row _ _ _ _ _ _ hr13]; rfl
    have x8c := HX8.out _ H47.out
    clear hr13
    go_wp2_with fail
    refine (sheap_same _ _ L L6 W7 (HO.out.below H37.out) (HO6.out.below H67.out) HE6.out (fun x hx => by have := (HTS.out x hx).2; omega) (by have := HN50.out; omega)).mono ?_
    rintro e w8 ⟨rfl, hb8'⟩
    have H78 := hid hb8'
    have HB8 := hid (HB7.out.trans (hb8'.mono HB7.out.size))
    have H38 := hid (H37.out.trans (hb8'.mono H37.out.size))
    have H48 := hid (H47.out.trans (hb8'.mono H47.out.size))
    have H68 := hid (H67.out.trans (hb8'.mono H67.out.size))
    clear hb8' x8c x13
    have x8d := HX8.out _ H48.out
    go_wp2_with fail
    refine (svals_same _ _ R2 w8 (HV3.out.below H38.out) (HV6.out.below H68.out) (by have := HR50.out; omega)).mono ?_
    rintro e w9 ⟨rfl, hb9⟩
    have HB9 := hid (HB8.out.trans (hb9.mono HB8.out.size))
    have H39 := hid (H38.out.trans (hb9.mono H38.out.size))
    have H49 := hid (H48.out.trans (hb9.mono H48.out.size))
    clear hb9 x8d
    have x8e := HX8.out _ H49.out
    have HHF : Hid (heapF l L = 0) := hid (by
      have h := HTR.out
      unfold rootsF at h
      by_cases hh : heapF l L ≠ 0
      · rw [if_pos hh] at h; exact absurd h hh
      · simpa using hh)
    go_wp2_with fail
    refine (hcheck_any _ _ l L w9 (HL.out.below HB9.out) (HF.out.below HB9.out) HSM.out HN.out (HO.out.below H39.out) HTS.out (by have := HN50.out; omega)).mono ?_
    rintro e w10 ⟨rfl, hb10⟩
    have HB10 := hid (HB9.out.trans (hb10.mono HB9.out.size))
    have H410 := hid (H49.out.trans (hb10.mono H49.out.size))
    have H110 := hid (H14.out.trans (H410.out.mono H14.out.size))
    have x8f := HX8.out _ H410.out
    have x1f := HX.out _ H110.out
    have hle : (L.length : Int) ≤ (H.length : Int) := by have := HTL.out; omega
    rw [HHF.out, show errVal 0 = .nilIface from rfl]
    clear hb10 x8e htl
    go_wp2
    go_ret
    exact ⟨by first | rfl | simp, HB10.out⟩
  · rw [if_neg h0] at h3
    obtain ⟨rfl, hb3⟩ := h3
    have HB3 := hid (HB2.out.trans (hb3.mono HB2.out.size))
    have HEV : Hid (errVal (rootsF l H R) = .iface 45 (.int .i64 (rootsF l H R))) := hid (by unfold errVal; rw [if_neg h0])
    rw [HEV.out]
    clear h0 hb3
    go_wp2
    go_ret
    exact ⟨by first | rfl | simp, HB3.out.alloc HB3.out.size _⟩
end Go.Proofs.YtkfkdbmgmifopaaGreatDoor.worlds
