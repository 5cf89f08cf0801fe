/- coffeehouselaw1.InsTells: its walk. Conditions: the texts are not long; the variables that the library reads hold what they hold at the start. -/
import Derived.Test.YtogpgfaojmmemaaGreatDoorPrs3
import Derived.Test.YtogpgfaojmmemaaGreatDoorIns7
import Derived.Test.YtogpgfaojmmemaaGreatDoorErr
import Derived.Test.YtogpgfaojmmemaaGreatDoorTxt3E
set_option linter.unusedSimpArgs false
set_option linter.unusedVariables false
namespace Go.Proofs.YtogpgfaojmmemaaGreatDoor.txts
open Go.RowKit Go.Proofs.YtogpgfaojmmemaaGreatDoor.lib Go.Proofs.YtogpgfaojmmemaaGreatDoor.errs Go.Proofs.YtogpgfaojmmemaaGreatDoor.names Go.Proofs.YtogpgfaojmmemaaGreatDoor.descs Go.Proofs.YtogpgfaojmmemaaGreatDoor.ins Go.Proofs.YtogpgfaojmmemaaGreatDoor.nums Go.Proofs.YtogpgfaojmmemaaGreatDoor.flows Go.Proofs.YtogpgfaojmmemaaGreatDoor.grow

/-- what Text and the reference's text make, together -/
theorem text_both (op a b : Int) (t c n : ByteArray) (w : World) (hv : Vars w) (hx : Fine ⟨op, a, b, t, c, n⟩) : Calls Tryz.prog 16 #[.agg #[.int .i64 op, .int .i64 a, .int .i64 b, .string t, .string c, .string n]] w fun e w' => Below w.heap.size w w' ∧
    e = .returned (.tuple #[.string (bs (if insFault ⟨op, a, b, t, c, n⟩ = 0 then textL ⟨op, a, b, t, c, n⟩ else [])), errVal (insFault ⟨op, a, b, t, c, n⟩)]) := by
  obtain ⟨hs, ha, hb⟩ := hx
  by_cases h0 : insFault ⟨op, a, b, t, c, n⟩ = 0
  · rw [if_pos h0]
    exact (text_any op a b t c n w hv.forms hv.pow hs ha hb h0).mono fun e w' ⟨he, hb⟩ => ⟨hb, by rw [he, errVal, if_pos h0]⟩
  · rw [if_neg h0]
    exact (text_bad op a b t c n w hv.forms hs.1 hs.2.1 hs.2.2 h0).mono fun e w' ⟨he, hb⟩ => ⟨hb, by rw [he, errVal, if_neg h0]; rfl⟩

set_option maxRecDepth 100000 in
set_option maxHeartbeats 2000000 in
theorem instells_any (op a b : Int) (t c n : ByteArray) (w : World) (hv : Vars w) (hx : Fine ⟨op, a, b, t, c, n⟩) (hc : c.size ≤ 10000000) (hn : n.size ≤ 10000000) :
    Calls Tryz.prog 4 #[.agg #[.int .i64 op, .int .i64 a, .int .i64 b, .string t, .string c, .string n]] w fun e w' => e = .returned (.bool true) ∧ Below w.heap.size w w' := by
  obtain ⟨X1, hX1⟩ : ∃ X1, w.alloc (.cells #[.int .i64 op, .int .i64 a, .int .i64 b, .string t, .string c, .string n] 43) = X1 := ⟨_, rfl⟩
  have HB1 : Hid (Below w.heap.size w X1) := hid (hX1 ▸ ext_alloc _ _)
  have HX : Hid (Box X1 w.heap.size ⟨op, a, b, t, c, n⟩) := hid (hX1 ▸ Box.new w ⟨op, a, b, t, c, n⟩ _)
  have HV := hid (hv.below HB1.out)
  have HF := hid hx
  have HC := hid hc
  have HN := hid hn
  clear hv hx hc hn
  go_enter Tryz.func4, Tryz.ntmps4
  go_wp2_with fail
  refine (pushed_any _ HV.out).mono ?_
  rintro e w1 ⟨rfl, hb1⟩
  have HX1 := hid (HX.out.below hb1)
  have HV1 := hid (HV.out.below hb1)
  have HBB1 := hid (HB1.out.trans (hb1.mono HB1.out.size))
  clear hb1
  obtain ⟨x0, x1, x2, x3, x4, x5⟩ := HX1.out
  simp only at x0 x1 x2 x3 x4 x5
  go_wp2_with fail
  refine (insFault_any op a b t c n _ HF.out.1.1 HF.out.1.2.1 HF.out.1.2.2).mono ?_
  rintro e w2 ⟨rfl, hb2⟩
  clear x0 x1 x2 x3 x4 x5
  have HX2 := hid (HX1.out.below hb2)
  have HV2 := hid (HV1.out.below hb2)
  have HBB2 := hid (HBB1.out.trans (hb2.mono HBB1.out.size))
  clear hb2
  obtain ⟨z, hz⟩ : ∃ z, insFault ⟨op, a, b, t, c, n⟩ = z := ⟨_, rfl⟩
  have HZ := hid hz
  rw [hz]
  clear hz
  obtain ⟨x0, x1, x2, x3, x4, x5⟩ := HX2.out
  simp only at x0 x1 x2 x3 x4 x5
  go_wp2_with fail
  refine (icheck_any op a b t c n _ HV2.out.forms HF.out.1.1 HF.out.1.2.1 HF.out.1.2.2).mono ?_
  rintro e w3 ⟨rfl, hb3⟩
  rw [HZ.out]
  clear x0 x1 x2 x3 x4 x5
  have HX3 := hid (HX2.out.below hb3)
  have HV3 := hid (HV2.out.below hb3)
  have HBB3 := hid (HBB2.out.trans (hb3.mono HBB2.out.size))
  clear hb3
  go_wp2_with fail
  refine (error_same z _).mono ?_
  rintro e w' ⟨rfl, rfl⟩
  obtain ⟨x0, x1, x2, x3, x4, x5⟩ := HX3.out
  simp only at x0 x1 x2 x3 x4 x5
  go_wp2_with fail
  refine (text_both op a b t c n _ HV3.out HF.out).mono ?_
  rintro e w4 ⟨hb4, rfl⟩
  rw [HZ.out]
  obtain ⟨T, hT⟩ : ∃ T, bs (if z = 0 then textL ⟨op, a, b, t, c, n⟩ else []) = T := ⟨_, rfl⟩
  rw [hT]
  have HTT := hid hT
  clear hT x0 x1 x2 x3 x4 x5
  have HX4 := hid (HX3.out.below hb4)
  have HV4 := hid (HV3.out.below hb4)
  have HBB4 := hid (HBB3.out.trans (hb4.mono HBB3.out.size))
  clear hb4
  go_wp2_with fail
  refine (error_same z _).mono ?_
  rintro e w' ⟨rfl, rfl⟩
  obtain ⟨x0, x1, x2, x3, x4, x5⟩ := HX4.out
  simp only at x0 x1 x2 x3 x4 x5
  by_cases h0 : z = 0
  · obtain rfl := h0
    obtain ⟨k, wd, nd, hk, h1, h2, hp, htx⟩ := form_of HZ.out
    simp only at hk
    subst hk
    have HT := hid htx
    have HP := hid hp
    have HK1 := hid h1
    have HK2 := hid h2
    clear htx hp h1 h2
    go_wp2_with fail
    refine (rtext_any k a b t c n _ HF.out.1.1 HC.out HN.out HF.out.2.1 HF.out.2.2 wd nd HP.out HK1.out HK2.out).mono ?_
    rintro e w5 ⟨rfl, hb5⟩
    rw [← HT.out, show bs (textL _) = T from (by rw [← HTT.out]; simp)]
    have HBB5 := hid (HBB4.out.trans (hb5.mono HBB4.out.size))
    clear hb5 x0 x1 x2 x3 x4 x5
    go_wp2
    go_ret
    exact ⟨rfl, HBB5.out⟩
  · have hz0 : (z == 0) = false := by simpa using h0
    obtain rfl : T = { data := #[] } := by rw [← HTT.out, if_neg h0]; rfl
    go_wp2
    go_ret
    exact ⟨rfl, HBB4.out⟩
end Go.Proofs.YtogpgfaojmmemaaGreatDoor.txts
