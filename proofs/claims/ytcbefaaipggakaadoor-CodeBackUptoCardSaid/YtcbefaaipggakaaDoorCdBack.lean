/- The law CodeBack: its walk. Conditions: the texts are not long; the variables that the library reads hold what they hold at the start. -/
import Derived.Test.YtcbefaaipggakaaDoorCut5
import Derived.Test.YtcbefaaipggakaaDoorCoded
import Derived.Test.YtcbefaaipggakaaDoorSameC
set_option linter.unusedSimpArgs false
set_option linter.unusedVariables false
namespace Go.Proofs.YtcbefaaipggakaaDoor.txts
open Go.RowKit Go.Proofs.YtcbefaaipggakaaDoor.lib Go.Proofs.YtcbefaaipggakaaDoor.errs Go.Proofs.YtcbefaaipggakaaDoor.names Go.Proofs.YtcbefaaipggakaaDoor.descs Go.Proofs.YtcbefaaipggakaaDoor.ins Go.Proofs.YtcbefaaipggakaaDoor.nums Go.Proofs.YtcbefaaipggakaaDoor.flows Go.Proofs.YtcbefaaipggakaaDoor.grow

set_option maxRecDepth 100000 in
set_option maxHeartbeats 4000000 in
theorem codeback_any (va vb : Value) (l : List I) (b : List Int) (w : World) (ha : Go.Proofs.YtcbefaaipggakaaDoor.flows.Code w va l) (hb : Sl w vb b.length 1 (b.map (.int .u8))) (hv : Vars w) (hs : ∀ x ∈ l, Small x ∧ InR x.a ∧ InR x.b) (hn : l.length ≤ 2000000)
    (hbb : ∀ z ∈ b, 0 ≤ z ∧ z ≤ 255) (hbn : b.length ≤ 10000000) :
    Calls Tryd.prog 3 #[va, vb] w fun e w' => e = .returned (.bool true) ∧ Below w.heap.size w w' := by
  obtain ⟨a, c, rfl⟩ := ha.val
  obtain ⟨a', c', rfl⟩ := hb.val
  have HA := hid ha; have HBS := hid hb; have HV := hid hv; have HS := hid hs; have HN := hid hn; have HBB := hid hbb; have HBN := hid hbn
  clear ha hb hv hs hn hbb hbn
  go_enter Tryd.func3, Tryd.ntmps3
  go_wp2_with fail
  refine (coded_any _ HV.out.forms HV.out.pow).mono ?_
  rintro e w1 ⟨rfl, hb1⟩
  have HB1 := hid hb1
  have HV1 := hid (HV.out.below hb1)
  clear hb1
  go_wp2_with fail
  refine (encode_any _ l _ (HA.out.below HB1.out) HV1.out.forms HV1.out.pow HS.out HN.out).mono ?_
  intro e w2 h2
  unfold EncBy at h2
  by_cases h0 : codeErr l = 0
  · rw [if_pos h0] at h2
    obtain ⟨v2, rfl, ho2⟩ := h2
    have HI := hid (fun x hx => (HS.out x hx).2)
    have HDE := hid (dec_enc h0 HI.out)
    have HEN := hid (enc_small h0 HI.out)
    have HEB := hid (enc_bytes l l.length)
    clear h0
    obtain ⟨E, hE⟩ : ∃ E, encTo l l.length = E := ⟨_, rfl⟩
    rw [hE] at ho2 HDE HEN HEB
    clear hE
    have HB2 := hid (HB1.out.trans (ho2.below.mono HB1.out.size))
    have HV2 := hid (HV.out.below HB2.out)
    have HO2 := hid ho2.sl
    obtain ⟨a2, c2, rfl⟩ := ho2.sl.val
    clear ho2
    go_wp2_with fail
    refine (decode_any _ E _ HO2.out HEB.out (by have := HEN.out; omega) HV2.out).mono ?_
    intro e w3 h3
    unfold DecBy at h3
    rw [HDE.out] at h3
    obtain ⟨v3, rfl, ho3⟩ := h3
    have HB3 := hid (HB2.out.trans (ho3.below.mono HB2.out.size))
    have HO3 := hid (show Go.Proofs.YtcbefaaipggakaaDoor.flows.Code _ _ l from ho3.sl)
    obtain ⟨a3, c3, rfl⟩ := ho3.sl.val
    clear ho3
    go_wp2_with fail
    refine (scode_same _ _ l _ HO3.out (HA.out.below HB3.out) (by have := HN.out; omega)).mono ?_
    rintro e w4 ⟨rfl, hb4⟩
    have HBX := hid (HB3.out.trans (hb4.mono HB3.out.size))
    clear hb4
    have HVX := hid (HV.out.below HBX.out)
    go_wp2_with fail
    refine (decode_any _ b _ (HBS.out.below HBX.out) HBB.out HBN.out HVX.out).mono ?_
    intro e w5 h5
    unfold DecBy at h5
    cases hd : decB b with
    | none =>
      rw [hd] at h5
      obtain ⟨rfl, hb5⟩ := h5
      have HB5 := hid (HBX.out.trans (hb5.mono HBX.out.size))
      clear hb5 hd
      obtain ⟨ei, hei, hec⟩ := errno_info
      have hie := fun w : World => run_eql_iface_int (P := Tryd.prog) w 1 1 Tryd.underlying26 Tryd.underlying32 hei hec
      go_wp2
      go_ret
      exact ⟨rfl, HB5.out⟩
    | some m =>
      rw [hd] at h5
      obtain ⟨v5, rfl, ho5⟩ := h5
      obtain ⟨hm0, hmE, hmF⟩ := dec_right hd HBB.out HBN.out
      have HM0 := hid hm0
      have HME := hid hmE
      have HMF := hid hmF
      have HB5 := hid (HBX.out.trans (ho5.below.mono HBX.out.size))
      have HV5 := hid (HV.out.below HB5.out)
      have HM5 := hid (show Go.Proofs.YtcbefaaipggakaaDoor.flows.Code _ _ m from ho5.sl)
      obtain ⟨a5, c5, rfl⟩ := ho5.sl.val
      clear hm0 hmE hmF hd ho5
      go_wp2_with fail
      refine (encode_any _ m _ HM5.out HV5.out.forms HV5.out.pow HMF.out (by have := right_short HM0.out; omega)).mono ?_
      intro e w6 h6
      unfold EncBy at h6
      rw [if_pos HM0.out, ← HME.out] at h6
      obtain ⟨v6, rfl, ho6⟩ := h6
      have HB6 := hid (HB5.out.trans (ho6.below.mono HB5.out.size))
      have HO6 := hid ho6.sl
      obtain ⟨a6, c6, rfl⟩ := ho6.sl.val
      clear ho6
      obtain ⟨S, hS⟩ : ∃ S, strOfNums b = S := ⟨_, rfl⟩
      have hcs := run_conv_str (P := Tryd.prog) Tryd.underlying23 Tryd.underlying5 Tryd.underlying9 HO6.out
      have hct := run_conv_str (P := Tryd.prog) Tryd.underlying23 Tryd.underlying5 Tryd.underlying9 (HBS.out.below HB6.out)
      rw [hS] at hcs hct
      clear hS
      go_wp2
      go_ret
      exact ⟨by first | rfl | simp, HB6.out⟩
  · rw [if_neg h0] at h2
    obtain ⟨rfl, hb2⟩ := h2
    have HBX := hid (HB1.out.trans (hb2.mono HB1.out.size))
    clear hb2 h0
    generalize codeErr l = z
    have HVX := hid (HV.out.below HBX.out)
    go_wp2_with fail
    refine (decode_any _ b _ (HBS.out.below HBX.out) HBB.out HBN.out HVX.out).mono ?_
    intro e w5 h5
    unfold DecBy at h5
    cases hd : decB b with
    | none =>
      rw [hd] at h5
      obtain ⟨rfl, hb5⟩ := h5
      have HB5 := hid (HBX.out.trans (hb5.mono HBX.out.size))
      clear hb5 hd
      obtain ⟨ei, hei, hec⟩ := errno_info
      have hie := fun w : World => run_eql_iface_int (P := Tryd.prog) w 1 1 Tryd.underlying26 Tryd.underlying32 hei hec
      go_wp2
      go_ret
      exact ⟨rfl, HB5.out⟩
    | some m =>
      rw [hd] at h5
      obtain ⟨v5, rfl, ho5⟩ := h5
      obtain ⟨hm0, hmE, hmF⟩ := dec_right hd HBB.out HBN.out
      have HM0 := hid hm0
      have HME := hid hmE
      have HMF := hid hmF
      have HB5 := hid (HBX.out.trans (ho5.below.mono HBX.out.size))
      have HV5 := hid (HV.out.below HB5.out)
      have HM5 := hid (show Go.Proofs.YtcbefaaipggakaaDoor.flows.Code _ _ m from ho5.sl)
      obtain ⟨a5, c5, rfl⟩ := ho5.sl.val
      clear hm0 hmE hmF hd ho5
      go_wp2_with fail
      refine (encode_any _ m _ HM5.out HV5.out.forms HV5.out.pow HMF.out (by have := right_short HM0.out; omega)).mono ?_
      intro e w6 h6
      unfold EncBy at h6
      rw [if_pos HM0.out, ← HME.out] at h6
      obtain ⟨v6, rfl, ho6⟩ := h6
      have HB6 := hid (HB5.out.trans (ho6.below.mono HB5.out.size))
      have HO6 := hid ho6.sl
      obtain ⟨a6, c6, rfl⟩ := ho6.sl.val
      clear ho6
      obtain ⟨S, hS⟩ : ∃ S, strOfNums b = S := ⟨_, rfl⟩
      have hcs := run_conv_str (P := Tryd.prog) Tryd.underlying23 Tryd.underlying5 Tryd.underlying9 HO6.out
      have hct := run_conv_str (P := Tryd.prog) Tryd.underlying23 Tryd.underlying5 Tryd.underlying9 (HBS.out.below HB6.out)
      rw [hS] at hcs hct
      clear hS
      go_wp2
      go_ret
      exact ⟨by first | rfl | simp, HB6.out⟩
end Go.Proofs.YtcbefaaipggakaaDoor.txts
