/- The law CodeCut: its walk. Conditions: the texts are not long; the variables that the library reads hold what they hold at the start. -/
import Derived.Test.YtcbefaaipggakaaDoorCut5
import Derived.Test.YtcbefaaipggakaaDoorCoded
set_option linter.unusedSimpArgs false
set_option linter.unusedVariables false
namespace Go.Proofs.YtcbefaaipggakaaDoor.txts
open Go.RowKit Go.Proofs.YtcbefaaipggakaaDoor.lib Go.Proofs.YtcbefaaipggakaaDoor.errs Go.Proofs.YtcbefaaipggakaaDoor.names Go.Proofs.YtcbefaaipggakaaDoor.descs Go.Proofs.YtcbefaaipggakaaDoor.ins Go.Proofs.YtcbefaaipggakaaDoor.nums Go.Proofs.YtcbefaaipggakaaDoor.flows Go.Proofs.YtcbefaaipggakaaDoor.grow

set_option maxRecDepth 100000 in
set_option maxHeartbeats 4000000 in
theorem codecut_any (va : Value) (l : List I) (c0 : Int) (w : World) (ha : Go.Proofs.YtcbefaaipggakaaDoor.flows.Code w va l) (hv : Vars w) (hs : ∀ x ∈ l, Small x ∧ InR x.a ∧ InR x.b) (hn : l.length ≤ 2000000) (hc0 : 0 ≤ c0 ∧ c0 ≤ 255) :
    Calls Tryd.prog 4 #[va, .int .u8 c0] w fun e w' => e = .returned (.bool true) ∧ Below w.heap.size w w' := by
  obtain ⟨a, c, rfl⟩ := ha.val
  have HA := hid ha; have HV := hid hv; have HS := hid hs; have HN := hid hn; have HC0 := hid hc0
  clear ha hv hs hn hc0
  go_enter Tryd.func4, Tryd.ntmps4
  go_wp2_with fail
  refine (coded_any _ HV.out.forms HV.out.pow).mono ?_
  rintro e w1 ⟨rfl, hb1⟩
  have HB1 := hid hb1
  have HV1 := hid (HV.out.below hb1)
  clear hb1
  go_wp2_with fail
  refine (encode_any _ l _ (HA.out.below HB1.out) HV1.out.forms HV1.out.pow HS.out HN.out).mono ?_
  intro e w2 h2
  unfold EncBy at h2
  by_cases h0 : codeErr l = 0
  · rw [if_pos h0] at h2
    obtain ⟨v2, rfl, ho2⟩ := h2
    have HI := hid (fun x hx => (HS.out x hx).2)
    have HDS := hid (dec_short h0 HI.out)
    have HDM := hid (dec_more h0 HI.out c0)
    have HEN := hid (enc_small h0 HI.out)
    have HEB := hid (enc_bytes l l.length)
    have hpos := enc_some l l.length
    clear h0
    obtain ⟨E, hE⟩ : ∃ E, encTo l l.length = E := ⟨_, rfl⟩
    rw [hE] at ho2 HDS HDM HEN HEB hpos
    clear hE
    obtain ⟨m, hm⟩ : ∃ m, E.length = m + 1 := ⟨E.length - 1, by omega⟩
    have HM := hid hm
    have HB2 := hid (HB1.out.trans (ho2.below.mono HB1.out.size))
    have HV2 := hid (HV.out.below HB2.out)
    have HO2 := hid ho2.sl
    obtain ⟨a2, c2, rfl⟩ := ho2.sl.val
    have hcap := ho2.sl.cap.2
    obtain ⟨F, hF⟩ : ∃ F, E.dropLast = F := ⟨_, rfl⟩
    have hFl : F.length = m := by rw [← hF, List.length_dropLast, hm]; omega
    have HF : Hid (Sl w2 (.slice a2 m c2) F.length 1 (F.map (.int .u8))) := hid (by
      have := HO2.out.take m (by omega)
      rw [hFl, ← hF, List.dropLast_eq_take, hm, List.map_take]
      simpa using this)
    have HFB : Hid (∀ z ∈ F, 0 ≤ z ∧ z ≤ 255) := hid (fun z hz => HEB.out z (List.dropLast_subset _ (hF ▸ hz)))
    rw [hF] at HDS
    have HFL := hid hFl
    have hm10 : m ≤ 10241 := by have := HEN.out; omega
    clear hF hFl ho2 hpos
    rw [hm]
    rw [hm] at hcap
    have e1 : ((m + 1 : Nat) : Int) - 1 = (m : Int) := by omega
    have k0 : (0 : Int) ≤ (m : Int) := by omega
    have k1 : (m : Int) ≤ (c2 : Int) := by omega
    clear hm
    go_wp2_with fail
    refine (decode_any _ F _ HF.out HFB.out (by have := HFL.out; omega) HV2.out).mono ?_
    intro e w3 h3
    unfold DecBy at h3
    rw [HDS.out] at h3
    obtain ⟨rfl, hb3⟩ := h3
    have HB3 := hid (HB2.out.trans (hb3.mono HB2.out.size))
    have HO3 := hid (HO2.out.below hb3)
    clear hb3
    have HMD := hid (Out.made w3 5 1)
    have HO3m := hid (HO3.out.below HMD.out.below)
    rw [HM.out] at HO3m
    go_wp2_with (at_builtin; refine wpList_append_src w3 _ rfl _ _ 23 rfl 5 _ 1 1 (m + 1) Tryd.underlying23 infoB rfl (by decide) _ _ _ HMD.out rfl _ _ HO3m.out rfl (by intro u hu; obtain ⟨z, _, rfl⟩ := List.mem_map.1 hu; rfl) (by omega) (by omega) ?_)
    intro v4 w4 ho4 hg4
    have HO4 : Hid (Out w3 w4 5 1 v4 (m + 1) (E.map (.int .u8))) := hid (by simpa using ho4)
    obtain ⟨a4, c4, rfl⟩ := ho4.sl.val
    clear ho4 hg4
    go_wp2_with (at_builtin; refine wpList_append_lit_b w3 _ _ _ rfl _ _ 23 rfl 5 (.int .u8 0) 1 1 1 Tryd.underlying23 infoB rfl (by decide) _ _ _ HO4.out rfl rfl ?_ rfl ?_ ?_ ?_ ?_)
    all_goals first | (intro v5 w5 ho5 _ _) | omega | (simp [Value.oneCell']; done) | skip
    have HO5 : Hid (Sl w5 v5 (E ++ [c0]).length 1 ((E ++ [c0]).map (.int .u8))) := hid (by
      have := ho5.sl
      rw [List.length_append, HM.out, List.map_append]
      exact this)
    have HB5 := hid (HB3.out.trans (ho5.below.mono HB3.out.size))
    have HV5 := hid (HV.out.below HB5.out)
    have HE5 : Hid (∀ z ∈ E ++ [c0], 0 ≤ z ∧ z ≤ 255) := hid (fun z hz => by
      rcases List.mem_append.1 hz with h | h
      · exact HEB.out z h
      · rw [List.mem_singleton.1 h]; exact HC0.out)
    obtain ⟨a5, c5, hv5⟩ := ho5.sl.val
    subst hv5
    clear ho5
    go_wp2_with fail
    refine (decode_any _ (E ++ [c0]) _ HO5.out HE5.out (by have := HM.out; simp; omega) HV5.out).mono ?_
    intro e w6 h6
    unfold DecBy at h6
    rw [HDM.out] at h6
    obtain ⟨rfl, hb6⟩ := h6
    have HB6 := hid (HB5.out.trans (hb6.mono HB5.out.size))
    clear hb6
    obtain ⟨ei, hei, hec⟩ := errno_info
    have hie := fun w : World => run_eql_iface_int (P := Tryd.prog) w 1 1 Tryd.underlying26 Tryd.underlying32 hei hec
    go_wp2
    go_ret
    exact ⟨by first | rfl | simp, HB6.out⟩
  · rw [if_neg h0] at h2
    obtain ⟨rfl, hb2⟩ := h2
    have HBX := hid (HB1.out.trans (hb2.mono HB1.out.size))
    clear hb2 h0
    generalize codeErr l = z
    go_wp2
    go_ret
    exact ⟨rfl, HBX.out⟩
end Go.Proofs.YtcbefaaipggakaaDoor.txts
