/- The law CodeOwn: its walk. Conditions: the texts are not long; the variables that the library reads hold what they hold at the start. -/
import Derived.Test.YtcbefaaipggakaaDoorCut5
import Derived.Test.YtcbefaaipggakaaDoorCoded
import Derived.Test.YtcbefaaipggakaaDoorSameC
import Derived.Test.YtcbefaaipggakaaDoorNamed
import Derived.Test.YtcbefaaipggakaaDoorOwn
set_option linter.unusedSimpArgs false
set_option linter.unusedVariables false
namespace Go.Proofs.YtcbefaaipggakaaDoor.txts
open Go.RowKit Go.Proofs.YtcbefaaipggakaaDoor.lib Go.Proofs.YtcbefaaipggakaaDoor.errs Go.Proofs.YtcbefaaipggakaaDoor.names Go.Proofs.YtcbefaaipggakaaDoor.descs Go.Proofs.YtcbefaaipggakaaDoor.ins Go.Proofs.YtcbefaaipggakaaDoor.nums Go.Proofs.YtcbefaaipggakaaDoor.flows Go.Proofs.YtcbefaaipggakaaDoor.grow Go.Proofs.YtcbefaaipggakaaDoor.keep

set_option maxRecDepth 100000 in
set_option maxHeartbeats 4000000 in
theorem codeown_any (va : Value) (l : List I) (c0 : Int) (w : World) (ha : Go.Proofs.YtcbefaaipggakaaDoor.flows.Code w va l) (hv : Vars w) (hs : ∀ x ∈ l, Small x ∧ InR x.a ∧ InR x.b) (hn : l.length ≤ 2000000) (hc0 : 0 ≤ c0 ∧ c0 ≤ 255) :
    Calls Tryd.prog 5 #[va, .int .u8 c0] w fun e w' => e = .returned (.bool true) ∧ Below w.heap.size w w' := by
  obtain ⟨a, c, rfl⟩ := ha.val
  have HA := hid ha; have HV := hid hv; have HS := hid hs; have HN := hid hn; have HC0 := hid hc0
  clear ha hv hs hn hc0
  go_enter Tryd.func5, Tryd.ntmps5
  go_wp2_with fail
  refine (named_any _).mono ?_
  rintro e w1 ⟨rfl, hb1⟩
  have HB1 := hid hb1
  have HV1 := hid (HV.out.below hb1)
  clear hb1
  go_wp2_with fail
  refine (encode_any _ l _ (HA.out.below HB1.out) HV1.out.forms HV1.out.pow HS.out HN.out).mono ?_
  intro e w2 h2
  unfold EncBy at h2
  by_cases h0 : codeErr l = 0
  · rw [if_pos h0] at h2
    obtain ⟨v2, rfl, ho2⟩ := h2
    have HI := hid (fun x hx => (HS.out x hx).2)
    have HZ := hid h0
    have HDE := hid (dec_enc h0 HI.out)
    have HEN := hid (enc_small h0 HI.out)
    have HEB := hid (enc_bytes l l.length)
    have HPOS := hid (enc_some l l.length)
    clear h0
    obtain ⟨E, hE⟩ : ∃ E, encTo l l.length = E := ⟨_, rfl⟩
    have HE := hid hE
    rw [hE] at ho2 HDE HEN HEB HPOS
    clear hE
    obtain ⟨m, hm⟩ : ∃ m, E.length = m := ⟨_, rfl⟩
    have HM := hid hm
    have HB2 := hid (HB1.out.trans (ho2.below.mono HB1.out.size))
    have HV2 := hid (HV.out.below HB2.out)
    have HO2 : Hid (Sl w2 v2 m 1 (E.map (.int .u8))) := hid (by rw [← hm]; exact ho2.sl)
    obtain ⟨a2, c2, rfl⟩ := ho2.sl.val
    rw [hm]
    have hm10 : m ≤ 10241 := by have := HEN.out; omega
    clear hm ho2
    have HMD := hid (Out.made w2 5 1)
    have HO2m := hid (HO2.out.below HMD.out.below)
    rw [HM.out] at HO2m HO2
    go_wp2_with (at_builtin; refine wpList_append_src w2 _ rfl _ _ 23 rfl 5 _ 1 1 m Tryd.underlying23 infoB rfl (by decide) _ _ _ HMD.out rfl _ _ HO2m.out rfl (by intro u hu; obtain ⟨z, _, rfl⟩ := List.mem_map.1 hu; rfl) (by omega) (by omega) ?_)
    intro v3 w3 ho3 hg3
    have HO3 : Hid (Out w2 w3 5 1 v3 m (E.map (.int .u8))) := hid (by simpa using ho3)
    clear ho3 hg3
    obtain ⟨g, cap, rfl, hmc, -⟩ := HO3.out.shape (by have := HPOS.out; have := HM.out; omega)
    have HGL : Hid (w2.heap.size ≤ g ∧ g < w3.heap.size) := hid (HO3.out.own.lt g rfl)
    have HB3 := hid (HB2.out.trans (HO3.out.below.mono HB2.out.size))
    have HV3 := hid (HV.out.below HB3.out)
    go_wp2_with fail
    refine (decode_any _ E _ (by rw [HM.out]; exact HO3.out.sl) HEB.out (by have := HM.out; omega) HV3.out).mono ?_
    intro e w4 h4
    unfold DecBy at h4
    rw [HDE.out] at h4
    obtain ⟨v4, rfl, ho4⟩ := h4
    have HB4 := hid (HB3.out.trans (ho4.below.mono HB3.out.size))
    have HM4 := hid ho4
    have HO4 := hid (HO3.out.later ho4.below)
    obtain ⟨a4, c4, rfl⟩ := ho4.sl.val
    clear ho4
    go_wp2_with fail
    go_loopw [11] (fun i wr => ∃ k : Nat, k ≤ m ∧ i = .int .i64 k ∧ Hid (∃ xs, Out w2 wr 5 1 (.slice (some ⟨g, 0, none⟩) m cap) m xs) ∧ Hid (Keeps (fun j => j = g) w4 wr)) (fun i _ => m - (intOf i).toNat)
    case atStart => exact ⟨0, Nat.zero_le _, rfl, hid ⟨_, HO4.out⟩, hid (Keeps.refl _ _)⟩
    case round =>
      obtain ⟨k, hk, rfl, HX, HK⟩ := hrel
      by_cases hlt : k < m
      · have hi : (0 : Int) ≤ (k : Int) := by omega
        have hkl : (k : Int) < (m : Int) := by omega
        obtain ⟨xs, hox⟩ := HX.out
        obtain ⟨g', cap', u, hv', hg', hcl, hfz, hset⟩ := hox.store hlt
        simp only [Value.slice.injEq, Option.some.injEq, Addr.mk.injEq, and_true, true_and] at hv'
        obtain ⟨rfl, rfl⟩ := hv'
        have HX2 : Hid (∃ xs, Out w2 (wr.setCell ⟨g, k, none⟩ (.int .u8 c0)) 5 1 (.slice (some ⟨g, 0, none⟩) m cap) m xs) := hid ⟨_, hset _⟩
        have HK2 : Hid (Keeps (fun j => j = g) w4 (wr.setCell ⟨g, k, none⟩ (.int .u8 c0))) := hid (HK.out.trans (Keeps.set wr g k _))
        clear hset hox
        go_wp2
        go_roundw
        case rel => exact ⟨k + 1, by omega, by go_num, HX2, HK2⟩
        case measure => simp [intOf]; omega
      · have hge : ¬ (k : Int) < (m : Int) := by omega
        obtain ⟨W5, hW5⟩ : ∃ W, W = wr := ⟨_, rfl⟩
        subst hW5
        obtain ⟨xs, hox⟩ := HX.out
        have HB5 := hid (HB2.out.trans (hox.below.mono HB2.out.size))
        have HV5 := hid (HV.out.below HB5.out)
        have HM5 : Hid (Go.Proofs.YtcbefaaipggakaaDoor.flows.Code W5 (.slice a4 l.length c4) l) := hid (sl_keeps HM4.out.sl HK.out fun j hj e => by
          have := (HM4.out.own.lt j hj).1
          have := HGL.out.2
          omega)
        have HO5 := hid (HO2.out.below hox.below)
        clear hox
        go_wp2_with fail
        refine (scode_same _ _ l _ HM5.out (HA.out.below HB5.out) (by have := HN.out; omega)).mono ?_
        rintro e w6 ⟨rfl, hb6⟩
        have HB6 := hid (HB5.out.trans (hb6.mono HB5.out.size))
        have HV6 := hid (HV.out.below HB6.out)
        have HM6 := hid (HM5.out.below hb6)
        have HO6 := hid (HO5.out.below hb6)
        clear hb6
        go_wp2_with fail
        refine (encode_any _ l _ HM6.out HV6.out.forms HV6.out.pow HS.out HN.out).mono ?_
        intro e w7 h7
        unfold EncBy at h7
        rw [if_pos HZ.out, HE.out] at h7
        obtain ⟨v7, rfl, ho7⟩ := h7
        have HB7 := hid (HB6.out.trans (ho7.below.mono HB6.out.size))
        have HO7 : Hid (Sl w7 v7 m 1 (E.map (.int .u8))) := hid (by have := ho7.sl; rwa [HM.out] at this)
        have HP7 := hid (HO6.out.below ho7.below)
        obtain ⟨a7, c7, rfl⟩ := ho7.sl.val
        rw [HM.out] at HO7
        rw [HM.out]
        clear ho7
        obtain ⟨S, hS⟩ : ∃ S, strOfNums E = S := ⟨_, rfl⟩
        have hcs := run_conv_str (P := Tryd.prog) Tryd.underlying23 Tryd.underlying5 Tryd.underlying9 HO7.out
        have hct := run_conv_str (P := Tryd.prog) Tryd.underlying23 Tryd.underlying5 Tryd.underlying9 HP7.out
        rw [hS] at hcs hct
        clear hS
        go_wp2
        go_ret
        exact ⟨by first | rfl | simp, HB7.out⟩
  · rw [if_neg h0] at h2
    obtain ⟨rfl, hb2⟩ := h2
    have HBX := hid (HB1.out.trans (hb2.mono HB1.out.size))
    clear hb2 h0
    generalize codeErr l = z
    go_wp2
    go_ret
    exact ⟨rfl, HBX.out⟩
end Go.Proofs.YtcbefaaipggakaaDoor.txts
