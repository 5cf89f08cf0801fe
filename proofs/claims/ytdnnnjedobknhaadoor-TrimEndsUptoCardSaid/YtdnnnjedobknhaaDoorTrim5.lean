/- The law TrimEnds: its walk. Conditions: the table lies in its variable; the texts and the code are not long. -/
import Derived.Test.YtdnnnjedobknhaaDoorTrim4
namespace Go.Proofs.YtdnnnjedobknhaaDoor.trims
open Go.RowKit Go.Proofs.YtdnnnjedobknhaaDoor.lib Go.Proofs.YtdnnnjedobknhaaDoor.errs Go.Proofs.YtdnnnjedobknhaaDoor.names Go.Proofs.YtdnnnjedobknhaaDoor.descs Go.Proofs.YtdnnnjedobknhaaDoor.ins Go.Proofs.YtdnnnjedobknhaaDoor.reach Go.Proofs.YtdnnnjedobknhaaDoor.flows

abbrev EE : ByteArray := { data := #[] }
def nopL : List I := [⟨1, 0, 0, EE, EE, EE⟩, ⟨14, 3, 0, EE, EE, EE⟩, ⟨6, 0, 0, EE, EE, EE⟩, ⟨26, 0, 0, EE, EE, EE⟩]
def shortL : List I := [⟨14, 1, 0, EE, EE, EE⟩, ⟨26, 0, 0, EE, EE, EE⟩]
theorem nop_small : ∀ x ∈ nopL, Small x := by
  intro x hx
  simp only [nopL, List.mem_cons, List.not_mem_nil, or_false] at hx
  rcases hx with rfl | rfl | rfl | rfl <;> exact ⟨by decide, by decide, by decide⟩
theorem nop_ok : codeFault nopL = 0 := by decide +kernel
theorem nop_trim : trimOf nopL (seenOf nopL) = shortL := by kernel_rfl

set_option maxRecDepth 100000 in
set_option maxHeartbeats 1000000 in
theorem trimmed_any (w : World) (hf : FormsAt w) : Calls Tryd.prog 30 #[] w fun e w' => e = .returned (.bool true) ∧ Below w.heap.size w w' := by
  have HF := hid hf
  have HB := hid (ext_alloc w (.cells (cellsOf nopL).toArray 53))
  have HL := hid (show Go.Proofs.YtdnnnjedobknhaaDoor.flows.Code (w.alloc (.cells (cellsOf nopL).toArray 53)) (.slice (some ⟨w.heap.size, 0, none⟩) 4 4) nopL from Sl.lit w (cellsOf nopL).toArray 53 4 6 rfl)
  clear hf
  go_enter Tryd.func30, Tryd.ntmps30
  go_wp2_with fail
  refine (tcode_any _ nopL _ HL.out (HF.out.below HB.out) nop_small (by decide)).mono ?_
  intro e w1 h1
  obtain ⟨v, rfl, ho⟩ := codeBy_good nop_ok h1
  rw [nop_trim] at ho
  have HB1 := hid (HB.out.trans (ho.below.mono HB.out.size))
  have HL2 := hid (show Go.Proofs.YtdnnnjedobknhaaDoor.flows.Code (w1.alloc (.cells (cellsOf shortL).toArray 53)) (.slice (some ⟨w1.heap.size, 0, none⟩) 2 2) shortL from Sl.lit w1 (cellsOf shortL).toArray 53 2 6 rfl)
  have HE2 := hid (ext_alloc w1 (.cells (cellsOf shortL).toArray 53))
  have HS := hid (show Go.Proofs.YtdnnnjedobknhaaDoor.flows.Code w1 v shortL from ho.sl)
  obtain ⟨a2, c2, rfl⟩ := ho.sl.val
  clear ho h1
  go_wp2_with fail
  refine (scode_same _ _ shortL _ (HS.out.below HE2.out) HL2.out (by decide)).mono ?_
  rintro e w2 ⟨rfl, hb2⟩
  have HB2 := hid (HB1.out.trans (HE2.out.mono HB1.out.size))
  go_wp2
  go_ret
  exact ⟨rfl, HB2.out.trans (hb2.mono HB2.out.size)⟩

theorem moved_small {l : List I} {s : List Bool} {x : I} (h : Small x) : Small (moved l s x) := by unfold moved; split <;> exact h
theorem trim_small {l : List I} (h0 : codeFault l = 0) (hs : ∀ x ∈ l, Small x) : ∀ x ∈ trimOf l (seenOf l), Small x := fun x hx => by
  obtain ⟨j, hj, rfl⟩ := List.mem_iff_getElem.1 hx
  obtain ⟨k, hk, _, _, _, he⟩ := left_at h0 hj
  rw [he]; exact moved_small (hs _ (List.getElem_mem hk))

set_option maxRecDepth 100000 in
set_option maxHeartbeats 4000000 in
theorem ends_bad (va : Value) (l : List I) (w : World) (ha : Go.Proofs.YtdnnnjedobknhaaDoor.flows.Code w va l) (hf : FormsAt w) (hs : ∀ x ∈ l, Small x) (hn : l.length ≤ 2000000) (hz : ¬ codeFault l = 0) :
    Calls Tryd.prog 8 #[va] w fun e w' => e = .returned (.bool true) ∧ Below w.heap.size w w' := by
  obtain ⟨a, c, rfl⟩ := ha.val
  have HFL := hid (fun w hf => trimmed_any w hf)
  have HC := hid (fun (w : World) (ha : Go.Proofs.YtdnnnjedobknhaaDoor.flows.Code w (.slice a l.length c) l) (hf : FormsAt w) => tcode_any _ l w ha hf hs hn)
  have HA := hid ha; have HF := hid hf; have HZ := hid hz
  clear ha hf hs hz
  go_enter Tryd.func8, Tryd.ntmps8
  go_wp2_with fail
  refine (HFL.out _ HF.out).mono ?_
  rintro e w1 ⟨rfl, hb1⟩
  have HB1 := hid hb1
  clear hb1
  go_wp2_with fail
  refine (HC.out _ (HA.out.below HB1.out) (HF.out.below HB1.out)).mono ?_
  intro e w2 h2
  obtain ⟨rfl, hb2⟩ := codeBy_bad HZ.out h2
  clear h2
  go_wp2
  go_ret
  exact ⟨rfl, HB1.out.trans (hb2.mono HB1.out.size)⟩

set_option maxRecDepth 100000 in
set_option maxHeartbeats 4000000 in
theorem ends_good (va : Value) (l : List I) (w : World) (ha : Go.Proofs.YtdnnnjedobknhaaDoor.flows.Code w va l) (hf : FormsAt w) (hs : ∀ x ∈ l, Small x) (hn : l.length ≤ 2000000) (hz : codeFault l = 0) :
    Calls Tryd.prog 8 #[va] w fun e w' => e = .returned (.bool true) ∧ Below w.heap.size w w' := by
  obtain ⟨a, c, rfl⟩ := ha.val
  have HFL := hid (fun w hf => trimmed_any w hf)
  have HC := hid (fun (w : World) (ha : Go.Proofs.YtdnnnjedobknhaaDoor.flows.Code w (.slice a l.length c) l) (hf : FormsAt w) => tcode_any _ l w ha hf hs hn)
  have HA := hid ha; have HF := hid hf; have HZ := hid hz
  have hsT := trim_small hz hs
  have HT0 := hid (trim_right hz)
  have HTT := hid (trim_twice hz)
  have HTR := hid (trim_reach hz)
  have HTN := hid (fun j hj => trim_nop hz (j := j) hj)
  have htl : (trimOf l (seenOf l)).length ≤ l.length := by rw [trim_len]; exact place_le _ _ _
  have htp : 0 < (trimOf l (seenOf l)).length := (right_of (trim_right hz)).2.1
  obtain ⟨T, hT⟩ : ∃ T, trimOf l (seenOf l) = T := ⟨_, rfl⟩
  have HT := hid hT
  rw [hT] at hsT HT0 HTT HTR htl htp
  have HTN2 : Hid (∀ j (hj : j < T.length), T[j].op ≠ 1) := hid (by subst hT; exact HTN.out)
  have HC2 := hid (fun (w : World) (v : Value) (ha : Go.Proofs.YtdnnnjedobknhaaDoor.flows.Code w v T) (hf : FormsAt w) => tcode_any v T w ha hf hsT (by omega))
  have HC3 := hid (fun (w : World) (v : Value) (ha : Go.Proofs.YtdnnnjedobknhaaDoor.flows.Code w v T) (hf : FormsAt w) => reach_any v T w ha hf hsT (by omega))
  clear ha hf hs hz hsT hT HTN
  go_enter Tryd.func8, Tryd.ntmps8
  go_wp2_with fail
  refine (HFL.out _ HF.out).mono ?_
  rintro e w1 ⟨rfl, hb1⟩
  have HB1 := hid hb1
  clear hb1
  go_wp2_with fail
  refine (HC.out _ (HA.out.below HB1.out) (HF.out.below HB1.out)).mono ?_
  intro e w2 h2
  obtain ⟨v2, rfl, ho2⟩ := codeBy_good HZ.out h2
  rw [HT.out] at ho2
  have HB2 := hid (HB1.out.trans (ho2.below.mono HB1.out.size))
  have HM := hid (show Go.Proofs.YtdnnnjedobknhaaDoor.flows.Code w2 v2 T from ho2.sl)
  obtain ⟨a2, c2, rfl⟩ := ho2.sl.val
  clear ho2 h2
  go_wp2_with fail
  refine (HC2.out _ _ HM.out (HF.out.below HB2.out)).mono ?_
  intro e w3 h3
  obtain ⟨v3, rfl, ho3⟩ := codeBy_good HT0.out h3
  rw [HTT.out] at ho3
  have HB3 := hid (HB2.out.trans (ho3.below.mono HB2.out.size))
  have HM3 := hid (HM.out.below ho3.below)
  have HK := hid (show Go.Proofs.YtdnnnjedobknhaaDoor.flows.Code w3 v3 T from ho3.sl)
  obtain ⟨a3, c3, rfl⟩ := ho3.sl.val
  clear ho3 h3
  go_wp2_with fail
  refine (HC3.out _ _ HM3.out (HF.out.below HB3.out)).mono ?_
  intro e w4 h4
  obtain ⟨v4, rfl, ho4⟩ := reachBy_good HT0.out h4
  rw [HTR.out] at ho4
  have HB4 := hid (HB3.out.trans (ho4.below.mono HB3.out.size))
  have HM4 := hid (HM3.out.below ho4.below)
  have HK4 := hid (HK.out.below ho4.below)
  obtain ⟨a4, c4, rfl⟩ := ho4.sl.val
  clear ho4 h4
  go_wp2_with fail
  refine (scode_same _ _ T _ HK4.out HM4.out (by omega)).mono ?_
  rintro e w5 ⟨rfl, hb5⟩
  have HB5 := hid (HB4.out.trans (hb5.mono HB4.out.size))
  have HM5 := hid (HM4.out.below hb5)
  clear hb5
  have htp2 : (0 : Int) < (T.length : Int) := by omega
  have htl2 : (T.length : Int) ≤ (l.length : Int) := by omega
  go_wp2_with fail
  go_loopw [11] (fun i wr => ∃ k : Nat, k ≤ T.length ∧ i = .int .i64 k ∧ w5 = wr) (fun i _ => T.length - (intOf i).toNat)
  case atStart => exact ⟨0, Nat.zero_le _, rfl, rfl⟩
  case round =>
    obtain ⟨k, hk, rfl, rfl⟩ := hrel
    by_cases hlt : k < T.length
    · obtain ⟨b1, o1, h1, hc0, hc1, hc2, hc3, hc4, hc5⟩ := code_at HM5.out hlt
      subst h1
      have hi : (0 : Int) ≤ (k : Int) := by omega
      have hkl : (k : Int) < (T.length : Int) := by omega
      have hno := HTN2.out k hlt
      generalize T[k] = x at hc0 hc1 hc2 hc3 hc4 hc5 hno
      obtain ⟨op, xa, xb, t, xc, xn⟩ := x
      have hno2 : ¬ op = 1 := hno
      have hno3 : (op == 1) = false := by simp [hno2]
      clear hno
      go_wp2
      go_roundw
      case rel => exact ⟨k + 1, by omega, by go_num, by first | trivial | rfl⟩
      case measure => simp [intOf]; omega
    · go_wp2
      go_ret
      exact ⟨by simp, HB5.out⟩

theorem ends_any (va : Value) (l : List I) (w : World) (ha : Go.Proofs.YtdnnnjedobknhaaDoor.flows.Code w va l) (hf : FormsAt w) (hs : ∀ x ∈ l, Small x) (hn : l.length ≤ 2000000) :
    Calls Tryd.prog 8 #[va] w fun e w' => e = .returned (.bool true) ∧ Below w.heap.size w w' := by
  by_cases hz : codeFault l = 0
  · exact ends_good va l w ha hf hs hn hz
  · exact ends_bad va l w ha hf hs hn hz

end Go.Proofs.YtdnnnjedobknhaaDoor.trims
