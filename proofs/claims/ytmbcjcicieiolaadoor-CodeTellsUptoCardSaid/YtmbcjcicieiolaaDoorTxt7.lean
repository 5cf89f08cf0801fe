/- The law CodeTells: its walk, way by way. Conditions as for it. -/
import Derived.Test.YtmbcjcicieiolaaDoorTxt6
set_option linter.unusedSimpArgs false
set_option linter.unusedVariables false
namespace Go.Proofs.YtmbcjcicieiolaaDoor.txts
open Go.RowKit Go.Proofs.YtmbcjcicieiolaaDoor.lib Go.Proofs.YtmbcjcicieiolaaDoor.errs Go.Proofs.YtmbcjcicieiolaaDoor.names Go.Proofs.YtmbcjcicieiolaaDoor.descs Go.Proofs.YtmbcjcicieiolaaDoor.ins Go.Proofs.YtmbcjcicieiolaaDoor.nums Go.Proofs.YtmbcjcicieiolaaDoor.flows Go.Proofs.YtmbcjcicieiolaaDoor.grow

set_option maxRecDepth 100000 in
set_option maxHeartbeats 4000000 in
theorem ct_good (va : Value) (l : List I) (w : World) (ha : Go.Proofs.YtmbcjcicieiolaaDoor.flows.Code w va l) (hf : FormsAt w) (hp : Pow w) (hs : ∀ x ∈ l, Small x ∧ InR x.a ∧ InR x.b) (hn : l.length ≤ 2000000) (h40 : ¬ 40 < l.length) (hz0 : badIns l = 0) :
    Calls Tryd.prog 6 #[va] w fun e w' => e = .returned (.bool true) ∧ Below w.heap.size w w' := by
  have HA := hid ha; have HF := hid hf; have HP := hid hp; have HS := hid hs
  obtain ⟨a, c, rfl⟩ := ha.val
  clear ha hf hp hs
  have k40 : ¬ (40 : Int) < (l.length : Int) := by omega
  have HOK := hid (bad_zero hz0)
  have HZ : Hid (codeErr l = 0) := hid (by unfold codeErr; rw [if_neg h40]; exact hz0)
  clear hz0
  replace h40 : l.length ≤ 40 := by omega
  go_enter Tryd.func6, Tryd.ntmps6
  go_wp2_with fail
  refine (coded_any _ HF.out HP.out).mono ?_
  rintro e w1 ⟨rfl, hb1⟩
  have HB1 := hid hb1
  clear hb1
  go_wp2_with fail
  go_loopw [4, 5] (fun e i wr => ∃ k : Nat, k ≤ l.length ∧ i = .int .i64 k ∧ e = .int .i64 0 ∧ Hid (Below w.heap.size w wr)) (fun _ i _ => l.length - (intOf i).toNat)
  case atStart => exact ⟨0, Nat.zero_le _, rfl, rfl, HB1⟩
  case round =>
    obtain ⟨k, hk, rfl, rfl, HBX⟩ := hrel
    by_cases hlt : k < l.length
    · obtain ⟨bb, off, hab, hd0, hd1, hd2, hd3, hd4, hd5⟩ := code_at (HA.out.below HBX.out) hlt
      subst hab
      have hi : (0 : Int) ≤ (k : Int) := by omega
      have hkl : (k : Int) < (l.length : Int) := by omega
      have HSX := hid (HS.out _ (List.getElem_mem hlt)).1
      have H0 := hid (HOK.out _ (List.getElem_mem hlt))
      generalize l[k] = x at hd0 hd1 hd2 hd3 hd4 hd5 HSX H0
      obtain ⟨op, xa, xb, t, xc, xn⟩ := x
      simp only at hd0 hd1 hd2 hd3 hd4 hd5
      have HIF := hid (insFault_any op xa xb t xc xn wr HSX.out.1 HSX.out.2.1 HSX.out.2.2)
      rw [H0.out] at HIF
      go_wp2_with fail
      refine HIF.out.mono ?_
      rintro e w5 ⟨rfl, hb5⟩
      have HB5 := hid (HBX.out.trans (hb5.mono HBX.out.size))
      clear hb5
      go_wp2_with fail
      go_roundw
      case rel => exact ⟨k + 1, by omega, by go_num, rfl, HB5⟩
      case measure => simp [intOf]; omega
    · have hge : ¬ (k : Int) < (l.length : Int) := by omega
      go_wp2_with fail
      refine (encode_any _ l _ (HA.out.below HBX.out) (HF.out.below HBX.out) (HP.out.below HBX.out) HS.out hn).mono ?_
      intro e w5 h5
      unfold EncBy at h5
      rw [if_pos HZ.out] at h5
      obtain ⟨v5, rfl, ho5⟩ := h5
      have HB5 := hid (HBX.out.trans (ho5.below.mono HBX.out.size))
      obtain ⟨E, hE⟩ : ∃ E, encTo l l.length = E := ⟨_, rfl⟩
      rw [hE] at ho5
      have HE := hid hE
      have HV0 := hid ho5.sl
      obtain ⟨a5, c5, hv5⟩ := ho5.sl.val
      subst hv5
      clear ho5 hE
      obtain ⟨S, hS⟩ : ∃ S, strOfNums E = S := ⟨_, rfl⟩
      have HST := hid hS
      clear hS
      go_wp2_with fail
      refine (error_ok _).mono ?_
      rintro e w6 ⟨rfl, hww⟩
      subst hww
      have HV := hid (fun (u : World) (hu : Below w5.heap.size w5 u) => HV0.out.below hu)
      have HC := hid (fun (u : World) (hu : Below w5.heap.size w5 u) => HA.out.below (HB5.out.trans (hu.mono HB5.out.size)))
      go_wp2_with fail
      refine wp_region_ext [(8, bytesAre E)] ⟨bytesAre_stays _, trivial⟩ (by kernel_rfl) (by kernel_rfl) ?_
      refine wpG_calc 1 rfl rfl rfl (fun u => by go_simp; rfl) ?_
      simp only [Act.put, List.setIfInBounds_toArray, List.set_cons_zero, List.set_cons_succ]
      refine wpG_calc 2 rfl rfl rfl (fun u => by go_simp; rfl) ?_
      simp only [Act.put, List.setIfInBounds_toArray, List.set_cons_zero, List.set_cons_succ]
      refine wpG_calc 3 rfl rfl rfl (fun u => by go_simp; rfl) ?_
      simp only [Act.put, List.setIfInBounds_toArray, List.set_cons_zero, List.set_cons_succ]
      refine wpG_calc 4 rfl rfl rfl (fun u => by go_simp; rfl) ?_
      simp only [Act.put, List.setIfInBounds_toArray, List.set_cons_zero, List.set_cons_succ]
      refine wpG_calc 5 rfl rfl rfl (fun u => by go_simp; rfl) ?_
      simp only [Act.put, List.setIfInBounds_toArray, List.set_cons_zero, List.set_cons_succ]
      refine wpG_calc 6 rfl rfl rfl (fun u => by go_simp; rfl) ?_
      simp only [Act.put, List.setIfInBounds_toArray, List.set_cons_zero, List.set_cons_succ]
      refine wpG_read 7 rfl rfl (.string S) rfl ?_ ?_
      · intro u hu hh
        have hcs := run_conv_str (P := Tryd.prog) (w := u) Tryd.underlying52 Tryd.underlying5 Tryd.underlying9 (HV.out u hu)
        rw [HST.out] at hcs
        go_simp
      simp only [Act.put, List.setIfInBounds_toArray, List.set_cons_zero, List.set_cons_succ]
      refine wpG_calc 8 rfl rfl rfl (fun u => by go_simp; rfl) ?_
      simp only [Act.put, List.setIfInBounds_toArray, List.set_cons_zero, List.set_cons_succ]
      refine wpG_rel 9 rfl rfl rfl ?_ ?_
      · intro u hu hh
        clear hh
        go_simp
        refine (rbytes_any _ l u (HC.out u hu) HS.out h40 HOK.out).mono ?_
        rintro e w9 ⟨v9, rfl, ho9⟩
        rw [HE.out] at ho9
        exact ⟨_, rfl, ho9.sl, ho9.below⟩
      intro v9 ⟨u9, _, hr9⟩
      obtain ⟨a9, c9, hv9⟩ := Sl.val hr9
      clear hr9
      subst hv9
      simp only [Act.put, List.setIfInBounds_toArray, List.set_cons_zero, List.set_cons_succ]
      refine wpG_read 10 rfl rfl (.string S) rfl ?_ ?_
      · intro u hu hh
        have h8 : bytesAre E (.slice a9 E.length c9) u := hh 8 rfl
        have hcs := run_conv_str (P := Tryd.prog) (w := u) Tryd.underlying52 Tryd.underlying5 Tryd.underlying9 (h8)
        rw [HST.out] at hcs
        go_simp
      simp only [Act.put, List.setIfInBounds_toArray, List.set_cons_zero, List.set_cons_succ]
      refine wpG_calc (v := .bool true) 11 rfl rfl rfl (fun u => by go_simp) ?_
      simp only [Act.put, List.setIfInBounds_toArray, List.set_cons_zero, List.set_cons_succ]
      refine wpG_calc 12 rfl rfl rfl (fun u => by go_simp; rfl) ?_
      simp only [Act.put, List.setIfInBounds_toArray, List.set_cons_zero, List.set_cons_succ]
      refine wpG_calc 13 rfl rfl rfl (fun u => by go_simp; rfl) ?_
      simp only [Act.put, List.setIfInBounds_toArray, List.set_cons_zero, List.set_cons_succ]
      refine wpG_nil fun w' hb' hF => ?_
      have HBQ := hid (HB5.out.trans (hb'.mono HB5.out.size))
      clear hF hb'
      go_wp2
      go_ret
      exact ⟨rfl, HBQ.out⟩

end Go.Proofs.YtmbcjcicieiolaaDoor.txts

set_option linter.unusedSimpArgs false
set_option linter.unusedVariables false
namespace Go.Proofs.YtmbcjcicieiolaaDoor.txts
open Go.RowKit Go.Proofs.YtmbcjcicieiolaaDoor.lib Go.Proofs.YtmbcjcicieiolaaDoor.errs Go.Proofs.YtmbcjcicieiolaaDoor.names Go.Proofs.YtmbcjcicieiolaaDoor.descs Go.Proofs.YtmbcjcicieiolaaDoor.ins Go.Proofs.YtmbcjcicieiolaaDoor.nums Go.Proofs.YtmbcjcicieiolaaDoor.flows Go.Proofs.YtmbcjcicieiolaaDoor.grow

set_option maxRecDepth 100000 in
set_option maxHeartbeats 4000000 in
theorem ct_bad (va : Value) (l : List I) (w : World) (ha : Go.Proofs.YtmbcjcicieiolaaDoor.flows.Code w va l) (hf : FormsAt w) (hp : Pow w) (hs : ∀ x ∈ l, Small x ∧ InR x.a ∧ InR x.b) (hn : l.length ≤ 2000000) (h40 : ¬ 40 < l.length) (hz0 : ¬ badIns l = 0) :
    Calls Tryd.prog 6 #[va] w fun e w' => e = .returned (.bool true) ∧ Below w.heap.size w w' := by
  have HA := hid ha; have HF := hid hf; have HP := hid hp; have HS := hid hs
  obtain ⟨a, c, rfl⟩ := ha.val
  clear ha hf hp hs
  have k40 : ¬ (40 : Int) < (l.length : Int) := by omega
  have HBI := hid hz0
  clear hz0
  go_enter Tryd.func6, Tryd.ntmps6
  go_wp2_with fail
  refine (coded_any _ HF.out HP.out).mono ?_
  rintro e w1 ⟨rfl, hb1⟩
  have HB1 := hid hb1
  clear hb1
  go_wp2_with fail
  go_loopw [4, 5] (fun e i wr => ∃ (k : Nat) (z : Int), k ≤ l.length ∧ i = .int .i64 k ∧ e = .int .i64 z ∧ Hid (Below w.heap.size w wr) ∧ Hid ((z = 0 ∧ badIns l = badIns (l.drop k)) ∨ (¬ z = 0 ∧ badIns l = z))) (fun _ i _ => l.length - (intOf i).toNat)
  case atStart => exact ⟨0, 0, Nat.zero_le _, rfl, rfl, HB1, hid (.inl ⟨rfl, rfl⟩)⟩
  case round =>
    obtain ⟨k, z, hk, rfl, rfl, HBX, HD⟩ := hrel
    by_cases hz : z = 0
    · subst hz
      have HBK : Hid (badIns l = badIns (l.drop k)) := hid (by
        rcases HD.out with h | h
        · exact h.2
        · exact absurd rfl h.1)
      by_cases hlt : k < l.length
      · obtain ⟨bb, off, hab, hd0, hd1, hd2, hd3, hd4, hd5⟩ := code_at (HA.out.below HBX.out) hlt
        subst hab
        have hi : (0 : Int) ≤ (k : Int) := by omega
        have hkl : (k : Int) < (l.length : Int) := by omega
        have HSX := hid (HS.out _ (List.getElem_mem hlt)).1
        have HY := hid (fun h => bad_ok hlt h)
        have HN := hid (fun h => bad_no hlt h)
        generalize l[k] = x at hd0 hd1 hd2 hd3 hd4 hd5 HSX HY HN
        obtain ⟨op, xa, xb, t, xc, xn⟩ := x
        simp only at hd0 hd1 hd2 hd3 hd4 hd5
        have HIF := hid (insFault_any op xa xb t xc xn wr HSX.out.1 HSX.out.2.1 HSX.out.2.2)
        obtain ⟨q, hq⟩ : ∃ q, insFault ⟨op, xa, xb, t, xc, xn⟩ = q := ⟨_, rfl⟩
        rw [hq] at HIF HY HN
        clear hq
        go_wp2_with fail
        refine HIF.out.mono ?_
        rintro e w5 ⟨rfl, hb5⟩
        have HB5 := hid (HBX.out.trans (hb5.mono HBX.out.size))
        clear hb5
        go_wp2_with fail
        go_roundw
        case rel => exact ⟨k + 1, q, by omega, by go_num, rfl, HB5, hid (by
          by_cases h : q = 0
          · exact .inl ⟨h, HBK.out.trans (HY.out h)⟩
          · exact .inr ⟨h, HBK.out.trans (HN.out h)⟩)⟩
        case measure => simp [intOf]; omega
      · exact absurd (HBK.out.trans (bad_end hlt)) HBI.out
    · have HZ : Hid (codeErr l = z) := hid (by
        unfold codeErr
        rw [if_neg h40]
        rcases HD.out with h | h
        · exact absurd h.1 hz
        · exact h.2)
      have HNZ := hid hz
      have hz1 : (z == 0) = false := by simpa using hz
      have hz2 : (z != 0) = true := by simpa using hz
      by_cases hlt : (k : Int) < (l.length : Int)
      all_goals
        go_wp2_with fail
        refine (encode_any _ l _ (HA.out.below HBX.out) (HF.out.below HBX.out) (HP.out.below HBX.out) HS.out hn).mono ?_
        intro e w5 h5
        unfold EncBy at h5
        rw [HZ.out, if_neg HNZ.out] at h5
        obtain ⟨rfl, hb5⟩ := h5
        have HB5 := hid (HBX.out.trans (hb5.mono HBX.out.size))
        clear hb5
        go_wp2_with fail
        refine (error_some z z _ HNZ.out).mono ?_
        rintro e w6 ⟨rfl, hww⟩
        obtain rfl := hww.symm
        go_wp2
        go_ret
        exact ⟨by first | rfl | simp, HB5.out⟩

end Go.Proofs.YtmbcjcicieiolaaDoor.txts

set_option linter.unusedSimpArgs false
set_option linter.unusedVariables false
namespace Go.Proofs.YtmbcjcicieiolaaDoor.txts
open Go.RowKit Go.Proofs.YtmbcjcicieiolaaDoor.lib Go.Proofs.YtmbcjcicieiolaaDoor.errs Go.Proofs.YtmbcjcicieiolaaDoor.names Go.Proofs.YtmbcjcicieiolaaDoor.descs Go.Proofs.YtmbcjcicieiolaaDoor.ins Go.Proofs.YtmbcjcicieiolaaDoor.nums Go.Proofs.YtmbcjcicieiolaaDoor.flows Go.Proofs.YtmbcjcicieiolaaDoor.grow

set_option maxRecDepth 100000 in
set_option maxHeartbeats 4000000 in
theorem ct_long (va : Value) (l : List I) (w : World) (ha : Go.Proofs.YtmbcjcicieiolaaDoor.flows.Code w va l) (hf : FormsAt w) (hp : Pow w) (hs : ∀ x ∈ l, Small x ∧ InR x.a ∧ InR x.b) (hn : l.length ≤ 2000000) (h40 : 40 < l.length) :
    Calls Tryd.prog 6 #[va] w fun e w' => e = .returned (.bool true) ∧ Below w.heap.size w w' := by
  have HA := hid ha; have HF := hid hf; have HP := hid hp; have HS := hid hs
  obtain ⟨a, c, rfl⟩ := ha.val
  clear ha hf hp hs
  have k40 : (40 : Int) < (l.length : Int) := by omega
  have HZ : Hid (codeErr l = 4) := hid (if_pos h40)
  have HNZ : Hid (¬ (4 : Int) = 0) := hid (by decide)
  go_enter Tryd.func6, Tryd.ntmps6
  go_wp2_with fail
  refine (coded_any _ HF.out HP.out).mono ?_
  rintro e w1 ⟨rfl, hb1⟩
  have HB1 := hid hb1
  clear hb1
  go_wp2_with fail
  go_loopw [4, 5] (fun e i wr => ∃ k : Nat, k ≤ l.length ∧ i = .int .i64 k ∧ e = .int .i64 4 ∧ w1 = wr) (fun _ i _ => l.length - (intOf i).toNat)
  case atStart => exact ⟨0, Nat.zero_le _, rfl, rfl, rfl⟩
  case round =>
    obtain ⟨k, hk, rfl, rfl, hww⟩ := hrel
    subst hww
    have HBX := HB1
    by_cases hlt : (k : Int) < (l.length : Int)
    all_goals
      go_wp2_with fail
      refine (encode_any _ l _ (HA.out.below HBX.out) (HF.out.below HBX.out) (HP.out.below HBX.out) HS.out hn).mono ?_
      intro e w5 h5
      unfold EncBy at h5
      rw [HZ.out, if_neg HNZ.out] at h5
      obtain ⟨rfl, hb5⟩ := h5
      have HB5 := hid (HBX.out.trans (hb5.mono HBX.out.size))
      clear hb5
      go_wp2_with fail
      refine (error_some 4 4 _ HNZ.out).mono ?_
      rintro e w6 ⟨rfl, hww⟩
      obtain rfl := hww.symm
      go_wp2
      go_ret
      exact ⟨by first | rfl | simp, HB5.out⟩

end Go.Proofs.YtmbcjcicieiolaaDoor.txts

set_option linter.unusedSimpArgs false
set_option linter.unusedVariables false
namespace Go.Proofs.YtmbcjcicieiolaaDoor.txts
open Go.RowKit Go.Proofs.YtmbcjcicieiolaaDoor.lib Go.Proofs.YtmbcjcicieiolaaDoor.errs Go.Proofs.YtmbcjcicieiolaaDoor.names Go.Proofs.YtmbcjcicieiolaaDoor.descs Go.Proofs.YtmbcjcicieiolaaDoor.ins Go.Proofs.YtmbcjcicieiolaaDoor.nums Go.Proofs.YtmbcjcicieiolaaDoor.flows Go.Proofs.YtmbcjcicieiolaaDoor.grow

theorem codetells_any (va : Value) (l : List I) (w : World) (ha : Go.Proofs.YtmbcjcicieiolaaDoor.flows.Code w va l) (hf : FormsAt w) (hp : Pow w) (hs : ∀ x ∈ l, Small x ∧ InR x.a ∧ InR x.b) (hn : l.length ≤ 2000000) :
    Calls Tryd.prog 6 #[va] w fun e w' => e = .returned (.bool true) ∧ Below w.heap.size w w' := by
  by_cases h40 : 40 < l.length
  · exact ct_long va l w ha hf hp hs hn h40
  · by_cases h0 : badIns l = 0
    · exact ct_good va l w ha hf hp hs hn h40 h0
    · exact ct_bad va l w ha hf hp hs hn h40 h0
end Go.Proofs.YtmbcjcicieiolaaDoor.txts
