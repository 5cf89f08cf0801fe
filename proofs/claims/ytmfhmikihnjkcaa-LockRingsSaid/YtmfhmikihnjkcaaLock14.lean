/- Locks: the walk of the law LockRings. No condition. -/
import Derived.Test.YtmfhmikihnjkcaaLock13
namespace Go.Proofs.Ytmfhmikihnjkcaa.locks
open Go.RowKit Go.Proofs.Ytmfhmikihnjkcaa.lib Go.Proofs.Ytmfhmikihnjkcaa.maps Go.Proofs.Ytmfhmikihnjkcaa.errs Go.Proofs.Ytmfhmikihnjkcaa.ints

set_option maxRecDepth 100000 in
set_option maxHeartbeats 8000000 in
theorem rings_any (n first : Int) (w : World) :
    Calls Try.prog 4 #[.int .i64 n, .int .i64 first] w fun e w' => e = .returned (.bool true) ∧ Below w.heap.size w w' := by
  obtain ⟨q, hqe, hq⟩ := mod50 n 20 (by decide) (by decide)
  obtain ⟨f, hfe, hf⟩ := mod50 first 20 (by decide) (by decide)
  have k20 : 2 + (q : Int) = ((q + 2 : Nat) : Int) := by omega
  have K20 := hid k20
  clear k20
  go_enter Try.func4, Try.ntmps4
  go_wp2_with fail
  refine (locked_any w).mono ?_
  rintro e w1 ⟨rfl, hb1⟩
  have HB1 := hid hb1
  clear hb1
  go_wp2_with fail
  refine (new_us w _ HB1.out).mono ?_
  rintro e w2 ⟨p, rfl, h2⟩
  have H2 := hid (UW.start h2)
  clear h2
  go_wp2_with fail
  rw [hqe, hfe, K20.out]
  obtain ⟨M, hM⟩ : ∃ M, q + 2 = M := ⟨_, rfl⟩
  have hM1 : 2 ≤ M := by omega
  have hM2 : M ≤ 21 := by omega
  rw [hM]
  have hf2 : f ≤ 19 := by omega
  clear hqe hfe K20 hM hq hf
  go_loopw [9, 10] (fun vt i wr => ∃ j : Nat, j ≤ M ∧ i = .int .i64 j ∧ Hid (∃ A, UW w wr p A j vt (rsL f j) ∧ Rs A f j [])) (fun _ i _ => M - (intOf i).toNat)
  case atStart => exact ⟨0, Nat.zero_le _, rfl, hid ⟨_, H2.out, rs_new f⟩⟩
  case round =>
    obtain ⟨j, hj, rfl, HR⟩ := hrel
    clear H2
    by_cases hlt : j < M
    · have hli : (j : Int) < (M : Int) := by omega
      obtain ⟨A, hU, hS⟩ := HR.out
      obtain ⟨e1, e2, hS2⟩ := rs_take hS (by omega) (by omega)
      have HU := hid hU
      have HS2 := hid hS2
      have HE1 := hid e1
      have HE2 := hid e2
      have hfj : (f : Int) + (j : Int) = ((f + j : Nat) : Int) := by omega
      have HFJ := hid hfj
      clear hU hS hS2 e1 e2 HR hfj
      go_wp2_with fail
      rw [HFJ.out]
      refine (enter_uw HU.out (by omega) ((f + j : Nat) : Int) (j : Int)).mono ?_
      rintro e w3 ⟨rfl, h3⟩
      rw [HE1.out, HE2.out, errVal_zero rfl]
      have H3 := hid h3
      obtain ⟨m, base, _, _, _, ho3, _⟩ := h3
      have hlen : (rsL f j).length = j := by simp [rsL]
      have HLEN := hid hlen
      rw [hlen] at ho3
      have HO3 := hid ho3
      obtain ⟨a3, c3, hv3⟩ := ho3.sl.val
      subst hv3
      clear ho3 hlen
      go_wp2_with (at_builtin; refine wpList_append_lit_at w _ _ rfl _ _ 30 rfl 3 (.int .i64 0) 1 8 1 Try.underlying30 infoInt rfl (by decide) _ _ _ HO3.out rfl rfl rfl ?_ ?_ ?_ ?_)
      all_goals first | (intro v' w' ho hg hat) | omega | (simp [Value.oneCell']; done) | skip
      rw [HFJ.out] at ho
      have H4 := hid (UW.more (y := ((f + j : Nat) : Int)) H3.out (by rw [HLEN.out]; exact ho) hg hat)
      rw [← rsL_succ] at H4
      clear ho hg hat
      go_wp2
      go_roundw
      case rel => exact ⟨j + 1, by omega, by go_num, hid ⟨_, H4.out, HS2.out⟩⟩
      case measure => simp [intOf]; omega
    · obtain rfl : j = M := by omega
      obtain ⟨A, hU, hS⟩ := HR.out
      have HU := hid hU
      have HS := hid hS
      clear hU hS HR hlt hj
      go_wp2_with fail
      go_loopw [13] (fun i wr => ∃ r : Nat, r + 1 ≤ j ∧ i = .int .i64 r ∧ Hid (∃ A, UW w wr p A (j + r) u9 (rsL f j) ∧ Rs A f j (rsW f r))) (fun i _ => j - (intOf i).toNat)
      case atStart => exact ⟨0, by omega, rfl, hid ⟨_, HU.out, HS.out⟩⟩
      case round =>
        obtain ⟨r, hr, rfl, HR⟩ := hrel
        clear HU HS
        by_cases hlt : r + 1 < j
        · have hli : (r : Int) + 1 < (j : Int) := by omega
          obtain ⟨A, hU, hS⟩ := HR.out
          obtain ⟨e1, e2, hS2⟩ := rs_wait (k := r + 1) hS (by omega) hlt (by omega) (by omega)
          rw [← rsW_succ] at hS2
          have HU := hid hU
          have HS2 := hid hS2
          have HE1 := hid e1
          have HE2 := hid e2
          have hfr : (f : Int) + (r : Int) = ((f + r : Nat) : Int) := by omega
          have hr1 : (r : Int) + 1 = ((r + 1 : Nat) : Int) := by omega
          have HFR := hid hfr
          have HR1 := hid hr1
          clear hU hS hS2 e1 e2 HR hfr hr1
          go_wp2_with fail
          rw [HFR.out, HR1.out]
          refine (enter_uw HU.out (by omega) ((f + r : Nat) : Int) ((r + 1 : Nat) : Int)).mono ?_
          rintro e w3 ⟨rfl, h3⟩
          rw [HE1.out, HE2.out, errVal_zero rfl]
          have H3 := hid h3
          have HQ := hid (rs_quiet h3.us.inv HS2.out (by omega))
          clear h3
          go_wp2_with fail
          refine (ring_uw H3.out).mono ?_
          rintro e w4 ⟨a4, n4, d4, rfl, hn4, _, h4b⟩
          rw [HQ.out] at hn4
          have hn5 : n4 = 0 := hn4
          subst hn5
          clear hn4
          have hb4 := hid h4b
          clear h4b
          go_wp2
          go_roundw
          case rel => exact ⟨r + 1, by omega, by go_num, hid ⟨_, hb4.out, HS2.out⟩⟩
          case measure => simp [intOf]; omega
        · obtain ⟨t, rfl⟩ : ∃ t, j = t + 1 := ⟨j - 1, by omega⟩
          obtain rfl : r = t := by omega
          obtain ⟨A, hU, hS⟩ := HR.out
          obtain ⟨e1, e2, hS2⟩ := rs_wait (k := 0) hS (by omega) (by omega) (by omega) (by omega)
          have HU := hid hU
          have HS2 := hid hS2
          have HE1 := hid e1
          have HE2 := hid e2
          have hfr : (f : Int) + ((r : Int) + 1) - 1 = ((f + r : Nat) : Int) := by omega
          have HFR := hid hfr
          clear hU hS hS2 e1 e2 HR hfr
          go_wp2_with fail
          rw [HFR.out]
          refine (enter_uw HU.out (by omega) ((f + r : Nat) : Int) ((0 : Nat) : Int)).mono ?_
          rintro e w3 ⟨rfl, h3⟩
          rw [HE1.out, HE2.out, errVal_zero rfl]
          have H3 := hid h3
          have HQ := hid (rs_ring h3.us.inv HS2.out (by omega))
          clear h3
          go_wp2_with fail
          refine (ring_uw H3.out).mono ?_
          rintro e w4 ⟨a4, n4, d4, rfl, hn4, hs4, h4b⟩
          rw [HQ.out] at hn4 hs4
          have H4 := hid h4b
          obtain ⟨m, base, _, _, _, ho4, _⟩ := h4b
          have HS4 := hid hs4
          have HO4 := hid ho4.sl
          have HN4 := hid hn4
          have HLL : Hid ((rsL f (r + 1)).length ≤ 1000000000000) := hid (by simp [rsL]; omega)
          obtain ⟨a9, c9, hv9⟩ := ho4.sl.val
          subst hv9
          clear hs4 ho4 hn4
          go_wp2_with fail
          refine (ints_any _ _ (rsL f (r + 1)) (rsL f (r + 1)) _ (by have := HS4.out; rw [HN4.out] at this ⊢; exact this) HO4.out HLL.out).mono ?_
          rintro e w5 ⟨rfl, hb5⟩
          rw [show decide (rsL f (r + 1) = rsL f (r + 1)) = true from decide_eq_true rfl]
          have HF := hid (H4.out.us.out.trans (hb5.mono H4.out.us.out.size))
          clear hb5
          go_wp2
          go_ret
          exact ⟨rfl, HF.out⟩
end Go.Proofs.Ytmfhmikihnjkcaa.locks
