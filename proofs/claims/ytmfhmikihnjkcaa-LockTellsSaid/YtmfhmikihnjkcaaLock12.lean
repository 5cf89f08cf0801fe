/- Locks: the law LockAgain: its states (plain) and its walk. Condition: the arguments are 64-bit numbers. -/
import Derived.Test.YtmfhmikihnjkcaaLock11
namespace Go.Proofs.Ytmfhmikihnjkcaa.locks
open Go.RowKit Go.Proofs.Ytmfhmikihnjkcaa.lib Go.Proofs.Ytmfhmikihnjkcaa.maps Go.Proofs.Ytmfhmikihnjkcaa.errs

/-- the thing k: u has it t times; who waits at all -/
def Ss (A : St) (k u t : Int) (W : List (Int × Int)) : Prop := (0 < t → A.who k = u) ∧ A.times k = t ∧ A.waits = W
abbrev In50 (x : Int) : Prop := 0 ≤ x ∧ x < 50
theorem ss_new (k u : Int) : Ss St.new k u 0 [] := ⟨fun h => absurd h (by decide), rfl, rfl⟩
theorem ss_fault {A : St} {k u t : Int} {W : List (Int × Int)} (h : Ss A k u t W) {x : Int} (hx : In50 x) (hk : In50 k) (hw : ∀ q ∈ W, q.1 ≠ x) : fault A x k = 0 :=
  fault_no (by unfold In50 at hx hk; omega) (waitsFor_none.2 (by rw [h.2.2]; exact hw))
theorem ss_more {A : St} {k x t : Int} (h : Ss A k x t []) (hx : In50 x) (hk : In50 k) : enterOk A x k = true ∧ fault A x k = 0 ∧ Ss (enterSt A x k) k x (t + 1) [] := by
  have hf := ss_fault h hx hk (fun q hq => by cases hq)
  have hh : ¬ held A x k := fun ⟨h1, h2⟩ => h2 (h.1 (by rw [h.2.1] at h1; exact h1))
  refine ⟨by unfold enterOk; rw [decide_eq_true_eq]; exact ⟨hf, hh⟩, hf, ?_⟩
  rw [enterSt, if_neg (by rw [hf]; simp), if_neg hh]
  exact ⟨fun _ => upd_same _ _ _, by show upd A.times k (A.times k + 1) k = _; rw [upd_same, h.2.1], h.2.2⟩
theorem ss_wait {A : St} {k x y t : Int} (h : Ss A k x t []) (hy : In50 y) (hk : In50 k) (ht : 0 < t) (hxy : x ≠ y) : enterOk A y k = false ∧ fault A y k = 0 ∧ Ss (enterSt A y k) k x t [(y, k)] := by
  have hf := ss_fault h hy hk (fun q hq => by cases hq)
  have hh : held A y k := ⟨by rw [h.2.1]; exact ht, by rw [h.1 ht]; exact hxy⟩
  refine ⟨by unfold enterOk; rw [decide_eq_false_iff_not]; exact fun h2 => h2.2 hh, hf, ?_⟩
  rw [enterSt, if_neg (by rw [hf]; simp), if_pos hh]
  exact ⟨h.1, h.2.1, by show A.waits ++ [(y, k)] = _; rw [h.2.2]; rfl⟩
theorem ss_waiting {A : St} {k x y t : Int} (h : Ss A k x t [(y, k)]) : waiting A k = [y] := by unfold waiting; rw [h.2.2]; simp
theorem ss_nobody {A : St} {k x t : Int} (h : Ss A k x t []) : waiting A k = [] := by unfold waiting; rw [h.2.2]; simp
theorem ss_twice {A : St} {k x y t : Int} (h : Ss A k x t [(y, k)]) (hy : In50 y) (hk : In50 k) : leaveFault A y k = 5 ∧ leaveSt A y k = A := by
  have hf : fault A y k = 5 := fault_twice (y := k) (by unfold In50 at hy hk; omega) (by unfold waitsFor; rw [h.2.2]; simp)
  have hl : leaveFault A y k = 5 := by unfold leaveFault; rw [if_pos (by rw [hf]; decide), hf]
  exact ⟨hl, by rw [leaveSt, if_pos (by rw [hl]; decide)]⟩
theorem ss_leaves {A : St} {k x t : Int} {W : List (Int × Int)} (h : Ss A k x t W) (hx : In50 x) (hk : In50 k) (ht : 0 < t) (hw : ∀ q ∈ W, q.1 ≠ x) : leaveFault A x k = 0 := by
  have hf := ss_fault h hx hk hw
  unfold leaveFault
  rw [if_neg (by rw [hf]; simp), if_neg]
  rintro (h1 | h1)
  · rw [h.2.1] at h1; omega
  · exact h1 (h.1 ht)
theorem ss_less {A : St} {k x t : Int} {W : List (Int × Int)} (h : Ss A k x t W) (hx : In50 x) (hk : In50 k) (ht : 1 < t) (hw : ∀ q ∈ W, q.1 ≠ x) : Ss (leaveSt A x k) k x (t - 1) W := by
  have hl := ss_leaves h hx hk (by omega) hw
  rw [leaveSt, if_neg (by rw [hl]; simp), if_pos (by rw [h.2.1]; exact ht)]
  exact ⟨fun _ => h.1 (by omega), by show upd A.times k (A.times k - 1) k = _; rw [upd_same, h.2.1], h.2.2⟩
theorem ss_next {A : St} {k x y : Int} (h : Ss A k x 1 [(y, k)]) (hx : In50 x) (hk : In50 k) (hxy : y ≠ x) : Ss (leaveSt A x k) k y 1 [] := by
  have hl := ss_leaves h hx hk (by omega) (fun q hq => by rw [List.mem_singleton.1 hq]; exact hxy)
  rw [leaveSt, if_neg (by rw [hl]; simp), if_neg (by rw [h.2.1]; decide), ss_waiting h]
  exact ⟨fun _ => upd_same _ _ _, upd_same _ _ _, by show A.waits.eraseP _ = _; rw [h.2.2]; simp⟩
theorem ss_gone {A : St} {k x : Int} (h : Ss A k x 1 []) (hx : In50 x) (hk : In50 k) : Ss (leaveSt A x k) k x 0 [] := by
  have hl := ss_leaves h hx hk (by omega) (fun q hq => by cases hq)
  rw [leaveSt, if_neg (by rw [hl]; simp), if_neg (by rw [h.2.1]; decide), ss_nobody h]
  exact ⟨fun h0 => absurd h0 (by decide), by show upd A.times k (A.times k - 1) k = _; rw [upd_same, h.2.1]; rfl, h.2.2⟩

theorem mod50 (n m : Int) (hm : 0 < m) (hm2 : m ≤ 1000) : ∃ k : Nat, wrap64 ((IntKind.u64.wrap n).tmod m) = (k : Int) ∧ (k : Int) < m := by
  have hu : 0 ≤ IntKind.u64.wrap n := by rw [IntKind.wrap_u64]; omega
  generalize IntKind.u64.wrap n = u at hu
  have h1 := Int.tmod_nonneg m hu
  have h2 := Int.tmod_lt_of_pos u hm
  refine ⟨(u.tmod m).toNat, ?_, by omega⟩
  rw [IntWalk.wrap64_in _ (by omega)]
  omega
theorem run_neq_iface (w : World) (a b : Int) : (binOp .neq 27 (.iface 33 (.int .i64 a)) (.iface 33 (.int .i64 b))).run Try.prog w = .ok (.bool (!(a == b))) w := by
  obtain ⟨i, hi, hc⟩ := errno_info
  simp only [binOp]
  simp [Op.equal, Op.maxDepth, run_equalIn_iface_int w 9998 a b Try.underlying27 Try.underlying33 hi hc]

set_option maxRecDepth 100000 in
set_option maxHeartbeats 8000000 in
theorem again_any (a b wh n : Int) (w : World) (_ha : -9223372036854775808 ≤ a ∧ a ≤ 9223372036854775807) :
    Calls Try.prog 3 #[.int .i64 a, .int .i64 b, .int .i64 wh, .int .i64 n] w fun e w' => e = .returned (.bool true) ∧ Below w.heap.size w w' := by
  obtain ⟨x, hxe, hx⟩ := mod50 a 50 (by decide) (by decide)
  obtain ⟨y, hye, hy⟩ := mod50 b 50 (by decide) (by decide)
  obtain ⟨k, hke, hk⟩ := mod50 wh 50 (by decide) (by decide)
  obtain ⟨q, hqe, hq⟩ := mod50 n 20 (by decide) (by decide)
  go_enter Try.func3, Try.ntmps3
  go_wp2_with fail
  refine (locked_any w).mono ?_
  rintro e w1 ⟨rfl, hb1⟩
  have HB1 := hid hb1
  clear hb1
  go_wp2_with fail
  refine (new_us w _ HB1.out).mono ?_
  rintro e w2 ⟨p, rfl, h2⟩
  have H2 := hid h2
  clear h2
  have k20 : 1 + (q : Int) = ((q + 1 : Nat) : Int) := by omega
  have K20 := hid k20
  clear k20
  by_cases hxy : (x : Int) = (y : Int)
  · have hxy2 : ((x : Int) == (y : Int)) = true := by rw [hxy]; simp
    clear hxy
    go_wp2
    go_ret
    exact ⟨rfl, H2.out.out⟩
  have hxy2 : ((x : Int) == (y : Int)) = false := by simpa using hxy
  have HXY := hid hxy
  clear hxy
  go_wp2_with fail
  rw [hxe, hye, hke, hqe, K20.out]
  have hx50 : In50 (x : Int) := ⟨by omega, hx⟩
  have hy50 : In50 (y : Int) := ⟨by omega, hy⟩
  have hk50 : In50 (k : Int) := ⟨by omega, hk⟩
  have HX := hid hx50
  have HY := hid hy50
  have HK := hid hk50
  obtain ⟨M, hM⟩ : ∃ M, q + 1 = M := ⟨_, rfl⟩
  have hM1 : 1 ≤ M := by omega
  have hM2 : M ≤ 20 := by omega
  rw [hM]
  generalize (x : Int) = X at HX HXY
  generalize (y : Int) = Y at HY HXY
  generalize (k : Int) = K at HK
  clear hx50 hy50 hk50 hx hy hk hxe hye hke hqe K20 hxy2 hM hq
  go_loopw [15] (fun i wr => ∃ j : Nat, j ≤ M ∧ i = .int .i64 j ∧ Hid (∃ A, US w wr p A j ∧ Ss A K X j [])) (fun i _ => M - (intOf i).toNat)
  case atStart => exact ⟨0, Nat.zero_le _, rfl, hid ⟨_, H2.out, ss_new _ _⟩⟩
  case round =>
    obtain ⟨j, hj, rfl, HR⟩ := hrel
    clear H2
    by_cases hlt : j < M
    · have hli : (j : Int) < (M : Int) := by omega
      obtain ⟨A, hU, hS⟩ := HR.out
      obtain ⟨e1, e2, hS2⟩ := ss_more hS HX.out HK.out
      have HU := hid hU
      have HS2 := hid hS2
      have HE1 := hid e1
      have HE2 := hid e2
      clear hU hS hS2 e1 e2 HR
      go_wp2_with fail
      refine (enter_us HU.out (by omega) X K).mono ?_
      rintro e w3 ⟨rfl, h3⟩
      rw [HE1.out, HE2.out, errVal_zero rfl]
      have H3 := hid h3
      clear h3
      go_wp2
      go_roundw
      case rel => exact ⟨j + 1, by omega, by go_num, hid ⟨_, H3.out, HS2.out⟩⟩
      case measure => simp [intOf]; omega
    · obtain rfl : j = M := by omega
      obtain ⟨A, hU, hS⟩ := HR.out
      obtain ⟨e1, e2, hS2⟩ := ss_wait hS HY.out HK.out (by omega) HXY.out
      have HU := hid hU
      have HS2 := hid hS2
      have HE1 := hid e1
      have HE2 := hid e2
      clear hU hS hS2 e1 e2 HR
      go_wp2_with fail
      refine (enter_us HU.out (by omega) Y K).mono ?_
      rintro e w3 ⟨rfl, h3⟩
      rw [HE1.out, HE2.out, errVal_zero rfl]
      have H3 := hid h3
      clear h3
      go_wp2_with fail
      generalize enterSt A Y K = B at H3 HS2
      clear HU HE1 HE2 hlt hj
      have hneq := run_neq_iface
      go_loopw [20] (fun i wr => ∃ r : Nat, r ≤ j ∧ i = .int .i64 r ∧ Hid (∃ A c, US w wr p A c ∧ c ≤ 100 + 2 * r ∧ (r < j → Ss A K X ((j : Int) - r) [(Y, K)]) ∧ (r = j → Ss A K Y 1 []))) (fun i _ => j - (intOf i).toNat)
      case atStart => exact ⟨0, Nat.zero_le _, rfl, hid ⟨_, _, H3.out, by omega, fun _ => by have := HS2.out; rwa [show (j : Int) - ((0 : Nat) : Int) = (j : Int) by omega], fun h => by omega⟩⟩
      case round =>
        obtain ⟨r, hr, rfl, HR⟩ := hrel
        clear H3 HS2
        by_cases hlt : r < j
        · have hli : (r : Int) < (j : Int) := by omega
          obtain ⟨A, c, hU, hc, hS, _⟩ := HR.out
          have hS := hS hlt
          have HU := hid hU
          have HS := hid hS
          obtain ⟨l1, l2⟩ := ss_twice hS HY.out HK.out
          have HL1 := hid l1
          have HL2 := hid l2
          have HL3 := hid (ss_leaves hS HX.out HK.out (by omega) (fun q hq => by rw [List.mem_singleton.1 hq]; exact fun e => HXY.out e.symm))
          have HW := hid (ss_waiting hS)
          have HN : Hid ((r + 1 < j → Ss (leaveSt A X K) K X ((j : Int) - ((r + 1 : Nat) : Int)) [(Y, K)]) ∧ (r + 1 = j → Ss (leaveSt A X K) K Y 1 [])) := hid (by
            refine ⟨fun h1 => ?_, fun h1 => ?_⟩
            · have := ss_less hS HX.out HK.out (by omega) (fun q hq => by rw [List.mem_singleton.1 hq]; exact fun e => HXY.out e.symm)
              rwa [show (j : Int) - r - 1 = (j : Int) - ((r + 1 : Nat) : Int) by omega] at this
            · rw [show (j : Int) - r = 1 by omega] at hS
              exact ss_next hS HX.out HK.out (fun e => HXY.out e.symm))
          clear hU hS l1 l2 HR
          go_wp2_with fail
          refine (waiting_us HU.out (by omega) K).mono ?_
          rintro e w4 ⟨a4, n4, d4, rfl, hn4, _, h4⟩
          rw [HW.out] at hn4
          have hn5 : n4 = 1 := hn4
          subst hn5
          have H4 := hid h4
          clear h4 hn4
          go_wp2_with fail
          refine (leave_us H4.out (by omega) Y K).mono ?_
          rintro e w5 ⟨rfl, h5⟩
          rw [HL1.out, errVal_ne (by decide)]
          rw [HL2.out] at h5
          have H5 := hid h5
          clear h5
          go_wp2_with fail
          refine (leave_us H5.out (by omega) X K).mono ?_
          rintro e w6 ⟨rfl, h6⟩
          rw [HL3.out, errVal_zero rfl]
          have H6 := hid h6
          clear h6
          go_wp2
          go_roundw
          case rel => exact ⟨r + 1, by omega, by go_num, hid ⟨_, _, H6.out, by omega, HN.out⟩⟩
          case measure => simp [intOf]; omega
        · obtain rfl : r = j := by omega
          obtain ⟨A, c, hU, hc, _, hS⟩ := HR.out
          have hS := hS rfl
          have HU := hid hU
          obtain ⟨e1, e2, hS2⟩ := ss_wait hS HX.out HK.out (by decide) (fun e => HXY.out e.symm)
          have HE1 := hid e1
          have HE2 := hid e2
          have HW := hid (ss_waiting hS2)
          have HL1 := hid (ss_leaves hS2 HY.out HK.out (by decide) (fun q hq => by rw [List.mem_singleton.1 hq]; exact HXY.out))
          have hS3 := ss_next hS2 HY.out HK.out HXY.out
          have HL2 := hid (ss_leaves hS3 HX.out HK.out (by decide) (fun q hq => by cases hq))
          have hS4 := ss_gone hS3 HX.out HK.out
          have HW2 := hid (ss_nobody hS4)
          clear hU hS hS2 hS3 hS4 e1 e2 HR
          go_wp2_with fail
          refine (enter_us HU.out (by omega) X K).mono ?_
          rintro e w4 ⟨rfl, h4⟩
          rw [HE1.out, HE2.out, errVal_zero rfl]
          have H4 := hid h4
          clear h4
          go_wp2_with fail
          refine (waiting_us H4.out (by omega) K).mono ?_
          rintro e w5 ⟨a5, n5, d5, rfl, hn5, _, h5⟩
          rw [HW.out] at hn5
          have hn6 : n5 = 1 := hn5
          subst hn6
          have H5 := hid h5
          clear h5 hn5
          go_wp2_with fail
          refine (leave_us H5.out (by omega) Y K).mono ?_
          rintro e w6 ⟨rfl, h6⟩
          rw [HL1.out, errVal_zero rfl]
          have H6 := hid h6
          clear h6
          go_wp2_with fail
          refine (leave_us H6.out (by omega) X K).mono ?_
          rintro e w7 ⟨rfl, h7⟩
          rw [HL2.out, errVal_zero rfl]
          have H7 := hid h7
          clear h7
          go_wp2_with fail
          refine (waiting_us H7.out (by omega) K).mono ?_
          rintro e w8 ⟨a8, n8, d8, rfl, hn8, _, h8⟩
          rw [HW2.out] at hn8
          have hn9 : n8 = 0 := hn8
          subst hn9
          have H8 := hid h8
          clear h8 hn8
          go_wp2
          go_ret
          exact ⟨rfl, H8.out.out⟩
end Go.Proofs.Ytmfhmikihnjkcaa.locks
