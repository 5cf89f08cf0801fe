/- Instructions: the reference's Needs. No condition. -/
import Derived.Test.YtloeaihbnnnncaaGreatDoorInsJ
import Derived.Test.YtloeaihbnnnncaaGreatDoorIns1
import Derived.Test.YtloeaihbnnnncaaGreatDoorRet
namespace Go.Proofs.YtloeaihbnnnncaaGreatDoor.ins
open Go.RowKit Go.Proofs.YtloeaihbnnnncaaGreatDoor.lib Go.Proofs.YtloeaihbnnnncaaGreatDoor.errs Go.Proofs.YtloeaihbnnnncaaGreatDoor.names Go.Proofs.YtloeaihbnnnncaaGreatDoor.descs

set_option maxHeartbeats 1000000 in
theorem needs1 (w : World) : Calls Tryz.prog 44 #[.int .i64 1] w fun e w' => e = .returned (.agg #[.bool (needA 1), .bool (needB 1), .bool (needT 1), .bool (needC 1), .bool (needN 1)]) ∧ Below w.heap.size w w' := by
  go_enter Tryz.func44, Tryz.ntmps44
  go_wp2_with fail
  refine (rjumps_any _ _).mono ?_
  rintro e w1 ⟨rfl, rfl⟩
  rw [show jumpsOp 1 = false from rfl]
  go_wp2
  exact bodyPost_ret (results_cell_new rfl _ w _ _ _ rfl Tryz.underlying107 rfl (by kernel_rfl)) rfl ⟨rfl, ext_alloc _ _⟩

set_option maxHeartbeats 1000000 in
theorem needs2 (w : World) : Calls Tryz.prog 44 #[.int .i64 2] w fun e w' => e = .returned (.agg #[.bool (needA 2), .bool (needB 2), .bool (needT 2), .bool (needC 2), .bool (needN 2)]) ∧ Below w.heap.size w w' := by
  go_enter Tryz.func44, Tryz.ntmps44
  go_wp2
  exact bodyPost_ret (results_cell_new rfl _ w _ _ _ rfl Tryz.underlying107 rfl (by kernel_rfl)) rfl ⟨rfl, ext_alloc _ _⟩

set_option maxHeartbeats 1000000 in
theorem needs3 (w : World) : Calls Tryz.prog 44 #[.int .i64 3] w fun e w' => e = .returned (.agg #[.bool (needA 3), .bool (needB 3), .bool (needT 3), .bool (needC 3), .bool (needN 3)]) ∧ Below w.heap.size w w' := by
  go_enter Tryz.func44, Tryz.ntmps44
  go_wp2_with fail
  refine (rjumps_any _ _).mono ?_
  rintro e w1 ⟨rfl, rfl⟩
  rw [show jumpsOp 3 = false from rfl]
  go_wp2
  exact bodyPost_ret (results_cell_new rfl _ w _ _ _ rfl Tryz.underlying107 rfl (by kernel_rfl)) rfl ⟨rfl, ext_alloc _ _⟩

set_option maxHeartbeats 1000000 in
theorem needs4 (w : World) : Calls Tryz.prog 44 #[.int .i64 4] w fun e w' => e = .returned (.agg #[.bool (needA 4), .bool (needB 4), .bool (needT 4), .bool (needC 4), .bool (needN 4)]) ∧ Below w.heap.size w w' := by
  go_enter Tryz.func44, Tryz.ntmps44
  go_wp2
  exact bodyPost_ret (results_cell_new rfl _ w _ _ _ rfl Tryz.underlying107 rfl (by kernel_rfl)) rfl ⟨rfl, ext_alloc _ _⟩

set_option maxHeartbeats 1000000 in
theorem needs5 (w : World) : Calls Tryz.prog 44 #[.int .i64 5] w fun e w' => e = .returned (.agg #[.bool (needA 5), .bool (needB 5), .bool (needT 5), .bool (needC 5), .bool (needN 5)]) ∧ Below w.heap.size w w' := by
  go_enter Tryz.func44, Tryz.ntmps44
  go_wp2
  exact bodyPost_ret (results_cell_new rfl _ w _ _ _ rfl Tryz.underlying107 rfl (by kernel_rfl)) rfl ⟨rfl, ext_alloc _ _⟩

set_option maxHeartbeats 1000000 in
theorem needs6 (w : World) : Calls Tryz.prog 44 #[.int .i64 6] w fun e w' => e = .returned (.agg #[.bool (needA 6), .bool (needB 6), .bool (needT 6), .bool (needC 6), .bool (needN 6)]) ∧ Below w.heap.size w w' := by
  go_enter Tryz.func44, Tryz.ntmps44
  go_wp2_with fail
  refine (rjumps_any _ _).mono ?_
  rintro e w1 ⟨rfl, rfl⟩
  rw [show jumpsOp 6 = false from rfl]
  go_wp2
  exact bodyPost_ret (results_cell_new rfl _ w _ _ _ rfl Tryz.underlying107 rfl (by kernel_rfl)) rfl ⟨rfl, ext_alloc _ _⟩

set_option maxHeartbeats 1000000 in
theorem needs7 (w : World) : Calls Tryz.prog 44 #[.int .i64 7] w fun e w' => e = .returned (.agg #[.bool (needA 7), .bool (needB 7), .bool (needT 7), .bool (needC 7), .bool (needN 7)]) ∧ Below w.heap.size w w' := by
  go_enter Tryz.func44, Tryz.ntmps44
  go_wp2_with fail
  refine (rjumps_any _ _).mono ?_
  rintro e w1 ⟨rfl, rfl⟩
  rw [show jumpsOp 7 = false from rfl]
  go_wp2
  exact bodyPost_ret (results_cell_new rfl _ w _ _ _ rfl Tryz.underlying107 rfl (by kernel_rfl)) rfl ⟨rfl, ext_alloc _ _⟩

set_option maxHeartbeats 1000000 in
theorem needs8 (w : World) : Calls Tryz.prog 44 #[.int .i64 8] w fun e w' => e = .returned (.agg #[.bool (needA 8), .bool (needB 8), .bool (needT 8), .bool (needC 8), .bool (needN 8)]) ∧ Below w.heap.size w w' := by
  go_enter Tryz.func44, Tryz.ntmps44
  go_wp2_with fail
  refine (rjumps_any _ _).mono ?_
  rintro e w1 ⟨rfl, rfl⟩
  rw [show jumpsOp 8 = false from rfl]
  go_wp2
  exact bodyPost_ret (results_cell_new rfl _ w _ _ _ rfl Tryz.underlying107 rfl (by kernel_rfl)) rfl ⟨rfl, ext_alloc _ _⟩

set_option maxHeartbeats 1000000 in
theorem needs9 (w : World) : Calls Tryz.prog 44 #[.int .i64 9] w fun e w' => e = .returned (.agg #[.bool (needA 9), .bool (needB 9), .bool (needT 9), .bool (needC 9), .bool (needN 9)]) ∧ Below w.heap.size w w' := by
  go_enter Tryz.func44, Tryz.ntmps44
  go_wp2
  exact bodyPost_ret (results_cell_new rfl _ w _ _ _ rfl Tryz.underlying107 rfl (by kernel_rfl)) rfl ⟨rfl, ext_alloc _ _⟩

set_option maxHeartbeats 1000000 in
theorem needs10 (w : World) : Calls Tryz.prog 44 #[.int .i64 10] w fun e w' => e = .returned (.agg #[.bool (needA 10), .bool (needB 10), .bool (needT 10), .bool (needC 10), .bool (needN 10)]) ∧ Below w.heap.size w w' := by
  go_enter Tryz.func44, Tryz.ntmps44
  go_wp2_with fail
  refine (rjumps_any _ _).mono ?_
  rintro e w1 ⟨rfl, rfl⟩
  rw [show jumpsOp 10 = false from rfl]
  go_wp2
  exact bodyPost_ret (results_cell_new rfl _ w _ _ _ rfl Tryz.underlying107 rfl (by kernel_rfl)) rfl ⟨rfl, ext_alloc _ _⟩

set_option maxHeartbeats 1000000 in
theorem needs11 (w : World) : Calls Tryz.prog 44 #[.int .i64 11] w fun e w' => e = .returned (.agg #[.bool (needA 11), .bool (needB 11), .bool (needT 11), .bool (needC 11), .bool (needN 11)]) ∧ Below w.heap.size w w' := by
  go_enter Tryz.func44, Tryz.ntmps44
  go_wp2_with fail
  refine (rjumps_any _ _).mono ?_
  rintro e w1 ⟨rfl, rfl⟩
  rw [show jumpsOp 11 = false from rfl]
  go_wp2
  exact bodyPost_ret (results_cell_new rfl _ w _ _ _ rfl Tryz.underlying107 rfl (by kernel_rfl)) rfl ⟨rfl, ext_alloc _ _⟩

set_option maxHeartbeats 1000000 in
theorem needs12 (w : World) : Calls Tryz.prog 44 #[.int .i64 12] w fun e w' => e = .returned (.agg #[.bool (needA 12), .bool (needB 12), .bool (needT 12), .bool (needC 12), .bool (needN 12)]) ∧ Below w.heap.size w w' := by
  go_enter Tryz.func44, Tryz.ntmps44
  go_wp2_with fail
  refine (rjumps_any _ _).mono ?_
  rintro e w1 ⟨rfl, rfl⟩
  rw [show jumpsOp 12 = true from rfl]
  go_wp2
  exact bodyPost_ret (results_cell_new rfl _ w _ _ _ rfl Tryz.underlying107 rfl (by kernel_rfl)) rfl ⟨rfl, ext_alloc _ _⟩

set_option maxHeartbeats 1000000 in
theorem needs13 (w : World) : Calls Tryz.prog 44 #[.int .i64 13] w fun e w' => e = .returned (.agg #[.bool (needA 13), .bool (needB 13), .bool (needT 13), .bool (needC 13), .bool (needN 13)]) ∧ Below w.heap.size w w' := by
  go_enter Tryz.func44, Tryz.ntmps44
  go_wp2_with fail
  refine (rjumps_any _ _).mono ?_
  rintro e w1 ⟨rfl, rfl⟩
  rw [show jumpsOp 13 = true from rfl]
  go_wp2
  exact bodyPost_ret (results_cell_new rfl _ w _ _ _ rfl Tryz.underlying107 rfl (by kernel_rfl)) rfl ⟨rfl, ext_alloc _ _⟩

set_option maxHeartbeats 1000000 in
theorem needs14 (w : World) : Calls Tryz.prog 44 #[.int .i64 14] w fun e w' => e = .returned (.agg #[.bool (needA 14), .bool (needB 14), .bool (needT 14), .bool (needC 14), .bool (needN 14)]) ∧ Below w.heap.size w w' := by
  go_enter Tryz.func44, Tryz.ntmps44
  go_wp2_with fail
  refine (rjumps_any _ _).mono ?_
  rintro e w1 ⟨rfl, rfl⟩
  rw [show jumpsOp 14 = true from rfl]
  go_wp2
  exact bodyPost_ret (results_cell_new rfl _ w _ _ _ rfl Tryz.underlying107 rfl (by kernel_rfl)) rfl ⟨rfl, ext_alloc _ _⟩

set_option maxHeartbeats 1000000 in
theorem needs15 (w : World) : Calls Tryz.prog 44 #[.int .i64 15] w fun e w' => e = .returned (.agg #[.bool (needA 15), .bool (needB 15), .bool (needT 15), .bool (needC 15), .bool (needN 15)]) ∧ Below w.heap.size w w' := by
  go_enter Tryz.func44, Tryz.ntmps44
  go_wp2_with fail
  refine (rjumps_any _ _).mono ?_
  rintro e w1 ⟨rfl, rfl⟩
  rw [show jumpsOp 15 = false from rfl]
  go_wp2
  exact bodyPost_ret (results_cell_new rfl _ w _ _ _ rfl Tryz.underlying107 rfl (by kernel_rfl)) rfl ⟨rfl, ext_alloc _ _⟩

set_option maxHeartbeats 1000000 in
theorem needs16 (w : World) : Calls Tryz.prog 44 #[.int .i64 16] w fun e w' => e = .returned (.agg #[.bool (needA 16), .bool (needB 16), .bool (needT 16), .bool (needC 16), .bool (needN 16)]) ∧ Below w.heap.size w w' := by
  go_enter Tryz.func44, Tryz.ntmps44
  go_wp2_with fail
  refine (rjumps_any _ _).mono ?_
  rintro e w1 ⟨rfl, rfl⟩
  rw [show jumpsOp 16 = false from rfl]
  go_wp2
  exact bodyPost_ret (results_cell_new rfl _ w _ _ _ rfl Tryz.underlying107 rfl (by kernel_rfl)) rfl ⟨rfl, ext_alloc _ _⟩

set_option maxHeartbeats 1000000 in
theorem needs17 (w : World) : Calls Tryz.prog 44 #[.int .i64 17] w fun e w' => e = .returned (.agg #[.bool (needA 17), .bool (needB 17), .bool (needT 17), .bool (needC 17), .bool (needN 17)]) ∧ Below w.heap.size w w' := by
  go_enter Tryz.func44, Tryz.ntmps44
  go_wp2_with fail
  refine (rjumps_any _ _).mono ?_
  rintro e w1 ⟨rfl, rfl⟩
  rw [show jumpsOp 17 = false from rfl]
  go_wp2
  exact bodyPost_ret (results_cell_new rfl _ w _ _ _ rfl Tryz.underlying107 rfl (by kernel_rfl)) rfl ⟨rfl, ext_alloc _ _⟩

set_option maxHeartbeats 1000000 in
theorem needs18 (w : World) : Calls Tryz.prog 44 #[.int .i64 18] w fun e w' => e = .returned (.agg #[.bool (needA 18), .bool (needB 18), .bool (needT 18), .bool (needC 18), .bool (needN 18)]) ∧ Below w.heap.size w w' := by
  go_enter Tryz.func44, Tryz.ntmps44
  go_wp2_with fail
  refine (rjumps_any _ _).mono ?_
  rintro e w1 ⟨rfl, rfl⟩
  rw [show jumpsOp 18 = false from rfl]
  go_wp2
  exact bodyPost_ret (results_cell_new rfl _ w _ _ _ rfl Tryz.underlying107 rfl (by kernel_rfl)) rfl ⟨rfl, ext_alloc _ _⟩

set_option maxHeartbeats 1000000 in
theorem needs19 (w : World) : Calls Tryz.prog 44 #[.int .i64 19] w fun e w' => e = .returned (.agg #[.bool (needA 19), .bool (needB 19), .bool (needT 19), .bool (needC 19), .bool (needN 19)]) ∧ Below w.heap.size w w' := by
  go_enter Tryz.func44, Tryz.ntmps44
  go_wp2_with fail
  refine (rjumps_any _ _).mono ?_
  rintro e w1 ⟨rfl, rfl⟩
  rw [show jumpsOp 19 = false from rfl]
  go_wp2
  exact bodyPost_ret (results_cell_new rfl _ w _ _ _ rfl Tryz.underlying107 rfl (by kernel_rfl)) rfl ⟨rfl, ext_alloc _ _⟩

set_option maxHeartbeats 1000000 in
theorem needs20 (w : World) : Calls Tryz.prog 44 #[.int .i64 20] w fun e w' => e = .returned (.agg #[.bool (needA 20), .bool (needB 20), .bool (needT 20), .bool (needC 20), .bool (needN 20)]) ∧ Below w.heap.size w w' := by
  go_enter Tryz.func44, Tryz.ntmps44
  go_wp2_with fail
  refine (rjumps_any _ _).mono ?_
  rintro e w1 ⟨rfl, rfl⟩
  rw [show jumpsOp 20 = false from rfl]
  go_wp2
  exact bodyPost_ret (results_cell_new rfl _ w _ _ _ rfl Tryz.underlying107 rfl (by kernel_rfl)) rfl ⟨rfl, ext_alloc _ _⟩

set_option maxHeartbeats 1000000 in
theorem needs21 (w : World) : Calls Tryz.prog 44 #[.int .i64 21] w fun e w' => e = .returned (.agg #[.bool (needA 21), .bool (needB 21), .bool (needT 21), .bool (needC 21), .bool (needN 21)]) ∧ Below w.heap.size w w' := by
  go_enter Tryz.func44, Tryz.ntmps44
  go_wp2_with fail
  refine (rjumps_any _ _).mono ?_
  rintro e w1 ⟨rfl, rfl⟩
  rw [show jumpsOp 21 = false from rfl]
  go_wp2
  exact bodyPost_ret (results_cell_new rfl _ w _ _ _ rfl Tryz.underlying107 rfl (by kernel_rfl)) rfl ⟨rfl, ext_alloc _ _⟩

set_option maxHeartbeats 1000000 in
theorem needs22 (w : World) : Calls Tryz.prog 44 #[.int .i64 22] w fun e w' => e = .returned (.agg #[.bool (needA 22), .bool (needB 22), .bool (needT 22), .bool (needC 22), .bool (needN 22)]) ∧ Below w.heap.size w w' := by
  go_enter Tryz.func44, Tryz.ntmps44
  go_wp2_with fail
  refine (rjumps_any _ _).mono ?_
  rintro e w1 ⟨rfl, rfl⟩
  rw [show jumpsOp 22 = false from rfl]
  go_wp2
  exact bodyPost_ret (results_cell_new rfl _ w _ _ _ rfl Tryz.underlying107 rfl (by kernel_rfl)) rfl ⟨rfl, ext_alloc _ _⟩

set_option maxHeartbeats 1000000 in
theorem needs23 (w : World) : Calls Tryz.prog 44 #[.int .i64 23] w fun e w' => e = .returned (.agg #[.bool (needA 23), .bool (needB 23), .bool (needT 23), .bool (needC 23), .bool (needN 23)]) ∧ Below w.heap.size w w' := by
  go_enter Tryz.func44, Tryz.ntmps44
  go_wp2_with fail
  refine (rjumps_any _ _).mono ?_
  rintro e w1 ⟨rfl, rfl⟩
  rw [show jumpsOp 23 = false from rfl]
  go_wp2
  exact bodyPost_ret (results_cell_new rfl _ w _ _ _ rfl Tryz.underlying107 rfl (by kernel_rfl)) rfl ⟨rfl, ext_alloc _ _⟩

set_option maxHeartbeats 1000000 in
theorem needs24 (w : World) : Calls Tryz.prog 44 #[.int .i64 24] w fun e w' => e = .returned (.agg #[.bool (needA 24), .bool (needB 24), .bool (needT 24), .bool (needC 24), .bool (needN 24)]) ∧ Below w.heap.size w w' := by
  go_enter Tryz.func44, Tryz.ntmps44
  go_wp2_with fail
  refine (rjumps_any _ _).mono ?_
  rintro e w1 ⟨rfl, rfl⟩
  rw [show jumpsOp 24 = false from rfl]
  go_wp2
  exact bodyPost_ret (results_cell_new rfl _ w _ _ _ rfl Tryz.underlying107 rfl (by kernel_rfl)) rfl ⟨rfl, ext_alloc _ _⟩

set_option maxHeartbeats 1000000 in
theorem needs25 (w : World) : Calls Tryz.prog 44 #[.int .i64 25] w fun e w' => e = .returned (.agg #[.bool (needA 25), .bool (needB 25), .bool (needT 25), .bool (needC 25), .bool (needN 25)]) ∧ Below w.heap.size w w' := by
  go_enter Tryz.func44, Tryz.ntmps44
  go_wp2_with fail
  refine (rjumps_any _ _).mono ?_
  rintro e w1 ⟨rfl, rfl⟩
  rw [show jumpsOp 25 = false from rfl]
  go_wp2
  exact bodyPost_ret (results_cell_new rfl _ w _ _ _ rfl Tryz.underlying107 rfl (by kernel_rfl)) rfl ⟨rfl, ext_alloc _ _⟩

set_option maxHeartbeats 1000000 in
theorem needs26 (w : World) : Calls Tryz.prog 44 #[.int .i64 26] w fun e w' => e = .returned (.agg #[.bool (needA 26), .bool (needB 26), .bool (needT 26), .bool (needC 26), .bool (needN 26)]) ∧ Below w.heap.size w w' := by
  go_enter Tryz.func44, Tryz.ntmps44
  go_wp2_with fail
  refine (rjumps_any _ _).mono ?_
  rintro e w1 ⟨rfl, rfl⟩
  rw [show jumpsOp 26 = false from rfl]
  go_wp2
  exact bodyPost_ret (results_cell_new rfl _ w _ _ _ rfl Tryz.underlying107 rfl (by kernel_rfl)) rfl ⟨rfl, ext_alloc _ _⟩

set_option maxHeartbeats 1000000 in
theorem needs27 (w : World) : Calls Tryz.prog 44 #[.int .i64 27] w fun e w' => e = .returned (.agg #[.bool (needA 27), .bool (needB 27), .bool (needT 27), .bool (needC 27), .bool (needN 27)]) ∧ Below w.heap.size w w' := by
  go_enter Tryz.func44, Tryz.ntmps44
  go_wp2_with fail
  refine (rjumps_any _ _).mono ?_
  rintro e w1 ⟨rfl, rfl⟩
  rw [show jumpsOp 27 = false from rfl]
  go_wp2
  exact bodyPost_ret (results_cell_new rfl _ w _ _ _ rfl Tryz.underlying107 rfl (by kernel_rfl)) rfl ⟨rfl, ext_alloc _ _⟩

set_option maxHeartbeats 1000000 in
theorem needs28 (w : World) : Calls Tryz.prog 44 #[.int .i64 28] w fun e w' => e = .returned (.agg #[.bool (needA 28), .bool (needB 28), .bool (needT 28), .bool (needC 28), .bool (needN 28)]) ∧ Below w.heap.size w w' := by
  go_enter Tryz.func44, Tryz.ntmps44
  go_wp2_with fail
  refine (rjumps_any _ _).mono ?_
  rintro e w1 ⟨rfl, rfl⟩
  rw [show jumpsOp 28 = false from rfl]
  go_wp2
  exact bodyPost_ret (results_cell_new rfl _ w _ _ _ rfl Tryz.underlying107 rfl (by kernel_rfl)) rfl ⟨rfl, ext_alloc _ _⟩

theorem needs_any (k : Nat) (h0 : 1 ≤ k) (h1 : k ≤ 28) (w : World) : Calls Tryz.prog 44 #[.int .i64 (k : Int)] w fun e w' => e = .returned (.agg #[.bool (needA k), .bool (needB k), .bool (needT k), .bool (needC k), .bool (needN k)]) ∧ Below w.heap.size w w' := by
  match k, h0, h1 with
  | 1, _, _ => exact needs1 w
  | 2, _, _ => exact needs2 w
  | 3, _, _ => exact needs3 w
  | 4, _, _ => exact needs4 w
  | 5, _, _ => exact needs5 w
  | 6, _, _ => exact needs6 w
  | 7, _, _ => exact needs7 w
  | 8, _, _ => exact needs8 w
  | 9, _, _ => exact needs9 w
  | 10, _, _ => exact needs10 w
  | 11, _, _ => exact needs11 w
  | 12, _, _ => exact needs12 w
  | 13, _, _ => exact needs13 w
  | 14, _, _ => exact needs14 w
  | 15, _, _ => exact needs15 w
  | 16, _, _ => exact needs16 w
  | 17, _, _ => exact needs17 w
  | 18, _, _ => exact needs18 w
  | 19, _, _ => exact needs19 w
  | 20, _, _ => exact needs20 w
  | 21, _, _ => exact needs21 w
  | 22, _, _ => exact needs22 w
  | 23, _, _ => exact needs23 w
  | 24, _, _ => exact needs24 w
  | 25, _, _ => exact needs25 w
  | 26, _, _ => exact needs26 w
  | 27, _, _ => exact needs27 w
  | 28, _, _ => exact needs28 w
  | k + 29, _, h => omega

end Go.Proofs.YtloeaihbnnnncaaGreatDoor.ins
