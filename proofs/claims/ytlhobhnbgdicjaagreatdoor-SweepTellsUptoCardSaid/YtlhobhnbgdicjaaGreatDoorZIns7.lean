/- Instructions: the reference's InsFault, joined. Condition: the type's text is shorter than ten million bytes. -/
import Derived.Test.YtlhobhnbgdicjaaGreatDoorZIns7a
import Derived.Test.YtlhobhnbgdicjaaGreatDoorZIns7b
import Derived.Test.YtlhobhnbgdicjaaGreatDoorZIns7c
import Derived.Test.YtlhobhnbgdicjaaGreatDoorZIns7d
import Derived.Test.YtlhobhnbgdicjaaGreatDoorZIns4
namespace Go.Proofs.YtlhobhnbgdicjaaGreatDoor.ins
open Go.RowKit lib errs names descs
set_option maxHeartbeats 1000000 in
theorem fault_out (op a b : Int) (t c n : ByteArray) (w : World) (ho : op < 1 ∨ 28 < op) :
  Calls Tryz.prog 90 #[.agg #[.int .i64 op, .int .i64 a, .int .i64 b, .string t, .string c, .string n]] w fun e w' => e = .returned (.int .i64 (insFault ⟨op, a, b, t, c, n⟩)) ∧ Below w.heap.size w w' := by
 have HS : Hid (insFault ⟨op, a, b, t, c, n⟩ = 1) := hid (by unfold insFault; rw [if_pos ho])
 have HE := hid (ext_alloc w (.cells #[.int .i64 op, .int .i64 a, .int .i64 b, .string t, .string c, .string n] 108))
 by_cases h1 : op < 1
 ·clear ho
  go_enter Tryz.func90, Tryz.ntmps90
  go_wp2
  go_ret
  rw [HS.out]
  exact ⟨rfl, HE.out⟩
 ·have h2 : 28 < op := by omega
  clear ho
  go_enter Tryz.func90, Tryz.ntmps90
  go_wp2
  go_ret
  rw [HS.out]
  exact ⟨rfl, HE.out⟩
theorem insFault_any (op a b : Int) (t c n : ByteArray) (w : World) (ht : t.size ≤ 10000000) (hc : c.size ≤ 9223372036854775807) (hn : n.size ≤ 9223372036854775807) :
  Calls Tryz.prog 90 #[.agg #[.int .i64 op, .int .i64 a, .int .i64 b, .string t, .string c, .string n]] w fun e w' => e = .returned (.int .i64 (insFault ⟨op, a, b, t, c, n⟩)) ∧ Below w.heap.size w w' := by
 by_cases ho : op < 1 ∨ 28 < op
 ·exact fault_out op a b t c n w ho
 obtain ⟨k, rfl⟩ : ∃ k : Nat, op = (k : Int) := ⟨op.toNat, by omega⟩
 have h1 : 1 ≤ k := by omega
 have h2 : k ≤ 28 := by omega
 have h0 : 1 ≤ (k : Int) ∧ (k : Int) ≤ 28 := by omega
 match k, h1, h2 with
 | 1, _, _ => exact rclassZ _ a b t c n w (hid fun w => needs1 w) h0 rfl rfl rfl rfl rfl rfl (by decide) (by decide) (by decide) (by decide) ht hc hn
 | 2, _, _ => exact rclassAT _ a b t c n w (hid fun w => needs2 w) h0 rfl rfl rfl (by decide) ht hc hn
 | 3, _, _ => exact rclassZ _ a b t c n w (hid fun w => needs3 w) h0 rfl rfl rfl rfl rfl rfl (by decide) (by decide) (by decide) (by decide) ht hc hn
 | 4, _, _ => exact rclassA _ a b t c n w (hid fun w => needs4 w) h0 rfl rfl rfl rfl (by decide) ht hc hn
 | 5, _, _ => exact rclassA _ a b t c n w (hid fun w => needs5 w) h0 rfl rfl rfl rfl (by decide) ht hc hn
 | 6, _, _ => exact rclassZ _ a b t c n w (hid fun w => needs6 w) h0 rfl rfl rfl rfl rfl rfl (by decide) (by decide) (by decide) (by decide) ht hc hn
 | 7, _, _ => exact rclassZ _ a b t c n w (hid fun w => needs7 w) h0 rfl rfl rfl rfl rfl rfl (by decide) (by decide) (by decide) (by decide) ht hc hn
 | 8, _, _ => exact rclassZ _ a b t c n w (hid fun w => needs8 w) h0 rfl rfl rfl rfl rfl rfl (by decide) (by decide) (by decide) (by decide) ht hc hn
 | 9, _, _ => exact rclassAT _ a b t c n w (hid fun w => needs9 w) h0 rfl rfl rfl (by decide) ht hc hn
 | 10, _, _ => exact rclassT _ a b t c n w (hid fun w => needs10 w) h0 rfl rfl rfl rfl rfl rfl (by decide) (by decide) (by decide) (by decide) ht hc hn
 | 11, _, _ => exact rclassZ _ a b t c n w (hid fun w => needs11 w) h0 rfl rfl rfl rfl rfl rfl (by decide) (by decide) (by decide) (by decide) ht hc hn
 | 12, _, _ => exact rclassAB _ a b t c n w (hid fun w => needs12 w) h0 rfl rfl rfl (by decide) ht hc hn
 | 13, _, _ => exact rclassA _ a b t c n w (hid fun w => needs13 w) h0 rfl rfl rfl rfl (by decide) ht hc hn
 | 14, _, _ => exact rclassA _ a b t c n w (hid fun w => needs14 w) h0 rfl rfl rfl rfl (by decide) ht hc hn
 | 15, _, _ => exact rclassC _ a b t c n w (hid fun w => needs15 w) h0 rfl rfl rfl rfl rfl rfl (by decide) (by decide) (by decide) (by decide) ht hc hn
 | 16, _, _ => exact rclassCN _ a b t c n w (hid fun w => needs16 w) h0 rfl rfl rfl rfl rfl rfl (by decide) (by decide) (by decide) (by decide) ht hc hn
 | 17, _, _ => exact rclassCN _ a b t c n w (hid fun w => needs17 w) h0 rfl rfl rfl rfl rfl rfl (by decide) (by decide) (by decide) (by decide) ht hc hn
 | 18, _, _ => exact rclassT _ a b t c n w (hid fun w => needs18 w) h0 rfl rfl rfl rfl rfl rfl (by decide) (by decide) (by decide) (by decide) ht hc hn
 | 19, _, _ => exact rclassZ _ a b t c n w (hid fun w => needs19 w) h0 rfl rfl rfl rfl rfl rfl (by decide) (by decide) (by decide) (by decide) ht hc hn
 | 20, _, _ => exact rclassT _ a b t c n w (hid fun w => needs20 w) h0 rfl rfl rfl rfl rfl rfl (by decide) (by decide) (by decide) (by decide) ht hc hn
 | 21, _, _ => exact rclassT _ a b t c n w (hid fun w => needs21 w) h0 rfl rfl rfl rfl rfl rfl (by decide) (by decide) (by decide) (by decide) ht hc hn
 | 22, _, _ => exact rclassT _ a b t c n w (hid fun w => needs22 w) h0 rfl rfl rfl rfl rfl rfl (by decide) (by decide) (by decide) (by decide) ht hc hn
 | 23, _, _ => exact rclassT _ a b t c n w (hid fun w => needs23 w) h0 rfl rfl rfl rfl rfl rfl (by decide) (by decide) (by decide) (by decide) ht hc hn
 | 24, _, _ => exact rclassTCN _ a b t c n w (hid fun w => needs24 w) h0 rfl rfl rfl rfl rfl rfl (by decide) (by decide) (by decide) (by decide) ht hc hn
 | 25, _, _ => exact rclassTCN _ a b t c n w (hid fun w => needs25 w) h0 rfl rfl rfl rfl rfl rfl (by decide) (by decide) (by decide) (by decide) ht hc hn
 | 26, _, _ => exact rclassZ _ a b t c n w (hid fun w => needs26 w) h0 rfl rfl rfl rfl rfl rfl (by decide) (by decide) (by decide) (by decide) ht hc hn
 | 27, _, _ => exact rclassZ _ a b t c n w (hid fun w => needs27 w) h0 rfl rfl rfl rfl rfl rfl (by decide) (by decide) (by decide) (by decide) ht hc hn
 | 28, _, _ => exact rclassZ _ a b t c n w (hid fun w => needs28 w) h0 rfl rfl rfl rfl rfl rfl (by decide) (by decide) (by decide) (by decide) ht hc hn
 | k + 29, _, h => omega
end Go.Proofs.YtlhobhnbgdicjaaGreatDoor.ins
