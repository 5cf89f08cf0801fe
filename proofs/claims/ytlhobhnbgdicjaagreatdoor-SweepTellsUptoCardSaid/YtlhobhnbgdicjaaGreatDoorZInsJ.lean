/- Which instructions jump, as the document says. No condition. -/
import Derived.Test.YtlhobhnbgdicjaaGreatDoorZIns1
namespace Go.Proofs.YtlhobhnbgdicjaaGreatDoor.ins
open Go.RowKit lib
set_option maxHeartbeats 400000 in
theorem rjumps_any (op : Int) (w : World) : Calls Tryz.prog 91 #[.int .i64 op] w fun e w' => e = .returned (.bool (jumpsOp op)) ∧ w = w' := by
 go_enter Tryz.func91, Tryz.ntmps91
 go_wp2
 all_goals go_ret
 all_goals exact ⟨by first | rfl | simp_all [jumpsOp], rfl⟩
end Go.Proofs.YtlhobhnbgdicjaaGreatDoor.ins
