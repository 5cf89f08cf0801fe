/- Which instructions jump, as the document says. No condition. -/
import Derived.Test.YtcbefaaipggakaaGreatDoorIns1
namespace Go.Proofs.YtcbefaaipggakaaGreatDoor.ins
open Go.RowKit Go.Proofs.YtcbefaaipggakaaGreatDoor.lib

set_option maxHeartbeats 400000 in
theorem rjumps_any (op : Int) (w : World) : Calls Tryz.prog 41 #[.int .i64 op] w fun e w' => e = .returned (.bool (jumpsOp op)) ∧ w = w' := by
  go_enter Tryz.func41, Tryz.ntmps41
  go_wp2
  all_goals go_ret
  all_goals exact ⟨by first | rfl | simp_all [jumpsOp], rfl⟩

end Go.Proofs.YtcbefaaipggakaaGreatDoor.ins
