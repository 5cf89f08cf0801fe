/- Which instructions jump, as the document says. No condition. -/
import Derived.Test.YtloeaihbnnnncaaGreatDoorIns1
namespace Go.Proofs.YtloeaihbnnnncaaGreatDoor.ins
open Go.RowKit Go.Proofs.YtloeaihbnnnncaaGreatDoor.lib

set_option maxHeartbeats 400000 in
theorem rjumps_any (op : Int) (w : World) : Calls Tryz.prog 46 #[.int .i64 op] w fun e w' => e = .returned (.bool (jumpsOp op)) ∧ w = w' := by
  go_enter Tryz.func46, Tryz.ntmps46
  go_wp2
  all_goals go_ret
  all_goals exact ⟨by first | rfl | simp_all [jumpsOp], rfl⟩

end Go.Proofs.YtloeaihbnnnncaaGreatDoor.ins
