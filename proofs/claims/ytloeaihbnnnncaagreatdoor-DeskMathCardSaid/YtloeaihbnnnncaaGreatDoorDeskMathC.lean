/- The facts of the row, each checked as a lemma of its own. -/
import Derived.Test.YtloeaihbnnnncaaGreatDoorLaw
import Derived.Test.YtloeaihbnnnncaaGreatDoorCards
import Derived.Test.YtloeaihbnnnncaaGreatDoorTie
namespace Go.Proofs.YtloeaihbnnnncaaGreatDoor.deskMath
open Go.ChangeShapes Go.WideShapes Go.ChangeAt Go.RowKit
theorem and2 {a b : Bool} (h : a = true) (k : b = true) : (a && b) = true := by rw [h, k]; rfl
set_option maxRecDepth 100000 in
set_option maxHeartbeats 0 in
theorem closed : joinedFacts Tryz.prog 6 Tryz.f6 (OpenSpec.ofChange Rows.deskMathSpec).bare Rows.deskMathRow = true := by
  unfold joinedFacts
  refine and2 (and2 (and2 (and2 (and2 (and2 (and2 (and2 (and2 (and2 (and2 (and2 (and2 (and2 (and2 (and2 (and2 (and2 (and2 (and2 (and2 (and2 (and2 (and2 (and2 (and2 (and2 (and2 (and2 (and2 (and2 ?_ ?_) ?_) ?_) ?_) ?_) ?_) ?_) ?_) ?_) ?_) ?_) ?_) ?_) ?_) ?_) ?_) ?_) ?_) ?_) ?_) ?_) ?_) ?_) ?_) ?_) ?_) ?_) ?_) ?_) ?_) ?_
  all_goals as_aux_lemma => kernel_rfl

end Go.Proofs.YtloeaihbnnnncaaGreatDoor.deskMath
