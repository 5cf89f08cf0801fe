/- A slice of texts, cell by cell. No condition. -/
import Derived.Test.YtloonnfelgokmaaGreatDoorZLib
set_option maxRecDepth 100000
set_option maxHeartbeats 16000000
set_option linter.unusedSimpArgs false
set_option linter.unusedVariables false
namespace Go.Proofs.YtloonnfelgokmaaGreatDoor.texts
open Go.RowKit lib
end Go.Proofs.YtloonnfelgokmaaGreatDoor.texts
