/- Error values, by their codes. No condition. -/
import Derived.Test.YtloonnfelgokmaaGreatDoorZLib
import Derived.Test.YtloonnfelgokmaaGreatDoorRows
import Derived.LaidEql
set_option maxRecDepth 100000
set_option maxHeartbeats 16000000
set_option linter.unusedSimpArgs false
set_option linter.unusedVariables false
namespace Go.Proofs.YtloonnfelgokmaaGreatDoor.errs
open Go.RowKit lib
section
variable {P : Program} (w : World)
end
def errVal (e : Int) : Value := if e = 0 then .nilIface else .iface 53 (.int .i64 e)
end Go.Proofs.YtloonnfelgokmaaGreatDoor.errs
