/- coffeehousesame.Error: an error value against a code. No condition. -/
import Derived.Test.YtnhhaefoilhlhaaGreatDoorErrV
namespace Go.Proofs.YtnhhaefoilhlhaaGreatDoor.errs
open Go.RowKit Go.Proofs.YtnhhaefoilhlhaaGreatDoor.lib

end Go.Proofs.YtnhhaefoilhlhaaGreatDoor.errs

/- coffeehousesame.Error of an error and its own code. No condition. -/
namespace Go.Proofs.YtnhhaefoilhlhaaGreatDoor.errs
open Go.RowKit Go.Proofs.YtnhhaefoilhlhaaGreatDoor.lib

end Go.Proofs.YtnhhaefoilhlhaaGreatDoor.errs
