/- A world in which the listed package-level variables hold what the rows list: for the rows' witnesses. No condition. -/
import Derived.Test.YtklebfkbildifaaDoorRows
import Derived.WalkKit
import Derived.ProofKit
import Derived.OpenShut
import Derived.Deep.DeepHandedRow
namespace Go.Proofs.YtklebfkbildifaaDoor.laid
open Go.ChangeShapes Go.WideShapes Go.ChangeAt Go.RowKit

def c0 : DataW Unit → List Value
  | .lit (.int k n) => [.int k n]
  | .lit (.bool b) => [.bool b]
  | .lit (.string bs) => [.string ⟨bs.toArray⟩]
  | _ => []
def c1 : DataW Unit → List Value
  | .agg l => l.flatMap c0
  | d => c0 d
def c2 : DataW Unit → List Value
  | .agg l => l.flatMap c1
  | d => c0 d
def c3 : DataW Unit → List Value
  | .agg l => l.flatMap c2
  | d => c0 d
noncomputable def laidHeap (h : Array Obj) : List (String × DataW Unit) → Array Obj
  | [] => h
  | (n, d) :: r => laidHeap (h.modify ((Tryd.prog.globalNamed n).getD 0) fun | .cells _ t frozen => .cells (c3 d).toArray t frozen | o => o) r
noncomputable def laidWorld (os : Os) (l : List (String × DataW Unit)) : World :=
  { World.holding Tryd.prog os ⟨#[], #[], []⟩ with heap := laidHeap (World.holding Tryd.prog os ⟨#[], #[], []⟩).heap l }
end Go.Proofs.YtklebfkbildifaaDoor.laid
