/- Handles: how many subs a kind has; a leaf's type (plainly). No condition. -/
import Derived.Test.YtogpgfaojmmemaaDoorHand3
import Derived.Test.YtogpgfaojmmemaaDoorIns1
namespace Go.Proofs.YtogpgfaojmmemaaDoor.hands
open Go.RowKit Go.Proofs.YtogpgfaojmmemaaDoor.lib Go.Proofs.YtogpgfaojmmemaaDoor.errs Go.Proofs.YtogpgfaojmmemaaDoor.names Go.Proofs.YtogpgfaojmmemaaDoor.descs Go.Proofs.YtogpgfaojmmemaaDoor.ins

/-- how many subs a kind has -/
def subsN (k : Int) : Int := if k = 4 ∨ k = 6 then 1 else if k = 5 ∨ k = 7 then 2 else 0
/-- what is wrong with a leaf; 0: nothing -/
def leafF (k : Int) (t : List UInt8) (a : Int) : Int := if isWd t = false ∨ (k = 3 ∧ (a < 1 ∨ 12 < a)) then 1 else if k = 1 ∧ t = [73] ∧ ¬ (-2147483648 ≤ a ∧ a ≤ 2147483647) then 2 else 0
/-- a leaf's type -/
def leafT (k : Int) (t : List UInt8) (a : Int) : List UInt8 := if k = 1 then [40, 41] ++ t else if k = 2 ∨ a = 12 then [40] ++ t ++ [41] ++ t else [40] ++ t ++ (if 9 ≤ a ∧ a ≤ 11 then [73] else t) ++ [41] ++ t
def leafS (k : Int) (t : List UInt8) (a : Int) : List UInt8 := if leafF k t a = 0 then leafT k t a else []

end Go.Proofs.YtogpgfaojmmemaaDoor.hands
