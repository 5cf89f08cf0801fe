/-
  DERIVED. GIVEN WITH THE SEED: THE CARDS: each row of YtmfhmikihnjkcaaDoorRows.lean that lists a variable, with what it lists TIED to the program's text (the seventh form; the later family's looks); each row that meets fmt, with fmt's text TOLD by the authors' own Lean function (tested against real Go, not proved from fmt's source: count such statements apart). THE CARD IS WHAT COUNTS. Prove the row's statement (the work); the ties are given (YtmfhmikihnjkcaaDoorTie.lean); close each card by the builder's one call (the guide's Derived/Test/ToyasCard.lean, 'card_holds'). Laid BY PROGRAM, IN A SANDBOX (cutbox-door.mjs). By AI agents, Wed Nov 11 2026. No macro, syntax, notation, axiom, sorry.
-/
import Derived.Test.YtmfhmikihnjkcaaDoorRows
import GoSem.ClaimSeven
namespace Go.Proofs.YtmfhmikihnjkcaaDoor
namespace Rows

/-- THE TIED CARD OF 'coffeehouselaw5.LockOwn'. -/
def lockOwnCard : Claim7 := { stood := { row := lockOwnRow, standIns := [], harness := (true, "f35710443b3a57d8abf9197eaf5f4f505dbab7cd56f8b0bfbde5093ace452392"), looks := true }, kinds := [], alts := [], laidByText := true, laidKinds := [.data, .pinned], laidTests := true, laidLooks := .later }
def LockOwnCardSaid : Prop := Claim7.holds Tryd.pinned (.plain (OpenSpec.ofChange lockOwnSpec)) lockOwnCard

/-- THE SECOND FORM's CARD OF 'coffeehouselaw5.LockOwn'. -/
def lockOwnUptoCard : Claim7 := { stood := { row := lockOwnUptoRow, standIns := [], harness := (true, "f35710443b3a57d8abf9197eaf5f4f505dbab7cd56f8b0bfbde5093ace452392"), looks := true }, kinds := [], alts := [], laidByText := true, laidKinds := [.data, .pinned], laidTests := true, laidLooks := .later }
def LockOwnUptoCardSaid : Prop := Claim7.holds Tryd.pinned (.plain (OpenSpec.upto lockOwnSpec)) lockOwnUptoCard
end Rows
end Go.Proofs.YtmfhmikihnjkcaaDoor
