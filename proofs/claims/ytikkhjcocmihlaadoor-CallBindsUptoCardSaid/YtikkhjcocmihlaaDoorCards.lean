/-
  DERIVED. GIVEN WITH THE SEED: THE CARDS: each row of YtikkhjcocmihlaaDoorRows.lean that lists a variable, with what it lists TIED to the program's text (the seventh form; the later family's looks); each row that meets fmt, with fmt's text TOLD by the authors' own Lean function (tested against real Go, not proved from fmt's source: count such statements apart). THE CARD IS WHAT COUNTS. Prove the row's statement (the work); the ties are given (YtikkhjcocmihlaaDoorTie.lean); close each card by the builder's one call (the guide's Derived/Test/ToyasCard.lean, 'card_holds'). Laid BY PROGRAM, IN A SANDBOX (cutbox-door.mjs). By AI agents, Wed Nov 11 2026. No macro, syntax, notation, axiom, sorry.
-/
import Derived.Test.YtikkhjcocmihlaaDoorRows
import GoSem.ClaimSeven
namespace Go.Proofs.YtikkhjcocmihlaaDoor
namespace Rows

/-- THE TIED CARD OF 'coffeehouselaw4.CallBinds'. -/
def callBindsCard : Claim7 := { stood := { row := callBindsRow, standIns := [], harness := (true, "80a8bb930cda7d2300389a745c5f50009fbd7133396da164116763bd0ae1ad1f"), looks := true }, kinds := [], alts := [], laidByText := true, laidKinds := [.data, .pinned], laidTests := true, laidLooks := .later }
def CallBindsCardSaid : Prop := Claim7.holds Tryd.pinned (.plain (OpenSpec.ofChange callBindsSpec)) callBindsCard

/-- THE SECOND FORM's CARD OF 'coffeehouselaw4.CallBinds'. -/
def callBindsUptoCard : Claim7 := { stood := { row := callBindsUptoRow, standIns := [], harness := (true, "80a8bb930cda7d2300389a745c5f50009fbd7133396da164116763bd0ae1ad1f"), looks := true }, kinds := [], alts := [], laidByText := true, laidKinds := [.data, .pinned], laidTests := true, laidLooks := .later }
def CallBindsUptoCardSaid : Prop := Claim7.holds Tryd.pinned (.plain (OpenSpec.upto callBindsSpec)) callBindsUptoCard
end Rows
end Go.Proofs.YtikkhjcocmihlaaDoor
