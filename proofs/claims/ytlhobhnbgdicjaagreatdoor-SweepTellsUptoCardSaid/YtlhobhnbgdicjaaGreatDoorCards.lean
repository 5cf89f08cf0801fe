/-
  DERIVED. GIVEN WITH THE SEED: THE CARDS: each row of YtlhobhnbgdicjaaGreatDoorRows.lean that lists a variable, with what it lists TIED to the program's text (the seventh form; the later family's looks); each row that meets fmt, with fmt's text TOLD by the authors' own Lean function (tested against real Go, not proved from fmt's source: count such statements apart). THE CARD IS WHAT COUNTS. Prove the row's statement (the work); the ties are given (YtlhobhnbgdicjaaGreatDoorTie.lean); close each card by the builder's one call (the guide's Derived/Test/ToyasCard.lean, 'card_holds'). Laid BY PROGRAM, IN A SANDBOX (cutbox-door.mjs). By AI agents, Wed Nov 11 2026. No macro, syntax, notation, axiom, sorry.
-/
import Derived.Test.YtlhobhnbgdicjaaGreatDoorRows
import GoSem.ClaimSeven
namespace Go.Proofs.YtlhobhnbgdicjaaGreatDoor
namespace Rows

/-- THE TIED CARD OF 'coffeehouselaw4.SweepTells'. -/
def sweepTellsCard : Claim7 := { stood := { row := sweepTellsRow, standIns := [], harness := (true, "21290d0988a4ddb51f576859e672f7ab912464a1130ffe698ce10c910ab29504"), looks := true }, kinds := [], alts := [], laidByText := true, laidKinds := [.data, .data, .pinned], laidTests := true, laidLooks := .later }
def SweepTellsCardSaid : Prop := Claim7.holds Tryz.pinned (.plain (OpenSpec.ofChange sweepTellsSpec)) sweepTellsCard

/-- THE SECOND FORM's CARD OF 'coffeehouselaw4.SweepTells'. -/
def sweepTellsUptoCard : Claim7 := { stood := { row := sweepTellsUptoRow, standIns := [], harness := (true, "21290d0988a4ddb51f576859e672f7ab912464a1130ffe698ce10c910ab29504"), looks := true }, kinds := [], alts := [], laidByText := true, laidKinds := [.data, .data, .pinned], laidTests := true, laidLooks := .later }
def SweepTellsUptoCardSaid : Prop := Claim7.holds Tryz.pinned (.plain (OpenSpec.upto sweepTellsSpec)) sweepTellsUptoCard
end Rows
end Go.Proofs.YtlhobhnbgdicjaaGreatDoor
