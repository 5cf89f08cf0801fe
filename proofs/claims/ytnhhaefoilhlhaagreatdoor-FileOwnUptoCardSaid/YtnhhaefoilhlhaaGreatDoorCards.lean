/-
  DERIVED. GIVEN WITH THE SEED: THE CARDS: each row of YtnhhaefoilhlhaaGreatDoorRows.lean that lists a variable, with what it lists TIED to the program's text (the seventh form; the later family's looks); each row that meets fmt, with fmt's text TOLD by the authors' own Lean function (tested against real Go, not proved from fmt's source: count such statements apart). THE CARD IS WHAT COUNTS. Prove the row's statement (the work); the ties are given (YtnhhaefoilhlhaaGreatDoorTie.lean); close each card by the builder's one call (the guide's Derived/Test/ToyasCard.lean, 'card_holds'). Laid BY PROGRAM, IN A SANDBOX (cutbox-door.mjs). By AI agents, Wed Nov 11 2026. No macro, syntax, notation, axiom, sorry.
-/
import Derived.Test.YtnhhaefoilhlhaaGreatDoorRows
import GoSem.ClaimSeven
namespace Go.Proofs.YtnhhaefoilhlhaaGreatDoor
namespace Rows

/-- THE TIED CARD OF 'coffeehouselaw1.FileBack'. -/
def fileBackCard : Claim7 := { stood := { row := fileBackRow, standIns := [], harness := (true, "13f8befd8f927b1096f7ee2baae50b3e2951746b5b382a06daba1683b72fb831"), looks := true }, kinds := [], alts := [], laidByText := true, laidKinds := [.data, .data, .data, .data, .sentinel, .sentinel, .sentinel, .data, .pinned], laidTests := true, laidLooks := .later }
def FileBackCardSaid : Prop := Claim7.holds Tryz.pinned (.plain (OpenSpec.ofChange fileBackSpec)) fileBackCard

/-- THE TIED CARD OF 'coffeehouselaw1.FileTurned'. -/
def fileTurnedCard : Claim7 := { stood := { row := fileTurnedRow, standIns := [], harness := (true, "13f8befd8f927b1096f7ee2baae50b3e2951746b5b382a06daba1683b72fb831"), looks := true }, kinds := [], alts := [], laidByText := true, laidKinds := [.data, .data, .data, .data, .sentinel, .sentinel, .sentinel, .data, .pinned], laidTests := true, laidLooks := .later }
def FileTurnedCardSaid : Prop := Claim7.holds Tryz.pinned (.plain (OpenSpec.ofChange fileTurnedSpec)) fileTurnedCard

/-- THE TIED CARD OF 'coffeehouselaw5.FileOwn'. -/
def fileOwnCard : Claim7 := { stood := { row := fileOwnRow, standIns := [], harness := (true, "13f8befd8f927b1096f7ee2baae50b3e2951746b5b382a06daba1683b72fb831"), looks := true }, kinds := [], alts := [], laidByText := true, laidKinds := [.data, .data, .data, .data, .sentinel, .sentinel, .sentinel, .data, .pinned], laidTests := true, laidLooks := .later }
def FileOwnCardSaid : Prop := Claim7.holds Tryz.pinned (.plain (OpenSpec.ofChange fileOwnSpec)) fileOwnCard

/-- THE SECOND FORM's CARD OF 'coffeehouselaw1.FileBack'. -/
def fileBackUptoCard : Claim7 := { stood := { row := fileBackUptoRow, standIns := [], harness := (true, "13f8befd8f927b1096f7ee2baae50b3e2951746b5b382a06daba1683b72fb831"), looks := true }, kinds := [], alts := [], laidByText := true, laidKinds := [.data, .data, .data, .data, .sentinel, .sentinel, .sentinel, .data, .pinned], laidTests := true, laidLooks := .later }
def FileBackUptoCardSaid : Prop := Claim7.holds Tryz.pinned (.plain (OpenSpec.upto fileBackSpec)) fileBackUptoCard

/-- THE SECOND FORM's CARD OF 'coffeehouselaw1.FileTurned'. -/
def fileTurnedUptoCard : Claim7 := { stood := { row := fileTurnedUptoRow, standIns := [], harness := (true, "13f8befd8f927b1096f7ee2baae50b3e2951746b5b382a06daba1683b72fb831"), looks := true }, kinds := [], alts := [], laidByText := true, laidKinds := [.data, .data, .data, .data, .sentinel, .sentinel, .sentinel, .data, .pinned], laidTests := true, laidLooks := .later }
def FileTurnedUptoCardSaid : Prop := Claim7.holds Tryz.pinned (.plain (OpenSpec.upto fileTurnedSpec)) fileTurnedUptoCard

/-- THE SECOND FORM's CARD OF 'coffeehouselaw5.FileOwn'. -/
def fileOwnUptoCard : Claim7 := { stood := { row := fileOwnUptoRow, standIns := [], harness := (true, "13f8befd8f927b1096f7ee2baae50b3e2951746b5b382a06daba1683b72fb831"), looks := true }, kinds := [], alts := [], laidByText := true, laidKinds := [.data, .data, .data, .data, .sentinel, .sentinel, .sentinel, .data, .pinned], laidTests := true, laidLooks := .later }
def FileOwnUptoCardSaid : Prop := Claim7.holds Tryz.pinned (.plain (OpenSpec.upto fileOwnSpec)) fileOwnUptoCard
end Rows
end Go.Proofs.YtnhhaefoilhlhaaGreatDoor
