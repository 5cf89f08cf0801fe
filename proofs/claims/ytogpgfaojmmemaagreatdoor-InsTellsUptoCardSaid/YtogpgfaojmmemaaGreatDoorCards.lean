/-
  DERIVED. GIVEN WITH THE SEED: THE CARDS: each row of YtogpgfaojmmemaaGreatDoorRows.lean that lists a variable, with what it lists TIED to the program's text (the seventh form; the later family's looks); each row that meets fmt, with fmt's text TOLD by the authors' own Lean function (tested against real Go, not proved from fmt's source: count such statements apart). THE CARD IS WHAT COUNTS. Prove the row's statement (the work); the ties are given (YtogpgfaojmmemaaGreatDoorTie.lean); close each card by the builder's one call (the guide's Derived/Test/ToyasCard.lean, 'card_holds'). Laid BY PROGRAM, IN A SANDBOX (cutbox-door.mjs). By AI agents, Wed Nov 11 2026. No macro, syntax, notation, axiom, sorry.
-/
import Derived.Test.YtogpgfaojmmemaaGreatDoorRows
import GoSem.ClaimSeven
namespace Go.Proofs.YtogpgfaojmmemaaGreatDoor
namespace Rows

/-- THE TIED CARD OF 'coffeehouselaw4.CallTells'. -/
def callTellsCard : Claim7 := { stood := { row := callTellsRow, standIns := [], harness := (true, "946baeb0185e1a87d4a370591b27c8d5b088dec31cca84027145d8abbdf12945"), looks := true }, kinds := [], alts := [], laidByText := true, laidKinds := [.data, .pinned], laidTests := true, laidLooks := .later }
def CallTellsCardSaid : Prop := Claim7.holds Tryz.pinned (.plain (OpenSpec.ofChange callTellsSpec)) callTellsCard

/-- THE TIED CARD OF 'coffeehouselaw1.InsTells'. -/
def insTellsCard : Claim7 := { stood := { row := insTellsRow, standIns := [], harness := (true, "946baeb0185e1a87d4a370591b27c8d5b088dec31cca84027145d8abbdf12945"), looks := true }, kinds := [], alts := [], laidByText := true, laidKinds := [.data, .data, .data, .data, .sentinel, .sentinel, .data, .pinned], laidTests := true, laidLooks := .later }
def InsTellsCardSaid : Prop := Claim7.holds Tryz.pinned (.plain (OpenSpec.ofChange insTellsSpec)) insTellsCard

/-- THE TIED CARD OF 'coffeehouselaw1.FileTells'. -/
def fileTellsCard : Claim7 := { stood := { row := fileTellsRow, standIns := [], harness := (true, "946baeb0185e1a87d4a370591b27c8d5b088dec31cca84027145d8abbdf12945"), looks := true }, kinds := [], alts := [], laidByText := true, laidKinds := [.data, .data, .data, .data, .sentinel, .data, .pinned], laidTests := true, laidLooks := .later }
def FileTellsCardSaid : Prop := Claim7.holds Tryz.pinned (.plain (OpenSpec.ofChange fileTellsSpec)) fileTellsCard

/-- THE SECOND FORM's CARD OF 'coffeehouselaw4.CallTells'. -/
def callTellsUptoCard : Claim7 := { stood := { row := callTellsUptoRow, standIns := [], harness := (true, "946baeb0185e1a87d4a370591b27c8d5b088dec31cca84027145d8abbdf12945"), looks := true }, kinds := [], alts := [], laidByText := true, laidKinds := [.data, .pinned], laidTests := true, laidLooks := .later }
def CallTellsUptoCardSaid : Prop := Claim7.holds Tryz.pinned (.plain (OpenSpec.upto callTellsSpec)) callTellsUptoCard

/-- THE SECOND FORM's CARD OF 'coffeehouselaw1.InsTells'. -/
def insTellsUptoCard : Claim7 := { stood := { row := insTellsUptoRow, standIns := [], harness := (true, "946baeb0185e1a87d4a370591b27c8d5b088dec31cca84027145d8abbdf12945"), looks := true }, kinds := [], alts := [], laidByText := true, laidKinds := [.data, .data, .data, .data, .sentinel, .sentinel, .data, .pinned], laidTests := true, laidLooks := .later }
def InsTellsUptoCardSaid : Prop := Claim7.holds Tryz.pinned (.plain (OpenSpec.upto insTellsSpec)) insTellsUptoCard

/-- THE SECOND FORM's CARD OF 'coffeehouselaw1.FileTells'. -/
def fileTellsUptoCard : Claim7 := { stood := { row := fileTellsUptoRow, standIns := [], harness := (true, "946baeb0185e1a87d4a370591b27c8d5b088dec31cca84027145d8abbdf12945"), looks := true }, kinds := [], alts := [], laidByText := true, laidKinds := [.data, .data, .data, .data, .sentinel, .data, .pinned], laidTests := true, laidLooks := .later }
def FileTellsUptoCardSaid : Prop := Claim7.holds Tryz.pinned (.plain (OpenSpec.upto fileTellsSpec)) fileTellsUptoCard
end Rows
end Go.Proofs.YtogpgfaojmmemaaGreatDoor
