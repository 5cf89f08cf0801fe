/-
  DERIVED. GIVEN WITH THE SEED: THE CARDS: each row of YtkfkdbmgmifopaaGreatDoorRows.lean that lists a variable, with what it lists TIED to the program's text (the seventh form; the later family's looks); each row that meets fmt, with fmt's text TOLD by the authors' own Lean function (tested against real Go, not proved from fmt's source: count such statements apart). THE CARD IS WHAT COUNTS. Prove the row's statement (the work); the ties are given (YtkfkdbmgmifopaaGreatDoorTie.lean); close each card by the builder's one call (the guide's Derived/Test/ToyasCard.lean, 'card_holds'). Laid BY PROGRAM, IN A SANDBOX (cutbox-door.mjs). By AI agents, Wed Nov 11 2026. No macro, syntax, notation, axiom, sorry.
-/
import Derived.Test.YtkfkdbmgmifopaaGreatDoorRows
import GoSem.ClaimSeven
namespace Go.Proofs.YtkfkdbmgmifopaaGreatDoor
namespace Rows

/-- THE TIED CARD OF 'coffeehouselaw5.SweepOwn'. -/
def sweepOwnCard : Claim7 := { stood := { row := sweepOwnRow, standIns := [], harness := (true, "2ade4b706f3da3f45ccb8821fa95d2049e884b8badf9df39e5255315ab78e391"), looks := true }, kinds := [], alts := [], laidByText := true, laidKinds := [.data, .data, .pinned], laidTests := true, laidLooks := .later }
def SweepOwnCardSaid : Prop := Claim7.holds Tryz.pinned (.plain (OpenSpec.ofChange sweepOwnSpec)) sweepOwnCard

/-- THE TIED CARD OF 'coffeehouselaw5.HeapOwn'. -/
def heapOwnCard : Claim7 := { stood := { row := heapOwnRow, standIns := [], harness := (true, "2ade4b706f3da3f45ccb8821fa95d2049e884b8badf9df39e5255315ab78e391"), looks := true }, kinds := [], alts := [], laidByText := true, laidKinds := [.data, .data, .pinned], laidTests := true, laidLooks := .later }
def HeapOwnCardSaid : Prop := Claim7.holds Tryz.pinned (.plain (OpenSpec.ofChange heapOwnSpec)) heapOwnCard

/-- THE TIED CARD OF 'coffeehouselaw4.SweepTells'. -/
def sweepTellsCard : Claim7 := { stood := { row := sweepTellsRow, standIns := [], harness := (true, "2ade4b706f3da3f45ccb8821fa95d2049e884b8badf9df39e5255315ab78e391"), looks := true }, kinds := [], alts := [], laidByText := true, laidKinds := [.data, .data, .pinned], laidTests := true, laidLooks := .later }
def SweepTellsCardSaid : Prop := Claim7.holds Tryz.pinned (.plain (OpenSpec.ofChange sweepTellsSpec)) sweepTellsCard

/-- THE TIED CARD OF 'coffeehouselaw4.SweepTwice'. -/
def sweepTwiceCard : Claim7 := { stood := { row := sweepTwiceRow, standIns := [], harness := (true, "2ade4b706f3da3f45ccb8821fa95d2049e884b8badf9df39e5255315ab78e391"), looks := true }, kinds := [], alts := [], laidByText := true, laidKinds := [.data, .data, .pinned], laidTests := true, laidLooks := .later }
def SweepTwiceCardSaid : Prop := Claim7.holds Tryz.pinned (.plain (OpenSpec.ofChange sweepTwiceSpec)) sweepTwiceCard

/-- THE TIED CARD OF 'coffeehouselaw4.SweepMore'. -/
def sweepMoreCard : Claim7 := { stood := { row := sweepMoreRow, standIns := [], harness := (true, "2ade4b706f3da3f45ccb8821fa95d2049e884b8badf9df39e5255315ab78e391"), looks := true }, kinds := [], alts := [], laidByText := true, laidKinds := [.data, .data, .pinned], laidTests := true, laidLooks := .later }
def SweepMoreCardSaid : Prop := Claim7.holds Tryz.pinned (.plain (OpenSpec.ofChange sweepMoreSpec)) sweepMoreCard

/-- THE SECOND FORM's CARD OF 'coffeehouselaw5.SweepOwn'. -/
def sweepOwnUptoCard : Claim7 := { stood := { row := sweepOwnUptoRow, standIns := [], harness := (true, "2ade4b706f3da3f45ccb8821fa95d2049e884b8badf9df39e5255315ab78e391"), looks := true }, kinds := [], alts := [], laidByText := true, laidKinds := [.data, .data, .pinned], laidTests := true, laidLooks := .later }
def SweepOwnUptoCardSaid : Prop := Claim7.holds Tryz.pinned (.plain (OpenSpec.upto sweepOwnSpec)) sweepOwnUptoCard

/-- THE SECOND FORM's CARD OF 'coffeehouselaw5.HeapOwn'. -/
def heapOwnUptoCard : Claim7 := { stood := { row := heapOwnUptoRow, standIns := [], harness := (true, "2ade4b706f3da3f45ccb8821fa95d2049e884b8badf9df39e5255315ab78e391"), looks := true }, kinds := [], alts := [], laidByText := true, laidKinds := [.data, .data, .pinned], laidTests := true, laidLooks := .later }
def HeapOwnUptoCardSaid : Prop := Claim7.holds Tryz.pinned (.plain (OpenSpec.upto heapOwnSpec)) heapOwnUptoCard

/-- THE SECOND FORM's CARD OF 'coffeehouselaw4.SweepTells'. -/
def sweepTellsUptoCard : Claim7 := { stood := { row := sweepTellsUptoRow, standIns := [], harness := (true, "2ade4b706f3da3f45ccb8821fa95d2049e884b8badf9df39e5255315ab78e391"), looks := true }, kinds := [], alts := [], laidByText := true, laidKinds := [.data, .data, .pinned], laidTests := true, laidLooks := .later }
def SweepTellsUptoCardSaid : Prop := Claim7.holds Tryz.pinned (.plain (OpenSpec.upto sweepTellsSpec)) sweepTellsUptoCard

/-- THE SECOND FORM's CARD OF 'coffeehouselaw4.SweepTwice'. -/
def sweepTwiceUptoCard : Claim7 := { stood := { row := sweepTwiceUptoRow, standIns := [], harness := (true, "2ade4b706f3da3f45ccb8821fa95d2049e884b8badf9df39e5255315ab78e391"), looks := true }, kinds := [], alts := [], laidByText := true, laidKinds := [.data, .data, .pinned], laidTests := true, laidLooks := .later }
def SweepTwiceUptoCardSaid : Prop := Claim7.holds Tryz.pinned (.plain (OpenSpec.upto sweepTwiceSpec)) sweepTwiceUptoCard

/-- THE SECOND FORM's CARD OF 'coffeehouselaw4.SweepMore'. -/
def sweepMoreUptoCard : Claim7 := { stood := { row := sweepMoreUptoRow, standIns := [], harness := (true, "2ade4b706f3da3f45ccb8821fa95d2049e884b8badf9df39e5255315ab78e391"), looks := true }, kinds := [], alts := [], laidByText := true, laidKinds := [.data, .data, .pinned], laidTests := true, laidLooks := .later }
def SweepMoreUptoCardSaid : Prop := Claim7.holds Tryz.pinned (.plain (OpenSpec.upto sweepMoreSpec)) sweepMoreUptoCard
end Rows
end Go.Proofs.YtkfkdbmgmifopaaGreatDoor
