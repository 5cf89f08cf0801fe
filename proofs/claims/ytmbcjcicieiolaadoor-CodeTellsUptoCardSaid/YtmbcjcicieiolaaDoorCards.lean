/-
  DERIVED. GIVEN WITH THE SEED: THE CARDS: each row of YtmbcjcicieiolaaDoorRows.lean that lists a variable, with what it lists TIED to the program's text (the seventh form; the later family's looks); each row that meets fmt, with fmt's text TOLD by the authors' own Lean function (tested against real Go, not proved from fmt's source: count such statements apart). THE CARD IS WHAT COUNTS. Prove the row's statement (the work); the ties are given (YtmbcjcicieiolaaDoorTie.lean); close each card by the builder's one call (the guide's Derived/Test/ToyasCard.lean, 'card_holds'). Laid BY PROGRAM, IN A SANDBOX (cutbox-door.mjs). By AI agents, Wed Nov 11 2026. No macro, syntax, notation, axiom, sorry.
-/
import Derived.Test.YtmbcjcicieiolaaDoorRows
import GoSem.ClaimSeven
namespace Go.Proofs.YtmbcjcicieiolaaDoor
namespace Rows

/-- THE TIED CARD OF 'coffeehouselaw4.FoldTells'. -/
def foldTellsCard : Claim7 := { stood := { row := foldTellsRow, standIns := [], harness := (true, "e3dd55d7cc62925295c5ba8f55bbfbde6aa2b910510aaf53b850385945db45f1"), looks := true }, kinds := [], alts := [], laidByText := true, laidKinds := [.data, .data, .pinned], laidTests := true, laidLooks := .later }
def FoldTellsCardSaid : Prop := Claim7.holds Tryd.pinned (.plain (OpenSpec.ofChange foldTellsSpec)) foldTellsCard

/-- THE TIED CARD OF 'coffeehouselaw4.FoldEnds'. -/
def foldEndsCard : Claim7 := { stood := { row := foldEndsRow, standIns := [], harness := (true, "e3dd55d7cc62925295c5ba8f55bbfbde6aa2b910510aaf53b850385945db45f1"), looks := true }, kinds := [], alts := [], laidByText := true, laidKinds := [.data, .data, .pinned], laidTests := true, laidLooks := .later }
def FoldEndsCardSaid : Prop := Claim7.holds Tryd.pinned (.plain (OpenSpec.ofChange foldEndsSpec)) foldEndsCard

/-- THE TIED CARD OF 'coffeehouselaw4.HandTells'. -/
def handTellsCard : Claim7 := { stood := { row := handTellsRow, standIns := [], harness := (true, "e3dd55d7cc62925295c5ba8f55bbfbde6aa2b910510aaf53b850385945db45f1"), looks := true }, kinds := [], alts := [], laidByText := true, laidKinds := [.data, .pinned], laidTests := true, laidLooks := .later }
def HandTellsCardSaid : Prop := Claim7.holds Tryd.pinned (.plain (OpenSpec.ofChange handTellsSpec)) handTellsCard

/-- THE TIED CARD OF 'coffeehouselaw1.CodeTells'. -/
def codeTellsCard : Claim7 := { stood := { row := codeTellsRow, standIns := [], harness := (true, "e3dd55d7cc62925295c5ba8f55bbfbde6aa2b910510aaf53b850385945db45f1"), looks := true }, kinds := [], alts := [], laidByText := true, laidKinds := [.data, .data, .data, .data, .data, .pinned], laidTests := true, laidLooks := .later }
def CodeTellsCardSaid : Prop := Claim7.holds Tryd.pinned (.plain (OpenSpec.ofChange codeTellsSpec)) codeTellsCard

/-- THE SECOND FORM's CARD OF 'coffeehouselaw4.FoldTells'. -/
def foldTellsUptoCard : Claim7 := { stood := { row := foldTellsUptoRow, standIns := [], harness := (true, "e3dd55d7cc62925295c5ba8f55bbfbde6aa2b910510aaf53b850385945db45f1"), looks := true }, kinds := [], alts := [], laidByText := true, laidKinds := [.data, .data, .pinned], laidTests := true, laidLooks := .later }
def FoldTellsUptoCardSaid : Prop := Claim7.holds Tryd.pinned (.plain (OpenSpec.upto foldTellsSpec)) foldTellsUptoCard

/-- THE SECOND FORM's CARD OF 'coffeehouselaw4.FoldEnds'. -/
def foldEndsUptoCard : Claim7 := { stood := { row := foldEndsUptoRow, standIns := [], harness := (true, "e3dd55d7cc62925295c5ba8f55bbfbde6aa2b910510aaf53b850385945db45f1"), looks := true }, kinds := [], alts := [], laidByText := true, laidKinds := [.data, .data, .pinned], laidTests := true, laidLooks := .later }
def FoldEndsUptoCardSaid : Prop := Claim7.holds Tryd.pinned (.plain (OpenSpec.upto foldEndsSpec)) foldEndsUptoCard

/-- THE SECOND FORM's CARD OF 'coffeehouselaw4.HandTells'. -/
def handTellsUptoCard : Claim7 := { stood := { row := handTellsUptoRow, standIns := [], harness := (true, "e3dd55d7cc62925295c5ba8f55bbfbde6aa2b910510aaf53b850385945db45f1"), looks := true }, kinds := [], alts := [], laidByText := true, laidKinds := [.data, .pinned], laidTests := true, laidLooks := .later }
def HandTellsUptoCardSaid : Prop := Claim7.holds Tryd.pinned (.plain (OpenSpec.upto handTellsSpec)) handTellsUptoCard

/-- THE SECOND FORM's CARD OF 'coffeehouselaw1.CodeTells'. -/
def codeTellsUptoCard : Claim7 := { stood := { row := codeTellsUptoRow, standIns := [], harness := (true, "e3dd55d7cc62925295c5ba8f55bbfbde6aa2b910510aaf53b850385945db45f1"), looks := true }, kinds := [], alts := [], laidByText := true, laidKinds := [.data, .data, .data, .data, .data, .pinned], laidTests := true, laidLooks := .later }
def CodeTellsUptoCardSaid : Prop := Claim7.holds Tryd.pinned (.plain (OpenSpec.upto codeTellsSpec)) codeTellsUptoCard
end Rows
end Go.Proofs.YtmbcjcicieiolaaDoor
