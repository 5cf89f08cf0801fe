/-
  DERIVED. GIVEN WITH THE SEED: THE CARDS: each row of YtdnnnjedobknhaaDoorRows.lean that lists a variable, with what it lists TIED to the program's text (the seventh form; the later family's looks); each row that meets fmt, with fmt's text TOLD by the authors' own Lean function (tested against real Go, not proved from fmt's source: count such statements apart). THE CARD IS WHAT COUNTS. Prove the row's statement (the work); the ties are given (YtdnnnjedobknhaaDoorTie.lean); close each card by the builder's one call (the guide's Derived/Test/ToyasCard.lean, 'card_holds'). Laid BY PROGRAM, IN A SANDBOX (cutbox-door.mjs). By AI agents, Wed Nov 11 2026. No macro, syntax, notation, axiom, sorry.
-/
import Derived.Test.YtdnnnjedobknhaaDoorRows
import GoSem.ClaimSeven
namespace Go.Proofs.YtdnnnjedobknhaaDoor
namespace Rows

/-- THE TIED CARD OF 'coffeehouselaw4.MtypePermutes'. -/
def mtypePermutesCard : Claim7 := { stood := { row := mtypePermutesRow, standIns := [], harness := (true, "614f85ea9832e7923149804343193cdaa4cbd44424ee81582a67d7018cf49bc5"), looks := true }, kinds := [], alts := [], laidByText := true, laidKinds := [.data, .pinned], laidTests := true, laidLooks := .later }
def MtypePermutesCardSaid : Prop := Claim7.holds Tryd.pinned (.plain (OpenSpec.ofChange mtypePermutesSpec)) mtypePermutesCard

/-- THE TIED CARD OF 'coffeehouselaw1.FlowTells'. -/
def flowTellsCard : Claim7 := { stood := { row := flowTellsRow, standIns := [], harness := (true, "614f85ea9832e7923149804343193cdaa4cbd44424ee81582a67d7018cf49bc5"), looks := true }, kinds := [], alts := [], laidByText := true, laidKinds := [.data, .data, .pinned], laidTests := true, laidLooks := .later }
def FlowTellsCardSaid : Prop := Claim7.holds Tryd.pinned (.plain (OpenSpec.ofChange flowTellsSpec)) flowTellsCard

/-- THE TIED CARD OF 'coffeehouselaw1.FlowClosed'. -/
def flowClosedCard : Claim7 := { stood := { row := flowClosedRow, standIns := [], harness := (true, "614f85ea9832e7923149804343193cdaa4cbd44424ee81582a67d7018cf49bc5"), looks := true }, kinds := [], alts := [], laidByText := true, laidKinds := [.data, .data, .pinned], laidTests := true, laidLooks := .later }
def FlowClosedCardSaid : Prop := Claim7.holds Tryd.pinned (.plain (OpenSpec.ofChange flowClosedSpec)) flowClosedCard

/-- THE TIED CARD OF 'coffeehouselaw1.FlowBehind'. -/
def flowBehindCard : Claim7 := { stood := { row := flowBehindRow, standIns := [], harness := (true, "614f85ea9832e7923149804343193cdaa4cbd44424ee81582a67d7018cf49bc5"), looks := true }, kinds := [], alts := [], laidByText := true, laidKinds := [.data, .data, .pinned], laidTests := true, laidLooks := .later }
def FlowBehindCardSaid : Prop := Claim7.holds Tryd.pinned (.plain (OpenSpec.ofChange flowBehindSpec)) flowBehindCard

/-- THE TIED CARD OF 'coffeehouselaw5.FlowOwn'. -/
def flowOwnCard : Claim7 := { stood := { row := flowOwnRow, standIns := [], harness := (true, "614f85ea9832e7923149804343193cdaa4cbd44424ee81582a67d7018cf49bc5"), looks := true }, kinds := [], alts := [], laidByText := true, laidKinds := [.data, .data, .pinned], laidTests := true, laidLooks := .later }
def FlowOwnCardSaid : Prop := Claim7.holds Tryd.pinned (.plain (OpenSpec.ofChange flowOwnSpec)) flowOwnCard

/-- THE TIED CARD OF 'coffeehouselaw4.TrimEnds'. -/
def trimEndsCard : Claim7 := { stood := { row := trimEndsRow, standIns := [], harness := (true, "614f85ea9832e7923149804343193cdaa4cbd44424ee81582a67d7018cf49bc5"), looks := true }, kinds := [], alts := [], laidByText := true, laidKinds := [.data, .data, .pinned], laidTests := true, laidLooks := .later }
def TrimEndsCardSaid : Prop := Claim7.holds Tryd.pinned (.plain (OpenSpec.ofChange trimEndsSpec)) trimEndsCard

/-- THE TIED CARD OF 'coffeehouselaw4.MtypeBack'. -/
def mtypeBackCard : Claim7 := { stood := { row := mtypeBackRow, standIns := [], harness := (true, "614f85ea9832e7923149804343193cdaa4cbd44424ee81582a67d7018cf49bc5"), looks := true }, kinds := [], alts := [], laidByText := true, laidKinds := [.data, .pinned], laidTests := true, laidLooks := .later }
def MtypeBackCardSaid : Prop := Claim7.holds Tryd.pinned (.plain (OpenSpec.ofChange mtypeBackSpec)) mtypeBackCard

/-- THE TIED CARD OF 'coffeehouselaw4.MtypeTells'. -/
def mtypeTellsCard : Claim7 := { stood := { row := mtypeTellsRow, standIns := [], harness := (true, "614f85ea9832e7923149804343193cdaa4cbd44424ee81582a67d7018cf49bc5"), looks := true }, kinds := [], alts := [], laidByText := true, laidKinds := [.data, .pinned], laidTests := true, laidLooks := .later }
def MtypeTellsCardSaid : Prop := Claim7.holds Tryd.pinned (.plain (OpenSpec.ofChange mtypeTellsSpec)) mtypeTellsCard

/-- THE TIED CARD OF 'coffeehouselaw5.TrimOwn'. -/
def trimOwnCard : Claim7 := { stood := { row := trimOwnRow, standIns := [], harness := (true, "614f85ea9832e7923149804343193cdaa4cbd44424ee81582a67d7018cf49bc5"), looks := true }, kinds := [], alts := [], laidByText := true, laidKinds := [.data, .data, .pinned], laidTests := true, laidLooks := .later }
def TrimOwnCardSaid : Prop := Claim7.holds Tryd.pinned (.plain (OpenSpec.ofChange trimOwnSpec)) trimOwnCard

/-- THE TIED CARD OF 'coffeehouselaw4.TrimTells'. -/
def trimTellsCard : Claim7 := { stood := { row := trimTellsRow, standIns := [], harness := (true, "614f85ea9832e7923149804343193cdaa4cbd44424ee81582a67d7018cf49bc5"), looks := true }, kinds := [], alts := [], laidByText := true, laidKinds := [.data, .data, .pinned], laidTests := true, laidLooks := .later }
def TrimTellsCardSaid : Prop := Claim7.holds Tryd.pinned (.plain (OpenSpec.ofChange trimTellsSpec)) trimTellsCard

/-- THE TIED CARD OF 'coffeehouselaw1.ClassTells'. -/
def classTellsCard : Claim7 := { stood := { row := classTellsRow, standIns := [], harness := (true, "614f85ea9832e7923149804343193cdaa4cbd44424ee81582a67d7018cf49bc5"), looks := true }, kinds := [], alts := [], laidByText := true, laidKinds := [.data, .data, .pinned], laidTests := true, laidLooks := .later }
def ClassTellsCardSaid : Prop := Claim7.holds Tryd.pinned (.plain (OpenSpec.ofChange classTellsSpec)) classTellsCard

/-- THE TIED CARD OF 'coffeehouselaw1.ClassParts'. -/
def classPartsCard : Claim7 := { stood := { row := classPartsRow, standIns := [], harness := (true, "614f85ea9832e7923149804343193cdaa4cbd44424ee81582a67d7018cf49bc5"), looks := true }, kinds := [], alts := [], laidByText := true, laidKinds := [.data, .data, .pinned], laidTests := true, laidLooks := .later }
def ClassPartsCardSaid : Prop := Claim7.holds Tryd.pinned (.plain (OpenSpec.ofChange classPartsSpec)) classPartsCard

/-- THE SECOND FORM's CARD OF 'coffeehouselaw4.MtypePermutes'. -/
def mtypePermutesUptoCard : Claim7 := { stood := { row := mtypePermutesUptoRow, standIns := [], harness := (true, "614f85ea9832e7923149804343193cdaa4cbd44424ee81582a67d7018cf49bc5"), looks := true }, kinds := [], alts := [], laidByText := true, laidKinds := [.data, .pinned], laidTests := true, laidLooks := .later }
def MtypePermutesUptoCardSaid : Prop := Claim7.holds Tryd.pinned (.plain (OpenSpec.upto mtypePermutesSpec)) mtypePermutesUptoCard

/-- THE SECOND FORM's CARD OF 'coffeehouselaw1.FlowTells'. -/
def flowTellsUptoCard : Claim7 := { stood := { row := flowTellsUptoRow, standIns := [], harness := (true, "614f85ea9832e7923149804343193cdaa4cbd44424ee81582a67d7018cf49bc5"), looks := true }, kinds := [], alts := [], laidByText := true, laidKinds := [.data, .data, .pinned], laidTests := true, laidLooks := .later }
def FlowTellsUptoCardSaid : Prop := Claim7.holds Tryd.pinned (.plain (OpenSpec.upto flowTellsSpec)) flowTellsUptoCard

/-- THE SECOND FORM's CARD OF 'coffeehouselaw1.FlowClosed'. -/
def flowClosedUptoCard : Claim7 := { stood := { row := flowClosedUptoRow, standIns := [], harness := (true, "614f85ea9832e7923149804343193cdaa4cbd44424ee81582a67d7018cf49bc5"), looks := true }, kinds := [], alts := [], laidByText := true, laidKinds := [.data, .data, .pinned], laidTests := true, laidLooks := .later }
def FlowClosedUptoCardSaid : Prop := Claim7.holds Tryd.pinned (.plain (OpenSpec.upto flowClosedSpec)) flowClosedUptoCard

/-- THE SECOND FORM's CARD OF 'coffeehouselaw1.FlowBehind'. -/
def flowBehindUptoCard : Claim7 := { stood := { row := flowBehindUptoRow, standIns := [], harness := (true, "614f85ea9832e7923149804343193cdaa4cbd44424ee81582a67d7018cf49bc5"), looks := true }, kinds := [], alts := [], laidByText := true, laidKinds := [.data, .data, .pinned], laidTests := true, laidLooks := .later }
def FlowBehindUptoCardSaid : Prop := Claim7.holds Tryd.pinned (.plain (OpenSpec.upto flowBehindSpec)) flowBehindUptoCard

/-- THE SECOND FORM's CARD OF 'coffeehouselaw5.FlowOwn'. -/
def flowOwnUptoCard : Claim7 := { stood := { row := flowOwnUptoRow, standIns := [], harness := (true, "614f85ea9832e7923149804343193cdaa4cbd44424ee81582a67d7018cf49bc5"), looks := true }, kinds := [], alts := [], laidByText := true, laidKinds := [.data, .data, .pinned], laidTests := true, laidLooks := .later }
def FlowOwnUptoCardSaid : Prop := Claim7.holds Tryd.pinned (.plain (OpenSpec.upto flowOwnSpec)) flowOwnUptoCard

/-- THE SECOND FORM's CARD OF 'coffeehouselaw4.TrimEnds'. -/
def trimEndsUptoCard : Claim7 := { stood := { row := trimEndsUptoRow, standIns := [], harness := (true, "614f85ea9832e7923149804343193cdaa4cbd44424ee81582a67d7018cf49bc5"), looks := true }, kinds := [], alts := [], laidByText := true, laidKinds := [.data, .data, .pinned], laidTests := true, laidLooks := .later }
def TrimEndsUptoCardSaid : Prop := Claim7.holds Tryd.pinned (.plain (OpenSpec.upto trimEndsSpec)) trimEndsUptoCard

/-- THE SECOND FORM's CARD OF 'coffeehouselaw4.MtypeBack'. -/
def mtypeBackUptoCard : Claim7 := { stood := { row := mtypeBackUptoRow, standIns := [], harness := (true, "614f85ea9832e7923149804343193cdaa4cbd44424ee81582a67d7018cf49bc5"), looks := true }, kinds := [], alts := [], laidByText := true, laidKinds := [.data, .pinned], laidTests := true, laidLooks := .later }
def MtypeBackUptoCardSaid : Prop := Claim7.holds Tryd.pinned (.plain (OpenSpec.upto mtypeBackSpec)) mtypeBackUptoCard

/-- THE SECOND FORM's CARD OF 'coffeehouselaw4.MtypeTells'. -/
def mtypeTellsUptoCard : Claim7 := { stood := { row := mtypeTellsUptoRow, standIns := [], harness := (true, "614f85ea9832e7923149804343193cdaa4cbd44424ee81582a67d7018cf49bc5"), looks := true }, kinds := [], alts := [], laidByText := true, laidKinds := [.data, .pinned], laidTests := true, laidLooks := .later }
def MtypeTellsUptoCardSaid : Prop := Claim7.holds Tryd.pinned (.plain (OpenSpec.upto mtypeTellsSpec)) mtypeTellsUptoCard

/-- THE SECOND FORM's CARD OF 'coffeehouselaw5.TrimOwn'. -/
def trimOwnUptoCard : Claim7 := { stood := { row := trimOwnUptoRow, standIns := [], harness := (true, "614f85ea9832e7923149804343193cdaa4cbd44424ee81582a67d7018cf49bc5"), looks := true }, kinds := [], alts := [], laidByText := true, laidKinds := [.data, .data, .pinned], laidTests := true, laidLooks := .later }
def TrimOwnUptoCardSaid : Prop := Claim7.holds Tryd.pinned (.plain (OpenSpec.upto trimOwnSpec)) trimOwnUptoCard

/-- THE SECOND FORM's CARD OF 'coffeehouselaw4.TrimTells'. -/
def trimTellsUptoCard : Claim7 := { stood := { row := trimTellsUptoRow, standIns := [], harness := (true, "614f85ea9832e7923149804343193cdaa4cbd44424ee81582a67d7018cf49bc5"), looks := true }, kinds := [], alts := [], laidByText := true, laidKinds := [.data, .data, .pinned], laidTests := true, laidLooks := .later }
def TrimTellsUptoCardSaid : Prop := Claim7.holds Tryd.pinned (.plain (OpenSpec.upto trimTellsSpec)) trimTellsUptoCard

/-- THE SECOND FORM's CARD OF 'coffeehouselaw1.ClassTells'. -/
def classTellsUptoCard : Claim7 := { stood := { row := classTellsUptoRow, standIns := [], harness := (true, "614f85ea9832e7923149804343193cdaa4cbd44424ee81582a67d7018cf49bc5"), looks := true }, kinds := [], alts := [], laidByText := true, laidKinds := [.data, .data, .pinned], laidTests := true, laidLooks := .later }
def ClassTellsUptoCardSaid : Prop := Claim7.holds Tryd.pinned (.plain (OpenSpec.upto classTellsSpec)) classTellsUptoCard

/-- THE SECOND FORM's CARD OF 'coffeehouselaw1.ClassParts'. -/
def classPartsUptoCard : Claim7 := { stood := { row := classPartsUptoRow, standIns := [], harness := (true, "614f85ea9832e7923149804343193cdaa4cbd44424ee81582a67d7018cf49bc5"), looks := true }, kinds := [], alts := [], laidByText := true, laidKinds := [.data, .data, .pinned], laidTests := true, laidLooks := .later }
def ClassPartsUptoCardSaid : Prop := Claim7.holds Tryd.pinned (.plain (OpenSpec.upto classPartsSpec)) classPartsUptoCard
end Rows
end Go.Proofs.YtdnnnjedobknhaaDoor
