/-
  DERIVED. GIVEN WITH THE SEED: THE CARDS: each row of YtcbefaaipggakaaDoorRows.lean that lists a variable, with what it lists TIED to the program's text (the seventh form; the later family's looks); each row that meets fmt, with fmt's text TOLD by the authors' own Lean function (tested against real Go, not proved from fmt's source: count such statements apart). THE CARD IS WHAT COUNTS. Prove the row's statement (the work); the ties are given (YtcbefaaipggakaaDoorTie.lean); close each card by the builder's one call (the guide's Derived/Test/ToyasCard.lean, 'card_holds'). Laid BY PROGRAM, IN A SANDBOX (cutbox-door.mjs). By AI agents, Wed Nov 11 2026. No macro, syntax, notation, axiom, sorry.
-/
import Derived.Test.YtcbefaaipggakaaDoorRows
import GoSem.ClaimSeven
namespace Go.Proofs.YtcbefaaipggakaaDoor
namespace Rows

/-- THE TIED CARD OF 'coffeehouselaw1.CodeBack'. -/
def codeBackCard : Claim7 := { stood := { row := codeBackRow, standIns := [], harness := (true, "bb39d734d0ef467e23a4bf53a543dc8b1bffb325e0373c699cc3f4cf40ba49cc"), looks := true }, kinds := [], alts := [], laidByText := true, laidKinds := [.data, .data, .data, .data, .sentinel, .sentinel, .data, .pinned], laidTests := true, laidLooks := .later }
def CodeBackCardSaid : Prop := Claim7.holds Tryd.pinned (.plain (OpenSpec.ofChange codeBackSpec)) codeBackCard

/-- THE TIED CARD OF 'coffeehouselaw1.CodeCut'. -/
def codeCutCard : Claim7 := { stood := { row := codeCutRow, standIns := [], harness := (true, "bb39d734d0ef467e23a4bf53a543dc8b1bffb325e0373c699cc3f4cf40ba49cc"), looks := true }, kinds := [], alts := [], laidByText := true, laidKinds := [.data, .data, .data, .data, .sentinel, .sentinel, .data, .pinned], laidTests := true, laidLooks := .later }
def CodeCutCardSaid : Prop := Claim7.holds Tryd.pinned (.plain (OpenSpec.ofChange codeCutSpec)) codeCutCard

/-- THE TIED CARD OF 'coffeehouselaw5.CodeOwn'. -/
def codeOwnCard : Claim7 := { stood := { row := codeOwnRow, standIns := [], harness := (true, "bb39d734d0ef467e23a4bf53a543dc8b1bffb325e0373c699cc3f4cf40ba49cc"), looks := true }, kinds := [], alts := [], laidByText := true, laidKinds := [.data, .data, .data, .data, .sentinel, .sentinel, .data, .pinned], laidTests := true, laidLooks := .later }
def CodeOwnCardSaid : Prop := Claim7.holds Tryd.pinned (.plain (OpenSpec.ofChange codeOwnSpec)) codeOwnCard

/-- THE SECOND FORM's CARD OF 'coffeehouselaw1.CodeBack'. -/
def codeBackUptoCard : Claim7 := { stood := { row := codeBackUptoRow, standIns := [], harness := (true, "bb39d734d0ef467e23a4bf53a543dc8b1bffb325e0373c699cc3f4cf40ba49cc"), looks := true }, kinds := [], alts := [], laidByText := true, laidKinds := [.data, .data, .data, .data, .sentinel, .sentinel, .data, .pinned], laidTests := true, laidLooks := .later }
def CodeBackUptoCardSaid : Prop := Claim7.holds Tryd.pinned (.plain (OpenSpec.upto codeBackSpec)) codeBackUptoCard

/-- THE SECOND FORM's CARD OF 'coffeehouselaw1.CodeCut'. -/
def codeCutUptoCard : Claim7 := { stood := { row := codeCutUptoRow, standIns := [], harness := (true, "bb39d734d0ef467e23a4bf53a543dc8b1bffb325e0373c699cc3f4cf40ba49cc"), looks := true }, kinds := [], alts := [], laidByText := true, laidKinds := [.data, .data, .data, .data, .sentinel, .sentinel, .data, .pinned], laidTests := true, laidLooks := .later }
def CodeCutUptoCardSaid : Prop := Claim7.holds Tryd.pinned (.plain (OpenSpec.upto codeCutSpec)) codeCutUptoCard

/-- THE SECOND FORM's CARD OF 'coffeehouselaw5.CodeOwn'. -/
def codeOwnUptoCard : Claim7 := { stood := { row := codeOwnUptoRow, standIns := [], harness := (true, "bb39d734d0ef467e23a4bf53a543dc8b1bffb325e0373c699cc3f4cf40ba49cc"), looks := true }, kinds := [], alts := [], laidByText := true, laidKinds := [.data, .data, .data, .data, .sentinel, .sentinel, .data, .pinned], laidTests := true, laidLooks := .later }
def CodeOwnUptoCardSaid : Prop := Claim7.holds Tryd.pinned (.plain (OpenSpec.upto codeOwnSpec)) codeOwnUptoCard
end Rows
end Go.Proofs.YtcbefaaipggakaaDoor
