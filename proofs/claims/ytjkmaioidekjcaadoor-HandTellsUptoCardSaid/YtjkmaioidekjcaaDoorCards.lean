/-
  DERIVED. GIVEN WITH THE SEED: THE CARDS: each row of YtjkmaioidekjcaaDoorRows.lean that lists a variable, with what it lists TIED to the program's text (the seventh form; the later family's looks); each row that meets fmt, with fmt's text TOLD by the authors' own Lean function (tested against real Go, not proved from fmt's source: count such statements apart). THE CARD IS WHAT COUNTS. Prove the row's statement (the work); the ties are given (YtjkmaioidekjcaaDoorTie.lean); close each card by the builder's one call (the guide's Derived/Test/ToyasCard.lean, 'card_holds'). Laid BY PROGRAM, IN A SANDBOX (cutbox-door.mjs). By AI agents, Wed Nov 11 2026. No macro, syntax, notation, axiom, sorry.
-/
import Derived.Test.YtjkmaioidekjcaaDoorRows
import GoSem.ClaimSeven
namespace Go.Proofs.YtjkmaioidekjcaaDoor
namespace Rows

/-- THE TIED CARD OF 'coffeehouselaw4.HandTells'. -/
def handTellsCard : Claim7 := { stood := { row := handTellsRow, standIns := [], harness := (true, "a034cfd2e4242602f7edd90116742c3d3d07484453a6bb844b0e5799ce570076"), looks := true }, kinds := [], alts := [], laidByText := true, laidKinds := [.data, .pinned], laidTests := true, laidLooks := .later }
def HandTellsCardSaid : Prop := Claim7.holds Tryd.pinned (.plain (OpenSpec.ofChange handTellsSpec)) handTellsCard

/-- THE TIED CARD OF 'coffeehouselaw4.CallRange'. -/
def callRangeCard : Claim7 := { stood := { row := callRangeRow, standIns := [], harness := (true, "a034cfd2e4242602f7edd90116742c3d3d07484453a6bb844b0e5799ce570076"), looks := true }, kinds := [], alts := [], laidByText := true, laidKinds := [.data, .pinned], laidTests := true, laidLooks := .later }
def CallRangeCardSaid : Prop := Claim7.holds Tryd.pinned (.plain (OpenSpec.ofChange callRangeSpec)) callRangeCard

/-- THE TIED CARD OF 'coffeehouselaw4.CallBinds'. -/
def callBindsCard : Claim7 := { stood := { row := callBindsRow, standIns := [], harness := (true, "a034cfd2e4242602f7edd90116742c3d3d07484453a6bb844b0e5799ce570076"), looks := true }, kinds := [], alts := [], laidByText := true, laidKinds := [.data, .pinned], laidTests := true, laidLooks := .later }
def CallBindsCardSaid : Prop := Claim7.holds Tryd.pinned (.plain (OpenSpec.ofChange callBindsSpec)) callBindsCard

/-- THE TIED CARD OF 'coffeehouselaw4.CallTurns'. -/
def callTurnsCard : Claim7 := { stood := { row := callTurnsRow, standIns := [], harness := (true, "a034cfd2e4242602f7edd90116742c3d3d07484453a6bb844b0e5799ce570076"), looks := true }, kinds := [], alts := [], laidByText := true, laidKinds := [.data, .pinned], laidTests := true, laidLooks := .later }
def CallTurnsCardSaid : Prop := Claim7.holds Tryd.pinned (.plain (OpenSpec.ofChange callTurnsSpec)) callTurnsCard

/-- THE TIED CARD OF 'coffeehouselaw1.InsBack'. -/
def insBackCard : Claim7 := { stood := { row := insBackRow, standIns := [], harness := (true, "a034cfd2e4242602f7edd90116742c3d3d07484453a6bb844b0e5799ce570076"), looks := true }, kinds := [], alts := [], laidByText := true, laidKinds := [.data, .data, .data, .data, .sentinel, .sentinel, .data, .pinned], laidTests := true, laidLooks := .later }
def InsBackCardSaid : Prop := Claim7.holds Tryd.pinned (.plain (OpenSpec.ofChange insBackSpec)) insBackCard

/-- THE SECOND FORM's CARD OF 'coffeehouselaw4.HandTells'. -/
def handTellsUptoCard : Claim7 := { stood := { row := handTellsUptoRow, standIns := [], harness := (true, "a034cfd2e4242602f7edd90116742c3d3d07484453a6bb844b0e5799ce570076"), looks := true }, kinds := [], alts := [], laidByText := true, laidKinds := [.data, .pinned], laidTests := true, laidLooks := .later }
def HandTellsUptoCardSaid : Prop := Claim7.holds Tryd.pinned (.plain (OpenSpec.upto handTellsSpec)) handTellsUptoCard

/-- THE SECOND FORM's CARD OF 'coffeehouselaw4.CallRange'. -/
def callRangeUptoCard : Claim7 := { stood := { row := callRangeUptoRow, standIns := [], harness := (true, "a034cfd2e4242602f7edd90116742c3d3d07484453a6bb844b0e5799ce570076"), looks := true }, kinds := [], alts := [], laidByText := true, laidKinds := [.data, .pinned], laidTests := true, laidLooks := .later }
def CallRangeUptoCardSaid : Prop := Claim7.holds Tryd.pinned (.plain (OpenSpec.upto callRangeSpec)) callRangeUptoCard

/-- THE SECOND FORM's CARD OF 'coffeehouselaw4.CallBinds'. -/
def callBindsUptoCard : Claim7 := { stood := { row := callBindsUptoRow, standIns := [], harness := (true, "a034cfd2e4242602f7edd90116742c3d3d07484453a6bb844b0e5799ce570076"), looks := true }, kinds := [], alts := [], laidByText := true, laidKinds := [.data, .pinned], laidTests := true, laidLooks := .later }
def CallBindsUptoCardSaid : Prop := Claim7.holds Tryd.pinned (.plain (OpenSpec.upto callBindsSpec)) callBindsUptoCard

/-- THE SECOND FORM's CARD OF 'coffeehouselaw4.CallTurns'. -/
def callTurnsUptoCard : Claim7 := { stood := { row := callTurnsUptoRow, standIns := [], harness := (true, "a034cfd2e4242602f7edd90116742c3d3d07484453a6bb844b0e5799ce570076"), looks := true }, kinds := [], alts := [], laidByText := true, laidKinds := [.data, .pinned], laidTests := true, laidLooks := .later }
def CallTurnsUptoCardSaid : Prop := Claim7.holds Tryd.pinned (.plain (OpenSpec.upto callTurnsSpec)) callTurnsUptoCard

/-- THE SECOND FORM's CARD OF 'coffeehouselaw1.InsBack'. -/
def insBackUptoCard : Claim7 := { stood := { row := insBackUptoRow, standIns := [], harness := (true, "a034cfd2e4242602f7edd90116742c3d3d07484453a6bb844b0e5799ce570076"), looks := true }, kinds := [], alts := [], laidByText := true, laidKinds := [.data, .data, .data, .data, .sentinel, .sentinel, .data, .pinned], laidTests := true, laidLooks := .later }
def InsBackUptoCardSaid : Prop := Claim7.holds Tryd.pinned (.plain (OpenSpec.upto insBackSpec)) insBackUptoCard
end Rows
end Go.Proofs.YtjkmaioidekjcaaDoor
