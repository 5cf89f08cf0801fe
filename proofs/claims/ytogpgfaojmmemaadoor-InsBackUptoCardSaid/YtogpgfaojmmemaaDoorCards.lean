/-
  DERIVED. GIVEN WITH THE SEED: THE CARDS: each row of YtogpgfaojmmemaaDoorRows.lean that lists a variable, with what it lists TIED to the program's text (the seventh form; the later family's looks); each row that meets fmt, with fmt's text TOLD by the authors' own Lean function (tested against real Go, not proved from fmt's source: count such statements apart). THE CARD IS WHAT COUNTS. Prove the row's statement (the work); the ties are given (YtogpgfaojmmemaaDoorTie.lean); close each card by the builder's one call (the guide's Derived/Test/ToyasCard.lean, 'card_holds'). Laid BY PROGRAM, IN A SANDBOX (cutbox-door.mjs). By AI agents, Wed Nov 11 2026. No macro, syntax, notation, axiom, sorry.
-/
import Derived.Test.YtogpgfaojmmemaaDoorRows
import GoSem.ClaimSeven
namespace Go.Proofs.YtogpgfaojmmemaaDoor
namespace Rows

/-- THE TIED CARD OF 'coffeehouselaw4.CallRange'. -/
def callRangeCard : Claim7 := { stood := { row := callRangeRow, standIns := [], harness := (true, "1294e2882a66330dc2e18f20d3fe9556dcedbe5c3975b0749c41df5323574b87"), looks := true }, kinds := [], alts := [], laidByText := true, laidKinds := [.data, .pinned], laidTests := true, laidLooks := .later }
def CallRangeCardSaid : Prop := Claim7.holds Tryd.pinned (.plain (OpenSpec.ofChange callRangeSpec)) callRangeCard

/-- THE TIED CARD OF 'coffeehouselaw4.CallBinds'. -/
def callBindsCard : Claim7 := { stood := { row := callBindsRow, standIns := [], harness := (true, "1294e2882a66330dc2e18f20d3fe9556dcedbe5c3975b0749c41df5323574b87"), looks := true }, kinds := [], alts := [], laidByText := true, laidKinds := [.data, .pinned], laidTests := true, laidLooks := .later }
def CallBindsCardSaid : Prop := Claim7.holds Tryd.pinned (.plain (OpenSpec.ofChange callBindsSpec)) callBindsCard

/-- THE TIED CARD OF 'coffeehouselaw4.CallTurns'. -/
def callTurnsCard : Claim7 := { stood := { row := callTurnsRow, standIns := [], harness := (true, "1294e2882a66330dc2e18f20d3fe9556dcedbe5c3975b0749c41df5323574b87"), looks := true }, kinds := [], alts := [], laidByText := true, laidKinds := [.data, .pinned], laidTests := true, laidLooks := .later }
def CallTurnsCardSaid : Prop := Claim7.holds Tryd.pinned (.plain (OpenSpec.ofChange callTurnsSpec)) callTurnsCard

/-- THE TIED CARD OF 'coffeehouselaw1.InsBack'. -/
def insBackCard : Claim7 := { stood := { row := insBackRow, standIns := [], harness := (true, "1294e2882a66330dc2e18f20d3fe9556dcedbe5c3975b0749c41df5323574b87"), looks := true }, kinds := [], alts := [], laidByText := true, laidKinds := [.data, .data, .data, .data, .sentinel, .sentinel, .data, .pinned], laidTests := true, laidLooks := .later }
def InsBackCardSaid : Prop := Claim7.holds Tryd.pinned (.plain (OpenSpec.ofChange insBackSpec)) insBackCard

/-- THE TIED CARD OF 'coffeehouselaw1.CodeBack'. -/
def codeBackCard : Claim7 := { stood := { row := codeBackRow, standIns := [], harness := (true, "1294e2882a66330dc2e18f20d3fe9556dcedbe5c3975b0749c41df5323574b87"), looks := true }, kinds := [], alts := [], laidByText := true, laidKinds := [.data, .data, .data, .data, .sentinel, .sentinel, .data, .pinned], laidTests := true, laidLooks := .later }
def CodeBackCardSaid : Prop := Claim7.holds Tryd.pinned (.plain (OpenSpec.ofChange codeBackSpec)) codeBackCard

/-- THE TIED CARD OF 'coffeehouselaw1.CodeCut'. -/
def codeCutCard : Claim7 := { stood := { row := codeCutRow, standIns := [], harness := (true, "1294e2882a66330dc2e18f20d3fe9556dcedbe5c3975b0749c41df5323574b87"), looks := true }, kinds := [], alts := [], laidByText := true, laidKinds := [.data, .data, .data, .data, .sentinel, .sentinel, .data, .pinned], laidTests := true, laidLooks := .later }
def CodeCutCardSaid : Prop := Claim7.holds Tryd.pinned (.plain (OpenSpec.ofChange codeCutSpec)) codeCutCard

/-- THE TIED CARD OF 'coffeehouselaw5.CodeOwn'. -/
def codeOwnCard : Claim7 := { stood := { row := codeOwnRow, standIns := [], harness := (true, "1294e2882a66330dc2e18f20d3fe9556dcedbe5c3975b0749c41df5323574b87"), looks := true }, kinds := [], alts := [], laidByText := true, laidKinds := [.data, .data, .data, .data, .sentinel, .sentinel, .data, .pinned], laidTests := true, laidLooks := .later }
def CodeOwnCardSaid : Prop := Claim7.holds Tryd.pinned (.plain (OpenSpec.ofChange codeOwnSpec)) codeOwnCard

/-- THE SECOND FORM's CARD OF 'coffeehouselaw4.CallRange'. -/
def callRangeUptoCard : Claim7 := { stood := { row := callRangeUptoRow, standIns := [], harness := (true, "1294e2882a66330dc2e18f20d3fe9556dcedbe5c3975b0749c41df5323574b87"), looks := true }, kinds := [], alts := [], laidByText := true, laidKinds := [.data, .pinned], laidTests := true, laidLooks := .later }
def CallRangeUptoCardSaid : Prop := Claim7.holds Tryd.pinned (.plain (OpenSpec.upto callRangeSpec)) callRangeUptoCard

/-- THE SECOND FORM's CARD OF 'coffeehouselaw4.CallBinds'. -/
def callBindsUptoCard : Claim7 := { stood := { row := callBindsUptoRow, standIns := [], harness := (true, "1294e2882a66330dc2e18f20d3fe9556dcedbe5c3975b0749c41df5323574b87"), looks := true }, kinds := [], alts := [], laidByText := true, laidKinds := [.data, .pinned], laidTests := true, laidLooks := .later }
def CallBindsUptoCardSaid : Prop := Claim7.holds Tryd.pinned (.plain (OpenSpec.upto callBindsSpec)) callBindsUptoCard

/-- THE SECOND FORM's CARD OF 'coffeehouselaw4.CallTurns'. -/
def callTurnsUptoCard : Claim7 := { stood := { row := callTurnsUptoRow, standIns := [], harness := (true, "1294e2882a66330dc2e18f20d3fe9556dcedbe5c3975b0749c41df5323574b87"), looks := true }, kinds := [], alts := [], laidByText := true, laidKinds := [.data, .pinned], laidTests := true, laidLooks := .later }
def CallTurnsUptoCardSaid : Prop := Claim7.holds Tryd.pinned (.plain (OpenSpec.upto callTurnsSpec)) callTurnsUptoCard

/-- THE SECOND FORM's CARD OF 'coffeehouselaw1.InsBack'. -/
def insBackUptoCard : Claim7 := { stood := { row := insBackUptoRow, standIns := [], harness := (true, "1294e2882a66330dc2e18f20d3fe9556dcedbe5c3975b0749c41df5323574b87"), looks := true }, kinds := [], alts := [], laidByText := true, laidKinds := [.data, .data, .data, .data, .sentinel, .sentinel, .data, .pinned], laidTests := true, laidLooks := .later }
def InsBackUptoCardSaid : Prop := Claim7.holds Tryd.pinned (.plain (OpenSpec.upto insBackSpec)) insBackUptoCard

/-- THE SECOND FORM's CARD OF 'coffeehouselaw1.CodeBack'. -/
def codeBackUptoCard : Claim7 := { stood := { row := codeBackUptoRow, standIns := [], harness := (true, "1294e2882a66330dc2e18f20d3fe9556dcedbe5c3975b0749c41df5323574b87"), looks := true }, kinds := [], alts := [], laidByText := true, laidKinds := [.data, .data, .data, .data, .sentinel, .sentinel, .data, .pinned], laidTests := true, laidLooks := .later }
def CodeBackUptoCardSaid : Prop := Claim7.holds Tryd.pinned (.plain (OpenSpec.upto codeBackSpec)) codeBackUptoCard

/-- THE SECOND FORM's CARD OF 'coffeehouselaw1.CodeCut'. -/
def codeCutUptoCard : Claim7 := { stood := { row := codeCutUptoRow, standIns := [], harness := (true, "1294e2882a66330dc2e18f20d3fe9556dcedbe5c3975b0749c41df5323574b87"), looks := true }, kinds := [], alts := [], laidByText := true, laidKinds := [.data, .data, .data, .data, .sentinel, .sentinel, .data, .pinned], laidTests := true, laidLooks := .later }
def CodeCutUptoCardSaid : Prop := Claim7.holds Tryd.pinned (.plain (OpenSpec.upto codeCutSpec)) codeCutUptoCard

/-- THE SECOND FORM's CARD OF 'coffeehouselaw5.CodeOwn'. -/
def codeOwnUptoCard : Claim7 := { stood := { row := codeOwnUptoRow, standIns := [], harness := (true, "1294e2882a66330dc2e18f20d3fe9556dcedbe5c3975b0749c41df5323574b87"), looks := true }, kinds := [], alts := [], laidByText := true, laidKinds := [.data, .data, .data, .data, .sentinel, .sentinel, .data, .pinned], laidTests := true, laidLooks := .later }
def CodeOwnUptoCardSaid : Prop := Claim7.holds Tryd.pinned (.plain (OpenSpec.upto codeOwnSpec)) codeOwnUptoCard
end Rows
end Go.Proofs.YtogpgfaojmmemaaDoor
