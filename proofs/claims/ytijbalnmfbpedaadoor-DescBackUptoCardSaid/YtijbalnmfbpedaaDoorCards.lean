/-
  DERIVED. GIVEN WITH THE SEED: THE CARDS: each row of YtijbalnmfbpedaaDoorRows.lean that lists a variable, with what it lists TIED to the program's text (the seventh form; the later family's looks); each row that meets fmt, with fmt's text TOLD by the authors' own Lean function (tested against real Go, not proved from fmt's source: count such statements apart). THE CARD IS WHAT COUNTS. Prove the row's statement (the work); the ties are given (YtijbalnmfbpedaaDoorTie.lean); close each card by the builder's one call (the guide's Derived/Test/ToyasCard.lean, 'card_holds'). Laid BY PROGRAM, IN A SANDBOX (cutbox-door.mjs). By AI agents, Wed Nov 11 2026. No macro, syntax, notation, axiom, sorry.
-/
import Derived.Test.YtijbalnmfbpedaaDoorRows
import GoSem.ClaimSeven
namespace Go.Proofs.YtijbalnmfbpedaaDoor
namespace Rows

/-- THE TIED CARD OF 'coffeehouselaw1.NameTells'. -/
def nameTellsCard : Claim7 := { stood := { row := nameTellsRow, standIns := [], harness := (true, "3670e544a957ec7a0ff81955be0b4f995dcf83220ff09760ac3d0c2ab7c73900"), looks := true }, kinds := [], alts := [], laidByText := true, laidKinds := [.data, .pinned], laidTests := true, laidLooks := .later }
def NameTellsCardSaid : Prop := Claim7.holds Tryd.pinned (.plain (OpenSpec.ofChange nameTellsSpec)) nameTellsCard

/-- THE TIED CARD OF 'coffeehouselaw1.NameJoined'. -/
def nameJoinedCard : Claim7 := { stood := { row := nameJoinedRow, standIns := [], harness := (true, "3670e544a957ec7a0ff81955be0b4f995dcf83220ff09760ac3d0c2ab7c73900"), looks := true }, kinds := [], alts := [], laidByText := true, laidKinds := [.data, .pinned], laidTests := true, laidLooks := .later }
def NameJoinedCardSaid : Prop := Claim7.holds Tryd.pinned (.plain (OpenSpec.ofChange nameJoinedSpec)) nameJoinedCard

/-- THE TIED CARD OF 'coffeehouselaw5.LockOwn'. -/
def lockOwnCard : Claim7 := { stood := { row := lockOwnRow, standIns := [], harness := (true, "3670e544a957ec7a0ff81955be0b4f995dcf83220ff09760ac3d0c2ab7c73900"), looks := true }, kinds := [], alts := [], laidByText := true, laidKinds := [.data, .pinned], laidTests := true, laidLooks := .later }
def LockOwnCardSaid : Prop := Claim7.holds Tryd.pinned (.plain (OpenSpec.ofChange lockOwnSpec)) lockOwnCard

/-- THE TIED CARD OF 'coffeehouselaw1.DescTells'. -/
def descTellsCard : Claim7 := { stood := { row := descTellsRow, standIns := [], harness := (true, "3670e544a957ec7a0ff81955be0b4f995dcf83220ff09760ac3d0c2ab7c73900"), looks := true }, kinds := [], alts := [], laidByText := true, laidKinds := [.data, .pinned], laidTests := true, laidLooks := .later }
def DescTellsCardSaid : Prop := Claim7.holds Tryd.pinned (.plain (OpenSpec.ofChange descTellsSpec)) descTellsCard

/-- THE TIED CARD OF 'coffeehouselaw1.DescMakes'. -/
def descMakesCard : Claim7 := { stood := { row := descMakesRow, standIns := [], harness := (true, "3670e544a957ec7a0ff81955be0b4f995dcf83220ff09760ac3d0c2ab7c73900"), looks := true }, kinds := [], alts := [], laidByText := true, laidKinds := [.data, .pinned], laidTests := true, laidLooks := .later }
def DescMakesCardSaid : Prop := Claim7.holds Tryd.pinned (.plain (OpenSpec.ofChange descMakesSpec)) descMakesCard

/-- THE TIED CARD OF 'coffeehouselaw1.DescBack'. -/
def descBackCard : Claim7 := { stood := { row := descBackRow, standIns := [], harness := (true, "3670e544a957ec7a0ff81955be0b4f995dcf83220ff09760ac3d0c2ab7c73900"), looks := true }, kinds := [], alts := [], laidByText := true, laidKinds := [.data, .pinned], laidTests := true, laidLooks := .later }
def DescBackCardSaid : Prop := Claim7.holds Tryd.pinned (.plain (OpenSpec.ofChange descBackSpec)) descBackCard

/-- THE SECOND FORM's CARD OF 'coffeehouselaw1.NameTells'. -/
def nameTellsUptoCard : Claim7 := { stood := { row := nameTellsUptoRow, standIns := [], harness := (true, "3670e544a957ec7a0ff81955be0b4f995dcf83220ff09760ac3d0c2ab7c73900"), looks := true }, kinds := [], alts := [], laidByText := true, laidKinds := [.data, .pinned], laidTests := true, laidLooks := .later }
def NameTellsUptoCardSaid : Prop := Claim7.holds Tryd.pinned (.plain (OpenSpec.upto nameTellsSpec)) nameTellsUptoCard

/-- THE SECOND FORM's CARD OF 'coffeehouselaw1.NameJoined'. -/
def nameJoinedUptoCard : Claim7 := { stood := { row := nameJoinedUptoRow, standIns := [], harness := (true, "3670e544a957ec7a0ff81955be0b4f995dcf83220ff09760ac3d0c2ab7c73900"), looks := true }, kinds := [], alts := [], laidByText := true, laidKinds := [.data, .pinned], laidTests := true, laidLooks := .later }
def NameJoinedUptoCardSaid : Prop := Claim7.holds Tryd.pinned (.plain (OpenSpec.upto nameJoinedSpec)) nameJoinedUptoCard

/-- THE SECOND FORM's CARD OF 'coffeehouselaw5.LockOwn'. -/
def lockOwnUptoCard : Claim7 := { stood := { row := lockOwnUptoRow, standIns := [], harness := (true, "3670e544a957ec7a0ff81955be0b4f995dcf83220ff09760ac3d0c2ab7c73900"), looks := true }, kinds := [], alts := [], laidByText := true, laidKinds := [.data, .pinned], laidTests := true, laidLooks := .later }
def LockOwnUptoCardSaid : Prop := Claim7.holds Tryd.pinned (.plain (OpenSpec.upto lockOwnSpec)) lockOwnUptoCard

/-- THE SECOND FORM's CARD OF 'coffeehouselaw1.DescTells'. -/
def descTellsUptoCard : Claim7 := { stood := { row := descTellsUptoRow, standIns := [], harness := (true, "3670e544a957ec7a0ff81955be0b4f995dcf83220ff09760ac3d0c2ab7c73900"), looks := true }, kinds := [], alts := [], laidByText := true, laidKinds := [.data, .pinned], laidTests := true, laidLooks := .later }
def DescTellsUptoCardSaid : Prop := Claim7.holds Tryd.pinned (.plain (OpenSpec.upto descTellsSpec)) descTellsUptoCard

/-- THE SECOND FORM's CARD OF 'coffeehouselaw1.DescMakes'. -/
def descMakesUptoCard : Claim7 := { stood := { row := descMakesUptoRow, standIns := [], harness := (true, "3670e544a957ec7a0ff81955be0b4f995dcf83220ff09760ac3d0c2ab7c73900"), looks := true }, kinds := [], alts := [], laidByText := true, laidKinds := [.data, .pinned], laidTests := true, laidLooks := .later }
def DescMakesUptoCardSaid : Prop := Claim7.holds Tryd.pinned (.plain (OpenSpec.upto descMakesSpec)) descMakesUptoCard

/-- THE SECOND FORM's CARD OF 'coffeehouselaw1.DescBack'. -/
def descBackUptoCard : Claim7 := { stood := { row := descBackUptoRow, standIns := [], harness := (true, "3670e544a957ec7a0ff81955be0b4f995dcf83220ff09760ac3d0c2ab7c73900"), looks := true }, kinds := [], alts := [], laidByText := true, laidKinds := [.data, .pinned], laidTests := true, laidLooks := .later }
def DescBackUptoCardSaid : Prop := Claim7.holds Tryd.pinned (.plain (OpenSpec.upto descBackSpec)) descBackUptoCard
end Rows
end Go.Proofs.YtijbalnmfbpedaaDoor
