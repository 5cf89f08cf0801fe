/-
  NARROWER THAN 'FOR EVERY INPUT', by the rows' own cells (each row's printed sentence says how): MtypePermutes: laid · FlowTells: laid · FlowClosed: laid · FlowBehind: laid · FlowOwn: laid · TrimEnds: laid · MtypeBack: laid · MtypeTells: laid · TrimOwn: laid · TrimTells: laid · ClassTells: laid · ClassParts: laid.
  DERIVED. THE GIVEN ROWS OF THIS SEAT. 12 by the template 'for every input the law returns true; each argument reads behind the call as it read before'; 0 by the template 'total and deterministic' (their statements: YtdnnnjedobknhaaDoorTotals.lean).
  GIVEN WITH THE SEED: the statements are not yours to turn. If you find one false, say at which input.
  Laid BY PROGRAM, IN A SANDBOX (cutbox-rows.mjs): the forced cells as the released guide's own fill.sh prints them over the translation 8e4fee21cc568711… (all of the seat's roots in one cut). By AI agents, Wed Nov 11 2026. No macro, syntax, notation, axiom, sorry.
-/
import Derived.Test.YtdnnnjedobknhaaDoorChecked
import GoSem.PinnedTables
import GoSem.Claim
import GoSem.ClaimJoined
import GoSem.ClaimMapViews
import Derived.JoinedTies
import Derived.KernelRfl
namespace Go.Proofs.YtdnnnjedobknhaaDoor
/- THE CELL 'sum', in the pinned program and in every row, IS THE sha256 OF THE DUMP (.gsa) THAT YtdnnnjedobknhaaDoorProg.lean LOADS. Nothing in Lean hashes anything: it is a label: what it is worth is what the hold of that sum in a sandbox is worth. -/
noncomputable def Tryd.pinned : Pinned := { name := "ytdnnnjedobknhaadoor", sum := "8e4fee21cc568711851b27f013b787e702fcd50c92451d239bcb0e8f24ef5831", checked := Tryd.checked }
namespace Rows
def none {H : Type} : Left H := { results := [], args := [] }

/- WHAT THE LISTED PACKAGE-LEVEL VARIABLES READ AS WHEN THE CALL BEGINS. Each datum BY PROGRAM (the guide's laid-datum.mjs) off the statement by which the dump's own 'gosem.cut.vars' lays the variable. In a bare row this is a premise. The card (YtdnnnjedobknhaaDoorCards.lean) ties it to the program's text. -/
def laid_unicode_utf8_acceptRanges {H : Type} : DataW H := .agg [.agg [.lit (.int .u8 128), .lit (.int .u8 191)], .agg [.lit (.int .u8 160), .lit (.int .u8 191)], .agg [.lit (.int .u8 128), .lit (.int .u8 159)], .agg [.lit (.int .u8 144), .lit (.int .u8 191)], .agg [.lit (.int .u8 128), .lit (.int .u8 143)], .agg [.lit (.int .u8 0), .lit (.int .u8 0)], .agg [.lit (.int .u8 0), .lit (.int .u8 0)], .agg [.lit (.int .u8 0), .lit (.int .u8 0)], .agg [.lit (.int .u8 0), .lit (.int .u8 0)], .agg [.lit (.int .u8 0), .lit (.int .u8 0)], .agg [.lit (.int .u8 0), .lit (.int .u8 0)], .agg [.lit (.int .u8 0), .lit (.int .u8 0)], .agg [.lit (.int .u8 0), .lit (.int .u8 0)], .agg [.lit (.int .u8 0), .lit (.int .u8 0)], .agg [.lit (.int .u8 0), .lit (.int .u8 0)], .agg [.lit (.int .u8 0), .lit (.int .u8 0)]]
/-- One of Go's own tables, pinned by name: the form's constant. -/
def laid_unicode_utf8_first : DataW Unit := Go.Pinned.utf8First
def laid_coffeehouse_ins_forms {H : Type} : DataW H := .agg [.agg [.lit (.string []), .lit (.string [])], .agg [.lit (.string [110, 111, 112]), .lit (.string [])], .agg [.lit (.string [112, 117, 115, 104]), .lit (.string [65, 84])], .agg [.lit (.string [110, 117, 108, 108]), .lit (.string [])], .agg [.lit (.string [108, 111, 97, 100]), .lit (.string [65])], .agg [.lit (.string [115, 116, 111, 114, 101]), .lit (.string [65])], .agg [.lit (.string [112, 111, 112]), .lit (.string [])], .agg [.lit (.string [100, 117, 112]), .lit (.string [])], .agg [.lit (.string [115, 119, 97, 112]), .lit (.string [])], .agg [.lit (.string [109, 97, 116, 104]), .lit (.string [65, 84])], .agg [.lit (.string [99, 111, 110, 118]), .lit (.string [84])], .agg [.lit (.string [111, 114, 100, 101, 114]), .lit (.string [])], .agg [.lit (.string [105, 102]), .lit (.string [65, 66])], .agg [.lit (.string [105, 102, 110, 117, 108, 108]), .lit (.string [65])], .agg [.lit (.string [103, 111, 116, 111]), .lit (.string [65])], .agg [.lit (.string [110, 101, 119]), .lit (.string [67])], .agg [.lit (.string [103, 101, 116]), .lit (.string [67, 78])], .agg [.lit (.string [112, 117, 116]), .lit (.string [67, 78])], .agg [.lit (.string [110, 101, 119, 97, 114, 114, 97, 121]), .lit (.string [84])], .agg [.lit (.string [108, 101, 110, 103, 116, 104]), .lit (.string [])], .agg [.lit (.string [97, 108, 111, 97, 100]), .lit (.string [84])], .agg [.lit (.string [97, 115, 116, 111, 114, 101]), .lit (.string [84])], .agg [.lit (.string [99, 97, 115, 116]), .lit (.string [84])], .agg [.lit (.string [105, 115]), .lit (.string [84])], .agg [.lit (.string [99, 97, 108, 108]), .lit (.string [84, 67, 78])], .agg [.lit (.string [99, 97, 108, 108, 115]), .lit (.string [84, 67, 78])], .agg [.lit (.string [114, 101, 116, 117, 114, 110]), .lit (.string [])], .agg [.lit (.string [103, 105, 118, 101]), .lit (.string [])], .agg [.lit (.string [116, 104, 114, 111, 119]), .lit (.string [])]]

/-- 'coffeehouselaw4.MtypePermutes': WHATEVER THE INPUT: true; the input reads as it did. -/
def mtypePermutesSpec : ChangeSpec := { name := "mtypePermutes", fn := fun _ => fun
  | [d] => { results := [.lit (.bool true)], args := [d] }
  | _ => none }
def mtypePermutesRow : OpenClaim := { program := "ytdnnnjedobknhaadoor", sum := "8e4fee21cc568711851b27f013b787e702fcd50c92451d239bcb0e8f24ef5831", func := "coffeehouse/coffeehouselaw4.MtypePermutes", spec := "mtypePermutes", inPlace := ["internal/bytealg.IndexByteString", "internal/bytealg.IndexString", "internal/abi.NoEscape", "internal/bytealg.MakeNoZero"], unfollowed := true, recurses := true, named := ["unicode/utf8.first", "unicode/utf8.acceptRanges", "internal/bytealg.MaxLen"], apart := false, laid := [("unicode/utf8.acceptRanges", laid_unicode_utf8_acceptRanges), ("unicode/utf8.first", laid_unicode_utf8_first)] }
def MtypePermutesSaid : Prop := mtypePermutesRow.holds Tryd.pinned (OpenSpec.ofChange mtypePermutesSpec)

/-- ITS FALSE NEIGHBOUR: 'it returns false'. Refute it at one input. -/
def mtypePermutesWrong : ChangeSpec := { name := "mtypePermutes", fn := fun _ => fun
  | [d] => { results := [.lit (.bool false)], args := [d] }
  | _ => none }
def MtypePermutesWrongFalsely : Prop := mtypePermutesRow.holds Tryd.pinned (OpenSpec.ofChange mtypePermutesWrong)

/-- 'coffeehouselaw1.FlowTells': WHATEVER THE INPUT: true; the input reads as it did. -/
def flowTellsSpec : ChangeSpec := { name := "flowTells", fn := fun _ => fun
  | [d1, d2] => { results := [.lit (.bool true)], args := [d1, d2] }
  | _ => none }
def flowTellsRow : OpenClaim := { program := "ytdnnnjedobknhaadoor", sum := "8e4fee21cc568711851b27f013b787e702fcd50c92451d239bcb0e8f24ef5831", func := "coffeehouse/coffeehouselaw1.FlowTells", spec := "flowTells", inPlace := ["internal/bytealg.IndexByteString", "internal/bytealg.IndexString"], unfollowed := true, recurses := true, named := ["coffeehouse/ins.forms", "internal/bytealg.MaxLen", "unicode/utf8.first", "unicode/utf8.acceptRanges"], apart := false, laid := [("unicode/utf8.acceptRanges", laid_unicode_utf8_acceptRanges), ("coffeehouse/ins.forms", laid_coffeehouse_ins_forms), ("unicode/utf8.first", laid_unicode_utf8_first)] }
def FlowTellsSaid : Prop := flowTellsRow.holds Tryd.pinned (OpenSpec.ofChange flowTellsSpec)

/-- ITS FALSE NEIGHBOUR: 'it returns false'. Refute it at one input. -/
def flowTellsWrong : ChangeSpec := { name := "flowTells", fn := fun _ => fun
  | [d1, d2] => { results := [.lit (.bool false)], args := [d1, d2] }
  | _ => none }
def FlowTellsWrongFalsely : Prop := flowTellsRow.holds Tryd.pinned (OpenSpec.ofChange flowTellsWrong)

/-- 'coffeehouselaw1.FlowClosed': WHATEVER THE INPUT: true; the input reads as it did. -/
def flowClosedSpec : ChangeSpec := { name := "flowClosed", fn := fun _ => fun
  | [d] => { results := [.lit (.bool true)], args := [d] }
  | _ => none }
def flowClosedRow : OpenClaim := { program := "ytdnnnjedobknhaadoor", sum := "8e4fee21cc568711851b27f013b787e702fcd50c92451d239bcb0e8f24ef5831", func := "coffeehouse/coffeehouselaw1.FlowClosed", spec := "flowClosed", inPlace := ["internal/bytealg.IndexByteString", "internal/bytealg.IndexString"], unfollowed := true, recurses := true, named := ["coffeehouse/ins.forms", "internal/bytealg.MaxLen", "unicode/utf8.first", "unicode/utf8.acceptRanges"], apart := false, laid := [("unicode/utf8.acceptRanges", laid_unicode_utf8_acceptRanges), ("coffeehouse/ins.forms", laid_coffeehouse_ins_forms), ("unicode/utf8.first", laid_unicode_utf8_first)] }
def FlowClosedSaid : Prop := flowClosedRow.holds Tryd.pinned (OpenSpec.ofChange flowClosedSpec)

/-- ITS FALSE NEIGHBOUR: 'it returns false'. Refute it at one input. -/
def flowClosedWrong : ChangeSpec := { name := "flowClosed", fn := fun _ => fun
  | [d] => { results := [.lit (.bool false)], args := [d] }
  | _ => none }
def FlowClosedWrongFalsely : Prop := flowClosedRow.holds Tryd.pinned (OpenSpec.ofChange flowClosedWrong)

/-- 'coffeehouselaw1.FlowBehind': WHATEVER THE INPUT: true; the input reads as it did. -/
def flowBehindSpec : ChangeSpec := { name := "flowBehind", fn := fun _ => fun
  | [d1, d2] => { results := [.lit (.bool true)], args := [d1, d2] }
  | _ => none }
def flowBehindRow : OpenClaim := { program := "ytdnnnjedobknhaadoor", sum := "8e4fee21cc568711851b27f013b787e702fcd50c92451d239bcb0e8f24ef5831", func := "coffeehouse/coffeehouselaw1.FlowBehind", spec := "flowBehind", inPlace := ["internal/bytealg.IndexByteString", "internal/bytealg.IndexString"], unfollowed := true, recurses := true, named := ["coffeehouse/ins.forms", "internal/bytealg.MaxLen", "unicode/utf8.first", "unicode/utf8.acceptRanges"], apart := false, laid := [("unicode/utf8.acceptRanges", laid_unicode_utf8_acceptRanges), ("coffeehouse/ins.forms", laid_coffeehouse_ins_forms), ("unicode/utf8.first", laid_unicode_utf8_first)] }
def FlowBehindSaid : Prop := flowBehindRow.holds Tryd.pinned (OpenSpec.ofChange flowBehindSpec)

/-- ITS FALSE NEIGHBOUR: 'it returns false'. Refute it at one input. -/
def flowBehindWrong : ChangeSpec := { name := "flowBehind", fn := fun _ => fun
  | [d1, d2] => { results := [.lit (.bool false)], args := [d1, d2] }
  | _ => none }
def FlowBehindWrongFalsely : Prop := flowBehindRow.holds Tryd.pinned (OpenSpec.ofChange flowBehindWrong)

/-- 'coffeehouselaw5.FlowOwn': WHATEVER THE INPUT: true; the input reads as it did. -/
def flowOwnSpec : ChangeSpec := { name := "flowOwn", fn := fun _ => fun
  | [d1, d2, d3] => { results := [.lit (.bool true)], args := [d1, d2, d3] }
  | _ => none }
def flowOwnRow : OpenClaim := { program := "ytdnnnjedobknhaadoor", sum := "8e4fee21cc568711851b27f013b787e702fcd50c92451d239bcb0e8f24ef5831", func := "coffeehouse/coffeehouselaw5.FlowOwn", spec := "flowOwn", inPlace := ["internal/bytealg.IndexByteString", "internal/bytealg.IndexString"], unfollowed := true, recurses := true, named := ["unicode/utf8.first", "unicode/utf8.acceptRanges", "coffeehouse/ins.forms", "internal/bytealg.MaxLen"], apart := false, laid := [("unicode/utf8.acceptRanges", laid_unicode_utf8_acceptRanges), ("coffeehouse/ins.forms", laid_coffeehouse_ins_forms), ("unicode/utf8.first", laid_unicode_utf8_first)] }
def FlowOwnSaid : Prop := flowOwnRow.holds Tryd.pinned (OpenSpec.ofChange flowOwnSpec)

/-- ITS FALSE NEIGHBOUR: 'it returns false'. Refute it at one input. -/
def flowOwnWrong : ChangeSpec := { name := "flowOwn", fn := fun _ => fun
  | [d1, d2, d3] => { results := [.lit (.bool false)], args := [d1, d2, d3] }
  | _ => none }
def FlowOwnWrongFalsely : Prop := flowOwnRow.holds Tryd.pinned (OpenSpec.ofChange flowOwnWrong)

/-- 'coffeehouselaw4.TrimEnds': WHATEVER THE INPUT: true; the input reads as it did. -/
def trimEndsSpec : ChangeSpec := { name := "trimEnds", fn := fun _ => fun
  | [d] => { results := [.lit (.bool true)], args := [d] }
  | _ => none }
def trimEndsRow : OpenClaim := { program := "ytdnnnjedobknhaadoor", sum := "8e4fee21cc568711851b27f013b787e702fcd50c92451d239bcb0e8f24ef5831", func := "coffeehouse/coffeehouselaw4.TrimEnds", spec := "trimEnds", inPlace := ["internal/bytealg.IndexByteString", "internal/bytealg.IndexString"], unfollowed := true, recurses := true, named := ["coffeehouse/ins.forms", "internal/bytealg.MaxLen", "unicode/utf8.first", "unicode/utf8.acceptRanges"], apart := false, laid := [("unicode/utf8.acceptRanges", laid_unicode_utf8_acceptRanges), ("coffeehouse/ins.forms", laid_coffeehouse_ins_forms), ("unicode/utf8.first", laid_unicode_utf8_first)] }
def TrimEndsSaid : Prop := trimEndsRow.holds Tryd.pinned (OpenSpec.ofChange trimEndsSpec)

/-- ITS FALSE NEIGHBOUR: 'it returns false'. Refute it at one input. -/
def trimEndsWrong : ChangeSpec := { name := "trimEnds", fn := fun _ => fun
  | [d] => { results := [.lit (.bool false)], args := [d] }
  | _ => none }
def TrimEndsWrongFalsely : Prop := trimEndsRow.holds Tryd.pinned (OpenSpec.ofChange trimEndsWrong)

/-- 'coffeehouselaw4.MtypeBack': WHATEVER THE INPUT: true; the input reads as it did. -/
def mtypeBackSpec : ChangeSpec := { name := "mtypeBack", fn := fun _ => fun
  | [d1, d2, d3] => { results := [.lit (.bool true)], args := [d1, d2, d3] }
  | _ => none }
def mtypeBackRow : OpenClaim := { program := "ytdnnnjedobknhaadoor", sum := "8e4fee21cc568711851b27f013b787e702fcd50c92451d239bcb0e8f24ef5831", func := "coffeehouse/coffeehouselaw4.MtypeBack", spec := "mtypeBack", inPlace := ["internal/bytealg.IndexByteString", "internal/bytealg.IndexString", "internal/abi.NoEscape", "internal/bytealg.MakeNoZero", "slices.overlaps[string]"], unfollowed := true, recurses := true, named := ["unicode/utf8.first", "unicode/utf8.acceptRanges", "internal/bytealg.MaxLen"], apart := false, laid := [("unicode/utf8.acceptRanges", laid_unicode_utf8_acceptRanges), ("unicode/utf8.first", laid_unicode_utf8_first)] }
def MtypeBackSaid : Prop := mtypeBackRow.holds Tryd.pinned (OpenSpec.ofChange mtypeBackSpec)

/-- ITS FALSE NEIGHBOUR: 'it returns false'. Refute it at one input. -/
def mtypeBackWrong : ChangeSpec := { name := "mtypeBack", fn := fun _ => fun
  | [d1, d2, d3] => { results := [.lit (.bool false)], args := [d1, d2, d3] }
  | _ => none }
def MtypeBackWrongFalsely : Prop := mtypeBackRow.holds Tryd.pinned (OpenSpec.ofChange mtypeBackWrong)

/-- 'coffeehouselaw4.MtypeTells': WHATEVER THE INPUT: true; the input reads as it did. -/
def mtypeTellsSpec : ChangeSpec := { name := "mtypeTells", fn := fun _ => fun
  | [d1, d2, d3, d4, d5] => { results := [.lit (.bool true)], args := [d1, d2, d3, d4, d5] }
  | _ => none }
def mtypeTellsRow : OpenClaim := { program := "ytdnnnjedobknhaadoor", sum := "8e4fee21cc568711851b27f013b787e702fcd50c92451d239bcb0e8f24ef5831", func := "coffeehouse/coffeehouselaw4.MtypeTells", spec := "mtypeTells", inPlace := ["internal/bytealg.IndexByteString", "internal/bytealg.IndexString", "internal/abi.NoEscape", "internal/bytealg.MakeNoZero", "slices.overlaps[string]"], unfollowed := true, recurses := true, named := ["unicode/utf8.first", "unicode/utf8.acceptRanges", "internal/bytealg.MaxLen"], apart := false, laid := [("unicode/utf8.acceptRanges", laid_unicode_utf8_acceptRanges), ("unicode/utf8.first", laid_unicode_utf8_first)] }
def MtypeTellsSaid : Prop := mtypeTellsRow.holds Tryd.pinned (OpenSpec.ofChange mtypeTellsSpec)

/-- ITS FALSE NEIGHBOUR: 'it returns false'. Refute it at one input. -/
def mtypeTellsWrong : ChangeSpec := { name := "mtypeTells", fn := fun _ => fun
  | [d1, d2, d3, d4, d5] => { results := [.lit (.bool false)], args := [d1, d2, d3, d4, d5] }
  | _ => none }
def MtypeTellsWrongFalsely : Prop := mtypeTellsRow.holds Tryd.pinned (OpenSpec.ofChange mtypeTellsWrong)

/-- 'coffeehouselaw5.TrimOwn': WHATEVER THE INPUT: true; the input reads as it did. -/
def trimOwnSpec : ChangeSpec := { name := "trimOwn", fn := fun _ => fun
  | [d] => { results := [.lit (.bool true)], args := [d] }
  | _ => none }
def trimOwnRow : OpenClaim := { program := "ytdnnnjedobknhaadoor", sum := "8e4fee21cc568711851b27f013b787e702fcd50c92451d239bcb0e8f24ef5831", func := "coffeehouse/coffeehouselaw5.TrimOwn", spec := "trimOwn", inPlace := ["internal/bytealg.IndexByteString", "internal/bytealg.IndexString"], unfollowed := true, recurses := true, named := ["unicode/utf8.first", "unicode/utf8.acceptRanges", "coffeehouse/ins.forms", "internal/bytealg.MaxLen"], apart := false, laid := [("unicode/utf8.acceptRanges", laid_unicode_utf8_acceptRanges), ("coffeehouse/ins.forms", laid_coffeehouse_ins_forms), ("unicode/utf8.first", laid_unicode_utf8_first)] }
def TrimOwnSaid : Prop := trimOwnRow.holds Tryd.pinned (OpenSpec.ofChange trimOwnSpec)

/-- ITS FALSE NEIGHBOUR: 'it returns false'. Refute it at one input. -/
def trimOwnWrong : ChangeSpec := { name := "trimOwn", fn := fun _ => fun
  | [d] => { results := [.lit (.bool false)], args := [d] }
  | _ => none }
def TrimOwnWrongFalsely : Prop := trimOwnRow.holds Tryd.pinned (OpenSpec.ofChange trimOwnWrong)

/-- 'coffeehouselaw4.TrimTells': WHATEVER THE INPUT: true; the input reads as it did. -/
def trimTellsSpec : ChangeSpec := { name := "trimTells", fn := fun _ => fun
  | [d1, d2] => { results := [.lit (.bool true)], args := [d1, d2] }
  | _ => none }
def trimTellsRow : OpenClaim := { program := "ytdnnnjedobknhaadoor", sum := "8e4fee21cc568711851b27f013b787e702fcd50c92451d239bcb0e8f24ef5831", func := "coffeehouse/coffeehouselaw4.TrimTells", spec := "trimTells", inPlace := ["internal/bytealg.IndexByteString", "internal/bytealg.IndexString"], unfollowed := true, recurses := true, named := ["coffeehouse/ins.forms", "internal/bytealg.MaxLen", "unicode/utf8.first", "unicode/utf8.acceptRanges"], apart := false, laid := [("unicode/utf8.acceptRanges", laid_unicode_utf8_acceptRanges), ("coffeehouse/ins.forms", laid_coffeehouse_ins_forms), ("unicode/utf8.first", laid_unicode_utf8_first)] }
def TrimTellsSaid : Prop := trimTellsRow.holds Tryd.pinned (OpenSpec.ofChange trimTellsSpec)

/-- ITS FALSE NEIGHBOUR: 'it returns false'. Refute it at one input. -/
def trimTellsWrong : ChangeSpec := { name := "trimTells", fn := fun _ => fun
  | [d1, d2] => { results := [.lit (.bool false)], args := [d1, d2] }
  | _ => none }
def TrimTellsWrongFalsely : Prop := trimTellsRow.holds Tryd.pinned (OpenSpec.ofChange trimTellsWrong)

/-- 'coffeehouselaw1.ClassTells': WHATEVER THE INPUT: true; the input reads as it did. -/
def classTellsSpec : ChangeSpec := { name := "classTells", fn := fun _ => fun
  | [d] => { results := [.lit (.bool true)], args := [d] }
  | _ => none }
def classTellsRow : OpenClaim := { program := "ytdnnnjedobknhaadoor", sum := "8e4fee21cc568711851b27f013b787e702fcd50c92451d239bcb0e8f24ef5831", func := "coffeehouse/coffeehouselaw1.ClassTells", spec := "classTells", inPlace := ["internal/bytealg.IndexByteString", "internal/bytealg.IndexString"], unfollowed := true, recurses := true, named := ["unicode/utf8.first", "unicode/utf8.acceptRanges", "coffeehouse/ins.forms", "internal/bytealg.MaxLen"], apart := false, laid := [("unicode/utf8.acceptRanges", laid_unicode_utf8_acceptRanges), ("coffeehouse/ins.forms", laid_coffeehouse_ins_forms), ("unicode/utf8.first", laid_unicode_utf8_first)] }
def ClassTellsSaid : Prop := classTellsRow.holds Tryd.pinned (OpenSpec.ofChange classTellsSpec)

/-- ITS FALSE NEIGHBOUR: 'it returns false'. Refute it at one input. -/
def classTellsWrong : ChangeSpec := { name := "classTells", fn := fun _ => fun
  | [d] => { results := [.lit (.bool false)], args := [d] }
  | _ => none }
def ClassTellsWrongFalsely : Prop := classTellsRow.holds Tryd.pinned (OpenSpec.ofChange classTellsWrong)

/-- 'coffeehouselaw1.ClassParts': WHATEVER THE INPUT: true; the input reads as it did. -/
def classPartsSpec : ChangeSpec := { name := "classParts", fn := fun _ => fun
  | [d] => { results := [.lit (.bool true)], args := [d] }
  | _ => none }
def classPartsRow : OpenClaim := { program := "ytdnnnjedobknhaadoor", sum := "8e4fee21cc568711851b27f013b787e702fcd50c92451d239bcb0e8f24ef5831", func := "coffeehouse/coffeehouselaw1.ClassParts", spec := "classParts", inPlace := ["internal/bytealg.IndexByteString", "internal/bytealg.IndexString"], unfollowed := true, recurses := true, named := ["unicode/utf8.first", "unicode/utf8.acceptRanges", "coffeehouse/ins.forms", "internal/bytealg.MaxLen"], apart := false, laid := [("unicode/utf8.acceptRanges", laid_unicode_utf8_acceptRanges), ("coffeehouse/ins.forms", laid_coffeehouse_ins_forms), ("unicode/utf8.first", laid_unicode_utf8_first)] }
def ClassPartsSaid : Prop := classPartsRow.holds Tryd.pinned (OpenSpec.ofChange classPartsSpec)

/-- ITS FALSE NEIGHBOUR: 'it returns false'. Refute it at one input. -/
def classPartsWrong : ChangeSpec := { name := "classParts", fn := fun _ => fun
  | [d] => { results := [.lit (.bool false)], args := [d] }
  | _ => none }
def ClassPartsWrongFalsely : Prop := classPartsRow.holds Tryd.pinned (OpenSpec.ofChange classPartsWrong)

/- THE SECOND FORM. 'bulk': how many values and letters a reading holds, each counted each time it is reached (what is shared counts as often as it is met; a slice's spare places count too). A statement '..UptoSaid' is the law's where the arguments, and the package variables that the reading takes, are together of bulk at most 1048576: NARROWER than '..Said'. Prove '..Said' where nothing that the law and all that it calls make is longer than what came in: it says more and counts as full. Else prove '..UptoSaid'. A law counts once. -/
mutual
def uptoBulk {H : Type} : DataW H → Nat
  | .lit (.string bytes) => bytes.length + 1
  | .lit _ => 1
  | .nil => 1
  | .ptr d => uptoBulk d + 1
  | .slice elems spare => uptoBulkAll elems + uptoBulkAll spare + 1
  | .agg parts => uptoBulkAll parts + 1
  | .iface _ d => uptoBulk d + 1
  | .map entries => uptoBulkEntries entries + 1
  | .held _ => 1
def uptoBulkAll {H : Type} : List (DataW H) → Nat
  | [] => 0
  | d :: r => uptoBulk d + uptoBulkAll r
def uptoBulkEntries {H : Type} : List (Lit × DataW H) → Nat
  | [] => 0
  | x :: r => uptoBulkEntry x + uptoBulkEntries r
def uptoBulkEntry {H : Type} : Lit × DataW H → Nat
  | (.string bytes, d) => bytes.length + uptoBulk d + 1
  | (_, d) => uptoBulk d + 1
 end
def uptoSmall : (H : Type) → List (DataW H) → Bool := fun _ ds => decide (uptoBulkAll ds ≤ 1048576)
def OpenSpec.upto (s : _root_.Go.ChangeSpec) : _root_.Go.OpenSpec := { _root_.Go.OpenSpec.ofChange s with cond := some uptoSmall }

/-- 'coffeehouselaw4.MtypePermutes', WHERE WHAT IT READS IS OF BULK AT MOST 1048576: true; the input reads as it did. -/
def mtypePermutesUptoRow : OpenClaim := { program := "ytdnnnjedobknhaadoor", sum := "8e4fee21cc568711851b27f013b787e702fcd50c92451d239bcb0e8f24ef5831", func := "coffeehouse/coffeehouselaw4.MtypePermutes", spec := "mtypePermutes", inPlace := ["internal/bytealg.IndexByteString", "internal/bytealg.IndexString", "internal/abi.NoEscape", "internal/bytealg.MakeNoZero"], unfollowed := true, recurses := true, named := ["unicode/utf8.first", "unicode/utf8.acceptRanges", "internal/bytealg.MaxLen"], apart := false, laid := [("unicode/utf8.acceptRanges", laid_unicode_utf8_acceptRanges), ("unicode/utf8.first", laid_unicode_utf8_first)], narrowed := true }
def MtypePermutesUptoSaid : Prop := mtypePermutesUptoRow.holds Tryd.pinned (OpenSpec.upto mtypePermutesSpec)

/-- 'coffeehouselaw1.FlowTells', WHERE WHAT IT READS IS OF BULK AT MOST 1048576: true; the input reads as it did. -/
def flowTellsUptoRow : OpenClaim := { program := "ytdnnnjedobknhaadoor", sum := "8e4fee21cc568711851b27f013b787e702fcd50c92451d239bcb0e8f24ef5831", func := "coffeehouse/coffeehouselaw1.FlowTells", spec := "flowTells", inPlace := ["internal/bytealg.IndexByteString", "internal/bytealg.IndexString"], unfollowed := true, recurses := true, named := ["coffeehouse/ins.forms", "internal/bytealg.MaxLen", "unicode/utf8.first", "unicode/utf8.acceptRanges"], apart := false, laid := [("unicode/utf8.acceptRanges", laid_unicode_utf8_acceptRanges), ("coffeehouse/ins.forms", laid_coffeehouse_ins_forms), ("unicode/utf8.first", laid_unicode_utf8_first)], narrowed := true }
def FlowTellsUptoSaid : Prop := flowTellsUptoRow.holds Tryd.pinned (OpenSpec.upto flowTellsSpec)

/-- 'coffeehouselaw1.FlowClosed', WHERE WHAT IT READS IS OF BULK AT MOST 1048576: true; the input reads as it did. -/
def flowClosedUptoRow : OpenClaim := { program := "ytdnnnjedobknhaadoor", sum := "8e4fee21cc568711851b27f013b787e702fcd50c92451d239bcb0e8f24ef5831", func := "coffeehouse/coffeehouselaw1.FlowClosed", spec := "flowClosed", inPlace := ["internal/bytealg.IndexByteString", "internal/bytealg.IndexString"], unfollowed := true, recurses := true, named := ["coffeehouse/ins.forms", "internal/bytealg.MaxLen", "unicode/utf8.first", "unicode/utf8.acceptRanges"], apart := false, laid := [("unicode/utf8.acceptRanges", laid_unicode_utf8_acceptRanges), ("coffeehouse/ins.forms", laid_coffeehouse_ins_forms), ("unicode/utf8.first", laid_unicode_utf8_first)], narrowed := true }
def FlowClosedUptoSaid : Prop := flowClosedUptoRow.holds Tryd.pinned (OpenSpec.upto flowClosedSpec)

/-- 'coffeehouselaw1.FlowBehind', WHERE WHAT IT READS IS OF BULK AT MOST 1048576: true; the input reads as it did. -/
def flowBehindUptoRow : OpenClaim := { program := "ytdnnnjedobknhaadoor", sum := "8e4fee21cc568711851b27f013b787e702fcd50c92451d239bcb0e8f24ef5831", func := "coffeehouse/coffeehouselaw1.FlowBehind", spec := "flowBehind", inPlace := ["internal/bytealg.IndexByteString", "internal/bytealg.IndexString"], unfollowed := true, recurses := true, named := ["coffeehouse/ins.forms", "internal/bytealg.MaxLen", "unicode/utf8.first", "unicode/utf8.acceptRanges"], apart := false, laid := [("unicode/utf8.acceptRanges", laid_unicode_utf8_acceptRanges), ("coffeehouse/ins.forms", laid_coffeehouse_ins_forms), ("unicode/utf8.first", laid_unicode_utf8_first)], narrowed := true }
def FlowBehindUptoSaid : Prop := flowBehindUptoRow.holds Tryd.pinned (OpenSpec.upto flowBehindSpec)

/-- 'coffeehouselaw5.FlowOwn', WHERE WHAT IT READS IS OF BULK AT MOST 1048576: true; the input reads as it did. -/
def flowOwnUptoRow : OpenClaim := { program := "ytdnnnjedobknhaadoor", sum := "8e4fee21cc568711851b27f013b787e702fcd50c92451d239bcb0e8f24ef5831", func := "coffeehouse/coffeehouselaw5.FlowOwn", spec := "flowOwn", inPlace := ["internal/bytealg.IndexByteString", "internal/bytealg.IndexString"], unfollowed := true, recurses := true, named := ["unicode/utf8.first", "unicode/utf8.acceptRanges", "coffeehouse/ins.forms", "internal/bytealg.MaxLen"], apart := false, laid := [("unicode/utf8.acceptRanges", laid_unicode_utf8_acceptRanges), ("coffeehouse/ins.forms", laid_coffeehouse_ins_forms), ("unicode/utf8.first", laid_unicode_utf8_first)], narrowed := true }
def FlowOwnUptoSaid : Prop := flowOwnUptoRow.holds Tryd.pinned (OpenSpec.upto flowOwnSpec)

/-- 'coffeehouselaw4.TrimEnds', WHERE WHAT IT READS IS OF BULK AT MOST 1048576: true; the input reads as it did. -/
def trimEndsUptoRow : OpenClaim := { program := "ytdnnnjedobknhaadoor", sum := "8e4fee21cc568711851b27f013b787e702fcd50c92451d239bcb0e8f24ef5831", func := "coffeehouse/coffeehouselaw4.TrimEnds", spec := "trimEnds", inPlace := ["internal/bytealg.IndexByteString", "internal/bytealg.IndexString"], unfollowed := true, recurses := true, named := ["coffeehouse/ins.forms", "internal/bytealg.MaxLen", "unicode/utf8.first", "unicode/utf8.acceptRanges"], apart := false, laid := [("unicode/utf8.acceptRanges", laid_unicode_utf8_acceptRanges), ("coffeehouse/ins.forms", laid_coffeehouse_ins_forms), ("unicode/utf8.first", laid_unicode_utf8_first)], narrowed := true }
def TrimEndsUptoSaid : Prop := trimEndsUptoRow.holds Tryd.pinned (OpenSpec.upto trimEndsSpec)

/-- 'coffeehouselaw4.MtypeBack', WHERE WHAT IT READS IS OF BULK AT MOST 1048576: true; the input reads as it did. -/
def mtypeBackUptoRow : OpenClaim := { program := "ytdnnnjedobknhaadoor", sum := "8e4fee21cc568711851b27f013b787e702fcd50c92451d239bcb0e8f24ef5831", func := "coffeehouse/coffeehouselaw4.MtypeBack", spec := "mtypeBack", inPlace := ["internal/bytealg.IndexByteString", "internal/bytealg.IndexString", "internal/abi.NoEscape", "internal/bytealg.MakeNoZero", "slices.overlaps[string]"], unfollowed := true, recurses := true, named := ["unicode/utf8.first", "unicode/utf8.acceptRanges", "internal/bytealg.MaxLen"], apart := false, laid := [("unicode/utf8.acceptRanges", laid_unicode_utf8_acceptRanges), ("unicode/utf8.first", laid_unicode_utf8_first)], narrowed := true }
def MtypeBackUptoSaid : Prop := mtypeBackUptoRow.holds Tryd.pinned (OpenSpec.upto mtypeBackSpec)

/-- 'coffeehouselaw4.MtypeTells', WHERE WHAT IT READS IS OF BULK AT MOST 1048576: true; the input reads as it did. -/
def mtypeTellsUptoRow : OpenClaim := { program := "ytdnnnjedobknhaadoor", sum := "8e4fee21cc568711851b27f013b787e702fcd50c92451d239bcb0e8f24ef5831", func := "coffeehouse/coffeehouselaw4.MtypeTells", spec := "mtypeTells", inPlace := ["internal/bytealg.IndexByteString", "internal/bytealg.IndexString", "internal/abi.NoEscape", "internal/bytealg.MakeNoZero", "slices.overlaps[string]"], unfollowed := true, recurses := true, named := ["unicode/utf8.first", "unicode/utf8.acceptRanges", "internal/bytealg.MaxLen"], apart := false, laid := [("unicode/utf8.acceptRanges", laid_unicode_utf8_acceptRanges), ("unicode/utf8.first", laid_unicode_utf8_first)], narrowed := true }
def MtypeTellsUptoSaid : Prop := mtypeTellsUptoRow.holds Tryd.pinned (OpenSpec.upto mtypeTellsSpec)

/-- 'coffeehouselaw5.TrimOwn', WHERE WHAT IT READS IS OF BULK AT MOST 1048576: true; the input reads as it did. -/
def trimOwnUptoRow : OpenClaim := { program := "ytdnnnjedobknhaadoor", sum := "8e4fee21cc568711851b27f013b787e702fcd50c92451d239bcb0e8f24ef5831", func := "coffeehouse/coffeehouselaw5.TrimOwn", spec := "trimOwn", inPlace := ["internal/bytealg.IndexByteString", "internal/bytealg.IndexString"], unfollowed := true, recurses := true, named := ["unicode/utf8.first", "unicode/utf8.acceptRanges", "coffeehouse/ins.forms", "internal/bytealg.MaxLen"], apart := false, laid := [("unicode/utf8.acceptRanges", laid_unicode_utf8_acceptRanges), ("coffeehouse/ins.forms", laid_coffeehouse_ins_forms), ("unicode/utf8.first", laid_unicode_utf8_first)], narrowed := true }
def TrimOwnUptoSaid : Prop := trimOwnUptoRow.holds Tryd.pinned (OpenSpec.upto trimOwnSpec)

/-- 'coffeehouselaw4.TrimTells', WHERE WHAT IT READS IS OF BULK AT MOST 1048576: true; the input reads as it did. -/
def trimTellsUptoRow : OpenClaim := { program := "ytdnnnjedobknhaadoor", sum := "8e4fee21cc568711851b27f013b787e702fcd50c92451d239bcb0e8f24ef5831", func := "coffeehouse/coffeehouselaw4.TrimTells", spec := "trimTells", inPlace := ["internal/bytealg.IndexByteString", "internal/bytealg.IndexString"], unfollowed := true, recurses := true, named := ["coffeehouse/ins.forms", "internal/bytealg.MaxLen", "unicode/utf8.first", "unicode/utf8.acceptRanges"], apart := false, laid := [("unicode/utf8.acceptRanges", laid_unicode_utf8_acceptRanges), ("coffeehouse/ins.forms", laid_coffeehouse_ins_forms), ("unicode/utf8.first", laid_unicode_utf8_first)], narrowed := true }
def TrimTellsUptoSaid : Prop := trimTellsUptoRow.holds Tryd.pinned (OpenSpec.upto trimTellsSpec)

/-- 'coffeehouselaw1.ClassTells', WHERE WHAT IT READS IS OF BULK AT MOST 1048576: true; the input reads as it did. -/
def classTellsUptoRow : OpenClaim := { program := "ytdnnnjedobknhaadoor", sum := "8e4fee21cc568711851b27f013b787e702fcd50c92451d239bcb0e8f24ef5831", func := "coffeehouse/coffeehouselaw1.ClassTells", spec := "classTells", inPlace := ["internal/bytealg.IndexByteString", "internal/bytealg.IndexString"], unfollowed := true, recurses := true, named := ["unicode/utf8.first", "unicode/utf8.acceptRanges", "coffeehouse/ins.forms", "internal/bytealg.MaxLen"], apart := false, laid := [("unicode/utf8.acceptRanges", laid_unicode_utf8_acceptRanges), ("coffeehouse/ins.forms", laid_coffeehouse_ins_forms), ("unicode/utf8.first", laid_unicode_utf8_first)], narrowed := true }
def ClassTellsUptoSaid : Prop := classTellsUptoRow.holds Tryd.pinned (OpenSpec.upto classTellsSpec)

/-- 'coffeehouselaw1.ClassParts', WHERE WHAT IT READS IS OF BULK AT MOST 1048576: true; the input reads as it did. -/
def classPartsUptoRow : OpenClaim := { program := "ytdnnnjedobknhaadoor", sum := "8e4fee21cc568711851b27f013b787e702fcd50c92451d239bcb0e8f24ef5831", func := "coffeehouse/coffeehouselaw1.ClassParts", spec := "classParts", inPlace := ["internal/bytealg.IndexByteString", "internal/bytealg.IndexString"], unfollowed := true, recurses := true, named := ["unicode/utf8.first", "unicode/utf8.acceptRanges", "coffeehouse/ins.forms", "internal/bytealg.MaxLen"], apart := false, laid := [("unicode/utf8.acceptRanges", laid_unicode_utf8_acceptRanges), ("coffeehouse/ins.forms", laid_coffeehouse_ins_forms), ("unicode/utf8.first", laid_unicode_utf8_first)], narrowed := true }
def ClassPartsUptoSaid : Prop := classPartsUptoRow.holds Tryd.pinned (OpenSpec.upto classPartsSpec)

end Rows
end Go.Proofs.YtdnnnjedobknhaaDoor
