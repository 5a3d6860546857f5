/-
  NARROWER THAN 'FOR EVERY INPUT', by the rows' own cells (each row's printed sentence says how): FnExactCanFind: laid · FnExactIsPackage: laid · FnExactWhoHides: laid · FnExactRemoveFile: laid · FnExactFindIn: laid · FnExactFindSpec: laid · FnExactHiddenFiles: laid · FnExactValidDisk: laid · FnExactStampOf: laid.
  DERIVED. THE GIVEN ROWS OF THIS SEAT. 9 by the template 'for every input the law returns true; each argument reads behind the call as it read before'; 0 by the template 'total and deterministic' (their statements: YtcophpiibifhcaaDoorTotals.lean).
  GIVEN WITH THE SEED: the statements are not yours to turn. If you find one false, say at which input.
  Laid BY PROGRAM, IN A SANDBOX (cutbox-rows.mjs): the forced cells as the released guide's own fill.sh prints them over the translation ac0e3e3e029c11c1… (all of the seat's roots in one cut). By AI agents, Wed Nov 11 2026. No macro, syntax, notation, axiom, sorry.
-/
import Derived.Test.YtcophpiibifhcaaDoorChecked
import GoSem.PinnedTables
import GoSem.Claim
import GoSem.ClaimJoined
import GoSem.ClaimMapViews
import Derived.JoinedTies
import Derived.KernelRfl
namespace Go.Proofs.YtcophpiibifhcaaDoor
/- THE CELL 'sum', in the pinned program and in every row, IS THE sha256 OF THE DUMP (.gsa) THAT YtcophpiibifhcaaDoorProg.lean LOADS. Nothing in Lean hashes anything: it is a label: what it is worth is what the hold of that sum in a sandbox is worth. -/
noncomputable def Tryd.pinned : Pinned := { name := "ytcophpiibifhcaadoor", sum := "ac0e3e3e029c11c1bbf7c89bd62a45da3d3d7e2b604f0cb60df85c71af211b63", checked := Tryd.checked }
namespace Rows
def none {H : Type} : Left H := { results := [], args := [] }

/- WHAT THE LISTED PACKAGE-LEVEL VARIABLES READ AS WHEN THE CALL BEGINS. Each datum BY PROGRAM (the guide's laid-datum.mjs) off the statement by which the dump's own 'gosem.cut.vars' lays the variable. In a bare row this is a premise. The card (YtcophpiibifhcaaDoorCards.lean) ties it to the program's text. -/
def laid_unicode_utf8_acceptRanges {H : Type} : DataW H := .agg [.agg [.lit (.int .u8 128), .lit (.int .u8 191)], .agg [.lit (.int .u8 160), .lit (.int .u8 191)], .agg [.lit (.int .u8 128), .lit (.int .u8 159)], .agg [.lit (.int .u8 144), .lit (.int .u8 191)], .agg [.lit (.int .u8 128), .lit (.int .u8 143)], .agg [.lit (.int .u8 0), .lit (.int .u8 0)], .agg [.lit (.int .u8 0), .lit (.int .u8 0)], .agg [.lit (.int .u8 0), .lit (.int .u8 0)], .agg [.lit (.int .u8 0), .lit (.int .u8 0)], .agg [.lit (.int .u8 0), .lit (.int .u8 0)], .agg [.lit (.int .u8 0), .lit (.int .u8 0)], .agg [.lit (.int .u8 0), .lit (.int .u8 0)], .agg [.lit (.int .u8 0), .lit (.int .u8 0)], .agg [.lit (.int .u8 0), .lit (.int .u8 0)], .agg [.lit (.int .u8 0), .lit (.int .u8 0)], .agg [.lit (.int .u8 0), .lit (.int .u8 0)]]
/-- One of Go's own tables, pinned by name: the form's constant. -/
def laid_unicode_utf8_first : DataW Unit := Go.Pinned.utf8First

/-- 'laws.FnExactCanFind': WHATEVER THE INPUT: true; the input reads as it did. -/
def fnExactCanFindSpec : ChangeSpec := { name := "fnExactCanFind", fn := fun _ => fun
  | [d1, d2, d3] => { results := [.lit (.bool true)], args := [d1, d2, d3] }
  | _ => none }
def fnExactCanFindRow : OpenClaim := { program := "ytcophpiibifhcaadoor", sum := "ac0e3e3e029c11c1bbf7c89bd62a45da3d3d7e2b604f0cb60df85c71af211b63", func := "loop.example/importhouse/laws.FnExactCanFind", spec := "fnExactCanFind", inPlace := ["internal/bytealg.CountString", "internal/bytealg.IndexByteString", "internal/bytealg.IndexString"], unfollowed := true, recurses := true, named := ["unicode/utf8.first", "unicode/utf8.acceptRanges", "internal/bytealg.MaxLen"], apart := false, laid := [("unicode/utf8.acceptRanges", laid_unicode_utf8_acceptRanges), ("unicode/utf8.first", laid_unicode_utf8_first)] }
def FnExactCanFindSaid : Prop := fnExactCanFindRow.holds Tryd.pinned (OpenSpec.ofChange fnExactCanFindSpec)

/-- ITS FALSE NEIGHBOUR: 'it returns false'. Refute it at one input. -/
def fnExactCanFindWrong : ChangeSpec := { name := "fnExactCanFind", fn := fun _ => fun
  | [d1, d2, d3] => { results := [.lit (.bool false)], args := [d1, d2, d3] }
  | _ => none }
def FnExactCanFindWrongFalsely : Prop := fnExactCanFindRow.holds Tryd.pinned (OpenSpec.ofChange fnExactCanFindWrong)

/-- 'laws.FnExactIsPackage': WHATEVER THE INPUT: true; the input reads as it did. -/
def fnExactIsPackageSpec : ChangeSpec := { name := "fnExactIsPackage", fn := fun _ => fun
  | [d1, d2, d3] => { results := [.lit (.bool true)], args := [d1, d2, d3] }
  | _ => none }
def fnExactIsPackageRow : OpenClaim := { program := "ytcophpiibifhcaadoor", sum := "ac0e3e3e029c11c1bbf7c89bd62a45da3d3d7e2b604f0cb60df85c71af211b63", func := "loop.example/importhouse/laws.FnExactIsPackage", spec := "fnExactIsPackage", inPlace := ["internal/bytealg.CountString", "internal/bytealg.IndexByteString", "internal/bytealg.IndexString"], unfollowed := true, recurses := true, named := ["unicode/utf8.first", "unicode/utf8.acceptRanges", "internal/bytealg.MaxLen"], apart := false, laid := [("unicode/utf8.acceptRanges", laid_unicode_utf8_acceptRanges), ("unicode/utf8.first", laid_unicode_utf8_first)] }
def FnExactIsPackageSaid : Prop := fnExactIsPackageRow.holds Tryd.pinned (OpenSpec.ofChange fnExactIsPackageSpec)

/-- ITS FALSE NEIGHBOUR: 'it returns false'. Refute it at one input. -/
def fnExactIsPackageWrong : ChangeSpec := { name := "fnExactIsPackage", fn := fun _ => fun
  | [d1, d2, d3] => { results := [.lit (.bool false)], args := [d1, d2, d3] }
  | _ => none }
def FnExactIsPackageWrongFalsely : Prop := fnExactIsPackageRow.holds Tryd.pinned (OpenSpec.ofChange fnExactIsPackageWrong)

/-- 'laws.FnExactWhoHides': WHATEVER THE INPUT: true; the input reads as it did. -/
def fnExactWhoHidesSpec : ChangeSpec := { name := "fnExactWhoHides", fn := fun _ => fun
  | [d1, d2, d3] => { results := [.lit (.bool true)], args := [d1, d2, d3] }
  | _ => none }
def fnExactWhoHidesRow : OpenClaim := { program := "ytcophpiibifhcaadoor", sum := "ac0e3e3e029c11c1bbf7c89bd62a45da3d3d7e2b604f0cb60df85c71af211b63", func := "loop.example/importhouse/laws.FnExactWhoHides", spec := "fnExactWhoHides", inPlace := ["internal/bytealg.CountString", "internal/bytealg.IndexByteString", "internal/bytealg.IndexString"], unfollowed := true, recurses := true, named := ["unicode/utf8.first", "unicode/utf8.acceptRanges", "internal/bytealg.MaxLen"], apart := false, laid := [("unicode/utf8.acceptRanges", laid_unicode_utf8_acceptRanges), ("unicode/utf8.first", laid_unicode_utf8_first)] }
def FnExactWhoHidesSaid : Prop := fnExactWhoHidesRow.holds Tryd.pinned (OpenSpec.ofChange fnExactWhoHidesSpec)

/-- ITS FALSE NEIGHBOUR: 'it returns false'. Refute it at one input. -/
def fnExactWhoHidesWrong : ChangeSpec := { name := "fnExactWhoHides", fn := fun _ => fun
  | [d1, d2, d3] => { results := [.lit (.bool false)], args := [d1, d2, d3] }
  | _ => none }
def FnExactWhoHidesWrongFalsely : Prop := fnExactWhoHidesRow.holds Tryd.pinned (OpenSpec.ofChange fnExactWhoHidesWrong)

/-- 'laws.FnExactRemoveFile': WHATEVER THE INPUT: true; the input reads as it did. -/
def fnExactRemoveFileSpec : ChangeSpec := { name := "fnExactRemoveFile", fn := fun _ => fun
  | [d1, d2] => { results := [.lit (.bool true)], args := [d1, d2] }
  | _ => none }
def fnExactRemoveFileRow : OpenClaim := { program := "ytcophpiibifhcaadoor", sum := "ac0e3e3e029c11c1bbf7c89bd62a45da3d3d7e2b604f0cb60df85c71af211b63", func := "loop.example/importhouse/laws.FnExactRemoveFile", spec := "fnExactRemoveFile", inPlace := ["internal/bytealg.CountString", "internal/bytealg.IndexByteString", "internal/bytealg.IndexString"], named := ["unicode/utf8.first", "unicode/utf8.acceptRanges", "internal/bytealg.MaxLen"], apart := false, laid := [("unicode/utf8.acceptRanges", laid_unicode_utf8_acceptRanges), ("unicode/utf8.first", laid_unicode_utf8_first)] }
def FnExactRemoveFileSaid : Prop := fnExactRemoveFileRow.holds Tryd.pinned (OpenSpec.ofChange fnExactRemoveFileSpec)

/-- ITS FALSE NEIGHBOUR: 'it returns false'. Refute it at one input. -/
def fnExactRemoveFileWrong : ChangeSpec := { name := "fnExactRemoveFile", fn := fun _ => fun
  | [d1, d2] => { results := [.lit (.bool false)], args := [d1, d2] }
  | _ => none }
def FnExactRemoveFileWrongFalsely : Prop := fnExactRemoveFileRow.holds Tryd.pinned (OpenSpec.ofChange fnExactRemoveFileWrong)

/-- 'laws.FnExactFindIn': WHATEVER THE INPUT: true; the input reads as it did. -/
def fnExactFindInSpec : ChangeSpec := { name := "fnExactFindIn", fn := fun _ => fun
  | [d1, d2, d3, d4] => { results := [.lit (.bool true)], args := [d1, d2, d3, d4] }
  | _ => none }
def fnExactFindInRow : OpenClaim := { program := "ytcophpiibifhcaadoor", sum := "ac0e3e3e029c11c1bbf7c89bd62a45da3d3d7e2b604f0cb60df85c71af211b63", func := "loop.example/importhouse/laws.FnExactFindIn", spec := "fnExactFindIn", inPlace := ["internal/bytealg.CountString", "internal/bytealg.IndexByteString", "internal/bytealg.IndexString"], unfollowed := true, recurses := true, named := ["unicode/utf8.first", "unicode/utf8.acceptRanges", "internal/bytealg.MaxLen"], apart := false, laid := [("unicode/utf8.acceptRanges", laid_unicode_utf8_acceptRanges), ("unicode/utf8.first", laid_unicode_utf8_first)] }
def FnExactFindInSaid : Prop := fnExactFindInRow.holds Tryd.pinned (OpenSpec.ofChange fnExactFindInSpec)

/-- ITS FALSE NEIGHBOUR: 'it returns false'. Refute it at one input. -/
def fnExactFindInWrong : ChangeSpec := { name := "fnExactFindIn", fn := fun _ => fun
  | [d1, d2, d3, d4] => { results := [.lit (.bool false)], args := [d1, d2, d3, d4] }
  | _ => none }
def FnExactFindInWrongFalsely : Prop := fnExactFindInRow.holds Tryd.pinned (OpenSpec.ofChange fnExactFindInWrong)

/-- 'laws.FnExactFindSpec': WHATEVER THE INPUT: true; the input reads as it did. -/
def fnExactFindSpecSpec : ChangeSpec := { name := "fnExactFindSpec", fn := fun _ => fun
  | [d1, d2, d3] => { results := [.lit (.bool true)], args := [d1, d2, d3] }
  | _ => none }
def fnExactFindSpecRow : OpenClaim := { program := "ytcophpiibifhcaadoor", sum := "ac0e3e3e029c11c1bbf7c89bd62a45da3d3d7e2b604f0cb60df85c71af211b63", func := "loop.example/importhouse/laws.FnExactFindSpec", spec := "fnExactFindSpec", inPlace := ["internal/bytealg.CountString", "internal/bytealg.IndexByteString", "internal/bytealg.IndexString"], unfollowed := true, recurses := true, named := ["unicode/utf8.first", "unicode/utf8.acceptRanges", "internal/bytealg.MaxLen"], apart := false, laid := [("unicode/utf8.acceptRanges", laid_unicode_utf8_acceptRanges), ("unicode/utf8.first", laid_unicode_utf8_first)] }
def FnExactFindSpecSaid : Prop := fnExactFindSpecRow.holds Tryd.pinned (OpenSpec.ofChange fnExactFindSpecSpec)

/-- ITS FALSE NEIGHBOUR: 'it returns false'. Refute it at one input. -/
def fnExactFindSpecWrong : ChangeSpec := { name := "fnExactFindSpec", fn := fun _ => fun
  | [d1, d2, d3] => { results := [.lit (.bool false)], args := [d1, d2, d3] }
  | _ => none }
def FnExactFindSpecWrongFalsely : Prop := fnExactFindSpecRow.holds Tryd.pinned (OpenSpec.ofChange fnExactFindSpecWrong)

/-- 'laws.FnExactHiddenFiles': WHATEVER THE INPUT: true; the input reads as it did. -/
def fnExactHiddenFilesSpec : ChangeSpec := { name := "fnExactHiddenFiles", fn := fun _ => fun
  | [d1, d2] => { results := [.lit (.bool true)], args := [d1, d2] }
  | _ => none }
def fnExactHiddenFilesRow : OpenClaim := { program := "ytcophpiibifhcaadoor", sum := "ac0e3e3e029c11c1bbf7c89bd62a45da3d3d7e2b604f0cb60df85c71af211b63", func := "loop.example/importhouse/laws.FnExactHiddenFiles", spec := "fnExactHiddenFiles", inPlace := ["internal/bytealg.CountString", "internal/bytealg.IndexByteString", "internal/bytealg.IndexString"], unfollowed := true, recurses := true, named := ["unicode/utf8.first", "unicode/utf8.acceptRanges", "internal/bytealg.MaxLen"], apart := false, laid := [("unicode/utf8.acceptRanges", laid_unicode_utf8_acceptRanges), ("unicode/utf8.first", laid_unicode_utf8_first)] }
def FnExactHiddenFilesSaid : Prop := fnExactHiddenFilesRow.holds Tryd.pinned (OpenSpec.ofChange fnExactHiddenFilesSpec)

/-- ITS FALSE NEIGHBOUR: 'it returns false'. Refute it at one input. -/
def fnExactHiddenFilesWrong : ChangeSpec := { name := "fnExactHiddenFiles", fn := fun _ => fun
  | [d1, d2] => { results := [.lit (.bool false)], args := [d1, d2] }
  | _ => none }
def FnExactHiddenFilesWrongFalsely : Prop := fnExactHiddenFilesRow.holds Tryd.pinned (OpenSpec.ofChange fnExactHiddenFilesWrong)

/-- 'laws.FnExactValidDisk': WHATEVER THE INPUT: true; the input reads as it did. -/
def fnExactValidDiskSpec : ChangeSpec := { name := "fnExactValidDisk", fn := fun _ => fun
  | [d] => { results := [.lit (.bool true)], args := [d] }
  | _ => none }
def fnExactValidDiskRow : OpenClaim := { program := "ytcophpiibifhcaadoor", sum := "ac0e3e3e029c11c1bbf7c89bd62a45da3d3d7e2b604f0cb60df85c71af211b63", func := "loop.example/importhouse/laws.FnExactValidDisk", spec := "fnExactValidDisk", inPlace := ["internal/bytealg.CountString", "internal/bytealg.IndexByteString", "internal/bytealg.IndexString"], unfollowed := true, recurses := true, named := ["unicode/utf8.first", "unicode/utf8.acceptRanges", "internal/bytealg.MaxLen"], apart := false, laid := [("unicode/utf8.acceptRanges", laid_unicode_utf8_acceptRanges), ("unicode/utf8.first", laid_unicode_utf8_first)] }
def FnExactValidDiskSaid : Prop := fnExactValidDiskRow.holds Tryd.pinned (OpenSpec.ofChange fnExactValidDiskSpec)

/-- ITS FALSE NEIGHBOUR: 'it returns false'. Refute it at one input. -/
def fnExactValidDiskWrong : ChangeSpec := { name := "fnExactValidDisk", fn := fun _ => fun
  | [d] => { results := [.lit (.bool false)], args := [d] }
  | _ => none }
def FnExactValidDiskWrongFalsely : Prop := fnExactValidDiskRow.holds Tryd.pinned (OpenSpec.ofChange fnExactValidDiskWrong)

/-- 'laws.FnExactStampOf': WHATEVER THE INPUT: true; the input reads as it did. -/
def fnExactStampOfSpec : ChangeSpec := { name := "fnExactStampOf", fn := fun _ => fun
  | [d1, d2, d3] => { results := [.lit (.bool true)], args := [d1, d2, d3] }
  | _ => none }
def fnExactStampOfRow : OpenClaim := { program := "ytcophpiibifhcaadoor", sum := "ac0e3e3e029c11c1bbf7c89bd62a45da3d3d7e2b604f0cb60df85c71af211b63", func := "loop.example/importhouse/laws.FnExactStampOf", spec := "fnExactStampOf", inPlace := ["internal/bytealg.CountString", "internal/bytealg.IndexByteString", "internal/bytealg.IndexString"], unfollowed := true, recurses := true, named := ["unicode/utf8.first", "unicode/utf8.acceptRanges", "internal/bytealg.MaxLen"], apart := false, laid := [("unicode/utf8.acceptRanges", laid_unicode_utf8_acceptRanges), ("unicode/utf8.first", laid_unicode_utf8_first)] }
def FnExactStampOfSaid : Prop := fnExactStampOfRow.holds Tryd.pinned (OpenSpec.ofChange fnExactStampOfSpec)

/-- ITS FALSE NEIGHBOUR: 'it returns false'. Refute it at one input. -/
def fnExactStampOfWrong : ChangeSpec := { name := "fnExactStampOf", fn := fun _ => fun
  | [d1, d2, d3] => { results := [.lit (.bool false)], args := [d1, d2, d3] }
  | _ => none }
def FnExactStampOfWrongFalsely : Prop := fnExactStampOfRow.holds Tryd.pinned (OpenSpec.ofChange fnExactStampOfWrong)

/- THE SECOND FORM. 'bulk': how many values and letters a reading holds, each counted each time it is reached (what is shared counts as often as it is met; a slice's spare places count too). A statement '..UptoSaid' is the law's where the arguments, and the package variables that the reading takes, are together of bulk at most 1048576: NARROWER than '..Said'. Prove '..Said' where nothing that the law and all that it calls make is longer than what came in: it says more and counts as full. Else prove '..UptoSaid'. A law counts once. -/
mutual
def uptoBulk {H : Type} : DataW H → Nat
  | .lit (.string bytes) => bytes.length + 1
  | .lit _ => 1
  | .nil => 1
  | .ptr d => uptoBulk d + 1
  | .slice elems spare => uptoBulkAll elems + uptoBulkAll spare + 1
  | .agg parts => uptoBulkAll parts + 1
  | .iface _ d => uptoBulk d + 1
  | .map entries => uptoBulkEntries entries + 1
  | .held _ => 1
def uptoBulkAll {H : Type} : List (DataW H) → Nat
  | [] => 0
  | d :: r => uptoBulk d + uptoBulkAll r
def uptoBulkEntries {H : Type} : List (Lit × DataW H) → Nat
  | [] => 0
  | x :: r => uptoBulkEntry x + uptoBulkEntries r
def uptoBulkEntry {H : Type} : Lit × DataW H → Nat
  | (.string bytes, d) => bytes.length + uptoBulk d + 1
  | (_, d) => uptoBulk d + 1
 end
def uptoSmall : (H : Type) → List (DataW H) → Bool := fun _ ds => decide (uptoBulkAll ds ≤ 1048576)
def OpenSpec.upto (s : _root_.Go.ChangeSpec) : _root_.Go.OpenSpec := { _root_.Go.OpenSpec.ofChange s with cond := some uptoSmall }

/-- 'laws.FnExactCanFind', WHERE WHAT IT READS IS OF BULK AT MOST 1048576: true; the input reads as it did. -/
def fnExactCanFindUptoRow : OpenClaim := { program := "ytcophpiibifhcaadoor", sum := "ac0e3e3e029c11c1bbf7c89bd62a45da3d3d7e2b604f0cb60df85c71af211b63", func := "loop.example/importhouse/laws.FnExactCanFind", spec := "fnExactCanFind", inPlace := ["internal/bytealg.CountString", "internal/bytealg.IndexByteString", "internal/bytealg.IndexString"], unfollowed := true, recurses := true, named := ["unicode/utf8.first", "unicode/utf8.acceptRanges", "internal/bytealg.MaxLen"], apart := false, laid := [("unicode/utf8.acceptRanges", laid_unicode_utf8_acceptRanges), ("unicode/utf8.first", laid_unicode_utf8_first)], narrowed := true }
def FnExactCanFindUptoSaid : Prop := fnExactCanFindUptoRow.holds Tryd.pinned (OpenSpec.upto fnExactCanFindSpec)

/-- 'laws.FnExactIsPackage', WHERE WHAT IT READS IS OF BULK AT MOST 1048576: true; the input reads as it did. -/
def fnExactIsPackageUptoRow : OpenClaim := { program := "ytcophpiibifhcaadoor", sum := "ac0e3e3e029c11c1bbf7c89bd62a45da3d3d7e2b604f0cb60df85c71af211b63", func := "loop.example/importhouse/laws.FnExactIsPackage", spec := "fnExactIsPackage", inPlace := ["internal/bytealg.CountString", "internal/bytealg.IndexByteString", "internal/bytealg.IndexString"], unfollowed := true, recurses := true, named := ["unicode/utf8.first", "unicode/utf8.acceptRanges", "internal/bytealg.MaxLen"], apart := false, laid := [("unicode/utf8.acceptRanges", laid_unicode_utf8_acceptRanges), ("unicode/utf8.first", laid_unicode_utf8_first)], narrowed := true }
def FnExactIsPackageUptoSaid : Prop := fnExactIsPackageUptoRow.holds Tryd.pinned (OpenSpec.upto fnExactIsPackageSpec)

/-- 'laws.FnExactWhoHides', WHERE WHAT IT READS IS OF BULK AT MOST 1048576: true; the input reads as it did. -/
def fnExactWhoHidesUptoRow : OpenClaim := { program := "ytcophpiibifhcaadoor", sum := "ac0e3e3e029c11c1bbf7c89bd62a45da3d3d7e2b604f0cb60df85c71af211b63", func := "loop.example/importhouse/laws.FnExactWhoHides", spec := "fnExactWhoHides", inPlace := ["internal/bytealg.CountString", "internal/bytealg.IndexByteString", "internal/bytealg.IndexString"], unfollowed := true, recurses := true, named := ["unicode/utf8.first", "unicode/utf8.acceptRanges", "internal/bytealg.MaxLen"], apart := false, laid := [("unicode/utf8.acceptRanges", laid_unicode_utf8_acceptRanges), ("unicode/utf8.first", laid_unicode_utf8_first)], narrowed := true }
def FnExactWhoHidesUptoSaid : Prop := fnExactWhoHidesUptoRow.holds Tryd.pinned (OpenSpec.upto fnExactWhoHidesSpec)

/-- 'laws.FnExactRemoveFile', WHERE WHAT IT READS IS OF BULK AT MOST 1048576: true; the input reads as it did. -/
def fnExactRemoveFileUptoRow : OpenClaim := { program := "ytcophpiibifhcaadoor", sum := "ac0e3e3e029c11c1bbf7c89bd62a45da3d3d7e2b604f0cb60df85c71af211b63", func := "loop.example/importhouse/laws.FnExactRemoveFile", spec := "fnExactRemoveFile", inPlace := ["internal/bytealg.CountString", "internal/bytealg.IndexByteString", "internal/bytealg.IndexString"], named := ["unicode/utf8.first", "unicode/utf8.acceptRanges", "internal/bytealg.MaxLen"], apart := false, laid := [("unicode/utf8.acceptRanges", laid_unicode_utf8_acceptRanges), ("unicode/utf8.first", laid_unicode_utf8_first)], narrowed := true }
def FnExactRemoveFileUptoSaid : Prop := fnExactRemoveFileUptoRow.holds Tryd.pinned (OpenSpec.upto fnExactRemoveFileSpec)

/-- 'laws.FnExactFindIn', WHERE WHAT IT READS IS OF BULK AT MOST 1048576: true; the input reads as it did. -/
def fnExactFindInUptoRow : OpenClaim := { program := "ytcophpiibifhcaadoor", sum := "ac0e3e3e029c11c1bbf7c89bd62a45da3d3d7e2b604f0cb60df85c71af211b63", func := "loop.example/importhouse/laws.FnExactFindIn", spec := "fnExactFindIn", inPlace := ["internal/bytealg.CountString", "internal/bytealg.IndexByteString", "internal/bytealg.IndexString"], unfollowed := true, recurses := true, named := ["unicode/utf8.first", "unicode/utf8.acceptRanges", "internal/bytealg.MaxLen"], apart := false, laid := [("unicode/utf8.acceptRanges", laid_unicode_utf8_acceptRanges), ("unicode/utf8.first", laid_unicode_utf8_first)], narrowed := true }
def FnExactFindInUptoSaid : Prop := fnExactFindInUptoRow.holds Tryd.pinned (OpenSpec.upto fnExactFindInSpec)

/-- 'laws.FnExactFindSpec', WHERE WHAT IT READS IS OF BULK AT MOST 1048576: true; the input reads as it did. -/
def fnExactFindSpecUptoRow : OpenClaim := { program := "ytcophpiibifhcaadoor", sum := "ac0e3e3e029c11c1bbf7c89bd62a45da3d3d7e2b604f0cb60df85c71af211b63", func := "loop.example/importhouse/laws.FnExactFindSpec", spec := "fnExactFindSpec", inPlace := ["internal/bytealg.CountString", "internal/bytealg.IndexByteString", "internal/bytealg.IndexString"], unfollowed := true, recurses := true, named := ["unicode/utf8.first", "unicode/utf8.acceptRanges", "internal/bytealg.MaxLen"], apart := false, laid := [("unicode/utf8.acceptRanges", laid_unicode_utf8_acceptRanges), ("unicode/utf8.first", laid_unicode_utf8_first)], narrowed := true }
def FnExactFindSpecUptoSaid : Prop := fnExactFindSpecUptoRow.holds Tryd.pinned (OpenSpec.upto fnExactFindSpecSpec)

/-- 'laws.FnExactHiddenFiles', WHERE WHAT IT READS IS OF BULK AT MOST 1048576: true; the input reads as it did. -/
def fnExactHiddenFilesUptoRow : OpenClaim := { program := "ytcophpiibifhcaadoor", sum := "ac0e3e3e029c11c1bbf7c89bd62a45da3d3d7e2b604f0cb60df85c71af211b63", func := "loop.example/importhouse/laws.FnExactHiddenFiles", spec := "fnExactHiddenFiles", inPlace := ["internal/bytealg.CountString", "internal/bytealg.IndexByteString", "internal/bytealg.IndexString"], unfollowed := true, recurses := true, named := ["unicode/utf8.first", "unicode/utf8.acceptRanges", "internal/bytealg.MaxLen"], apart := false, laid := [("unicode/utf8.acceptRanges", laid_unicode_utf8_acceptRanges), ("unicode/utf8.first", laid_unicode_utf8_first)], narrowed := true }
def FnExactHiddenFilesUptoSaid : Prop := fnExactHiddenFilesUptoRow.holds Tryd.pinned (OpenSpec.upto fnExactHiddenFilesSpec)

/-- 'laws.FnExactValidDisk', WHERE WHAT IT READS IS OF BULK AT MOST 1048576: true; the input reads as it did. -/
def fnExactValidDiskUptoRow : OpenClaim := { program := "ytcophpiibifhcaadoor", sum := "ac0e3e3e029c11c1bbf7c89bd62a45da3d3d7e2b604f0cb60df85c71af211b63", func := "loop.example/importhouse/laws.FnExactValidDisk", spec := "fnExactValidDisk", inPlace := ["internal/bytealg.CountString", "internal/bytealg.IndexByteString", "internal/bytealg.IndexString"], unfollowed := true, recurses := true, named := ["unicode/utf8.first", "unicode/utf8.acceptRanges", "internal/bytealg.MaxLen"], apart := false, laid := [("unicode/utf8.acceptRanges", laid_unicode_utf8_acceptRanges), ("unicode/utf8.first", laid_unicode_utf8_first)], narrowed := true }
def FnExactValidDiskUptoSaid : Prop := fnExactValidDiskUptoRow.holds Tryd.pinned (OpenSpec.upto fnExactValidDiskSpec)

/-- 'laws.FnExactStampOf', WHERE WHAT IT READS IS OF BULK AT MOST 1048576: true; the input reads as it did. -/
def fnExactStampOfUptoRow : OpenClaim := { program := "ytcophpiibifhcaadoor", sum := "ac0e3e3e029c11c1bbf7c89bd62a45da3d3d7e2b604f0cb60df85c71af211b63", func := "loop.example/importhouse/laws.FnExactStampOf", spec := "fnExactStampOf", inPlace := ["internal/bytealg.CountString", "internal/bytealg.IndexByteString", "internal/bytealg.IndexString"], unfollowed := true, recurses := true, named := ["unicode/utf8.first", "unicode/utf8.acceptRanges", "internal/bytealg.MaxLen"], apart := false, laid := [("unicode/utf8.acceptRanges", laid_unicode_utf8_acceptRanges), ("unicode/utf8.first", laid_unicode_utf8_first)], narrowed := true }
def FnExactStampOfUptoSaid : Prop := fnExactStampOfUptoRow.holds Tryd.pinned (OpenSpec.upto fnExactStampOfSpec)

end Rows
end Go.Proofs.YtcophpiibifhcaaDoor
