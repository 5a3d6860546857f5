/-
  NARROWER THAN 'FOR EVERY INPUT', by the rows' own cells (each row's printed sentence says how): FnFindInSpace: laid · FnFindIn: laid · FnIsPackage: laid · FnFindSpecFile: laid · FnFindSpec: laid · FnWhoHides: laid · FnHiddenFiles: laid · FnCanFind: laid.
  DERIVED. THE GIVEN ROWS OF THIS SEAT. 8 by the template 'for every input the law returns true; each argument reads behind the call as it read before'; 0 by the template 'total and deterministic' (their statements: YtjklpfgjimbabaaDoorTotals.lean).
  GIVEN WITH THE SEED: the statements are not yours to turn. If you find one false, say at which input.
  Laid BY PROGRAM, IN A SANDBOX (cutbox-rows.mjs): the forced cells as the released guide's own fill.sh prints them over the translation b14507161d4c7233… (all of the seat's roots in one cut). By AI agents, Wed Nov 11 2026. No macro, syntax, notation, axiom, sorry.
-/
import Derived.Test.YtjklpfgjimbabaaDoorChecked
import GoSem.PinnedTables
import GoSem.Claim
import GoSem.ClaimJoined
import GoSem.ClaimMapViews
import Derived.JoinedTies
import Derived.KernelRfl
namespace Go.Proofs.YtjklpfgjimbabaaDoor
/- THE CELL 'sum', in the pinned program and in every row, IS THE sha256 OF THE DUMP (.gsa) THAT YtjklpfgjimbabaaDoorProg.lean LOADS. Nothing in Lean hashes anything: it is a label: what it is worth is what the hold of that sum in a sandbox is worth. -/
noncomputable def Tryd.pinned : Pinned := { name := "ytjklpfgjimbabaadoor", sum := "b14507161d4c7233bed75af1ef446c435aac0aa08064b170d51d66cb06917d78", checked := Tryd.checked }
namespace Rows
def none {H : Type} : Left H := { results := [], args := [] }

/- WHAT THE LISTED PACKAGE-LEVEL VARIABLES READ AS WHEN THE CALL BEGINS. Each datum BY PROGRAM (the guide's laid-datum.mjs) off the statement by which the dump's own 'gosem.cut.vars' lays the variable. In a bare row this is a premise. The card (YtjklpfgjimbabaaDoorCards.lean) ties it to the program's text. -/
def laid_unicode_utf8_acceptRanges {H : Type} : DataW H := .agg [.agg [.lit (.int .u8 128), .lit (.int .u8 191)], .agg [.lit (.int .u8 160), .lit (.int .u8 191)], .agg [.lit (.int .u8 128), .lit (.int .u8 159)], .agg [.lit (.int .u8 144), .lit (.int .u8 191)], .agg [.lit (.int .u8 128), .lit (.int .u8 143)], .agg [.lit (.int .u8 0), .lit (.int .u8 0)], .agg [.lit (.int .u8 0), .lit (.int .u8 0)], .agg [.lit (.int .u8 0), .lit (.int .u8 0)], .agg [.lit (.int .u8 0), .lit (.int .u8 0)], .agg [.lit (.int .u8 0), .lit (.int .u8 0)], .agg [.lit (.int .u8 0), .lit (.int .u8 0)], .agg [.lit (.int .u8 0), .lit (.int .u8 0)], .agg [.lit (.int .u8 0), .lit (.int .u8 0)], .agg [.lit (.int .u8 0), .lit (.int .u8 0)], .agg [.lit (.int .u8 0), .lit (.int .u8 0)], .agg [.lit (.int .u8 0), .lit (.int .u8 0)]]
/-- One of Go's own tables, pinned by name: the form's constant. -/
def laid_unicode_utf8_first : DataW Unit := Go.Pinned.utf8First

/-- 'laws.FnFindInSpace': WHATEVER THE INPUT: true; the input reads as it did. -/
def fnFindInSpaceSpec : ChangeSpec := { name := "fnFindInSpace", fn := fun _ => fun
  | [d] => { results := [.lit (.bool true)], args := [d] }
  | _ => none }
def fnFindInSpaceRow : OpenClaim := { program := "ytjklpfgjimbabaadoor", sum := "b14507161d4c7233bed75af1ef446c435aac0aa08064b170d51d66cb06917d78", func := "loop.example/importhouse/laws.FnFindInSpace", spec := "fnFindInSpace", inPlace := ["internal/bytealg.CountString", "internal/bytealg.IndexByteString", "internal/bytealg.IndexString"], unfollowed := true, recurses := true, named := ["unicode/utf8.first", "unicode/utf8.acceptRanges", "internal/bytealg.MaxLen"], apart := false, laid := [("unicode/utf8.acceptRanges", laid_unicode_utf8_acceptRanges), ("unicode/utf8.first", laid_unicode_utf8_first)] }
def FnFindInSpaceSaid : Prop := fnFindInSpaceRow.holds Tryd.pinned (OpenSpec.ofChange fnFindInSpaceSpec)

/-- ITS FALSE NEIGHBOUR: 'it returns false'. Refute it at one input. -/
def fnFindInSpaceWrong : ChangeSpec := { name := "fnFindInSpace", fn := fun _ => fun
  | [d] => { results := [.lit (.bool false)], args := [d] }
  | _ => none }
def FnFindInSpaceWrongFalsely : Prop := fnFindInSpaceRow.holds Tryd.pinned (OpenSpec.ofChange fnFindInSpaceWrong)

/-- 'laws.FnFindIn': WHATEVER THE INPUT: true; the input reads as it did. -/
def fnFindInSpec : ChangeSpec := { name := "fnFindIn", fn := fun _ => fun
  | [d] => { results := [.lit (.bool true)], args := [d] }
  | _ => none }
def fnFindInRow : OpenClaim := { program := "ytjklpfgjimbabaadoor", sum := "b14507161d4c7233bed75af1ef446c435aac0aa08064b170d51d66cb06917d78", func := "loop.example/importhouse/laws.FnFindIn", spec := "fnFindIn", inPlace := ["internal/bytealg.CountString", "internal/bytealg.IndexByteString", "internal/bytealg.IndexString"], unfollowed := true, recurses := true, named := ["unicode/utf8.first", "unicode/utf8.acceptRanges", "internal/bytealg.MaxLen"], apart := false, laid := [("unicode/utf8.acceptRanges", laid_unicode_utf8_acceptRanges), ("unicode/utf8.first", laid_unicode_utf8_first)] }
def FnFindInSaid : Prop := fnFindInRow.holds Tryd.pinned (OpenSpec.ofChange fnFindInSpec)

/-- ITS FALSE NEIGHBOUR: 'it returns false'. Refute it at one input. -/
def fnFindInWrong : ChangeSpec := { name := "fnFindIn", fn := fun _ => fun
  | [d] => { results := [.lit (.bool false)], args := [d] }
  | _ => none }
def FnFindInWrongFalsely : Prop := fnFindInRow.holds Tryd.pinned (OpenSpec.ofChange fnFindInWrong)

/-- 'laws.FnIsPackage': WHATEVER THE INPUT: true; the input reads as it did. -/
def fnIsPackageSpec : ChangeSpec := { name := "fnIsPackage", fn := fun _ => fun
  | [d] => { results := [.lit (.bool true)], args := [d] }
  | _ => none }
def fnIsPackageRow : OpenClaim := { program := "ytjklpfgjimbabaadoor", sum := "b14507161d4c7233bed75af1ef446c435aac0aa08064b170d51d66cb06917d78", func := "loop.example/importhouse/laws.FnIsPackage", spec := "fnIsPackage", inPlace := ["internal/bytealg.CountString", "internal/bytealg.IndexByteString", "internal/bytealg.IndexString"], unfollowed := true, recurses := true, named := ["unicode/utf8.first", "unicode/utf8.acceptRanges", "internal/bytealg.MaxLen"], apart := false, laid := [("unicode/utf8.acceptRanges", laid_unicode_utf8_acceptRanges), ("unicode/utf8.first", laid_unicode_utf8_first)] }
def FnIsPackageSaid : Prop := fnIsPackageRow.holds Tryd.pinned (OpenSpec.ofChange fnIsPackageSpec)

/-- ITS FALSE NEIGHBOUR: 'it returns false'. Refute it at one input. -/
def fnIsPackageWrong : ChangeSpec := { name := "fnIsPackage", fn := fun _ => fun
  | [d] => { results := [.lit (.bool false)], args := [d] }
  | _ => none }
def FnIsPackageWrongFalsely : Prop := fnIsPackageRow.holds Tryd.pinned (OpenSpec.ofChange fnIsPackageWrong)

/-- 'laws.FnFindSpecFile': WHATEVER THE INPUT: true; the input reads as it did. -/
def fnFindSpecFileSpec : ChangeSpec := { name := "fnFindSpecFile", fn := fun _ => fun
  | [d] => { results := [.lit (.bool true)], args := [d] }
  | _ => none }
def fnFindSpecFileRow : OpenClaim := { program := "ytjklpfgjimbabaadoor", sum := "b14507161d4c7233bed75af1ef446c435aac0aa08064b170d51d66cb06917d78", func := "loop.example/importhouse/laws.FnFindSpecFile", spec := "fnFindSpecFile", inPlace := ["internal/bytealg.CountString", "internal/bytealg.IndexByteString", "internal/bytealg.IndexString"], unfollowed := true, recurses := true, named := ["unicode/utf8.first", "unicode/utf8.acceptRanges", "internal/bytealg.MaxLen"], apart := false, laid := [("unicode/utf8.acceptRanges", laid_unicode_utf8_acceptRanges), ("unicode/utf8.first", laid_unicode_utf8_first)] }
def FnFindSpecFileSaid : Prop := fnFindSpecFileRow.holds Tryd.pinned (OpenSpec.ofChange fnFindSpecFileSpec)

/-- ITS FALSE NEIGHBOUR: 'it returns false'. Refute it at one input. -/
def fnFindSpecFileWrong : ChangeSpec := { name := "fnFindSpecFile", fn := fun _ => fun
  | [d] => { results := [.lit (.bool false)], args := [d] }
  | _ => none }
def FnFindSpecFileWrongFalsely : Prop := fnFindSpecFileRow.holds Tryd.pinned (OpenSpec.ofChange fnFindSpecFileWrong)

/-- 'laws.FnFindSpec': WHATEVER THE INPUT: true; the input reads as it did. -/
def fnFindSpecSpec : ChangeSpec := { name := "fnFindSpec", fn := fun _ => fun
  | [d] => { results := [.lit (.bool true)], args := [d] }
  | _ => none }
def fnFindSpecRow : OpenClaim := { program := "ytjklpfgjimbabaadoor", sum := "b14507161d4c7233bed75af1ef446c435aac0aa08064b170d51d66cb06917d78", func := "loop.example/importhouse/laws.FnFindSpec", spec := "fnFindSpec", inPlace := ["internal/bytealg.CountString", "internal/bytealg.IndexByteString", "internal/bytealg.IndexString"], unfollowed := true, recurses := true, named := ["unicode/utf8.first", "unicode/utf8.acceptRanges", "internal/bytealg.MaxLen"], apart := false, laid := [("unicode/utf8.acceptRanges", laid_unicode_utf8_acceptRanges), ("unicode/utf8.first", laid_unicode_utf8_first)] }
def FnFindSpecSaid : Prop := fnFindSpecRow.holds Tryd.pinned (OpenSpec.ofChange fnFindSpecSpec)

/-- ITS FALSE NEIGHBOUR: 'it returns false'. Refute it at one input. -/
def fnFindSpecWrong : ChangeSpec := { name := "fnFindSpec", fn := fun _ => fun
  | [d] => { results := [.lit (.bool false)], args := [d] }
  | _ => none }
def FnFindSpecWrongFalsely : Prop := fnFindSpecRow.holds Tryd.pinned (OpenSpec.ofChange fnFindSpecWrong)

/-- 'laws.FnWhoHides': WHATEVER THE INPUT: true; the input reads as it did. -/
def fnWhoHidesSpec : ChangeSpec := { name := "fnWhoHides", fn := fun _ => fun
  | [d] => { results := [.lit (.bool true)], args := [d] }
  | _ => none }
def fnWhoHidesRow : OpenClaim := { program := "ytjklpfgjimbabaadoor", sum := "b14507161d4c7233bed75af1ef446c435aac0aa08064b170d51d66cb06917d78", func := "loop.example/importhouse/laws.FnWhoHides", spec := "fnWhoHides", inPlace := ["internal/bytealg.CountString", "internal/bytealg.IndexByteString", "internal/bytealg.IndexString"], unfollowed := true, recurses := true, named := ["unicode/utf8.first", "unicode/utf8.acceptRanges", "internal/bytealg.MaxLen"], apart := false, laid := [("unicode/utf8.acceptRanges", laid_unicode_utf8_acceptRanges), ("unicode/utf8.first", laid_unicode_utf8_first)] }
def FnWhoHidesSaid : Prop := fnWhoHidesRow.holds Tryd.pinned (OpenSpec.ofChange fnWhoHidesSpec)

/-- ITS FALSE NEIGHBOUR: 'it returns false'. Refute it at one input. -/
def fnWhoHidesWrong : ChangeSpec := { name := "fnWhoHides", fn := fun _ => fun
  | [d] => { results := [.lit (.bool false)], args := [d] }
  | _ => none }
def FnWhoHidesWrongFalsely : Prop := fnWhoHidesRow.holds Tryd.pinned (OpenSpec.ofChange fnWhoHidesWrong)

/-- 'laws.FnHiddenFiles': WHATEVER THE INPUT: true; the input reads as it did. -/
def fnHiddenFilesSpec : ChangeSpec := { name := "fnHiddenFiles", fn := fun _ => fun
  | [d] => { results := [.lit (.bool true)], args := [d] }
  | _ => none }
def fnHiddenFilesRow : OpenClaim := { program := "ytjklpfgjimbabaadoor", sum := "b14507161d4c7233bed75af1ef446c435aac0aa08064b170d51d66cb06917d78", func := "loop.example/importhouse/laws.FnHiddenFiles", spec := "fnHiddenFiles", inPlace := ["internal/bytealg.CountString", "internal/bytealg.IndexByteString", "internal/bytealg.IndexString"], unfollowed := true, recurses := true, named := ["unicode/utf8.first", "unicode/utf8.acceptRanges", "internal/bytealg.MaxLen"], apart := false, laid := [("unicode/utf8.acceptRanges", laid_unicode_utf8_acceptRanges), ("unicode/utf8.first", laid_unicode_utf8_first)] }
def FnHiddenFilesSaid : Prop := fnHiddenFilesRow.holds Tryd.pinned (OpenSpec.ofChange fnHiddenFilesSpec)

/-- ITS FALSE NEIGHBOUR: 'it returns false'. Refute it at one input. -/
def fnHiddenFilesWrong : ChangeSpec := { name := "fnHiddenFiles", fn := fun _ => fun
  | [d] => { results := [.lit (.bool false)], args := [d] }
  | _ => none }
def FnHiddenFilesWrongFalsely : Prop := fnHiddenFilesRow.holds Tryd.pinned (OpenSpec.ofChange fnHiddenFilesWrong)

/-- 'laws.FnCanFind': WHATEVER THE INPUT: true; the input reads as it did. -/
def fnCanFindSpec : ChangeSpec := { name := "fnCanFind", fn := fun _ => fun
  | [d] => { results := [.lit (.bool true)], args := [d] }
  | _ => none }
def fnCanFindRow : OpenClaim := { program := "ytjklpfgjimbabaadoor", sum := "b14507161d4c7233bed75af1ef446c435aac0aa08064b170d51d66cb06917d78", func := "loop.example/importhouse/laws.FnCanFind", spec := "fnCanFind", inPlace := ["internal/bytealg.CountString", "internal/bytealg.IndexByteString", "internal/bytealg.IndexString", "internal/abi.NoEscape", "internal/bytealg.MakeNoZero"], unfollowed := true, recurses := true, named := ["unicode/utf8.first", "unicode/utf8.acceptRanges", "internal/bytealg.MaxLen"], apart := false, laid := [("unicode/utf8.acceptRanges", laid_unicode_utf8_acceptRanges), ("unicode/utf8.first", laid_unicode_utf8_first)] }
def FnCanFindSaid : Prop := fnCanFindRow.holds Tryd.pinned (OpenSpec.ofChange fnCanFindSpec)

/-- ITS FALSE NEIGHBOUR: 'it returns false'. Refute it at one input. -/
def fnCanFindWrong : ChangeSpec := { name := "fnCanFind", fn := fun _ => fun
  | [d] => { results := [.lit (.bool false)], args := [d] }
  | _ => none }
def FnCanFindWrongFalsely : Prop := fnCanFindRow.holds Tryd.pinned (OpenSpec.ofChange fnCanFindWrong)

/- THE SECOND FORM. 'bulk': how many values and letters a reading holds, each counted each time it is reached (what is shared counts as often as it is met; a slice's spare places count too). A statement '..UptoSaid' is the law's where the arguments, and the package variables that the reading takes, are together of bulk at most 1048576: NARROWER than '..Said'. Prove '..Said' where nothing that the law and all that it calls make is longer than what came in: it says more and counts as full. Else prove '..UptoSaid'. A law counts once. -/
mutual
def uptoBulk {H : Type} : DataW H → Nat
  | .lit (.string bytes) => bytes.length + 1
  | .lit _ => 1
  | .nil => 1
  | .ptr d => uptoBulk d + 1
  | .slice elems spare => uptoBulkAll elems + uptoBulkAll spare + 1
  | .agg parts => uptoBulkAll parts + 1
  | .iface _ d => uptoBulk d + 1
  | .map entries => uptoBulkEntries entries + 1
  | .held _ => 1
def uptoBulkAll {H : Type} : List (DataW H) → Nat
  | [] => 0
  | d :: r => uptoBulk d + uptoBulkAll r
def uptoBulkEntries {H : Type} : List (Lit × DataW H) → Nat
  | [] => 0
  | x :: r => uptoBulkEntry x + uptoBulkEntries r
def uptoBulkEntry {H : Type} : Lit × DataW H → Nat
  | (.string bytes, d) => bytes.length + uptoBulk d + 1
  | (_, d) => uptoBulk d + 1
 end
def uptoSmall : (H : Type) → List (DataW H) → Bool := fun _ ds => decide (uptoBulkAll ds ≤ 1048576)
def OpenSpec.upto (s : _root_.Go.ChangeSpec) : _root_.Go.OpenSpec := { _root_.Go.OpenSpec.ofChange s with cond := some uptoSmall }

/-- 'laws.FnFindInSpace', WHERE WHAT IT READS IS OF BULK AT MOST 1048576: true; the input reads as it did. -/
def fnFindInSpaceUptoRow : OpenClaim := { program := "ytjklpfgjimbabaadoor", sum := "b14507161d4c7233bed75af1ef446c435aac0aa08064b170d51d66cb06917d78", func := "loop.example/importhouse/laws.FnFindInSpace", spec := "fnFindInSpace", inPlace := ["internal/bytealg.CountString", "internal/bytealg.IndexByteString", "internal/bytealg.IndexString"], unfollowed := true, recurses := true, named := ["unicode/utf8.first", "unicode/utf8.acceptRanges", "internal/bytealg.MaxLen"], apart := false, laid := [("unicode/utf8.acceptRanges", laid_unicode_utf8_acceptRanges), ("unicode/utf8.first", laid_unicode_utf8_first)], narrowed := true }
def FnFindInSpaceUptoSaid : Prop := fnFindInSpaceUptoRow.holds Tryd.pinned (OpenSpec.upto fnFindInSpaceSpec)

/-- 'laws.FnFindIn', WHERE WHAT IT READS IS OF BULK AT MOST 1048576: true; the input reads as it did. -/
def fnFindInUptoRow : OpenClaim := { program := "ytjklpfgjimbabaadoor", sum := "b14507161d4c7233bed75af1ef446c435aac0aa08064b170d51d66cb06917d78", func := "loop.example/importhouse/laws.FnFindIn", spec := "fnFindIn", inPlace := ["internal/bytealg.CountString", "internal/bytealg.IndexByteString", "internal/bytealg.IndexString"], unfollowed := true, recurses := true, named := ["unicode/utf8.first", "unicode/utf8.acceptRanges", "internal/bytealg.MaxLen"], apart := false, laid := [("unicode/utf8.acceptRanges", laid_unicode_utf8_acceptRanges), ("unicode/utf8.first", laid_unicode_utf8_first)], narrowed := true }
def FnFindInUptoSaid : Prop := fnFindInUptoRow.holds Tryd.pinned (OpenSpec.upto fnFindInSpec)

/-- 'laws.FnIsPackage', WHERE WHAT IT READS IS OF BULK AT MOST 1048576: true; the input reads as it did. -/
def fnIsPackageUptoRow : OpenClaim := { program := "ytjklpfgjimbabaadoor", sum := "b14507161d4c7233bed75af1ef446c435aac0aa08064b170d51d66cb06917d78", func := "loop.example/importhouse/laws.FnIsPackage", spec := "fnIsPackage", inPlace := ["internal/bytealg.CountString", "internal/bytealg.IndexByteString", "internal/bytealg.IndexString"], unfollowed := true, recurses := true, named := ["unicode/utf8.first", "unicode/utf8.acceptRanges", "internal/bytealg.MaxLen"], apart := false, laid := [("unicode/utf8.acceptRanges", laid_unicode_utf8_acceptRanges), ("unicode/utf8.first", laid_unicode_utf8_first)], narrowed := true }
def FnIsPackageUptoSaid : Prop := fnIsPackageUptoRow.holds Tryd.pinned (OpenSpec.upto fnIsPackageSpec)

/-- 'laws.FnFindSpecFile', WHERE WHAT IT READS IS OF BULK AT MOST 1048576: true; the input reads as it did. -/
def fnFindSpecFileUptoRow : OpenClaim := { program := "ytjklpfgjimbabaadoor", sum := "b14507161d4c7233bed75af1ef446c435aac0aa08064b170d51d66cb06917d78", func := "loop.example/importhouse/laws.FnFindSpecFile", spec := "fnFindSpecFile", inPlace := ["internal/bytealg.CountString", "internal/bytealg.IndexByteString", "internal/bytealg.IndexString"], unfollowed := true, recurses := true, named := ["unicode/utf8.first", "unicode/utf8.acceptRanges", "internal/bytealg.MaxLen"], apart := false, laid := [("unicode/utf8.acceptRanges", laid_unicode_utf8_acceptRanges), ("unicode/utf8.first", laid_unicode_utf8_first)], narrowed := true }
def FnFindSpecFileUptoSaid : Prop := fnFindSpecFileUptoRow.holds Tryd.pinned (OpenSpec.upto fnFindSpecFileSpec)

/-- 'laws.FnFindSpec', WHERE WHAT IT READS IS OF BULK AT MOST 1048576: true; the input reads as it did. -/
def fnFindSpecUptoRow : OpenClaim := { program := "ytjklpfgjimbabaadoor", sum := "b14507161d4c7233bed75af1ef446c435aac0aa08064b170d51d66cb06917d78", func := "loop.example/importhouse/laws.FnFindSpec", spec := "fnFindSpec", inPlace := ["internal/bytealg.CountString", "internal/bytealg.IndexByteString", "internal/bytealg.IndexString"], unfollowed := true, recurses := true, named := ["unicode/utf8.first", "unicode/utf8.acceptRanges", "internal/bytealg.MaxLen"], apart := false, laid := [("unicode/utf8.acceptRanges", laid_unicode_utf8_acceptRanges), ("unicode/utf8.first", laid_unicode_utf8_first)], narrowed := true }
def FnFindSpecUptoSaid : Prop := fnFindSpecUptoRow.holds Tryd.pinned (OpenSpec.upto fnFindSpecSpec)

/-- 'laws.FnWhoHides', WHERE WHAT IT READS IS OF BULK AT MOST 1048576: true; the input reads as it did. -/
def fnWhoHidesUptoRow : OpenClaim := { program := "ytjklpfgjimbabaadoor", sum := "b14507161d4c7233bed75af1ef446c435aac0aa08064b170d51d66cb06917d78", func := "loop.example/importhouse/laws.FnWhoHides", spec := "fnWhoHides", inPlace := ["internal/bytealg.CountString", "internal/bytealg.IndexByteString", "internal/bytealg.IndexString"], unfollowed := true, recurses := true, named := ["unicode/utf8.first", "unicode/utf8.acceptRanges", "internal/bytealg.MaxLen"], apart := false, laid := [("unicode/utf8.acceptRanges", laid_unicode_utf8_acceptRanges), ("unicode/utf8.first", laid_unicode_utf8_first)], narrowed := true }
def FnWhoHidesUptoSaid : Prop := fnWhoHidesUptoRow.holds Tryd.pinned (OpenSpec.upto fnWhoHidesSpec)

/-- 'laws.FnHiddenFiles', WHERE WHAT IT READS IS OF BULK AT MOST 1048576: true; the input reads as it did. -/
def fnHiddenFilesUptoRow : OpenClaim := { program := "ytjklpfgjimbabaadoor", sum := "b14507161d4c7233bed75af1ef446c435aac0aa08064b170d51d66cb06917d78", func := "loop.example/importhouse/laws.FnHiddenFiles", spec := "fnHiddenFiles", inPlace := ["internal/bytealg.CountString", "internal/bytealg.IndexByteString", "internal/bytealg.IndexString"], unfollowed := true, recurses := true, named := ["unicode/utf8.first", "unicode/utf8.acceptRanges", "internal/bytealg.MaxLen"], apart := false, laid := [("unicode/utf8.acceptRanges", laid_unicode_utf8_acceptRanges), ("unicode/utf8.first", laid_unicode_utf8_first)], narrowed := true }
def FnHiddenFilesUptoSaid : Prop := fnHiddenFilesUptoRow.holds Tryd.pinned (OpenSpec.upto fnHiddenFilesSpec)

/-- 'laws.FnCanFind', WHERE WHAT IT READS IS OF BULK AT MOST 1048576: true; the input reads as it did. -/
def fnCanFindUptoRow : OpenClaim := { program := "ytjklpfgjimbabaadoor", sum := "b14507161d4c7233bed75af1ef446c435aac0aa08064b170d51d66cb06917d78", func := "loop.example/importhouse/laws.FnCanFind", spec := "fnCanFind", inPlace := ["internal/bytealg.CountString", "internal/bytealg.IndexByteString", "internal/bytealg.IndexString", "internal/abi.NoEscape", "internal/bytealg.MakeNoZero"], unfollowed := true, recurses := true, named := ["unicode/utf8.first", "unicode/utf8.acceptRanges", "internal/bytealg.MaxLen"], apart := false, laid := [("unicode/utf8.acceptRanges", laid_unicode_utf8_acceptRanges), ("unicode/utf8.first", laid_unicode_utf8_first)], narrowed := true }
def FnCanFindUptoSaid : Prop := fnCanFindUptoRow.holds Tryd.pinned (OpenSpec.upto fnCanFindSpec)

end Rows
end Go.Proofs.YtjklpfgjimbabaaDoor
