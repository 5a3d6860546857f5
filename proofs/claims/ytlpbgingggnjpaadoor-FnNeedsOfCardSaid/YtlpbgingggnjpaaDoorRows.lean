/-
  NARROWER THAN 'FOR EVERY INPUT', by the rows' own cells (each row's printed sentence says how): FnModulesOf: laid · FnExactModulesOf: laid · FnListDir: laid · FnExactListDir: laid · FnHasDir: laid · FnAddFile: laid · FnNeedsOf: laid.
  DERIVED. THE GIVEN ROWS OF THIS SEAT. 7 by the template 'for every input the law returns true; each argument reads behind the call as it read before'; 0 by the template 'total and deterministic' (their statements: YtlpbgingggnjpaaDoorTotals.lean).
  GIVEN WITH THE SEED: the statements are not yours to turn. If you find one false, say at which input.
  Laid BY PROGRAM, IN A SANDBOX (cutbox-rows.mjs): the forced cells as the released guide's own fill.sh prints them over the translation 620b6607f7bf75a8… (all of the seat's roots in one cut). By AI agents, Wed Nov 11 2026. No macro, syntax, notation, axiom, sorry.
-/
import Derived.Test.YtlpbgingggnjpaaDoorChecked
import GoSem.PinnedTables
import GoSem.Claim
import GoSem.ClaimJoined
import GoSem.ClaimMapViews
import Derived.JoinedTies
import Derived.KernelRfl
namespace Go.Proofs.YtlpbgingggnjpaaDoor
/- THE CELL 'sum', in the pinned program and in every row, IS THE sha256 OF THE DUMP (.gsa) THAT YtlpbgingggnjpaaDoorProg.lean LOADS. Nothing in Lean hashes anything: it is a label: what it is worth is what the hold of that sum in a sandbox is worth. -/
noncomputable def Tryd.pinned : Pinned := { name := "ytlpbgingggnjpaadoor", sum := "620b6607f7bf75a839c4eedbe5b043bee73d1b5f79df8d45e92e5cd0a02981a8", checked := Tryd.checked }
namespace Rows
def none {H : Type} : Left H := { results := [], args := [] }

/- WHAT THE LISTED PACKAGE-LEVEL VARIABLES READ AS WHEN THE CALL BEGINS. Each datum BY PROGRAM (the guide's laid-datum.mjs) off the statement by which the dump's own 'gosem.cut.vars' lays the variable. In a bare row this is a premise. The card (YtlpbgingggnjpaaDoorCards.lean) ties it to the program's text. -/
def laid_unicode_utf8_acceptRanges {H : Type} : DataW H := .agg [.agg [.lit (.int .u8 128), .lit (.int .u8 191)], .agg [.lit (.int .u8 160), .lit (.int .u8 191)], .agg [.lit (.int .u8 128), .lit (.int .u8 159)], .agg [.lit (.int .u8 144), .lit (.int .u8 191)], .agg [.lit (.int .u8 128), .lit (.int .u8 143)], .agg [.lit (.int .u8 0), .lit (.int .u8 0)], .agg [.lit (.int .u8 0), .lit (.int .u8 0)], .agg [.lit (.int .u8 0), .lit (.int .u8 0)], .agg [.lit (.int .u8 0), .lit (.int .u8 0)], .agg [.lit (.int .u8 0), .lit (.int .u8 0)], .agg [.lit (.int .u8 0), .lit (.int .u8 0)], .agg [.lit (.int .u8 0), .lit (.int .u8 0)], .agg [.lit (.int .u8 0), .lit (.int .u8 0)], .agg [.lit (.int .u8 0), .lit (.int .u8 0)], .agg [.lit (.int .u8 0), .lit (.int .u8 0)], .agg [.lit (.int .u8 0), .lit (.int .u8 0)]]
/-- One of Go's own tables, pinned by name: the form's constant. -/
def laid_unicode_utf8_first : DataW Unit := Go.Pinned.utf8First

/-- 'laws.FnModulesOf': WHATEVER THE INPUT: true; the input reads as it did. -/
def fnModulesOfSpec : ChangeSpec := { name := "fnModulesOf", fn := fun _ => fun
  | [d] => { results := [.lit (.bool true)], args := [d] }
  | _ => none }
def fnModulesOfRow : OpenClaim := { program := "ytlpbgingggnjpaadoor", sum := "620b6607f7bf75a839c4eedbe5b043bee73d1b5f79df8d45e92e5cd0a02981a8", func := "loop.example/importhouse/laws.FnModulesOf", spec := "fnModulesOf", inPlace := ["internal/bytealg.CountString", "internal/bytealg.IndexByteString", "internal/bytealg.IndexString"], recurses := true, named := ["unicode/utf8.first", "unicode/utf8.acceptRanges", "internal/bytealg.MaxLen"], apart := false, laid := [("unicode/utf8.acceptRanges", laid_unicode_utf8_acceptRanges), ("unicode/utf8.first", laid_unicode_utf8_first)] }
def FnModulesOfSaid : Prop := fnModulesOfRow.holds Tryd.pinned (OpenSpec.ofChange fnModulesOfSpec)

/-- ITS FALSE NEIGHBOUR: 'it returns false'. Refute it at one input. -/
def fnModulesOfWrong : ChangeSpec := { name := "fnModulesOf", fn := fun _ => fun
  | [d] => { results := [.lit (.bool false)], args := [d] }
  | _ => none }
def FnModulesOfWrongFalsely : Prop := fnModulesOfRow.holds Tryd.pinned (OpenSpec.ofChange fnModulesOfWrong)

/-- 'laws.FnExactModulesOf': WHATEVER THE INPUT: true; the input reads as it did. -/
def fnExactModulesOfSpec : ChangeSpec := { name := "fnExactModulesOf", fn := fun _ => fun
  | [d] => { results := [.lit (.bool true)], args := [d] }
  | _ => none }
def fnExactModulesOfRow : OpenClaim := { program := "ytlpbgingggnjpaadoor", sum := "620b6607f7bf75a839c4eedbe5b043bee73d1b5f79df8d45e92e5cd0a02981a8", func := "loop.example/importhouse/laws.FnExactModulesOf", spec := "fnExactModulesOf", inPlace := ["internal/bytealg.CountString", "internal/bytealg.IndexByteString", "internal/bytealg.IndexString"], recurses := true, named := ["unicode/utf8.first", "unicode/utf8.acceptRanges", "internal/bytealg.MaxLen"], apart := false, laid := [("unicode/utf8.acceptRanges", laid_unicode_utf8_acceptRanges), ("unicode/utf8.first", laid_unicode_utf8_first)] }
def FnExactModulesOfSaid : Prop := fnExactModulesOfRow.holds Tryd.pinned (OpenSpec.ofChange fnExactModulesOfSpec)

/-- ITS FALSE NEIGHBOUR: 'it returns false'. Refute it at one input. -/
def fnExactModulesOfWrong : ChangeSpec := { name := "fnExactModulesOf", fn := fun _ => fun
  | [d] => { results := [.lit (.bool false)], args := [d] }
  | _ => none }
def FnExactModulesOfWrongFalsely : Prop := fnExactModulesOfRow.holds Tryd.pinned (OpenSpec.ofChange fnExactModulesOfWrong)

/-- 'laws.FnListDir': WHATEVER THE INPUT: true; the input reads as it did. -/
def fnListDirSpec : ChangeSpec := { name := "fnListDir", fn := fun _ => fun
  | [d] => { results := [.lit (.bool true)], args := [d] }
  | _ => none }
def fnListDirRow : OpenClaim := { program := "ytlpbgingggnjpaadoor", sum := "620b6607f7bf75a839c4eedbe5b043bee73d1b5f79df8d45e92e5cd0a02981a8", func := "loop.example/importhouse/laws.FnListDir", spec := "fnListDir", inPlace := ["internal/bytealg.CountString", "internal/bytealg.IndexByteString", "internal/bytealg.IndexString"], recurses := true, named := ["unicode/utf8.first", "unicode/utf8.acceptRanges", "internal/bytealg.MaxLen"], apart := false, laid := [("unicode/utf8.acceptRanges", laid_unicode_utf8_acceptRanges), ("unicode/utf8.first", laid_unicode_utf8_first)] }
def FnListDirSaid : Prop := fnListDirRow.holds Tryd.pinned (OpenSpec.ofChange fnListDirSpec)

/-- ITS FALSE NEIGHBOUR: 'it returns false'. Refute it at one input. -/
def fnListDirWrong : ChangeSpec := { name := "fnListDir", fn := fun _ => fun
  | [d] => { results := [.lit (.bool false)], args := [d] }
  | _ => none }
def FnListDirWrongFalsely : Prop := fnListDirRow.holds Tryd.pinned (OpenSpec.ofChange fnListDirWrong)

/-- 'laws.FnExactListDir': WHATEVER THE INPUT: true; the input reads as it did. -/
def fnExactListDirSpec : ChangeSpec := { name := "fnExactListDir", fn := fun _ => fun
  | [d1, d2, d3] => { results := [.lit (.bool true)], args := [d1, d2, d3] }
  | _ => none }
def fnExactListDirRow : OpenClaim := { program := "ytlpbgingggnjpaadoor", sum := "620b6607f7bf75a839c4eedbe5b043bee73d1b5f79df8d45e92e5cd0a02981a8", func := "loop.example/importhouse/laws.FnExactListDir", spec := "fnExactListDir", inPlace := ["internal/bytealg.CountString", "internal/bytealg.IndexByteString", "internal/bytealg.IndexString"], recurses := true, named := ["unicode/utf8.first", "unicode/utf8.acceptRanges", "internal/bytealg.MaxLen"], apart := false, laid := [("unicode/utf8.acceptRanges", laid_unicode_utf8_acceptRanges), ("unicode/utf8.first", laid_unicode_utf8_first)] }
def FnExactListDirSaid : Prop := fnExactListDirRow.holds Tryd.pinned (OpenSpec.ofChange fnExactListDirSpec)

/-- ITS FALSE NEIGHBOUR: 'it returns false'. Refute it at one input. -/
def fnExactListDirWrong : ChangeSpec := { name := "fnExactListDir", fn := fun _ => fun
  | [d1, d2, d3] => { results := [.lit (.bool false)], args := [d1, d2, d3] }
  | _ => none }
def FnExactListDirWrongFalsely : Prop := fnExactListDirRow.holds Tryd.pinned (OpenSpec.ofChange fnExactListDirWrong)

/-- 'laws.FnHasDir': WHATEVER THE INPUT: true; the input reads as it did. -/
def fnHasDirSpec : ChangeSpec := { name := "fnHasDir", fn := fun _ => fun
  | [d] => { results := [.lit (.bool true)], args := [d] }
  | _ => none }
def fnHasDirRow : OpenClaim := { program := "ytlpbgingggnjpaadoor", sum := "620b6607f7bf75a839c4eedbe5b043bee73d1b5f79df8d45e92e5cd0a02981a8", func := "loop.example/importhouse/laws.FnHasDir", spec := "fnHasDir", inPlace := ["internal/bytealg.CountString", "internal/bytealg.IndexByteString", "internal/bytealg.IndexString"], recurses := true, named := ["unicode/utf8.first", "unicode/utf8.acceptRanges", "internal/bytealg.MaxLen"], apart := false, laid := [("unicode/utf8.acceptRanges", laid_unicode_utf8_acceptRanges), ("unicode/utf8.first", laid_unicode_utf8_first)] }
def FnHasDirSaid : Prop := fnHasDirRow.holds Tryd.pinned (OpenSpec.ofChange fnHasDirSpec)

/-- ITS FALSE NEIGHBOUR: 'it returns false'. Refute it at one input. -/
def fnHasDirWrong : ChangeSpec := { name := "fnHasDir", fn := fun _ => fun
  | [d] => { results := [.lit (.bool false)], args := [d] }
  | _ => none }
def FnHasDirWrongFalsely : Prop := fnHasDirRow.holds Tryd.pinned (OpenSpec.ofChange fnHasDirWrong)

/-- 'laws.FnAddFile': WHATEVER THE INPUT: true; the input reads as it did. -/
def fnAddFileSpec : ChangeSpec := { name := "fnAddFile", fn := fun _ => fun
  | [d] => { results := [.lit (.bool true)], args := [d] }
  | _ => none }
def fnAddFileRow : OpenClaim := { program := "ytlpbgingggnjpaadoor", sum := "620b6607f7bf75a839c4eedbe5b043bee73d1b5f79df8d45e92e5cd0a02981a8", func := "loop.example/importhouse/laws.FnAddFile", spec := "fnAddFile", inPlace := ["internal/bytealg.CountString", "internal/bytealg.IndexByteString", "internal/bytealg.IndexString"], recurses := true, named := ["unicode/utf8.first", "unicode/utf8.acceptRanges", "internal/bytealg.MaxLen"], apart := false, laid := [("unicode/utf8.acceptRanges", laid_unicode_utf8_acceptRanges), ("unicode/utf8.first", laid_unicode_utf8_first)] }
def FnAddFileSaid : Prop := fnAddFileRow.holds Tryd.pinned (OpenSpec.ofChange fnAddFileSpec)

/-- ITS FALSE NEIGHBOUR: 'it returns false'. Refute it at one input. -/
def fnAddFileWrong : ChangeSpec := { name := "fnAddFile", fn := fun _ => fun
  | [d] => { results := [.lit (.bool false)], args := [d] }
  | _ => none }
def FnAddFileWrongFalsely : Prop := fnAddFileRow.holds Tryd.pinned (OpenSpec.ofChange fnAddFileWrong)

/-- 'laws.FnNeedsOf': WHATEVER THE INPUT: true; the input reads as it did. -/
def fnNeedsOfSpec : ChangeSpec := { name := "fnNeedsOf", fn := fun _ => fun
  | [d] => { results := [.lit (.bool true)], args := [d] }
  | _ => none }
def fnNeedsOfRow : OpenClaim := { program := "ytlpbgingggnjpaadoor", sum := "620b6607f7bf75a839c4eedbe5b043bee73d1b5f79df8d45e92e5cd0a02981a8", func := "loop.example/importhouse/laws.FnNeedsOf", spec := "fnNeedsOf", inPlace := ["internal/bytealg.CountString", "internal/bytealg.IndexByteString", "internal/bytealg.IndexString"], unfollowed := true, recurses := true, named := ["unicode/utf8.first", "unicode/utf8.acceptRanges", "internal/bytealg.MaxLen"], apart := false, laid := [("unicode/utf8.acceptRanges", laid_unicode_utf8_acceptRanges), ("unicode/utf8.first", laid_unicode_utf8_first)] }
def FnNeedsOfSaid : Prop := fnNeedsOfRow.holds Tryd.pinned (OpenSpec.ofChange fnNeedsOfSpec)

/-- ITS FALSE NEIGHBOUR: 'it returns false'. Refute it at one input. -/
def fnNeedsOfWrong : ChangeSpec := { name := "fnNeedsOf", fn := fun _ => fun
  | [d] => { results := [.lit (.bool false)], args := [d] }
  | _ => none }
def FnNeedsOfWrongFalsely : Prop := fnNeedsOfRow.holds Tryd.pinned (OpenSpec.ofChange fnNeedsOfWrong)

/- THE SECOND FORM. 'bulk': how many values and letters a reading holds, each counted each time it is reached (what is shared counts as often as it is met; a slice's spare places count too). A statement '..UptoSaid' is the law's where the arguments, and the package variables that the reading takes, are together of bulk at most 1048576: NARROWER than '..Said'. Prove '..Said' where nothing that the law and all that it calls make is longer than what came in: it says more and counts as full. Else prove '..UptoSaid'. A law counts once. -/
mutual
def uptoBulk {H : Type} : DataW H → Nat
  | .lit (.string bytes) => bytes.length + 1
  | .lit _ => 1
  | .nil => 1
  | .ptr d => uptoBulk d + 1
  | .slice elems spare => uptoBulkAll elems + uptoBulkAll spare + 1
  | .agg parts => uptoBulkAll parts + 1
  | .iface _ d => uptoBulk d + 1
  | .map entries => uptoBulkEntries entries + 1
  | .held _ => 1
def uptoBulkAll {H : Type} : List (DataW H) → Nat
  | [] => 0
  | d :: r => uptoBulk d + uptoBulkAll r
def uptoBulkEntries {H : Type} : List (Lit × DataW H) → Nat
  | [] => 0
  | x :: r => uptoBulkEntry x + uptoBulkEntries r
def uptoBulkEntry {H : Type} : Lit × DataW H → Nat
  | (.string bytes, d) => bytes.length + uptoBulk d + 1
  | (_, d) => uptoBulk d + 1
 end
def uptoSmall : (H : Type) → List (DataW H) → Bool := fun _ ds => decide (uptoBulkAll ds ≤ 1048576)
def OpenSpec.upto (s : _root_.Go.ChangeSpec) : _root_.Go.OpenSpec := { _root_.Go.OpenSpec.ofChange s with cond := some uptoSmall }

/-- 'laws.FnModulesOf', WHERE WHAT IT READS IS OF BULK AT MOST 1048576: true; the input reads as it did. -/
def fnModulesOfUptoRow : OpenClaim := { program := "ytlpbgingggnjpaadoor", sum := "620b6607f7bf75a839c4eedbe5b043bee73d1b5f79df8d45e92e5cd0a02981a8", func := "loop.example/importhouse/laws.FnModulesOf", spec := "fnModulesOf", inPlace := ["internal/bytealg.CountString", "internal/bytealg.IndexByteString", "internal/bytealg.IndexString"], recurses := true, named := ["unicode/utf8.first", "unicode/utf8.acceptRanges", "internal/bytealg.MaxLen"], apart := false, laid := [("unicode/utf8.acceptRanges", laid_unicode_utf8_acceptRanges), ("unicode/utf8.first", laid_unicode_utf8_first)], narrowed := true }
def FnModulesOfUptoSaid : Prop := fnModulesOfUptoRow.holds Tryd.pinned (OpenSpec.upto fnModulesOfSpec)

/-- 'laws.FnExactModulesOf', WHERE WHAT IT READS IS OF BULK AT MOST 1048576: true; the input reads as it did. -/
def fnExactModulesOfUptoRow : OpenClaim := { program := "ytlpbgingggnjpaadoor", sum := "620b6607f7bf75a839c4eedbe5b043bee73d1b5f79df8d45e92e5cd0a02981a8", func := "loop.example/importhouse/laws.FnExactModulesOf", spec := "fnExactModulesOf", inPlace := ["internal/bytealg.CountString", "internal/bytealg.IndexByteString", "internal/bytealg.IndexString"], recurses := true, named := ["unicode/utf8.first", "unicode/utf8.acceptRanges", "internal/bytealg.MaxLen"], apart := false, laid := [("unicode/utf8.acceptRanges", laid_unicode_utf8_acceptRanges), ("unicode/utf8.first", laid_unicode_utf8_first)], narrowed := true }
def FnExactModulesOfUptoSaid : Prop := fnExactModulesOfUptoRow.holds Tryd.pinned (OpenSpec.upto fnExactModulesOfSpec)

/-- 'laws.FnListDir', WHERE WHAT IT READS IS OF BULK AT MOST 1048576: true; the input reads as it did. -/
def fnListDirUptoRow : OpenClaim := { program := "ytlpbgingggnjpaadoor", sum := "620b6607f7bf75a839c4eedbe5b043bee73d1b5f79df8d45e92e5cd0a02981a8", func := "loop.example/importhouse/laws.FnListDir", spec := "fnListDir", inPlace := ["internal/bytealg.CountString", "internal/bytealg.IndexByteString", "internal/bytealg.IndexString"], recurses := true, named := ["unicode/utf8.first", "unicode/utf8.acceptRanges", "internal/bytealg.MaxLen"], apart := false, laid := [("unicode/utf8.acceptRanges", laid_unicode_utf8_acceptRanges), ("unicode/utf8.first", laid_unicode_utf8_first)], narrowed := true }
def FnListDirUptoSaid : Prop := fnListDirUptoRow.holds Tryd.pinned (OpenSpec.upto fnListDirSpec)

/-- 'laws.FnExactListDir', WHERE WHAT IT READS IS OF BULK AT MOST 1048576: true; the input reads as it did. -/
def fnExactListDirUptoRow : OpenClaim := { program := "ytlpbgingggnjpaadoor", sum := "620b6607f7bf75a839c4eedbe5b043bee73d1b5f79df8d45e92e5cd0a02981a8", func := "loop.example/importhouse/laws.FnExactListDir", spec := "fnExactListDir", inPlace := ["internal/bytealg.CountString", "internal/bytealg.IndexByteString", "internal/bytealg.IndexString"], recurses := true, named := ["unicode/utf8.first", "unicode/utf8.acceptRanges", "internal/bytealg.MaxLen"], apart := false, laid := [("unicode/utf8.acceptRanges", laid_unicode_utf8_acceptRanges), ("unicode/utf8.first", laid_unicode_utf8_first)], narrowed := true }
def FnExactListDirUptoSaid : Prop := fnExactListDirUptoRow.holds Tryd.pinned (OpenSpec.upto fnExactListDirSpec)

/-- 'laws.FnHasDir', WHERE WHAT IT READS IS OF BULK AT MOST 1048576: true; the input reads as it did. -/
def fnHasDirUptoRow : OpenClaim := { program := "ytlpbgingggnjpaadoor", sum := "620b6607f7bf75a839c4eedbe5b043bee73d1b5f79df8d45e92e5cd0a02981a8", func := "loop.example/importhouse/laws.FnHasDir", spec := "fnHasDir", inPlace := ["internal/bytealg.CountString", "internal/bytealg.IndexByteString", "internal/bytealg.IndexString"], recurses := true, named := ["unicode/utf8.first", "unicode/utf8.acceptRanges", "internal/bytealg.MaxLen"], apart := false, laid := [("unicode/utf8.acceptRanges", laid_unicode_utf8_acceptRanges), ("unicode/utf8.first", laid_unicode_utf8_first)], narrowed := true }
def FnHasDirUptoSaid : Prop := fnHasDirUptoRow.holds Tryd.pinned (OpenSpec.upto fnHasDirSpec)

/-- 'laws.FnAddFile', WHERE WHAT IT READS IS OF BULK AT MOST 1048576: true; the input reads as it did. -/
def fnAddFileUptoRow : OpenClaim := { program := "ytlpbgingggnjpaadoor", sum := "620b6607f7bf75a839c4eedbe5b043bee73d1b5f79df8d45e92e5cd0a02981a8", func := "loop.example/importhouse/laws.FnAddFile", spec := "fnAddFile", inPlace := ["internal/bytealg.CountString", "internal/bytealg.IndexByteString", "internal/bytealg.IndexString"], recurses := true, named := ["unicode/utf8.first", "unicode/utf8.acceptRanges", "internal/bytealg.MaxLen"], apart := false, laid := [("unicode/utf8.acceptRanges", laid_unicode_utf8_acceptRanges), ("unicode/utf8.first", laid_unicode_utf8_first)], narrowed := true }
def FnAddFileUptoSaid : Prop := fnAddFileUptoRow.holds Tryd.pinned (OpenSpec.upto fnAddFileSpec)

/-- 'laws.FnNeedsOf', WHERE WHAT IT READS IS OF BULK AT MOST 1048576: true; the input reads as it did. -/
def fnNeedsOfUptoRow : OpenClaim := { program := "ytlpbgingggnjpaadoor", sum := "620b6607f7bf75a839c4eedbe5b043bee73d1b5f79df8d45e92e5cd0a02981a8", func := "loop.example/importhouse/laws.FnNeedsOf", spec := "fnNeedsOf", inPlace := ["internal/bytealg.CountString", "internal/bytealg.IndexByteString", "internal/bytealg.IndexString"], unfollowed := true, recurses := true, named := ["unicode/utf8.first", "unicode/utf8.acceptRanges", "internal/bytealg.MaxLen"], apart := false, laid := [("unicode/utf8.acceptRanges", laid_unicode_utf8_acceptRanges), ("unicode/utf8.first", laid_unicode_utf8_first)], narrowed := true }
def FnNeedsOfUptoSaid : Prop := fnNeedsOfUptoRow.holds Tryd.pinned (OpenSpec.upto fnNeedsOfSpec)

end Rows
end Go.Proofs.YtlpbgingggnjpaaDoor
