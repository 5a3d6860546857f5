/-
  NARROWER THAN 'FOR EVERY INPUT', by the rows' own cells (each row's printed sentence says how): FnFoundNames: laid · FnSameFinds: laid · FnHiddenFilesGone: laid · FnEditFile: laid.
  DERIVED. THE GIVEN ROWS OF THIS SEAT. 4 by the template 'for every input the law returns true; each argument reads behind the call as it read before'; 0 by the template 'total and deterministic' (their statements: YtijcdnaammbomaaGreatDoorTotals.lean).
  GIVEN WITH THE SEED: the statements are not yours to turn. If you find one false, say at which input.
  Laid BY PROGRAM, IN A SANDBOX (cutbox-rows.mjs): the forced cells as the released guide's own fill.sh prints them over the translation 8e498d268d23bc4f… (all of the seat's roots in one cut). By AI agents, Wed Nov 11 2026. No macro, syntax, notation, axiom, sorry.
-/
import Derived.Test.YtijcdnaammbomaaGreatDoorChecked
import GoSem.PinnedTables
import GoSem.Claim
import GoSem.ClaimJoined
import GoSem.ClaimMapViews
import Derived.JoinedTies
import Derived.KernelRfl
namespace Go.Proofs.YtijcdnaammbomaaGreatDoor
/- THE CELL 'sum', in the pinned program and in every row, IS THE sha256 OF THE DUMP (.gsa) THAT YtijcdnaammbomaaGreatDoorProg.lean LOADS. Nothing in Lean hashes anything: it is a label: what it is worth is what the hold of that sum in a sandbox is worth. -/
noncomputable def Tryz.pinned : Pinned := { name := "ytijcdnaammbomaagreatdoor", sum := "8e498d268d23bc4f157bb0be6e78c3dcb3799a67292aec2eefaf6b92e47da08f", checked := Tryz.checked }
namespace Rows
def none {H : Type} : Left H := { results := [], args := [] }

/- WHAT THE LISTED PACKAGE-LEVEL VARIABLES READ AS WHEN THE CALL BEGINS. Each datum BY PROGRAM (the guide's laid-datum.mjs) off the statement by which the dump's own 'gosem.cut.vars' lays the variable. In a bare row this is a premise. The card (YtijcdnaammbomaaGreatDoorCards.lean) ties it to the program's text. -/
def laid_unicode_utf8_acceptRanges {H : Type} : DataW H := .agg [.agg [.lit (.int .u8 128), .lit (.int .u8 191)], .agg [.lit (.int .u8 160), .lit (.int .u8 191)], .agg [.lit (.int .u8 128), .lit (.int .u8 159)], .agg [.lit (.int .u8 144), .lit (.int .u8 191)], .agg [.lit (.int .u8 128), .lit (.int .u8 143)], .agg [.lit (.int .u8 0), .lit (.int .u8 0)], .agg [.lit (.int .u8 0), .lit (.int .u8 0)], .agg [.lit (.int .u8 0), .lit (.int .u8 0)], .agg [.lit (.int .u8 0), .lit (.int .u8 0)], .agg [.lit (.int .u8 0), .lit (.int .u8 0)], .agg [.lit (.int .u8 0), .lit (.int .u8 0)], .agg [.lit (.int .u8 0), .lit (.int .u8 0)], .agg [.lit (.int .u8 0), .lit (.int .u8 0)], .agg [.lit (.int .u8 0), .lit (.int .u8 0)], .agg [.lit (.int .u8 0), .lit (.int .u8 0)], .agg [.lit (.int .u8 0), .lit (.int .u8 0)]]
/-- One of Go's own tables, pinned by name: the form's constant. -/
def laid_unicode_utf8_first : DataW Unit := Go.Pinned.utf8First

/-- 'laws.FnFoundNames': WHATEVER THE INPUT: true; the input reads as it did. -/
def fnFoundNamesSpec : ChangeSpec := { name := "fnFoundNames", fn := fun _ => fun
  | [d] => { results := [.lit (.bool true)], args := [d] }
  | _ => none }
def fnFoundNamesRow : OpenClaim := { program := "ytijcdnaammbomaagreatdoor", sum := "8e498d268d23bc4f157bb0be6e78c3dcb3799a67292aec2eefaf6b92e47da08f", func := "loop.example/importhouse/laws.FnFoundNames", spec := "fnFoundNames", inPlace := ["internal/bytealg.CountString", "internal/bytealg.IndexByteString", "internal/bytealg.IndexString", "internal/abi.NoEscape", "internal/bytealg.MakeNoZero"], unfollowed := true, recurses := true, named := ["unicode/utf8.first", "unicode/utf8.acceptRanges", "internal/bytealg.MaxLen"], apart := false, laid := [("unicode/utf8.acceptRanges", laid_unicode_utf8_acceptRanges), ("unicode/utf8.first", laid_unicode_utf8_first)] }
def FnFoundNamesSaid : Prop := fnFoundNamesRow.holds Tryz.pinned (OpenSpec.ofChange fnFoundNamesSpec)

/-- ITS FALSE NEIGHBOUR: 'it returns false'. Refute it at one input. -/
def fnFoundNamesWrong : ChangeSpec := { name := "fnFoundNames", fn := fun _ => fun
  | [d] => { results := [.lit (.bool false)], args := [d] }
  | _ => none }
def FnFoundNamesWrongFalsely : Prop := fnFoundNamesRow.holds Tryz.pinned (OpenSpec.ofChange fnFoundNamesWrong)

/-- 'laws.FnSameFinds': WHATEVER THE INPUT: true; the input reads as it did. -/
def fnSameFindsSpec : ChangeSpec := { name := "fnSameFinds", fn := fun _ => fun
  | [d] => { results := [.lit (.bool true)], args := [d] }
  | _ => none }
def fnSameFindsRow : OpenClaim := { program := "ytijcdnaammbomaagreatdoor", sum := "8e498d268d23bc4f157bb0be6e78c3dcb3799a67292aec2eefaf6b92e47da08f", func := "loop.example/importhouse/laws.FnSameFinds", spec := "fnSameFinds", inPlace := ["internal/bytealg.CountString", "internal/bytealg.IndexByteString", "internal/bytealg.IndexString", "internal/abi.NoEscape", "internal/bytealg.MakeNoZero"], unfollowed := true, recurses := true, named := ["unicode/utf8.first", "unicode/utf8.acceptRanges", "internal/bytealg.MaxLen"], apart := false, laid := [("unicode/utf8.acceptRanges", laid_unicode_utf8_acceptRanges), ("unicode/utf8.first", laid_unicode_utf8_first)] }
def FnSameFindsSaid : Prop := fnSameFindsRow.holds Tryz.pinned (OpenSpec.ofChange fnSameFindsSpec)

/-- ITS FALSE NEIGHBOUR: 'it returns false'. Refute it at one input. -/
def fnSameFindsWrong : ChangeSpec := { name := "fnSameFinds", fn := fun _ => fun
  | [d] => { results := [.lit (.bool false)], args := [d] }
  | _ => none }
def FnSameFindsWrongFalsely : Prop := fnSameFindsRow.holds Tryz.pinned (OpenSpec.ofChange fnSameFindsWrong)

/-- 'laws.FnHiddenFilesGone': WHATEVER THE INPUT: true; the input reads as it did. -/
def fnHiddenFilesGoneSpec : ChangeSpec := { name := "fnHiddenFilesGone", fn := fun _ => fun
  | [d] => { results := [.lit (.bool true)], args := [d] }
  | _ => none }
def fnHiddenFilesGoneRow : OpenClaim := { program := "ytijcdnaammbomaagreatdoor", sum := "8e498d268d23bc4f157bb0be6e78c3dcb3799a67292aec2eefaf6b92e47da08f", func := "loop.example/importhouse/laws.FnHiddenFilesGone", spec := "fnHiddenFilesGone", inPlace := ["internal/bytealg.CountString", "internal/bytealg.IndexByteString", "internal/bytealg.IndexString", "internal/abi.NoEscape", "internal/bytealg.MakeNoZero"], unfollowed := true, recurses := true, named := ["unicode/utf8.first", "unicode/utf8.acceptRanges", "internal/bytealg.MaxLen"], apart := false, laid := [("unicode/utf8.acceptRanges", laid_unicode_utf8_acceptRanges), ("unicode/utf8.first", laid_unicode_utf8_first)] }
def FnHiddenFilesGoneSaid : Prop := fnHiddenFilesGoneRow.holds Tryz.pinned (OpenSpec.ofChange fnHiddenFilesGoneSpec)

/-- ITS FALSE NEIGHBOUR: 'it returns false'. Refute it at one input. -/
def fnHiddenFilesGoneWrong : ChangeSpec := { name := "fnHiddenFilesGone", fn := fun _ => fun
  | [d] => { results := [.lit (.bool false)], args := [d] }
  | _ => none }
def FnHiddenFilesGoneWrongFalsely : Prop := fnHiddenFilesGoneRow.holds Tryz.pinned (OpenSpec.ofChange fnHiddenFilesGoneWrong)

/-- 'laws.FnEditFile': WHATEVER THE INPUT: true; the input reads as it did. -/
def fnEditFileSpec : ChangeSpec := { name := "fnEditFile", fn := fun _ => fun
  | [d] => { results := [.lit (.bool true)], args := [d] }
  | _ => none }
def fnEditFileRow : OpenClaim := { program := "ytijcdnaammbomaagreatdoor", sum := "8e498d268d23bc4f157bb0be6e78c3dcb3799a67292aec2eefaf6b92e47da08f", func := "loop.example/importhouse/laws.FnEditFile", spec := "fnEditFile", inPlace := ["internal/bytealg.CountString", "internal/bytealg.IndexByteString", "internal/bytealg.IndexString", "internal/abi.NoEscape", "internal/bytealg.MakeNoZero"], unfollowed := true, recurses := true, named := ["unicode/utf8.first", "unicode/utf8.acceptRanges", "internal/bytealg.MaxLen"], apart := false, laid := [("unicode/utf8.acceptRanges", laid_unicode_utf8_acceptRanges), ("unicode/utf8.first", laid_unicode_utf8_first)] }
def FnEditFileSaid : Prop := fnEditFileRow.holds Tryz.pinned (OpenSpec.ofChange fnEditFileSpec)

/-- ITS FALSE NEIGHBOUR: 'it returns false'. Refute it at one input. -/
def fnEditFileWrong : ChangeSpec := { name := "fnEditFile", fn := fun _ => fun
  | [d] => { results := [.lit (.bool false)], args := [d] }
  | _ => none }
def FnEditFileWrongFalsely : Prop := fnEditFileRow.holds Tryz.pinned (OpenSpec.ofChange fnEditFileWrong)

/- THE SECOND FORM. 'bulk': how many values and letters a reading holds, each counted each time it is reached (what is shared counts as often as it is met; a slice's spare places count too). A statement '..UptoSaid' is the law's where the arguments, and the package variables that the reading takes, are together of bulk at most 1048576: NARROWER than '..Said'. Prove '..Said' where nothing that the law and all that it calls make is longer than what came in: it says more and counts as full. Else prove '..UptoSaid'. A law counts once. -/
mutual
def uptoBulk {H : Type} : DataW H → Nat
  | .lit (.string bytes) => bytes.length + 1
  | .lit _ => 1
  | .nil => 1
  | .ptr d => uptoBulk d + 1
  | .slice elems spare => uptoBulkAll elems + uptoBulkAll spare + 1
  | .agg parts => uptoBulkAll parts + 1
  | .iface _ d => uptoBulk d + 1
  | .map entries => uptoBulkEntries entries + 1
  | .held _ => 1
def uptoBulkAll {H : Type} : List (DataW H) → Nat
  | [] => 0
  | d :: r => uptoBulk d + uptoBulkAll r
def uptoBulkEntries {H : Type} : List (Lit × DataW H) → Nat
  | [] => 0
  | x :: r => uptoBulkEntry x + uptoBulkEntries r
def uptoBulkEntry {H : Type} : Lit × DataW H → Nat
  | (.string bytes, d) => bytes.length + uptoBulk d + 1
  | (_, d) => uptoBulk d + 1
 end
def uptoSmall : (H : Type) → List (DataW H) → Bool := fun _ ds => decide (uptoBulkAll ds ≤ 1048576)
def OpenSpec.upto (s : _root_.Go.ChangeSpec) : _root_.Go.OpenSpec := { _root_.Go.OpenSpec.ofChange s with cond := some uptoSmall }

/-- 'laws.FnFoundNames', WHERE WHAT IT READS IS OF BULK AT MOST 1048576: true; the input reads as it did. -/
def fnFoundNamesUptoRow : OpenClaim := { program := "ytijcdnaammbomaagreatdoor", sum := "8e498d268d23bc4f157bb0be6e78c3dcb3799a67292aec2eefaf6b92e47da08f", func := "loop.example/importhouse/laws.FnFoundNames", spec := "fnFoundNames", inPlace := ["internal/bytealg.CountString", "internal/bytealg.IndexByteString", "internal/bytealg.IndexString", "internal/abi.NoEscape", "internal/bytealg.MakeNoZero"], unfollowed := true, recurses := true, named := ["unicode/utf8.first", "unicode/utf8.acceptRanges", "internal/bytealg.MaxLen"], apart := false, laid := [("unicode/utf8.acceptRanges", laid_unicode_utf8_acceptRanges), ("unicode/utf8.first", laid_unicode_utf8_first)], narrowed := true }
def FnFoundNamesUptoSaid : Prop := fnFoundNamesUptoRow.holds Tryz.pinned (OpenSpec.upto fnFoundNamesSpec)

/-- 'laws.FnSameFinds', WHERE WHAT IT READS IS OF BULK AT MOST 1048576: true; the input reads as it did. -/
def fnSameFindsUptoRow : OpenClaim := { program := "ytijcdnaammbomaagreatdoor", sum := "8e498d268d23bc4f157bb0be6e78c3dcb3799a67292aec2eefaf6b92e47da08f", func := "loop.example/importhouse/laws.FnSameFinds", spec := "fnSameFinds", inPlace := ["internal/bytealg.CountString", "internal/bytealg.IndexByteString", "internal/bytealg.IndexString", "internal/abi.NoEscape", "internal/bytealg.MakeNoZero"], unfollowed := true, recurses := true, named := ["unicode/utf8.first", "unicode/utf8.acceptRanges", "internal/bytealg.MaxLen"], apart := false, laid := [("unicode/utf8.acceptRanges", laid_unicode_utf8_acceptRanges), ("unicode/utf8.first", laid_unicode_utf8_first)], narrowed := true }
def FnSameFindsUptoSaid : Prop := fnSameFindsUptoRow.holds Tryz.pinned (OpenSpec.upto fnSameFindsSpec)

/-- 'laws.FnHiddenFilesGone', WHERE WHAT IT READS IS OF BULK AT MOST 1048576: true; the input reads as it did. -/
def fnHiddenFilesGoneUptoRow : OpenClaim := { program := "ytijcdnaammbomaagreatdoor", sum := "8e498d268d23bc4f157bb0be6e78c3dcb3799a67292aec2eefaf6b92e47da08f", func := "loop.example/importhouse/laws.FnHiddenFilesGone", spec := "fnHiddenFilesGone", inPlace := ["internal/bytealg.CountString", "internal/bytealg.IndexByteString", "internal/bytealg.IndexString", "internal/abi.NoEscape", "internal/bytealg.MakeNoZero"], unfollowed := true, recurses := true, named := ["unicode/utf8.first", "unicode/utf8.acceptRanges", "internal/bytealg.MaxLen"], apart := false, laid := [("unicode/utf8.acceptRanges", laid_unicode_utf8_acceptRanges), ("unicode/utf8.first", laid_unicode_utf8_first)], narrowed := true }
def FnHiddenFilesGoneUptoSaid : Prop := fnHiddenFilesGoneUptoRow.holds Tryz.pinned (OpenSpec.upto fnHiddenFilesGoneSpec)

/-- 'laws.FnEditFile', WHERE WHAT IT READS IS OF BULK AT MOST 1048576: true; the input reads as it did. -/
def fnEditFileUptoRow : OpenClaim := { program := "ytijcdnaammbomaagreatdoor", sum := "8e498d268d23bc4f157bb0be6e78c3dcb3799a67292aec2eefaf6b92e47da08f", func := "loop.example/importhouse/laws.FnEditFile", spec := "fnEditFile", inPlace := ["internal/bytealg.CountString", "internal/bytealg.IndexByteString", "internal/bytealg.IndexString", "internal/abi.NoEscape", "internal/bytealg.MakeNoZero"], unfollowed := true, recurses := true, named := ["unicode/utf8.first", "unicode/utf8.acceptRanges", "internal/bytealg.MaxLen"], apart := false, laid := [("unicode/utf8.acceptRanges", laid_unicode_utf8_acceptRanges), ("unicode/utf8.first", laid_unicode_utf8_first)], narrowed := true }
def FnEditFileUptoSaid : Prop := fnEditFileUptoRow.holds Tryz.pinned (OpenSpec.upto fnEditFileSpec)

end Rows
end Go.Proofs.YtijcdnaammbomaaGreatDoor
