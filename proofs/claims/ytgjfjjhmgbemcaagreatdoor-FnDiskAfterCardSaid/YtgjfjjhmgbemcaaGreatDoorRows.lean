/-
  NARROWER THAN 'FOR EVERY INPUT', by the rows' own cells (each row's printed sentence says how): FnExactDiskAdd: laid · FnExactDiskRemove: laid · FnExactDiskAfter: laid · FnDiskAdd: laid · FnDiskAfter: laid.
  DERIVED. THE GIVEN ROWS OF THIS SEAT. 5 by the template 'for every input the law returns true; each argument reads behind the call as it read before'; 0 by the template 'total and deterministic' (their statements: YtgjfjjhmgbemcaaGreatDoorTotals.lean).
  GIVEN WITH THE SEED: the statements are not yours to turn. If you find one false, say at which input.
  Laid BY PROGRAM, IN A SANDBOX (cutbox-rows.mjs): the forced cells as the released guide's own fill.sh prints them over the translation 2b0deb9520b05ddb… (all of the seat's roots in one cut). By AI agents, Wed Nov 11 2026. No macro, syntax, notation, axiom, sorry.
-/
import Derived.Test.YtgjfjjhmgbemcaaGreatDoorChecked
import GoSem.PinnedTables
import GoSem.Claim
import GoSem.ClaimJoined
import GoSem.ClaimMapViews
import Derived.JoinedTies
import Derived.KernelRfl
namespace Go.Proofs.YtgjfjjhmgbemcaaGreatDoor
/- THE CELL 'sum', in the pinned program and in every row, IS THE sha256 OF THE DUMP (.gsa) THAT YtgjfjjhmgbemcaaGreatDoorProg.lean LOADS. Nothing in Lean hashes anything: it is a label: what it is worth is what the hold of that sum in a sandbox is worth. -/
noncomputable def Tryz.pinned : Pinned := { name := "ytgjfjjhmgbemcaagreatdoor", sum := "2b0deb9520b05ddb91a2cbe5befcc3e2d1d41f1bf1475968b22b73b0067ab763", checked := Tryz.checked }
namespace Rows
def none {H : Type} : Left H := { results := [], args := [] }

/- WHAT THE LISTED PACKAGE-LEVEL VARIABLES READ AS WHEN THE CALL BEGINS. Each datum BY PROGRAM (the guide's laid-datum.mjs) off the statement by which the dump's own 'gosem.cut.vars' lays the variable. In a bare row this is a premise. The card (YtgjfjjhmgbemcaaGreatDoorCards.lean) ties it to the program's text. -/
def laid_unicode_utf8_acceptRanges {H : Type} : DataW H := .agg [.agg [.lit (.int .u8 128), .lit (.int .u8 191)], .agg [.lit (.int .u8 160), .lit (.int .u8 191)], .agg [.lit (.int .u8 128), .lit (.int .u8 159)], .agg [.lit (.int .u8 144), .lit (.int .u8 191)], .agg [.lit (.int .u8 128), .lit (.int .u8 143)], .agg [.lit (.int .u8 0), .lit (.int .u8 0)], .agg [.lit (.int .u8 0), .lit (.int .u8 0)], .agg [.lit (.int .u8 0), .lit (.int .u8 0)], .agg [.lit (.int .u8 0), .lit (.int .u8 0)], .agg [.lit (.int .u8 0), .lit (.int .u8 0)], .agg [.lit (.int .u8 0), .lit (.int .u8 0)], .agg [.lit (.int .u8 0), .lit (.int .u8 0)], .agg [.lit (.int .u8 0), .lit (.int .u8 0)], .agg [.lit (.int .u8 0), .lit (.int .u8 0)], .agg [.lit (.int .u8 0), .lit (.int .u8 0)], .agg [.lit (.int .u8 0), .lit (.int .u8 0)]]
/-- One of Go's own tables, pinned by name: the form's constant. -/
def laid_unicode_utf8_first : DataW Unit := Go.Pinned.utf8First

/-- 'laws.FnExactDiskAdd': WHATEVER THE INPUT: true; the input reads as it did. -/
def fnExactDiskAddSpec : ChangeSpec := { name := "fnExactDiskAdd", fn := fun _ => fun
  | [d1, d2, d3] => { results := [.lit (.bool true)], args := [d1, d2, d3] }
  | _ => none }
def fnExactDiskAddRow : OpenClaim := { program := "ytgjfjjhmgbemcaagreatdoor", sum := "2b0deb9520b05ddb91a2cbe5befcc3e2d1d41f1bf1475968b22b73b0067ab763", func := "loop.example/importhouse/laws.FnExactDiskAdd", spec := "fnExactDiskAdd", inPlace := ["internal/bytealg.CountString", "internal/bytealg.IndexByteString", "internal/bytealg.IndexString", "internal/abi.NoEscape", "internal/bytealg.MakeNoZero"], unfollowed := true, recurses := true, named := ["unicode/utf8.first", "unicode/utf8.acceptRanges", "internal/bytealg.MaxLen"], apart := false, laid := [("unicode/utf8.acceptRanges", laid_unicode_utf8_acceptRanges), ("unicode/utf8.first", laid_unicode_utf8_first)] }
def FnExactDiskAddSaid : Prop := fnExactDiskAddRow.holds Tryz.pinned (OpenSpec.ofChange fnExactDiskAddSpec)

/-- ITS FALSE NEIGHBOUR: 'it returns false'. Refute it at one input. -/
def fnExactDiskAddWrong : ChangeSpec := { name := "fnExactDiskAdd", fn := fun _ => fun
  | [d1, d2, d3] => { results := [.lit (.bool false)], args := [d1, d2, d3] }
  | _ => none }
def FnExactDiskAddWrongFalsely : Prop := fnExactDiskAddRow.holds Tryz.pinned (OpenSpec.ofChange fnExactDiskAddWrong)

/-- 'laws.FnExactDiskRemove': WHATEVER THE INPUT: true; the input reads as it did. -/
def fnExactDiskRemoveSpec : ChangeSpec := { name := "fnExactDiskRemove", fn := fun _ => fun
  | [d1, d2, d3] => { results := [.lit (.bool true)], args := [d1, d2, d3] }
  | _ => none }
def fnExactDiskRemoveRow : OpenClaim := { program := "ytgjfjjhmgbemcaagreatdoor", sum := "2b0deb9520b05ddb91a2cbe5befcc3e2d1d41f1bf1475968b22b73b0067ab763", func := "loop.example/importhouse/laws.FnExactDiskRemove", spec := "fnExactDiskRemove", inPlace := ["internal/bytealg.CountString", "internal/bytealg.IndexByteString", "internal/bytealg.IndexString", "internal/abi.NoEscape", "internal/bytealg.MakeNoZero"], unfollowed := true, recurses := true, named := ["unicode/utf8.first", "unicode/utf8.acceptRanges", "internal/bytealg.MaxLen"], apart := false, laid := [("unicode/utf8.acceptRanges", laid_unicode_utf8_acceptRanges), ("unicode/utf8.first", laid_unicode_utf8_first)] }
def FnExactDiskRemoveSaid : Prop := fnExactDiskRemoveRow.holds Tryz.pinned (OpenSpec.ofChange fnExactDiskRemoveSpec)

/-- ITS FALSE NEIGHBOUR: 'it returns false'. Refute it at one input. -/
def fnExactDiskRemoveWrong : ChangeSpec := { name := "fnExactDiskRemove", fn := fun _ => fun
  | [d1, d2, d3] => { results := [.lit (.bool false)], args := [d1, d2, d3] }
  | _ => none }
def FnExactDiskRemoveWrongFalsely : Prop := fnExactDiskRemoveRow.holds Tryz.pinned (OpenSpec.ofChange fnExactDiskRemoveWrong)

/-- 'laws.FnExactDiskAfter': WHATEVER THE INPUT: true; the input reads as it did. -/
def fnExactDiskAfterSpec : ChangeSpec := { name := "fnExactDiskAfter", fn := fun _ => fun
  | [d1, d2] => { results := [.lit (.bool true)], args := [d1, d2] }
  | _ => none }
def fnExactDiskAfterRow : OpenClaim := { program := "ytgjfjjhmgbemcaagreatdoor", sum := "2b0deb9520b05ddb91a2cbe5befcc3e2d1d41f1bf1475968b22b73b0067ab763", func := "loop.example/importhouse/laws.FnExactDiskAfter", spec := "fnExactDiskAfter", inPlace := ["internal/bytealg.CountString", "internal/bytealg.IndexByteString", "internal/bytealg.IndexString", "internal/abi.NoEscape", "internal/bytealg.MakeNoZero"], unfollowed := true, recurses := true, named := ["unicode/utf8.first", "unicode/utf8.acceptRanges", "internal/bytealg.MaxLen"], apart := false, laid := [("unicode/utf8.acceptRanges", laid_unicode_utf8_acceptRanges), ("unicode/utf8.first", laid_unicode_utf8_first)] }
def FnExactDiskAfterSaid : Prop := fnExactDiskAfterRow.holds Tryz.pinned (OpenSpec.ofChange fnExactDiskAfterSpec)

/-- ITS FALSE NEIGHBOUR: 'it returns false'. Refute it at one input. -/
def fnExactDiskAfterWrong : ChangeSpec := { name := "fnExactDiskAfter", fn := fun _ => fun
  | [d1, d2] => { results := [.lit (.bool false)], args := [d1, d2] }
  | _ => none }
def FnExactDiskAfterWrongFalsely : Prop := fnExactDiskAfterRow.holds Tryz.pinned (OpenSpec.ofChange fnExactDiskAfterWrong)

/-- 'laws.FnDiskAdd': WHATEVER THE INPUT: true; the input reads as it did. -/
def fnDiskAddSpec : ChangeSpec := { name := "fnDiskAdd", fn := fun _ => fun
  | [d] => { results := [.lit (.bool true)], args := [d] }
  | _ => none }
def fnDiskAddRow : OpenClaim := { program := "ytgjfjjhmgbemcaagreatdoor", sum := "2b0deb9520b05ddb91a2cbe5befcc3e2d1d41f1bf1475968b22b73b0067ab763", func := "loop.example/importhouse/laws.FnDiskAdd", spec := "fnDiskAdd", inPlace := ["internal/bytealg.CountString", "internal/bytealg.IndexByteString", "internal/bytealg.IndexString", "internal/abi.NoEscape", "internal/bytealg.MakeNoZero"], unfollowed := true, recurses := true, named := ["unicode/utf8.first", "unicode/utf8.acceptRanges", "internal/bytealg.MaxLen"], apart := false, laid := [("unicode/utf8.acceptRanges", laid_unicode_utf8_acceptRanges), ("unicode/utf8.first", laid_unicode_utf8_first)] }
def FnDiskAddSaid : Prop := fnDiskAddRow.holds Tryz.pinned (OpenSpec.ofChange fnDiskAddSpec)

/-- ITS FALSE NEIGHBOUR: 'it returns false'. Refute it at one input. -/
def fnDiskAddWrong : ChangeSpec := { name := "fnDiskAdd", fn := fun _ => fun
  | [d] => { results := [.lit (.bool false)], args := [d] }
  | _ => none }
def FnDiskAddWrongFalsely : Prop := fnDiskAddRow.holds Tryz.pinned (OpenSpec.ofChange fnDiskAddWrong)

/-- 'laws.FnDiskAfter': WHATEVER THE INPUT: true; the input reads as it did. -/
def fnDiskAfterSpec : ChangeSpec := { name := "fnDiskAfter", fn := fun _ => fun
  | [d] => { results := [.lit (.bool true)], args := [d] }
  | _ => none }
def fnDiskAfterRow : OpenClaim := { program := "ytgjfjjhmgbemcaagreatdoor", sum := "2b0deb9520b05ddb91a2cbe5befcc3e2d1d41f1bf1475968b22b73b0067ab763", func := "loop.example/importhouse/laws.FnDiskAfter", spec := "fnDiskAfter", inPlace := ["internal/bytealg.CountString", "internal/bytealg.IndexByteString", "internal/bytealg.IndexString", "internal/abi.NoEscape", "internal/bytealg.MakeNoZero"], unfollowed := true, recurses := true, named := ["unicode/utf8.first", "unicode/utf8.acceptRanges", "internal/bytealg.MaxLen"], apart := false, laid := [("unicode/utf8.acceptRanges", laid_unicode_utf8_acceptRanges), ("unicode/utf8.first", laid_unicode_utf8_first)] }
def FnDiskAfterSaid : Prop := fnDiskAfterRow.holds Tryz.pinned (OpenSpec.ofChange fnDiskAfterSpec)

/-- ITS FALSE NEIGHBOUR: 'it returns false'. Refute it at one input. -/
def fnDiskAfterWrong : ChangeSpec := { name := "fnDiskAfter", fn := fun _ => fun
  | [d] => { results := [.lit (.bool false)], args := [d] }
  | _ => none }
def FnDiskAfterWrongFalsely : Prop := fnDiskAfterRow.holds Tryz.pinned (OpenSpec.ofChange fnDiskAfterWrong)

/- THE SECOND FORM. 'bulk': how many values and letters a reading holds, each counted each time it is reached (what is shared counts as often as it is met; a slice's spare places count too). A statement '..UptoSaid' is the law's where the arguments, and the package variables that the reading takes, are together of bulk at most 1048576: NARROWER than '..Said'. Prove '..Said' where nothing that the law and all that it calls make is longer than what came in: it says more and counts as full. Else prove '..UptoSaid'. A law counts once. -/
mutual
def uptoBulk {H : Type} : DataW H → Nat
  | .lit (.string bytes) => bytes.length + 1
  | .lit _ => 1
  | .nil => 1
  | .ptr d => uptoBulk d + 1
  | .slice elems spare => uptoBulkAll elems + uptoBulkAll spare + 1
  | .agg parts => uptoBulkAll parts + 1
  | .iface _ d => uptoBulk d + 1
  | .map entries => uptoBulkEntries entries + 1
  | .held _ => 1
def uptoBulkAll {H : Type} : List (DataW H) → Nat
  | [] => 0
  | d :: r => uptoBulk d + uptoBulkAll r
def uptoBulkEntries {H : Type} : List (Lit × DataW H) → Nat
  | [] => 0
  | x :: r => uptoBulkEntry x + uptoBulkEntries r
def uptoBulkEntry {H : Type} : Lit × DataW H → Nat
  | (.string bytes, d) => bytes.length + uptoBulk d + 1
  | (_, d) => uptoBulk d + 1
 end
def uptoSmall : (H : Type) → List (DataW H) → Bool := fun _ ds => decide (uptoBulkAll ds ≤ 1048576)
def OpenSpec.upto (s : _root_.Go.ChangeSpec) : _root_.Go.OpenSpec := { _root_.Go.OpenSpec.ofChange s with cond := some uptoSmall }

/-- 'laws.FnExactDiskAdd', WHERE WHAT IT READS IS OF BULK AT MOST 1048576: true; the input reads as it did. -/
def fnExactDiskAddUptoRow : OpenClaim := { program := "ytgjfjjhmgbemcaagreatdoor", sum := "2b0deb9520b05ddb91a2cbe5befcc3e2d1d41f1bf1475968b22b73b0067ab763", func := "loop.example/importhouse/laws.FnExactDiskAdd", spec := "fnExactDiskAdd", inPlace := ["internal/bytealg.CountString", "internal/bytealg.IndexByteString", "internal/bytealg.IndexString", "internal/abi.NoEscape", "internal/bytealg.MakeNoZero"], unfollowed := true, recurses := true, named := ["unicode/utf8.first", "unicode/utf8.acceptRanges", "internal/bytealg.MaxLen"], apart := false, laid := [("unicode/utf8.acceptRanges", laid_unicode_utf8_acceptRanges), ("unicode/utf8.first", laid_unicode_utf8_first)], narrowed := true }
def FnExactDiskAddUptoSaid : Prop := fnExactDiskAddUptoRow.holds Tryz.pinned (OpenSpec.upto fnExactDiskAddSpec)

/-- 'laws.FnExactDiskRemove', WHERE WHAT IT READS IS OF BULK AT MOST 1048576: true; the input reads as it did. -/
def fnExactDiskRemoveUptoRow : OpenClaim := { program := "ytgjfjjhmgbemcaagreatdoor", sum := "2b0deb9520b05ddb91a2cbe5befcc3e2d1d41f1bf1475968b22b73b0067ab763", func := "loop.example/importhouse/laws.FnExactDiskRemove", spec := "fnExactDiskRemove", inPlace := ["internal/bytealg.CountString", "internal/bytealg.IndexByteString", "internal/bytealg.IndexString", "internal/abi.NoEscape", "internal/bytealg.MakeNoZero"], unfollowed := true, recurses := true, named := ["unicode/utf8.first", "unicode/utf8.acceptRanges", "internal/bytealg.MaxLen"], apart := false, laid := [("unicode/utf8.acceptRanges", laid_unicode_utf8_acceptRanges), ("unicode/utf8.first", laid_unicode_utf8_first)], narrowed := true }
def FnExactDiskRemoveUptoSaid : Prop := fnExactDiskRemoveUptoRow.holds Tryz.pinned (OpenSpec.upto fnExactDiskRemoveSpec)

/-- 'laws.FnExactDiskAfter', WHERE WHAT IT READS IS OF BULK AT MOST 1048576: true; the input reads as it did. -/
def fnExactDiskAfterUptoRow : OpenClaim := { program := "ytgjfjjhmgbemcaagreatdoor", sum := "2b0deb9520b05ddb91a2cbe5befcc3e2d1d41f1bf1475968b22b73b0067ab763", func := "loop.example/importhouse/laws.FnExactDiskAfter", spec := "fnExactDiskAfter", inPlace := ["internal/bytealg.CountString", "internal/bytealg.IndexByteString", "internal/bytealg.IndexString", "internal/abi.NoEscape", "internal/bytealg.MakeNoZero"], unfollowed := true, recurses := true, named := ["unicode/utf8.first", "unicode/utf8.acceptRanges", "internal/bytealg.MaxLen"], apart := false, laid := [("unicode/utf8.acceptRanges", laid_unicode_utf8_acceptRanges), ("unicode/utf8.first", laid_unicode_utf8_first)], narrowed := true }
def FnExactDiskAfterUptoSaid : Prop := fnExactDiskAfterUptoRow.holds Tryz.pinned (OpenSpec.upto fnExactDiskAfterSpec)

/-- 'laws.FnDiskAdd', WHERE WHAT IT READS IS OF BULK AT MOST 1048576: true; the input reads as it did. -/
def fnDiskAddUptoRow : OpenClaim := { program := "ytgjfjjhmgbemcaagreatdoor", sum := "2b0deb9520b05ddb91a2cbe5befcc3e2d1d41f1bf1475968b22b73b0067ab763", func := "loop.example/importhouse/laws.FnDiskAdd", spec := "fnDiskAdd", inPlace := ["internal/bytealg.CountString", "internal/bytealg.IndexByteString", "internal/bytealg.IndexString", "internal/abi.NoEscape", "internal/bytealg.MakeNoZero"], unfollowed := true, recurses := true, named := ["unicode/utf8.first", "unicode/utf8.acceptRanges", "internal/bytealg.MaxLen"], apart := false, laid := [("unicode/utf8.acceptRanges", laid_unicode_utf8_acceptRanges), ("unicode/utf8.first", laid_unicode_utf8_first)], narrowed := true }
def FnDiskAddUptoSaid : Prop := fnDiskAddUptoRow.holds Tryz.pinned (OpenSpec.upto fnDiskAddSpec)

/-- 'laws.FnDiskAfter', WHERE WHAT IT READS IS OF BULK AT MOST 1048576: true; the input reads as it did. -/
def fnDiskAfterUptoRow : OpenClaim := { program := "ytgjfjjhmgbemcaagreatdoor", sum := "2b0deb9520b05ddb91a2cbe5befcc3e2d1d41f1bf1475968b22b73b0067ab763", func := "loop.example/importhouse/laws.FnDiskAfter", spec := "fnDiskAfter", inPlace := ["internal/bytealg.CountString", "internal/bytealg.IndexByteString", "internal/bytealg.IndexString", "internal/abi.NoEscape", "internal/bytealg.MakeNoZero"], unfollowed := true, recurses := true, named := ["unicode/utf8.first", "unicode/utf8.acceptRanges", "internal/bytealg.MaxLen"], apart := false, laid := [("unicode/utf8.acceptRanges", laid_unicode_utf8_acceptRanges), ("unicode/utf8.first", laid_unicode_utf8_first)], narrowed := true }
def FnDiskAfterUptoSaid : Prop := fnDiskAfterUptoRow.holds Tryz.pinned (OpenSpec.upto fnDiskAfterSpec)

end Rows
end Go.Proofs.YtgjfjjhmgbemcaaGreatDoor
