/-
  NARROWER THAN 'FOR EVERY INPUT', by the rows' own cells (each row's printed sentence says how): FnCompileTree: laid · FnPruneStore: laid · FnLoadBody: laid · FnLoadBodyHash: laid · FnLoadBodyTwice: laid · FnWrongFiles: laid.
  DERIVED. THE GIVEN ROWS OF THIS SEAT. 6 by the template 'for every input the law returns true; each argument reads behind the call as it read before'; 0 by the template 'total and deterministic' (their statements: YtebnjkjllinabaaDoorTotals.lean).
  GIVEN WITH THE SEED: the statements are not yours to turn. If you find one false, say at which input.
  Laid BY PROGRAM, IN A SANDBOX (cutbox-rows.mjs): the forced cells as the released guide's own fill.sh prints them over the translation 6cc0a852260a169c… (all of the seat's roots in one cut). By AI agents, Wed Nov 11 2026. No macro, syntax, notation, axiom, sorry.
-/
import Derived.Test.YtebnjkjllinabaaDoorChecked
import GoSem.PinnedTables
import GoSem.Claim
import GoSem.ClaimJoined
import GoSem.ClaimMapViews
import Derived.JoinedTies
import Derived.KernelRfl
namespace Go.Proofs.YtebnjkjllinabaaDoor
/- THE CELL 'sum', in the pinned program and in every row, IS THE sha256 OF THE DUMP (.gsa) THAT YtebnjkjllinabaaDoorProg.lean LOADS. Nothing in Lean hashes anything: it is a label: what it is worth is what the hold of that sum in a sandbox is worth. -/
noncomputable def Tryd.pinned : Pinned := { name := "ytebnjkjllinabaadoor", sum := "6cc0a852260a169c8824891e18ef5e4f97df73dafe6bc227fbd598384b1716f0", checked := Tryd.checked }
namespace Rows
def none {H : Type} : Left H := { results := [], args := [] }

/- WHAT THE LISTED PACKAGE-LEVEL VARIABLES READ AS WHEN THE CALL BEGINS. Each datum BY PROGRAM (the guide's laid-datum.mjs) off the statement by which the dump's own 'gosem.cut.vars' lays the variable. In a bare row this is a premise. The card (YtebnjkjllinabaaDoorCards.lean) ties it to the program's text. -/
def laid_unicode_utf8_acceptRanges {H : Type} : DataW H := .agg [.agg [.lit (.int .u8 128), .lit (.int .u8 191)], .agg [.lit (.int .u8 160), .lit (.int .u8 191)], .agg [.lit (.int .u8 128), .lit (.int .u8 159)], .agg [.lit (.int .u8 144), .lit (.int .u8 191)], .agg [.lit (.int .u8 128), .lit (.int .u8 143)], .agg [.lit (.int .u8 0), .lit (.int .u8 0)], .agg [.lit (.int .u8 0), .lit (.int .u8 0)], .agg [.lit (.int .u8 0), .lit (.int .u8 0)], .agg [.lit (.int .u8 0), .lit (.int .u8 0)], .agg [.lit (.int .u8 0), .lit (.int .u8 0)], .agg [.lit (.int .u8 0), .lit (.int .u8 0)], .agg [.lit (.int .u8 0), .lit (.int .u8 0)], .agg [.lit (.int .u8 0), .lit (.int .u8 0)], .agg [.lit (.int .u8 0), .lit (.int .u8 0)], .agg [.lit (.int .u8 0), .lit (.int .u8 0)], .agg [.lit (.int .u8 0), .lit (.int .u8 0)]]
/-- One of Go's own tables, pinned by name: the form's constant. -/
def laid_unicode_utf8_first : DataW Unit := Go.Pinned.utf8First

/-- 'laws.FnCompileTree': WHATEVER THE INPUT: true; the input reads as it did. -/
def fnCompileTreeSpec : ChangeSpec := { name := "fnCompileTree", fn := fun _ => fun
  | [d] => { results := [.lit (.bool true)], args := [d] }
  | _ => none }
def fnCompileTreeRow : OpenClaim := { program := "ytebnjkjllinabaadoor", sum := "6cc0a852260a169c8824891e18ef5e4f97df73dafe6bc227fbd598384b1716f0", func := "loop.example/importhouse/laws.FnCompileTree", spec := "fnCompileTree", inPlace := ["internal/bytealg.CountString", "internal/bytealg.IndexByteString", "internal/bytealg.IndexString"], unfollowed := true, recurses := true, named := ["unicode/utf8.first", "unicode/utf8.acceptRanges", "internal/bytealg.MaxLen"], apart := false, laid := [("unicode/utf8.acceptRanges", laid_unicode_utf8_acceptRanges), ("unicode/utf8.first", laid_unicode_utf8_first)] }
def FnCompileTreeSaid : Prop := fnCompileTreeRow.holds Tryd.pinned (OpenSpec.ofChange fnCompileTreeSpec)

/-- ITS FALSE NEIGHBOUR: 'it returns false'. Refute it at one input. -/
def fnCompileTreeWrong : ChangeSpec := { name := "fnCompileTree", fn := fun _ => fun
  | [d] => { results := [.lit (.bool false)], args := [d] }
  | _ => none }
def FnCompileTreeWrongFalsely : Prop := fnCompileTreeRow.holds Tryd.pinned (OpenSpec.ofChange fnCompileTreeWrong)

/-- 'laws.FnPruneStore': WHATEVER THE INPUT: true; the input reads as it did. -/
def fnPruneStoreSpec : ChangeSpec := { name := "fnPruneStore", fn := fun _ => fun
  | [d] => { results := [.lit (.bool true)], args := [d] }
  | _ => none }
def fnPruneStoreRow : OpenClaim := { program := "ytebnjkjllinabaadoor", sum := "6cc0a852260a169c8824891e18ef5e4f97df73dafe6bc227fbd598384b1716f0", func := "loop.example/importhouse/laws.FnPruneStore", spec := "fnPruneStore", inPlace := ["internal/bytealg.CountString", "internal/bytealg.IndexByteString", "internal/bytealg.IndexString"], unfollowed := true, recurses := true, named := ["unicode/utf8.first", "unicode/utf8.acceptRanges", "internal/bytealg.MaxLen"], apart := false, laid := [("unicode/utf8.acceptRanges", laid_unicode_utf8_acceptRanges), ("unicode/utf8.first", laid_unicode_utf8_first)] }
def FnPruneStoreSaid : Prop := fnPruneStoreRow.holds Tryd.pinned (OpenSpec.ofChange fnPruneStoreSpec)

/-- ITS FALSE NEIGHBOUR: 'it returns false'. Refute it at one input. -/
def fnPruneStoreWrong : ChangeSpec := { name := "fnPruneStore", fn := fun _ => fun
  | [d] => { results := [.lit (.bool false)], args := [d] }
  | _ => none }
def FnPruneStoreWrongFalsely : Prop := fnPruneStoreRow.holds Tryd.pinned (OpenSpec.ofChange fnPruneStoreWrong)

/-- 'laws.FnLoadBody': WHATEVER THE INPUT: true; the input reads as it did. -/
def fnLoadBodySpec : ChangeSpec := { name := "fnLoadBody", fn := fun _ => fun
  | [d] => { results := [.lit (.bool true)], args := [d] }
  | _ => none }
def fnLoadBodyRow : OpenClaim := { program := "ytebnjkjllinabaadoor", sum := "6cc0a852260a169c8824891e18ef5e4f97df73dafe6bc227fbd598384b1716f0", func := "loop.example/importhouse/laws.FnLoadBody", spec := "fnLoadBody", inPlace := ["internal/bytealg.CountString", "internal/bytealg.IndexByteString", "internal/bytealg.IndexString"], unfollowed := true, recurses := true, named := ["unicode/utf8.first", "unicode/utf8.acceptRanges", "internal/bytealg.MaxLen"], apart := false, laid := [("unicode/utf8.acceptRanges", laid_unicode_utf8_acceptRanges), ("unicode/utf8.first", laid_unicode_utf8_first)] }
def FnLoadBodySaid : Prop := fnLoadBodyRow.holds Tryd.pinned (OpenSpec.ofChange fnLoadBodySpec)

/-- ITS FALSE NEIGHBOUR: 'it returns false'. Refute it at one input. -/
def fnLoadBodyWrong : ChangeSpec := { name := "fnLoadBody", fn := fun _ => fun
  | [d] => { results := [.lit (.bool false)], args := [d] }
  | _ => none }
def FnLoadBodyWrongFalsely : Prop := fnLoadBodyRow.holds Tryd.pinned (OpenSpec.ofChange fnLoadBodyWrong)

/-- 'laws.FnLoadBodyHash': WHATEVER THE INPUT: true; the input reads as it did. -/
def fnLoadBodyHashSpec : ChangeSpec := { name := "fnLoadBodyHash", fn := fun _ => fun
  | [d] => { results := [.lit (.bool true)], args := [d] }
  | _ => none }
def fnLoadBodyHashRow : OpenClaim := { program := "ytebnjkjllinabaadoor", sum := "6cc0a852260a169c8824891e18ef5e4f97df73dafe6bc227fbd598384b1716f0", func := "loop.example/importhouse/laws.FnLoadBodyHash", spec := "fnLoadBodyHash", inPlace := ["internal/bytealg.CountString", "internal/bytealg.IndexByteString", "internal/bytealg.IndexString"], unfollowed := true, recurses := true, named := ["unicode/utf8.first", "unicode/utf8.acceptRanges", "internal/bytealg.MaxLen"], apart := false, laid := [("unicode/utf8.acceptRanges", laid_unicode_utf8_acceptRanges), ("unicode/utf8.first", laid_unicode_utf8_first)] }
def FnLoadBodyHashSaid : Prop := fnLoadBodyHashRow.holds Tryd.pinned (OpenSpec.ofChange fnLoadBodyHashSpec)

/-- ITS FALSE NEIGHBOUR: 'it returns false'. Refute it at one input. -/
def fnLoadBodyHashWrong : ChangeSpec := { name := "fnLoadBodyHash", fn := fun _ => fun
  | [d] => { results := [.lit (.bool false)], args := [d] }
  | _ => none }
def FnLoadBodyHashWrongFalsely : Prop := fnLoadBodyHashRow.holds Tryd.pinned (OpenSpec.ofChange fnLoadBodyHashWrong)

/-- 'laws.FnLoadBodyTwice': WHATEVER THE INPUT: true; the input reads as it did. -/
def fnLoadBodyTwiceSpec : ChangeSpec := { name := "fnLoadBodyTwice", fn := fun _ => fun
  | [d] => { results := [.lit (.bool true)], args := [d] }
  | _ => none }
def fnLoadBodyTwiceRow : OpenClaim := { program := "ytebnjkjllinabaadoor", sum := "6cc0a852260a169c8824891e18ef5e4f97df73dafe6bc227fbd598384b1716f0", func := "loop.example/importhouse/laws.FnLoadBodyTwice", spec := "fnLoadBodyTwice", inPlace := ["internal/bytealg.CountString", "internal/bytealg.IndexByteString", "internal/bytealg.IndexString"], unfollowed := true, recurses := true, named := ["unicode/utf8.first", "unicode/utf8.acceptRanges", "internal/bytealg.MaxLen"], apart := false, laid := [("unicode/utf8.acceptRanges", laid_unicode_utf8_acceptRanges), ("unicode/utf8.first", laid_unicode_utf8_first)] }
def FnLoadBodyTwiceSaid : Prop := fnLoadBodyTwiceRow.holds Tryd.pinned (OpenSpec.ofChange fnLoadBodyTwiceSpec)

/-- ITS FALSE NEIGHBOUR: 'it returns false'. Refute it at one input. -/
def fnLoadBodyTwiceWrong : ChangeSpec := { name := "fnLoadBodyTwice", fn := fun _ => fun
  | [d] => { results := [.lit (.bool false)], args := [d] }
  | _ => none }
def FnLoadBodyTwiceWrongFalsely : Prop := fnLoadBodyTwiceRow.holds Tryd.pinned (OpenSpec.ofChange fnLoadBodyTwiceWrong)

/-- 'laws.FnWrongFiles': WHATEVER THE INPUT: true; the input reads as it did. -/
def fnWrongFilesSpec : ChangeSpec := { name := "fnWrongFiles", fn := fun _ => fun
  | [d] => { results := [.lit (.bool true)], args := [d] }
  | _ => none }
def fnWrongFilesRow : OpenClaim := { program := "ytebnjkjllinabaadoor", sum := "6cc0a852260a169c8824891e18ef5e4f97df73dafe6bc227fbd598384b1716f0", func := "loop.example/importhouse/laws.FnWrongFiles", spec := "fnWrongFiles", inPlace := ["internal/bytealg.CountString", "internal/bytealg.IndexByteString", "internal/bytealg.IndexString"], unfollowed := true, recurses := true, named := ["unicode/utf8.first", "unicode/utf8.acceptRanges", "internal/bytealg.MaxLen"], apart := false, laid := [("unicode/utf8.acceptRanges", laid_unicode_utf8_acceptRanges), ("unicode/utf8.first", laid_unicode_utf8_first)] }
def FnWrongFilesSaid : Prop := fnWrongFilesRow.holds Tryd.pinned (OpenSpec.ofChange fnWrongFilesSpec)

/-- ITS FALSE NEIGHBOUR: 'it returns false'. Refute it at one input. -/
def fnWrongFilesWrong : ChangeSpec := { name := "fnWrongFiles", fn := fun _ => fun
  | [d] => { results := [.lit (.bool false)], args := [d] }
  | _ => none }
def FnWrongFilesWrongFalsely : Prop := fnWrongFilesRow.holds Tryd.pinned (OpenSpec.ofChange fnWrongFilesWrong)

/- THE SECOND FORM. 'bulk': how many values and letters a reading holds, each counted each time it is reached (what is shared counts as often as it is met; a slice's spare places count too). A statement '..UptoSaid' is the law's where the arguments, and the package variables that the reading takes, are together of bulk at most 1048576: NARROWER than '..Said'. Prove '..Said' where nothing that the law and all that it calls make is longer than what came in: it says more and counts as full. Else prove '..UptoSaid'. A law counts once. -/
mutual
def uptoBulk {H : Type} : DataW H → Nat
  | .lit (.string bytes) => bytes.length + 1
  | .lit _ => 1
  | .nil => 1
  | .ptr d => uptoBulk d + 1
  | .slice elems spare => uptoBulkAll elems + uptoBulkAll spare + 1
  | .agg parts => uptoBulkAll parts + 1
  | .iface _ d => uptoBulk d + 1
  | .map entries => uptoBulkEntries entries + 1
  | .held _ => 1
def uptoBulkAll {H : Type} : List (DataW H) → Nat
  | [] => 0
  | d :: r => uptoBulk d + uptoBulkAll r
def uptoBulkEntries {H : Type} : List (Lit × DataW H) → Nat
  | [] => 0
  | x :: r => uptoBulkEntry x + uptoBulkEntries r
def uptoBulkEntry {H : Type} : Lit × DataW H → Nat
  | (.string bytes, d) => bytes.length + uptoBulk d + 1
  | (_, d) => uptoBulk d + 1
 end
def uptoSmall : (H : Type) → List (DataW H) → Bool := fun _ ds => decide (uptoBulkAll ds ≤ 1048576)
def OpenSpec.upto (s : _root_.Go.ChangeSpec) : _root_.Go.OpenSpec := { _root_.Go.OpenSpec.ofChange s with cond := some uptoSmall }

/-- 'laws.FnCompileTree', WHERE WHAT IT READS IS OF BULK AT MOST 1048576: true; the input reads as it did. -/
def fnCompileTreeUptoRow : OpenClaim := { program := "ytebnjkjllinabaadoor", sum := "6cc0a852260a169c8824891e18ef5e4f97df73dafe6bc227fbd598384b1716f0", func := "loop.example/importhouse/laws.FnCompileTree", spec := "fnCompileTree", inPlace := ["internal/bytealg.CountString", "internal/bytealg.IndexByteString", "internal/bytealg.IndexString"], unfollowed := true, recurses := true, named := ["unicode/utf8.first", "unicode/utf8.acceptRanges", "internal/bytealg.MaxLen"], apart := false, laid := [("unicode/utf8.acceptRanges", laid_unicode_utf8_acceptRanges), ("unicode/utf8.first", laid_unicode_utf8_first)], narrowed := true }
def FnCompileTreeUptoSaid : Prop := fnCompileTreeUptoRow.holds Tryd.pinned (OpenSpec.upto fnCompileTreeSpec)

/-- 'laws.FnPruneStore', WHERE WHAT IT READS IS OF BULK AT MOST 1048576: true; the input reads as it did. -/
def fnPruneStoreUptoRow : OpenClaim := { program := "ytebnjkjllinabaadoor", sum := "6cc0a852260a169c8824891e18ef5e4f97df73dafe6bc227fbd598384b1716f0", func := "loop.example/importhouse/laws.FnPruneStore", spec := "fnPruneStore", inPlace := ["internal/bytealg.CountString", "internal/bytealg.IndexByteString", "internal/bytealg.IndexString"], unfollowed := true, recurses := true, named := ["unicode/utf8.first", "unicode/utf8.acceptRanges", "internal/bytealg.MaxLen"], apart := false, laid := [("unicode/utf8.acceptRanges", laid_unicode_utf8_acceptRanges), ("unicode/utf8.first", laid_unicode_utf8_first)], narrowed := true }
def FnPruneStoreUptoSaid : Prop := fnPruneStoreUptoRow.holds Tryd.pinned (OpenSpec.upto fnPruneStoreSpec)

/-- 'laws.FnLoadBody', WHERE WHAT IT READS IS OF BULK AT MOST 1048576: true; the input reads as it did. -/
def fnLoadBodyUptoRow : OpenClaim := { program := "ytebnjkjllinabaadoor", sum := "6cc0a852260a169c8824891e18ef5e4f97df73dafe6bc227fbd598384b1716f0", func := "loop.example/importhouse/laws.FnLoadBody", spec := "fnLoadBody", inPlace := ["internal/bytealg.CountString", "internal/bytealg.IndexByteString", "internal/bytealg.IndexString"], unfollowed := true, recurses := true, named := ["unicode/utf8.first", "unicode/utf8.acceptRanges", "internal/bytealg.MaxLen"], apart := false, laid := [("unicode/utf8.acceptRanges", laid_unicode_utf8_acceptRanges), ("unicode/utf8.first", laid_unicode_utf8_first)], narrowed := true }
def FnLoadBodyUptoSaid : Prop := fnLoadBodyUptoRow.holds Tryd.pinned (OpenSpec.upto fnLoadBodySpec)

/-- 'laws.FnLoadBodyHash', WHERE WHAT IT READS IS OF BULK AT MOST 1048576: true; the input reads as it did. -/
def fnLoadBodyHashUptoRow : OpenClaim := { program := "ytebnjkjllinabaadoor", sum := "6cc0a852260a169c8824891e18ef5e4f97df73dafe6bc227fbd598384b1716f0", func := "loop.example/importhouse/laws.FnLoadBodyHash", spec := "fnLoadBodyHash", inPlace := ["internal/bytealg.CountString", "internal/bytealg.IndexByteString", "internal/bytealg.IndexString"], unfollowed := true, recurses := true, named := ["unicode/utf8.first", "unicode/utf8.acceptRanges", "internal/bytealg.MaxLen"], apart := false, laid := [("unicode/utf8.acceptRanges", laid_unicode_utf8_acceptRanges), ("unicode/utf8.first", laid_unicode_utf8_first)], narrowed := true }
def FnLoadBodyHashUptoSaid : Prop := fnLoadBodyHashUptoRow.holds Tryd.pinned (OpenSpec.upto fnLoadBodyHashSpec)

/-- 'laws.FnLoadBodyTwice', WHERE WHAT IT READS IS OF BULK AT MOST 1048576: true; the input reads as it did. -/
def fnLoadBodyTwiceUptoRow : OpenClaim := { program := "ytebnjkjllinabaadoor", sum := "6cc0a852260a169c8824891e18ef5e4f97df73dafe6bc227fbd598384b1716f0", func := "loop.example/importhouse/laws.FnLoadBodyTwice", spec := "fnLoadBodyTwice", inPlace := ["internal/bytealg.CountString", "internal/bytealg.IndexByteString", "internal/bytealg.IndexString"], unfollowed := true, recurses := true, named := ["unicode/utf8.first", "unicode/utf8.acceptRanges", "internal/bytealg.MaxLen"], apart := false, laid := [("unicode/utf8.acceptRanges", laid_unicode_utf8_acceptRanges), ("unicode/utf8.first", laid_unicode_utf8_first)], narrowed := true }
def FnLoadBodyTwiceUptoSaid : Prop := fnLoadBodyTwiceUptoRow.holds Tryd.pinned (OpenSpec.upto fnLoadBodyTwiceSpec)

/-- 'laws.FnWrongFiles', WHERE WHAT IT READS IS OF BULK AT MOST 1048576: true; the input reads as it did. -/
def fnWrongFilesUptoRow : OpenClaim := { program := "ytebnjkjllinabaadoor", sum := "6cc0a852260a169c8824891e18ef5e4f97df73dafe6bc227fbd598384b1716f0", func := "loop.example/importhouse/laws.FnWrongFiles", spec := "fnWrongFiles", inPlace := ["internal/bytealg.CountString", "internal/bytealg.IndexByteString", "internal/bytealg.IndexString"], unfollowed := true, recurses := true, named := ["unicode/utf8.first", "unicode/utf8.acceptRanges", "internal/bytealg.MaxLen"], apart := false, laid := [("unicode/utf8.acceptRanges", laid_unicode_utf8_acceptRanges), ("unicode/utf8.first", laid_unicode_utf8_first)], narrowed := true }
def FnWrongFilesUptoSaid : Prop := fnWrongFilesUptoRow.holds Tryd.pinned (OpenSpec.upto fnWrongFilesSpec)

end Rows
end Go.Proofs.YtebnjkjllinabaaDoor
