/-
  NARROWER THAN 'FOR EVERY INPUT', by the rows' own cells (each row's printed sentence says how): FnPackagesOf: laid · FnExactPackagesOf: laid · FnExactNeedsOf: laid · FnEdgesOf: laid · FnExactEdgesOf: laid.
  DERIVED. THE GIVEN ROWS OF THIS SEAT. 5 by the template 'for every input the law returns true; each argument reads behind the call as it read before'; 0 by the template 'total and deterministic' (their statements: YtlpbgingggnjpaaGreatDoorTotals.lean).
  GIVEN WITH THE SEED: the statements are not yours to turn. If you find one false, say at which input.
  Laid BY PROGRAM, IN A SANDBOX (cutbox-rows.mjs): the forced cells as the released guide's own fill.sh prints them over the translation dd82326bb7e33117… (all of the seat's roots in one cut). By AI agents, Wed Nov 11 2026. No macro, syntax, notation, axiom, sorry.
-/
import Derived.Test.YtlpbgingggnjpaaGreatDoorChecked
import GoSem.PinnedTables
import GoSem.Claim
import GoSem.ClaimJoined
import GoSem.ClaimMapViews
import Derived.JoinedTies
import Derived.KernelRfl
namespace Go.Proofs.YtlpbgingggnjpaaGreatDoor
/- THE CELL 'sum', in the pinned program and in every row, IS THE sha256 OF THE DUMP (.gsa) THAT YtlpbgingggnjpaaGreatDoorProg.lean LOADS. Nothing in Lean hashes anything: it is a label: what it is worth is what the hold of that sum in a sandbox is worth. -/
noncomputable def Tryz.pinned : Pinned := { name := "ytlpbgingggnjpaagreatdoor", sum := "dd82326bb7e331175dda2408591c5a7fcdfcee13d3487f8175f5e690756f4053", checked := Tryz.checked }
namespace Rows
def none {H : Type} : Left H := { results := [], args := [] }

/- WHAT THE LISTED PACKAGE-LEVEL VARIABLES READ AS WHEN THE CALL BEGINS. Each datum BY PROGRAM (the guide's laid-datum.mjs) off the statement by which the dump's own 'gosem.cut.vars' lays the variable. In a bare row this is a premise. The card (YtlpbgingggnjpaaGreatDoorCards.lean) ties it to the program's text. -/
def laid_unicode_utf8_acceptRanges {H : Type} : DataW H := .agg [.agg [.lit (.int .u8 128), .lit (.int .u8 191)], .agg [.lit (.int .u8 160), .lit (.int .u8 191)], .agg [.lit (.int .u8 128), .lit (.int .u8 159)], .agg [.lit (.int .u8 144), .lit (.int .u8 191)], .agg [.lit (.int .u8 128), .lit (.int .u8 143)], .agg [.lit (.int .u8 0), .lit (.int .u8 0)], .agg [.lit (.int .u8 0), .lit (.int .u8 0)], .agg [.lit (.int .u8 0), .lit (.int .u8 0)], .agg [.lit (.int .u8 0), .lit (.int .u8 0)], .agg [.lit (.int .u8 0), .lit (.int .u8 0)], .agg [.lit (.int .u8 0), .lit (.int .u8 0)], .agg [.lit (.int .u8 0), .lit (.int .u8 0)], .agg [.lit (.int .u8 0), .lit (.int .u8 0)], .agg [.lit (.int .u8 0), .lit (.int .u8 0)], .agg [.lit (.int .u8 0), .lit (.int .u8 0)], .agg [.lit (.int .u8 0), .lit (.int .u8 0)]]
/-- One of Go's own tables, pinned by name: the form's constant. -/
def laid_unicode_utf8_first : DataW Unit := Go.Pinned.utf8First

/-- 'laws.FnPackagesOf': WHATEVER THE INPUT: true; the input reads as it did. -/
def fnPackagesOfSpec : ChangeSpec := { name := "fnPackagesOf", fn := fun _ => fun
  | [d] => { results := [.lit (.bool true)], args := [d] }
  | _ => none }
def fnPackagesOfRow : OpenClaim := { program := "ytlpbgingggnjpaagreatdoor", sum := "dd82326bb7e331175dda2408591c5a7fcdfcee13d3487f8175f5e690756f4053", func := "loop.example/importhouse/laws.FnPackagesOf", spec := "fnPackagesOf", inPlace := ["internal/bytealg.CountString", "internal/bytealg.IndexByteString", "internal/bytealg.IndexString", "internal/abi.NoEscape", "internal/bytealg.MakeNoZero"], recurses := true, named := ["unicode/utf8.first", "unicode/utf8.acceptRanges", "internal/bytealg.MaxLen"], apart := false, laid := [("unicode/utf8.acceptRanges", laid_unicode_utf8_acceptRanges), ("unicode/utf8.first", laid_unicode_utf8_first)] }
def FnPackagesOfSaid : Prop := fnPackagesOfRow.holds Tryz.pinned (OpenSpec.ofChange fnPackagesOfSpec)

/-- ITS FALSE NEIGHBOUR: 'it returns false'. Refute it at one input. -/
def fnPackagesOfWrong : ChangeSpec := { name := "fnPackagesOf", fn := fun _ => fun
  | [d] => { results := [.lit (.bool false)], args := [d] }
  | _ => none }
def FnPackagesOfWrongFalsely : Prop := fnPackagesOfRow.holds Tryz.pinned (OpenSpec.ofChange fnPackagesOfWrong)

/-- 'laws.FnExactPackagesOf': WHATEVER THE INPUT: true; the input reads as it did. -/
def fnExactPackagesOfSpec : ChangeSpec := { name := "fnExactPackagesOf", fn := fun _ => fun
  | [d] => { results := [.lit (.bool true)], args := [d] }
  | _ => none }
def fnExactPackagesOfRow : OpenClaim := { program := "ytlpbgingggnjpaagreatdoor", sum := "dd82326bb7e331175dda2408591c5a7fcdfcee13d3487f8175f5e690756f4053", func := "loop.example/importhouse/laws.FnExactPackagesOf", spec := "fnExactPackagesOf", inPlace := ["internal/bytealg.CountString", "internal/bytealg.IndexByteString", "internal/bytealg.IndexString", "internal/abi.NoEscape", "internal/bytealg.MakeNoZero"], recurses := true, named := ["unicode/utf8.first", "unicode/utf8.acceptRanges", "internal/bytealg.MaxLen"], apart := false, laid := [("unicode/utf8.acceptRanges", laid_unicode_utf8_acceptRanges), ("unicode/utf8.first", laid_unicode_utf8_first)] }
def FnExactPackagesOfSaid : Prop := fnExactPackagesOfRow.holds Tryz.pinned (OpenSpec.ofChange fnExactPackagesOfSpec)

/-- ITS FALSE NEIGHBOUR: 'it returns false'. Refute it at one input. -/
def fnExactPackagesOfWrong : ChangeSpec := { name := "fnExactPackagesOf", fn := fun _ => fun
  | [d] => { results := [.lit (.bool false)], args := [d] }
  | _ => none }
def FnExactPackagesOfWrongFalsely : Prop := fnExactPackagesOfRow.holds Tryz.pinned (OpenSpec.ofChange fnExactPackagesOfWrong)

/-- 'laws.FnExactNeedsOf': WHATEVER THE INPUT: true; the input reads as it did. -/
def fnExactNeedsOfSpec : ChangeSpec := { name := "fnExactNeedsOf", fn := fun _ => fun
  | [d1, d2, d3] => { results := [.lit (.bool true)], args := [d1, d2, d3] }
  | _ => none }
def fnExactNeedsOfRow : OpenClaim := { program := "ytlpbgingggnjpaagreatdoor", sum := "dd82326bb7e331175dda2408591c5a7fcdfcee13d3487f8175f5e690756f4053", func := "loop.example/importhouse/laws.FnExactNeedsOf", spec := "fnExactNeedsOf", inPlace := ["internal/bytealg.CountString", "internal/bytealg.IndexByteString", "internal/bytealg.IndexString"], unfollowed := true, recurses := true, named := ["unicode/utf8.first", "unicode/utf8.acceptRanges", "internal/bytealg.MaxLen"], apart := false, laid := [("unicode/utf8.acceptRanges", laid_unicode_utf8_acceptRanges), ("unicode/utf8.first", laid_unicode_utf8_first)] }
def FnExactNeedsOfSaid : Prop := fnExactNeedsOfRow.holds Tryz.pinned (OpenSpec.ofChange fnExactNeedsOfSpec)

/-- ITS FALSE NEIGHBOUR: 'it returns false'. Refute it at one input. -/
def fnExactNeedsOfWrong : ChangeSpec := { name := "fnExactNeedsOf", fn := fun _ => fun
  | [d1, d2, d3] => { results := [.lit (.bool false)], args := [d1, d2, d3] }
  | _ => none }
def FnExactNeedsOfWrongFalsely : Prop := fnExactNeedsOfRow.holds Tryz.pinned (OpenSpec.ofChange fnExactNeedsOfWrong)

/-- 'laws.FnEdgesOf': WHATEVER THE INPUT: true; the input reads as it did. -/
def fnEdgesOfSpec : ChangeSpec := { name := "fnEdgesOf", fn := fun _ => fun
  | [d] => { results := [.lit (.bool true)], args := [d] }
  | _ => none }
def fnEdgesOfRow : OpenClaim := { program := "ytlpbgingggnjpaagreatdoor", sum := "dd82326bb7e331175dda2408591c5a7fcdfcee13d3487f8175f5e690756f4053", func := "loop.example/importhouse/laws.FnEdgesOf", spec := "fnEdgesOf", inPlace := ["internal/bytealg.CountString", "internal/bytealg.IndexByteString", "internal/bytealg.IndexString", "internal/abi.NoEscape", "internal/bytealg.MakeNoZero"], unfollowed := true, recurses := true, named := ["unicode/utf8.first", "unicode/utf8.acceptRanges", "internal/bytealg.MaxLen"], apart := false, laid := [("unicode/utf8.acceptRanges", laid_unicode_utf8_acceptRanges), ("unicode/utf8.first", laid_unicode_utf8_first)] }
def FnEdgesOfSaid : Prop := fnEdgesOfRow.holds Tryz.pinned (OpenSpec.ofChange fnEdgesOfSpec)

/-- ITS FALSE NEIGHBOUR: 'it returns false'. Refute it at one input. -/
def fnEdgesOfWrong : ChangeSpec := { name := "fnEdgesOf", fn := fun _ => fun
  | [d] => { results := [.lit (.bool false)], args := [d] }
  | _ => none }
def FnEdgesOfWrongFalsely : Prop := fnEdgesOfRow.holds Tryz.pinned (OpenSpec.ofChange fnEdgesOfWrong)

/-- 'laws.FnExactEdgesOf': WHATEVER THE INPUT: true; the input reads as it did. -/
def fnExactEdgesOfSpec : ChangeSpec := { name := "fnExactEdgesOf", fn := fun _ => fun
  | [d1, d2, d3] => { results := [.lit (.bool true)], args := [d1, d2, d3] }
  | _ => none }
def fnExactEdgesOfRow : OpenClaim := { program := "ytlpbgingggnjpaagreatdoor", sum := "dd82326bb7e331175dda2408591c5a7fcdfcee13d3487f8175f5e690756f4053", func := "loop.example/importhouse/laws.FnExactEdgesOf", spec := "fnExactEdgesOf", inPlace := ["internal/bytealg.CountString", "internal/bytealg.IndexByteString", "internal/bytealg.IndexString", "internal/abi.NoEscape", "internal/bytealg.MakeNoZero"], unfollowed := true, recurses := true, named := ["unicode/utf8.first", "unicode/utf8.acceptRanges", "internal/bytealg.MaxLen"], apart := false, laid := [("unicode/utf8.acceptRanges", laid_unicode_utf8_acceptRanges), ("unicode/utf8.first", laid_unicode_utf8_first)] }
def FnExactEdgesOfSaid : Prop := fnExactEdgesOfRow.holds Tryz.pinned (OpenSpec.ofChange fnExactEdgesOfSpec)

/-- ITS FALSE NEIGHBOUR: 'it returns false'. Refute it at one input. -/
def fnExactEdgesOfWrong : ChangeSpec := { name := "fnExactEdgesOf", fn := fun _ => fun
  | [d1, d2, d3] => { results := [.lit (.bool false)], args := [d1, d2, d3] }
  | _ => none }
def FnExactEdgesOfWrongFalsely : Prop := fnExactEdgesOfRow.holds Tryz.pinned (OpenSpec.ofChange fnExactEdgesOfWrong)

/- THE SECOND FORM. 'bulk': how many values and letters a reading holds, each counted each time it is reached (what is shared counts as often as it is met; a slice's spare places count too). A statement '..UptoSaid' is the law's where the arguments, and the package variables that the reading takes, are together of bulk at most 1048576: NARROWER than '..Said'. Prove '..Said' where nothing that the law and all that it calls make is longer than what came in: it says more and counts as full. Else prove '..UptoSaid'. A law counts once. -/
mutual
def uptoBulk {H : Type} : DataW H → Nat
  | .lit (.string bytes) => bytes.length + 1
  | .lit _ => 1
  | .nil => 1
  | .ptr d => uptoBulk d + 1
  | .slice elems spare => uptoBulkAll elems + uptoBulkAll spare + 1
  | .agg parts => uptoBulkAll parts + 1
  | .iface _ d => uptoBulk d + 1
  | .map entries => uptoBulkEntries entries + 1
  | .held _ => 1
def uptoBulkAll {H : Type} : List (DataW H) → Nat
  | [] => 0
  | d :: r => uptoBulk d + uptoBulkAll r
def uptoBulkEntries {H : Type} : List (Lit × DataW H) → Nat
  | [] => 0
  | x :: r => uptoBulkEntry x + uptoBulkEntries r
def uptoBulkEntry {H : Type} : Lit × DataW H → Nat
  | (.string bytes, d) => bytes.length + uptoBulk d + 1
  | (_, d) => uptoBulk d + 1
 end
def uptoSmall : (H : Type) → List (DataW H) → Bool := fun _ ds => decide (uptoBulkAll ds ≤ 1048576)
def OpenSpec.upto (s : _root_.Go.ChangeSpec) : _root_.Go.OpenSpec := { _root_.Go.OpenSpec.ofChange s with cond := some uptoSmall }

/-- 'laws.FnPackagesOf', WHERE WHAT IT READS IS OF BULK AT MOST 1048576: true; the input reads as it did. -/
def fnPackagesOfUptoRow : OpenClaim := { program := "ytlpbgingggnjpaagreatdoor", sum := "dd82326bb7e331175dda2408591c5a7fcdfcee13d3487f8175f5e690756f4053", func := "loop.example/importhouse/laws.FnPackagesOf", spec := "fnPackagesOf", inPlace := ["internal/bytealg.CountString", "internal/bytealg.IndexByteString", "internal/bytealg.IndexString", "internal/abi.NoEscape", "internal/bytealg.MakeNoZero"], recurses := true, named := ["unicode/utf8.first", "unicode/utf8.acceptRanges", "internal/bytealg.MaxLen"], apart := false, laid := [("unicode/utf8.acceptRanges", laid_unicode_utf8_acceptRanges), ("unicode/utf8.first", laid_unicode_utf8_first)], narrowed := true }
def FnPackagesOfUptoSaid : Prop := fnPackagesOfUptoRow.holds Tryz.pinned (OpenSpec.upto fnPackagesOfSpec)

/-- 'laws.FnExactPackagesOf', WHERE WHAT IT READS IS OF BULK AT MOST 1048576: true; the input reads as it did. -/
def fnExactPackagesOfUptoRow : OpenClaim := { program := "ytlpbgingggnjpaagreatdoor", sum := "dd82326bb7e331175dda2408591c5a7fcdfcee13d3487f8175f5e690756f4053", func := "loop.example/importhouse/laws.FnExactPackagesOf", spec := "fnExactPackagesOf", inPlace := ["internal/bytealg.CountString", "internal/bytealg.IndexByteString", "internal/bytealg.IndexString", "internal/abi.NoEscape", "internal/bytealg.MakeNoZero"], recurses := true, named := ["unicode/utf8.first", "unicode/utf8.acceptRanges", "internal/bytealg.MaxLen"], apart := false, laid := [("unicode/utf8.acceptRanges", laid_unicode_utf8_acceptRanges), ("unicode/utf8.first", laid_unicode_utf8_first)], narrowed := true }
def FnExactPackagesOfUptoSaid : Prop := fnExactPackagesOfUptoRow.holds Tryz.pinned (OpenSpec.upto fnExactPackagesOfSpec)

/-- 'laws.FnExactNeedsOf', WHERE WHAT IT READS IS OF BULK AT MOST 1048576: true; the input reads as it did. -/
def fnExactNeedsOfUptoRow : OpenClaim := { program := "ytlpbgingggnjpaagreatdoor", sum := "dd82326bb7e331175dda2408591c5a7fcdfcee13d3487f8175f5e690756f4053", func := "loop.example/importhouse/laws.FnExactNeedsOf", spec := "fnExactNeedsOf", inPlace := ["internal/bytealg.CountString", "internal/bytealg.IndexByteString", "internal/bytealg.IndexString"], unfollowed := true, recurses := true, named := ["unicode/utf8.first", "unicode/utf8.acceptRanges", "internal/bytealg.MaxLen"], apart := false, laid := [("unicode/utf8.acceptRanges", laid_unicode_utf8_acceptRanges), ("unicode/utf8.first", laid_unicode_utf8_first)], narrowed := true }
def FnExactNeedsOfUptoSaid : Prop := fnExactNeedsOfUptoRow.holds Tryz.pinned (OpenSpec.upto fnExactNeedsOfSpec)

/-- 'laws.FnEdgesOf', WHERE WHAT IT READS IS OF BULK AT MOST 1048576: true; the input reads as it did. -/
def fnEdgesOfUptoRow : OpenClaim := { program := "ytlpbgingggnjpaagreatdoor", sum := "dd82326bb7e331175dda2408591c5a7fcdfcee13d3487f8175f5e690756f4053", func := "loop.example/importhouse/laws.FnEdgesOf", spec := "fnEdgesOf", inPlace := ["internal/bytealg.CountString", "internal/bytealg.IndexByteString", "internal/bytealg.IndexString", "internal/abi.NoEscape", "internal/bytealg.MakeNoZero"], unfollowed := true, recurses := true, named := ["unicode/utf8.first", "unicode/utf8.acceptRanges", "internal/bytealg.MaxLen"], apart := false, laid := [("unicode/utf8.acceptRanges", laid_unicode_utf8_acceptRanges), ("unicode/utf8.first", laid_unicode_utf8_first)], narrowed := true }
def FnEdgesOfUptoSaid : Prop := fnEdgesOfUptoRow.holds Tryz.pinned (OpenSpec.upto fnEdgesOfSpec)

/-- 'laws.FnExactEdgesOf', WHERE WHAT IT READS IS OF BULK AT MOST 1048576: true; the input reads as it did. -/
def fnExactEdgesOfUptoRow : OpenClaim := { program := "ytlpbgingggnjpaagreatdoor", sum := "dd82326bb7e331175dda2408591c5a7fcdfcee13d3487f8175f5e690756f4053", func := "loop.example/importhouse/laws.FnExactEdgesOf", spec := "fnExactEdgesOf", inPlace := ["internal/bytealg.CountString", "internal/bytealg.IndexByteString", "internal/bytealg.IndexString", "internal/abi.NoEscape", "internal/bytealg.MakeNoZero"], unfollowed := true, recurses := true, named := ["unicode/utf8.first", "unicode/utf8.acceptRanges", "internal/bytealg.MaxLen"], apart := false, laid := [("unicode/utf8.acceptRanges", laid_unicode_utf8_acceptRanges), ("unicode/utf8.first", laid_unicode_utf8_first)], narrowed := true }
def FnExactEdgesOfUptoSaid : Prop := fnExactEdgesOfUptoRow.holds Tryz.pinned (OpenSpec.upto fnExactEdgesOfSpec)

end Rows
end Go.Proofs.YtlpbgingggnjpaaGreatDoor
