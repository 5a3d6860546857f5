/-
  DERIVED. GIVEN WITH THE SEED: THE CARDS: each row of YtebnjkjllinabaaDoorRows.lean that lists a variable, with what it lists TIED to the program's text (the seventh form; the later family's looks); each row that meets fmt, with fmt's text TOLD by the authors' own Lean function (tested against real Go, not proved from fmt's source: count such statements apart). THE CARD IS WHAT COUNTS. Prove the row's statement (the work); the ties are given (YtebnjkjllinabaaDoorTie.lean); close each card by the builder's one call (the guide's Derived/Test/ToyasCard.lean, 'card_holds'). Laid BY PROGRAM, IN A SANDBOX (cutbox-door.mjs). By AI agents, Wed Nov 11 2026. No macro, syntax, notation, axiom, sorry.
-/
import Derived.Test.YtebnjkjllinabaaDoorRows
import GoSem.ClaimSeven
namespace Go.Proofs.YtebnjkjllinabaaDoor
namespace Rows

/-- THE TIED CARD OF 'laws.FnCompileTree'. -/
def fnCompileTreeCard : Claim7 := { stood := { row := fnCompileTreeRow, standIns := [], harness := (true, "2eec4705284d3d1dfd347e5e4f6519e1f6c0bfb1617a529b8b16df8c7a6a0e41"), looks := false }, kinds := [], alts := [], laidByText := true, laidKinds := [.data, .pinned], laidTests := true, laidLooks := .later }
def FnCompileTreeCardSaid : Prop := Claim7.holds Tryd.pinned (.plain (OpenSpec.ofChange fnCompileTreeSpec)) fnCompileTreeCard

/-- THE TIED CARD OF 'laws.FnPruneStore'. -/
def fnPruneStoreCard : Claim7 := { stood := { row := fnPruneStoreRow, standIns := [], harness := (true, "2eec4705284d3d1dfd347e5e4f6519e1f6c0bfb1617a529b8b16df8c7a6a0e41"), looks := false }, kinds := [], alts := [], laidByText := true, laidKinds := [.data, .pinned], laidTests := true, laidLooks := .later }
def FnPruneStoreCardSaid : Prop := Claim7.holds Tryd.pinned (.plain (OpenSpec.ofChange fnPruneStoreSpec)) fnPruneStoreCard

/-- THE TIED CARD OF 'laws.FnLoadBody'. -/
def fnLoadBodyCard : Claim7 := { stood := { row := fnLoadBodyRow, standIns := [], harness := (true, "2eec4705284d3d1dfd347e5e4f6519e1f6c0bfb1617a529b8b16df8c7a6a0e41"), looks := false }, kinds := [], alts := [], laidByText := true, laidKinds := [.data, .pinned], laidTests := true, laidLooks := .later }
def FnLoadBodyCardSaid : Prop := Claim7.holds Tryd.pinned (.plain (OpenSpec.ofChange fnLoadBodySpec)) fnLoadBodyCard

/-- THE TIED CARD OF 'laws.FnLoadBodyHash'. -/
def fnLoadBodyHashCard : Claim7 := { stood := { row := fnLoadBodyHashRow, standIns := [], harness := (true, "2eec4705284d3d1dfd347e5e4f6519e1f6c0bfb1617a529b8b16df8c7a6a0e41"), looks := false }, kinds := [], alts := [], laidByText := true, laidKinds := [.data, .pinned], laidTests := true, laidLooks := .later }
def FnLoadBodyHashCardSaid : Prop := Claim7.holds Tryd.pinned (.plain (OpenSpec.ofChange fnLoadBodyHashSpec)) fnLoadBodyHashCard

/-- THE TIED CARD OF 'laws.FnLoadBodyTwice'. -/
def fnLoadBodyTwiceCard : Claim7 := { stood := { row := fnLoadBodyTwiceRow, standIns := [], harness := (true, "2eec4705284d3d1dfd347e5e4f6519e1f6c0bfb1617a529b8b16df8c7a6a0e41"), looks := false }, kinds := [], alts := [], laidByText := true, laidKinds := [.data, .pinned], laidTests := true, laidLooks := .later }
def FnLoadBodyTwiceCardSaid : Prop := Claim7.holds Tryd.pinned (.plain (OpenSpec.ofChange fnLoadBodyTwiceSpec)) fnLoadBodyTwiceCard

/-- THE TIED CARD OF 'laws.FnWrongFiles'. -/
def fnWrongFilesCard : Claim7 := { stood := { row := fnWrongFilesRow, standIns := [], harness := (true, "2eec4705284d3d1dfd347e5e4f6519e1f6c0bfb1617a529b8b16df8c7a6a0e41"), looks := false }, kinds := [], alts := [], laidByText := true, laidKinds := [.data, .pinned], laidTests := true, laidLooks := .later }
def FnWrongFilesCardSaid : Prop := Claim7.holds Tryd.pinned (.plain (OpenSpec.ofChange fnWrongFilesSpec)) fnWrongFilesCard

/-- THE SECOND FORM's CARD OF 'laws.FnCompileTree'. -/
def fnCompileTreeUptoCard : Claim7 := { stood := { row := fnCompileTreeUptoRow, standIns := [], harness := (true, "2eec4705284d3d1dfd347e5e4f6519e1f6c0bfb1617a529b8b16df8c7a6a0e41"), looks := false }, kinds := [], alts := [], laidByText := true, laidKinds := [.data, .pinned], laidTests := true, laidLooks := .later }
def FnCompileTreeUptoCardSaid : Prop := Claim7.holds Tryd.pinned (.plain (OpenSpec.upto fnCompileTreeSpec)) fnCompileTreeUptoCard

/-- THE SECOND FORM's CARD OF 'laws.FnPruneStore'. -/
def fnPruneStoreUptoCard : Claim7 := { stood := { row := fnPruneStoreUptoRow, standIns := [], harness := (true, "2eec4705284d3d1dfd347e5e4f6519e1f6c0bfb1617a529b8b16df8c7a6a0e41"), looks := false }, kinds := [], alts := [], laidByText := true, laidKinds := [.data, .pinned], laidTests := true, laidLooks := .later }
def FnPruneStoreUptoCardSaid : Prop := Claim7.holds Tryd.pinned (.plain (OpenSpec.upto fnPruneStoreSpec)) fnPruneStoreUptoCard

/-- THE SECOND FORM's CARD OF 'laws.FnLoadBody'. -/
def fnLoadBodyUptoCard : Claim7 := { stood := { row := fnLoadBodyUptoRow, standIns := [], harness := (true, "2eec4705284d3d1dfd347e5e4f6519e1f6c0bfb1617a529b8b16df8c7a6a0e41"), looks := false }, kinds := [], alts := [], laidByText := true, laidKinds := [.data, .pinned], laidTests := true, laidLooks := .later }
def FnLoadBodyUptoCardSaid : Prop := Claim7.holds Tryd.pinned (.plain (OpenSpec.upto fnLoadBodySpec)) fnLoadBodyUptoCard

/-- THE SECOND FORM's CARD OF 'laws.FnLoadBodyHash'. -/
def fnLoadBodyHashUptoCard : Claim7 := { stood := { row := fnLoadBodyHashUptoRow, standIns := [], harness := (true, "2eec4705284d3d1dfd347e5e4f6519e1f6c0bfb1617a529b8b16df8c7a6a0e41"), looks := false }, kinds := [], alts := [], laidByText := true, laidKinds := [.data, .pinned], laidTests := true, laidLooks := .later }
def FnLoadBodyHashUptoCardSaid : Prop := Claim7.holds Tryd.pinned (.plain (OpenSpec.upto fnLoadBodyHashSpec)) fnLoadBodyHashUptoCard

/-- THE SECOND FORM's CARD OF 'laws.FnLoadBodyTwice'. -/
def fnLoadBodyTwiceUptoCard : Claim7 := { stood := { row := fnLoadBodyTwiceUptoRow, standIns := [], harness := (true, "2eec4705284d3d1dfd347e5e4f6519e1f6c0bfb1617a529b8b16df8c7a6a0e41"), looks := false }, kinds := [], alts := [], laidByText := true, laidKinds := [.data, .pinned], laidTests := true, laidLooks := .later }
def FnLoadBodyTwiceUptoCardSaid : Prop := Claim7.holds Tryd.pinned (.plain (OpenSpec.upto fnLoadBodyTwiceSpec)) fnLoadBodyTwiceUptoCard

/-- THE SECOND FORM's CARD OF 'laws.FnWrongFiles'. -/
def fnWrongFilesUptoCard : Claim7 := { stood := { row := fnWrongFilesUptoRow, standIns := [], harness := (true, "2eec4705284d3d1dfd347e5e4f6519e1f6c0bfb1617a529b8b16df8c7a6a0e41"), looks := false }, kinds := [], alts := [], laidByText := true, laidKinds := [.data, .pinned], laidTests := true, laidLooks := .later }
def FnWrongFilesUptoCardSaid : Prop := Claim7.holds Tryd.pinned (.plain (OpenSpec.upto fnWrongFilesSpec)) fnWrongFilesUptoCard
end Rows
end Go.Proofs.YtebnjkjllinabaaDoor
