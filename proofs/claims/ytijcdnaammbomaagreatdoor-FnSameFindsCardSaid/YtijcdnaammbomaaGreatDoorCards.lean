/-
  DERIVED. GIVEN WITH THE SEED: THE CARDS: each row of YtijcdnaammbomaaGreatDoorRows.lean that lists a variable, with what it lists TIED to the program's text (the seventh form; the later family's looks); each row that meets fmt, with fmt's text TOLD by the authors' own Lean function (tested against real Go, not proved from fmt's source: count such statements apart). THE CARD IS WHAT COUNTS. Prove the row's statement (the work); the ties are given (YtijcdnaammbomaaGreatDoorTie.lean); close each card by the builder's one call (the guide's Derived/Test/ToyasCard.lean, 'card_holds'). Laid BY PROGRAM, IN A SANDBOX (cutbox-door.mjs). By AI agents, Wed Nov 11 2026. No macro, syntax, notation, axiom, sorry.
-/
import Derived.Test.YtijcdnaammbomaaGreatDoorRows
import GoSem.ClaimSeven
namespace Go.Proofs.YtijcdnaammbomaaGreatDoor
namespace Rows

/-- THE TIED CARD OF 'laws.FnFoundNames'. -/
def fnFoundNamesCard : Claim7 := { stood := { row := fnFoundNamesRow, standIns := [], harness := (true, "d21cfcff6e2751e28f9fe37126884ab74ba1382d820b0e791a8940646bd0b39d"), looks := false }, kinds := [], alts := [], laidByText := true, laidKinds := [.data, .pinned], laidTests := true, laidLooks := .later }
def FnFoundNamesCardSaid : Prop := Claim7.holds Tryz.pinned (.plain (OpenSpec.ofChange fnFoundNamesSpec)) fnFoundNamesCard

/-- THE TIED CARD OF 'laws.FnSameFinds'. -/
def fnSameFindsCard : Claim7 := { stood := { row := fnSameFindsRow, standIns := [], harness := (true, "d21cfcff6e2751e28f9fe37126884ab74ba1382d820b0e791a8940646bd0b39d"), looks := false }, kinds := [], alts := [], laidByText := true, laidKinds := [.data, .pinned], laidTests := true, laidLooks := .later }
def FnSameFindsCardSaid : Prop := Claim7.holds Tryz.pinned (.plain (OpenSpec.ofChange fnSameFindsSpec)) fnSameFindsCard

/-- THE TIED CARD OF 'laws.FnHiddenFilesGone'. -/
def fnHiddenFilesGoneCard : Claim7 := { stood := { row := fnHiddenFilesGoneRow, standIns := [], harness := (true, "d21cfcff6e2751e28f9fe37126884ab74ba1382d820b0e791a8940646bd0b39d"), looks := false }, kinds := [], alts := [], laidByText := true, laidKinds := [.data, .pinned], laidTests := true, laidLooks := .later }
def FnHiddenFilesGoneCardSaid : Prop := Claim7.holds Tryz.pinned (.plain (OpenSpec.ofChange fnHiddenFilesGoneSpec)) fnHiddenFilesGoneCard

/-- THE TIED CARD OF 'laws.FnEditFile'. -/
def fnEditFileCard : Claim7 := { stood := { row := fnEditFileRow, standIns := [], harness := (true, "d21cfcff6e2751e28f9fe37126884ab74ba1382d820b0e791a8940646bd0b39d"), looks := false }, kinds := [], alts := [], laidByText := true, laidKinds := [.data, .pinned], laidTests := true, laidLooks := .later }
def FnEditFileCardSaid : Prop := Claim7.holds Tryz.pinned (.plain (OpenSpec.ofChange fnEditFileSpec)) fnEditFileCard

/-- THE SECOND FORM's CARD OF 'laws.FnFoundNames'. -/
def fnFoundNamesUptoCard : Claim7 := { stood := { row := fnFoundNamesUptoRow, standIns := [], harness := (true, "d21cfcff6e2751e28f9fe37126884ab74ba1382d820b0e791a8940646bd0b39d"), looks := false }, kinds := [], alts := [], laidByText := true, laidKinds := [.data, .pinned], laidTests := true, laidLooks := .later }
def FnFoundNamesUptoCardSaid : Prop := Claim7.holds Tryz.pinned (.plain (OpenSpec.upto fnFoundNamesSpec)) fnFoundNamesUptoCard

/-- THE SECOND FORM's CARD OF 'laws.FnSameFinds'. -/
def fnSameFindsUptoCard : Claim7 := { stood := { row := fnSameFindsUptoRow, standIns := [], harness := (true, "d21cfcff6e2751e28f9fe37126884ab74ba1382d820b0e791a8940646bd0b39d"), looks := false }, kinds := [], alts := [], laidByText := true, laidKinds := [.data, .pinned], laidTests := true, laidLooks := .later }
def FnSameFindsUptoCardSaid : Prop := Claim7.holds Tryz.pinned (.plain (OpenSpec.upto fnSameFindsSpec)) fnSameFindsUptoCard

/-- THE SECOND FORM's CARD OF 'laws.FnHiddenFilesGone'. -/
def fnHiddenFilesGoneUptoCard : Claim7 := { stood := { row := fnHiddenFilesGoneUptoRow, standIns := [], harness := (true, "d21cfcff6e2751e28f9fe37126884ab74ba1382d820b0e791a8940646bd0b39d"), looks := false }, kinds := [], alts := [], laidByText := true, laidKinds := [.data, .pinned], laidTests := true, laidLooks := .later }
def FnHiddenFilesGoneUptoCardSaid : Prop := Claim7.holds Tryz.pinned (.plain (OpenSpec.upto fnHiddenFilesGoneSpec)) fnHiddenFilesGoneUptoCard

/-- THE SECOND FORM's CARD OF 'laws.FnEditFile'. -/
def fnEditFileUptoCard : Claim7 := { stood := { row := fnEditFileUptoRow, standIns := [], harness := (true, "d21cfcff6e2751e28f9fe37126884ab74ba1382d820b0e791a8940646bd0b39d"), looks := false }, kinds := [], alts := [], laidByText := true, laidKinds := [.data, .pinned], laidTests := true, laidLooks := .later }
def FnEditFileUptoCardSaid : Prop := Claim7.holds Tryz.pinned (.plain (OpenSpec.upto fnEditFileSpec)) fnEditFileUptoCard
end Rows
end Go.Proofs.YtijcdnaammbomaaGreatDoor
