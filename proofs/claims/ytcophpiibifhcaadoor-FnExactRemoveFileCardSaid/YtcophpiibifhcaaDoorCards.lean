/-
  DERIVED. GIVEN WITH THE SEED: THE CARDS: each row of YtcophpiibifhcaaDoorRows.lean that lists a variable, with what it lists TIED to the program's text (the seventh form; the later family's looks); each row that meets fmt, with fmt's text TOLD by the authors' own Lean function (tested against real Go, not proved from fmt's source: count such statements apart). THE CARD IS WHAT COUNTS. Prove the row's statement (the work); the ties are given (YtcophpiibifhcaaDoorTie.lean); close each card by the builder's one call (the guide's Derived/Test/ToyasCard.lean, 'card_holds'). Laid BY PROGRAM, IN A SANDBOX (cutbox-door.mjs). By AI agents, Wed Nov 11 2026. No macro, syntax, notation, axiom, sorry.
-/
import Derived.Test.YtcophpiibifhcaaDoorRows
import GoSem.ClaimSeven
namespace Go.Proofs.YtcophpiibifhcaaDoor
namespace Rows

/-- THE TIED CARD OF 'laws.FnExactCanFind'. -/
def fnExactCanFindCard : Claim7 := { stood := { row := fnExactCanFindRow, standIns := [], harness := (true, "2545d701b643aed7399f097004ad0064cf5a5963a2f1d1cb0ec661da3cacd2a6"), looks := false }, kinds := [], alts := [], laidByText := true, laidKinds := [.data, .pinned], laidTests := true, laidLooks := .later }
def FnExactCanFindCardSaid : Prop := Claim7.holds Tryd.pinned (.plain (OpenSpec.ofChange fnExactCanFindSpec)) fnExactCanFindCard

/-- THE TIED CARD OF 'laws.FnExactIsPackage'. -/
def fnExactIsPackageCard : Claim7 := { stood := { row := fnExactIsPackageRow, standIns := [], harness := (true, "2545d701b643aed7399f097004ad0064cf5a5963a2f1d1cb0ec661da3cacd2a6"), looks := false }, kinds := [], alts := [], laidByText := true, laidKinds := [.data, .pinned], laidTests := true, laidLooks := .later }
def FnExactIsPackageCardSaid : Prop := Claim7.holds Tryd.pinned (.plain (OpenSpec.ofChange fnExactIsPackageSpec)) fnExactIsPackageCard

/-- THE TIED CARD OF 'laws.FnExactWhoHides'. -/
def fnExactWhoHidesCard : Claim7 := { stood := { row := fnExactWhoHidesRow, standIns := [], harness := (true, "2545d701b643aed7399f097004ad0064cf5a5963a2f1d1cb0ec661da3cacd2a6"), looks := false }, kinds := [], alts := [], laidByText := true, laidKinds := [.data, .pinned], laidTests := true, laidLooks := .later }
def FnExactWhoHidesCardSaid : Prop := Claim7.holds Tryd.pinned (.plain (OpenSpec.ofChange fnExactWhoHidesSpec)) fnExactWhoHidesCard

/-- THE TIED CARD OF 'laws.FnExactRemoveFile'. -/
def fnExactRemoveFileCard : Claim7 := { stood := { row := fnExactRemoveFileRow, standIns := [], harness := (true, "2545d701b643aed7399f097004ad0064cf5a5963a2f1d1cb0ec661da3cacd2a6"), looks := false }, kinds := [], alts := [], laidByText := true, laidKinds := [.data, .pinned], laidTests := true, laidLooks := .later }
def FnExactRemoveFileCardSaid : Prop := Claim7.holds Tryd.pinned (.plain (OpenSpec.ofChange fnExactRemoveFileSpec)) fnExactRemoveFileCard

/-- THE TIED CARD OF 'laws.FnExactFindIn'. -/
def fnExactFindInCard : Claim7 := { stood := { row := fnExactFindInRow, standIns := [], harness := (true, "2545d701b643aed7399f097004ad0064cf5a5963a2f1d1cb0ec661da3cacd2a6"), looks := false }, kinds := [], alts := [], laidByText := true, laidKinds := [.data, .pinned], laidTests := true, laidLooks := .later }
def FnExactFindInCardSaid : Prop := Claim7.holds Tryd.pinned (.plain (OpenSpec.ofChange fnExactFindInSpec)) fnExactFindInCard

/-- THE TIED CARD OF 'laws.FnExactFindSpec'. -/
def fnExactFindSpecCard : Claim7 := { stood := { row := fnExactFindSpecRow, standIns := [], harness := (true, "2545d701b643aed7399f097004ad0064cf5a5963a2f1d1cb0ec661da3cacd2a6"), looks := false }, kinds := [], alts := [], laidByText := true, laidKinds := [.data, .pinned], laidTests := true, laidLooks := .later }
def FnExactFindSpecCardSaid : Prop := Claim7.holds Tryd.pinned (.plain (OpenSpec.ofChange fnExactFindSpecSpec)) fnExactFindSpecCard

/-- THE TIED CARD OF 'laws.FnExactHiddenFiles'. -/
def fnExactHiddenFilesCard : Claim7 := { stood := { row := fnExactHiddenFilesRow, standIns := [], harness := (true, "2545d701b643aed7399f097004ad0064cf5a5963a2f1d1cb0ec661da3cacd2a6"), looks := false }, kinds := [], alts := [], laidByText := true, laidKinds := [.data, .pinned], laidTests := true, laidLooks := .later }
def FnExactHiddenFilesCardSaid : Prop := Claim7.holds Tryd.pinned (.plain (OpenSpec.ofChange fnExactHiddenFilesSpec)) fnExactHiddenFilesCard

/-- THE TIED CARD OF 'laws.FnExactValidDisk'. -/
def fnExactValidDiskCard : Claim7 := { stood := { row := fnExactValidDiskRow, standIns := [], harness := (true, "2545d701b643aed7399f097004ad0064cf5a5963a2f1d1cb0ec661da3cacd2a6"), looks := false }, kinds := [], alts := [], laidByText := true, laidKinds := [.data, .pinned], laidTests := true, laidLooks := .later }
def FnExactValidDiskCardSaid : Prop := Claim7.holds Tryd.pinned (.plain (OpenSpec.ofChange fnExactValidDiskSpec)) fnExactValidDiskCard

/-- THE TIED CARD OF 'laws.FnExactStampOf'. -/
def fnExactStampOfCard : Claim7 := { stood := { row := fnExactStampOfRow, standIns := [], harness := (true, "2545d701b643aed7399f097004ad0064cf5a5963a2f1d1cb0ec661da3cacd2a6"), looks := false }, kinds := [], alts := [], laidByText := true, laidKinds := [.data, .pinned], laidTests := true, laidLooks := .later }
def FnExactStampOfCardSaid : Prop := Claim7.holds Tryd.pinned (.plain (OpenSpec.ofChange fnExactStampOfSpec)) fnExactStampOfCard

/-- THE SECOND FORM's CARD OF 'laws.FnExactCanFind'. -/
def fnExactCanFindUptoCard : Claim7 := { stood := { row := fnExactCanFindUptoRow, standIns := [], harness := (true, "2545d701b643aed7399f097004ad0064cf5a5963a2f1d1cb0ec661da3cacd2a6"), looks := false }, kinds := [], alts := [], laidByText := true, laidKinds := [.data, .pinned], laidTests := true, laidLooks := .later }
def FnExactCanFindUptoCardSaid : Prop := Claim7.holds Tryd.pinned (.plain (OpenSpec.upto fnExactCanFindSpec)) fnExactCanFindUptoCard

/-- THE SECOND FORM's CARD OF 'laws.FnExactIsPackage'. -/
def fnExactIsPackageUptoCard : Claim7 := { stood := { row := fnExactIsPackageUptoRow, standIns := [], harness := (true, "2545d701b643aed7399f097004ad0064cf5a5963a2f1d1cb0ec661da3cacd2a6"), looks := false }, kinds := [], alts := [], laidByText := true, laidKinds := [.data, .pinned], laidTests := true, laidLooks := .later }
def FnExactIsPackageUptoCardSaid : Prop := Claim7.holds Tryd.pinned (.plain (OpenSpec.upto fnExactIsPackageSpec)) fnExactIsPackageUptoCard

/-- THE SECOND FORM's CARD OF 'laws.FnExactWhoHides'. -/
def fnExactWhoHidesUptoCard : Claim7 := { stood := { row := fnExactWhoHidesUptoRow, standIns := [], harness := (true, "2545d701b643aed7399f097004ad0064cf5a5963a2f1d1cb0ec661da3cacd2a6"), looks := false }, kinds := [], alts := [], laidByText := true, laidKinds := [.data, .pinned], laidTests := true, laidLooks := .later }
def FnExactWhoHidesUptoCardSaid : Prop := Claim7.holds Tryd.pinned (.plain (OpenSpec.upto fnExactWhoHidesSpec)) fnExactWhoHidesUptoCard

/-- THE SECOND FORM's CARD OF 'laws.FnExactRemoveFile'. -/
def fnExactRemoveFileUptoCard : Claim7 := { stood := { row := fnExactRemoveFileUptoRow, standIns := [], harness := (true, "2545d701b643aed7399f097004ad0064cf5a5963a2f1d1cb0ec661da3cacd2a6"), looks := false }, kinds := [], alts := [], laidByText := true, laidKinds := [.data, .pinned], laidTests := true, laidLooks := .later }
def FnExactRemoveFileUptoCardSaid : Prop := Claim7.holds Tryd.pinned (.plain (OpenSpec.upto fnExactRemoveFileSpec)) fnExactRemoveFileUptoCard

/-- THE SECOND FORM's CARD OF 'laws.FnExactFindIn'. -/
def fnExactFindInUptoCard : Claim7 := { stood := { row := fnExactFindInUptoRow, standIns := [], harness := (true, "2545d701b643aed7399f097004ad0064cf5a5963a2f1d1cb0ec661da3cacd2a6"), looks := false }, kinds := [], alts := [], laidByText := true, laidKinds := [.data, .pinned], laidTests := true, laidLooks := .later }
def FnExactFindInUptoCardSaid : Prop := Claim7.holds Tryd.pinned (.plain (OpenSpec.upto fnExactFindInSpec)) fnExactFindInUptoCard

/-- THE SECOND FORM's CARD OF 'laws.FnExactFindSpec'. -/
def fnExactFindSpecUptoCard : Claim7 := { stood := { row := fnExactFindSpecUptoRow, standIns := [], harness := (true, "2545d701b643aed7399f097004ad0064cf5a5963a2f1d1cb0ec661da3cacd2a6"), looks := false }, kinds := [], alts := [], laidByText := true, laidKinds := [.data, .pinned], laidTests := true, laidLooks := .later }
def FnExactFindSpecUptoCardSaid : Prop := Claim7.holds Tryd.pinned (.plain (OpenSpec.upto fnExactFindSpecSpec)) fnExactFindSpecUptoCard

/-- THE SECOND FORM's CARD OF 'laws.FnExactHiddenFiles'. -/
def fnExactHiddenFilesUptoCard : Claim7 := { stood := { row := fnExactHiddenFilesUptoRow, standIns := [], harness := (true, "2545d701b643aed7399f097004ad0064cf5a5963a2f1d1cb0ec661da3cacd2a6"), looks := false }, kinds := [], alts := [], laidByText := true, laidKinds := [.data, .pinned], laidTests := true, laidLooks := .later }
def FnExactHiddenFilesUptoCardSaid : Prop := Claim7.holds Tryd.pinned (.plain (OpenSpec.upto fnExactHiddenFilesSpec)) fnExactHiddenFilesUptoCard

/-- THE SECOND FORM's CARD OF 'laws.FnExactValidDisk'. -/
def fnExactValidDiskUptoCard : Claim7 := { stood := { row := fnExactValidDiskUptoRow, standIns := [], harness := (true, "2545d701b643aed7399f097004ad0064cf5a5963a2f1d1cb0ec661da3cacd2a6"), looks := false }, kinds := [], alts := [], laidByText := true, laidKinds := [.data, .pinned], laidTests := true, laidLooks := .later }
def FnExactValidDiskUptoCardSaid : Prop := Claim7.holds Tryd.pinned (.plain (OpenSpec.upto fnExactValidDiskSpec)) fnExactValidDiskUptoCard

/-- THE SECOND FORM's CARD OF 'laws.FnExactStampOf'. -/
def fnExactStampOfUptoCard : Claim7 := { stood := { row := fnExactStampOfUptoRow, standIns := [], harness := (true, "2545d701b643aed7399f097004ad0064cf5a5963a2f1d1cb0ec661da3cacd2a6"), looks := false }, kinds := [], alts := [], laidByText := true, laidKinds := [.data, .pinned], laidTests := true, laidLooks := .later }
def FnExactStampOfUptoCardSaid : Prop := Claim7.holds Tryd.pinned (.plain (OpenSpec.upto fnExactStampOfSpec)) fnExactStampOfUptoCard
end Rows
end Go.Proofs.YtcophpiibifhcaaDoor
