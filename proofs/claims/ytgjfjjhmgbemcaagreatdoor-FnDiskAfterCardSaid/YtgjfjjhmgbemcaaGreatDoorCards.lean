/-
  DERIVED. GIVEN WITH THE SEED: THE CARDS: each row of YtgjfjjhmgbemcaaGreatDoorRows.lean that lists a variable, with what it lists TIED to the program's text (the seventh form; the later family's looks); each row that meets fmt, with fmt's text TOLD by the authors' own Lean function (tested against real Go, not proved from fmt's source: count such statements apart). THE CARD IS WHAT COUNTS. Prove the row's statement (the work); the ties are given (YtgjfjjhmgbemcaaGreatDoorTie.lean); close each card by the builder's one call (the guide's Derived/Test/ToyasCard.lean, 'card_holds'). Laid BY PROGRAM, IN A SANDBOX (cutbox-door.mjs). By AI agents, Wed Nov 11 2026. No macro, syntax, notation, axiom, sorry.
-/
import Derived.Test.YtgjfjjhmgbemcaaGreatDoorRows
import GoSem.ClaimSeven
namespace Go.Proofs.YtgjfjjhmgbemcaaGreatDoor
namespace Rows

/-- THE TIED CARD OF 'laws.FnExactDiskAdd'. -/
def fnExactDiskAddCard : Claim7 := { stood := { row := fnExactDiskAddRow, standIns := [], harness := (true, "ee4d3da9b30e9df62023431aa62d1004e8455c1c2de5dd8a516c6a560149ca7e"), looks := false }, kinds := [], alts := [], laidByText := true, laidKinds := [.data, .pinned], laidTests := true, laidLooks := .later }
def FnExactDiskAddCardSaid : Prop := Claim7.holds Tryz.pinned (.plain (OpenSpec.ofChange fnExactDiskAddSpec)) fnExactDiskAddCard

/-- THE TIED CARD OF 'laws.FnExactDiskRemove'. -/
def fnExactDiskRemoveCard : Claim7 := { stood := { row := fnExactDiskRemoveRow, standIns := [], harness := (true, "ee4d3da9b30e9df62023431aa62d1004e8455c1c2de5dd8a516c6a560149ca7e"), looks := false }, kinds := [], alts := [], laidByText := true, laidKinds := [.data, .pinned], laidTests := true, laidLooks := .later }
def FnExactDiskRemoveCardSaid : Prop := Claim7.holds Tryz.pinned (.plain (OpenSpec.ofChange fnExactDiskRemoveSpec)) fnExactDiskRemoveCard

/-- THE TIED CARD OF 'laws.FnExactDiskAfter'. -/
def fnExactDiskAfterCard : Claim7 := { stood := { row := fnExactDiskAfterRow, standIns := [], harness := (true, "ee4d3da9b30e9df62023431aa62d1004e8455c1c2de5dd8a516c6a560149ca7e"), looks := false }, kinds := [], alts := [], laidByText := true, laidKinds := [.data, .pinned], laidTests := true, laidLooks := .later }
def FnExactDiskAfterCardSaid : Prop := Claim7.holds Tryz.pinned (.plain (OpenSpec.ofChange fnExactDiskAfterSpec)) fnExactDiskAfterCard

/-- THE TIED CARD OF 'laws.FnDiskAdd'. -/
def fnDiskAddCard : Claim7 := { stood := { row := fnDiskAddRow, standIns := [], harness := (true, "ee4d3da9b30e9df62023431aa62d1004e8455c1c2de5dd8a516c6a560149ca7e"), looks := false }, kinds := [], alts := [], laidByText := true, laidKinds := [.data, .pinned], laidTests := true, laidLooks := .later }
def FnDiskAddCardSaid : Prop := Claim7.holds Tryz.pinned (.plain (OpenSpec.ofChange fnDiskAddSpec)) fnDiskAddCard

/-- THE TIED CARD OF 'laws.FnDiskAfter'. -/
def fnDiskAfterCard : Claim7 := { stood := { row := fnDiskAfterRow, standIns := [], harness := (true, "ee4d3da9b30e9df62023431aa62d1004e8455c1c2de5dd8a516c6a560149ca7e"), looks := false }, kinds := [], alts := [], laidByText := true, laidKinds := [.data, .pinned], laidTests := true, laidLooks := .later }
def FnDiskAfterCardSaid : Prop := Claim7.holds Tryz.pinned (.plain (OpenSpec.ofChange fnDiskAfterSpec)) fnDiskAfterCard

/-- THE SECOND FORM's CARD OF 'laws.FnExactDiskAdd'. -/
def fnExactDiskAddUptoCard : Claim7 := { stood := { row := fnExactDiskAddUptoRow, standIns := [], harness := (true, "ee4d3da9b30e9df62023431aa62d1004e8455c1c2de5dd8a516c6a560149ca7e"), looks := false }, kinds := [], alts := [], laidByText := true, laidKinds := [.data, .pinned], laidTests := true, laidLooks := .later }
def FnExactDiskAddUptoCardSaid : Prop := Claim7.holds Tryz.pinned (.plain (OpenSpec.upto fnExactDiskAddSpec)) fnExactDiskAddUptoCard

/-- THE SECOND FORM's CARD OF 'laws.FnExactDiskRemove'. -/
def fnExactDiskRemoveUptoCard : Claim7 := { stood := { row := fnExactDiskRemoveUptoRow, standIns := [], harness := (true, "ee4d3da9b30e9df62023431aa62d1004e8455c1c2de5dd8a516c6a560149ca7e"), looks := false }, kinds := [], alts := [], laidByText := true, laidKinds := [.data, .pinned], laidTests := true, laidLooks := .later }
def FnExactDiskRemoveUptoCardSaid : Prop := Claim7.holds Tryz.pinned (.plain (OpenSpec.upto fnExactDiskRemoveSpec)) fnExactDiskRemoveUptoCard

/-- THE SECOND FORM's CARD OF 'laws.FnExactDiskAfter'. -/
def fnExactDiskAfterUptoCard : Claim7 := { stood := { row := fnExactDiskAfterUptoRow, standIns := [], harness := (true, "ee4d3da9b30e9df62023431aa62d1004e8455c1c2de5dd8a516c6a560149ca7e"), looks := false }, kinds := [], alts := [], laidByText := true, laidKinds := [.data, .pinned], laidTests := true, laidLooks := .later }
def FnExactDiskAfterUptoCardSaid : Prop := Claim7.holds Tryz.pinned (.plain (OpenSpec.upto fnExactDiskAfterSpec)) fnExactDiskAfterUptoCard

/-- THE SECOND FORM's CARD OF 'laws.FnDiskAdd'. -/
def fnDiskAddUptoCard : Claim7 := { stood := { row := fnDiskAddUptoRow, standIns := [], harness := (true, "ee4d3da9b30e9df62023431aa62d1004e8455c1c2de5dd8a516c6a560149ca7e"), looks := false }, kinds := [], alts := [], laidByText := true, laidKinds := [.data, .pinned], laidTests := true, laidLooks := .later }
def FnDiskAddUptoCardSaid : Prop := Claim7.holds Tryz.pinned (.plain (OpenSpec.upto fnDiskAddSpec)) fnDiskAddUptoCard

/-- THE SECOND FORM's CARD OF 'laws.FnDiskAfter'. -/
def fnDiskAfterUptoCard : Claim7 := { stood := { row := fnDiskAfterUptoRow, standIns := [], harness := (true, "ee4d3da9b30e9df62023431aa62d1004e8455c1c2de5dd8a516c6a560149ca7e"), looks := false }, kinds := [], alts := [], laidByText := true, laidKinds := [.data, .pinned], laidTests := true, laidLooks := .later }
def FnDiskAfterUptoCardSaid : Prop := Claim7.holds Tryz.pinned (.plain (OpenSpec.upto fnDiskAfterSpec)) fnDiskAfterUptoCard
end Rows
end Go.Proofs.YtgjfjjhmgbemcaaGreatDoor
