/-
  DERIVED. GIVEN WITH THE SEED: THE CARDS: each row of YtgjfjjhmgbemcaaDoorRows.lean that lists a variable, with what it lists TIED to the program's text (the seventh form; the later family's looks); each row that meets fmt, with fmt's text TOLD by the authors' own Lean function (tested against real Go, not proved from fmt's source: count such statements apart). THE CARD IS WHAT COUNTS. Prove the row's statement (the work); the ties are given (YtgjfjjhmgbemcaaDoorTie.lean); close each card by the builder's one call (the guide's Derived/Test/ToyasCard.lean, 'card_holds'). Laid BY PROGRAM, IN A SANDBOX (cutbox-door.mjs). By AI agents, Wed Nov 11 2026. No macro, syntax, notation, axiom, sorry.
-/
import Derived.Test.YtgjfjjhmgbemcaaDoorRows
import GoSem.ClaimSeven
namespace Go.Proofs.YtgjfjjhmgbemcaaDoor
namespace Rows

/-- THE TIED CARD OF 'laws.FnDiskRemove'. -/
def fnDiskRemoveCard : Claim7 := { stood := { row := fnDiskRemoveRow, standIns := [], harness := (true, "2c02d2e2486cb5169fbdc53b21f901367ad0cbf962c63d2ec000d0aa94e64e34"), looks := false }, kinds := [], alts := [], laidByText := true, laidKinds := [.data, .pinned], laidTests := true, laidLooks := .later }
def FnDiskRemoveCardSaid : Prop := Claim7.holds Tryd.pinned (.plain (OpenSpec.ofChange fnDiskRemoveSpec)) fnDiskRemoveCard

/-- THE TIED CARD OF 'laws.FnForgetAll'. -/
def fnForgetAllCard : Claim7 := { stood := { row := fnForgetAllRow, standIns := [], harness := (true, "2c02d2e2486cb5169fbdc53b21f901367ad0cbf962c63d2ec000d0aa94e64e34"), looks := false }, kinds := [], alts := [], laidByText := true, laidKinds := [.data, .pinned], laidTests := true, laidLooks := .later }
def FnForgetAllCardSaid : Prop := Claim7.holds Tryd.pinned (.plain (OpenSpec.ofChange fnForgetAllSpec)) fnForgetAllCard

/-- THE TIED CARD OF 'laws.FnValidFinder'. -/
def fnValidFinderCard : Claim7 := { stood := { row := fnValidFinderRow, standIns := [], harness := (true, "2c02d2e2486cb5169fbdc53b21f901367ad0cbf962c63d2ec000d0aa94e64e34"), looks := false }, kinds := [], alts := [], laidByText := true, laidKinds := [.data, .pinned], laidTests := true, laidLooks := .later }
def FnValidFinderCardSaid : Prop := Claim7.holds Tryd.pinned (.plain (OpenSpec.ofChange fnValidFinderSpec)) fnValidFinderCard

/-- THE SECOND FORM's CARD OF 'laws.FnDiskRemove'. -/
def fnDiskRemoveUptoCard : Claim7 := { stood := { row := fnDiskRemoveUptoRow, standIns := [], harness := (true, "2c02d2e2486cb5169fbdc53b21f901367ad0cbf962c63d2ec000d0aa94e64e34"), looks := false }, kinds := [], alts := [], laidByText := true, laidKinds := [.data, .pinned], laidTests := true, laidLooks := .later }
def FnDiskRemoveUptoCardSaid : Prop := Claim7.holds Tryd.pinned (.plain (OpenSpec.upto fnDiskRemoveSpec)) fnDiskRemoveUptoCard

/-- THE SECOND FORM's CARD OF 'laws.FnForgetAll'. -/
def fnForgetAllUptoCard : Claim7 := { stood := { row := fnForgetAllUptoRow, standIns := [], harness := (true, "2c02d2e2486cb5169fbdc53b21f901367ad0cbf962c63d2ec000d0aa94e64e34"), looks := false }, kinds := [], alts := [], laidByText := true, laidKinds := [.data, .pinned], laidTests := true, laidLooks := .later }
def FnForgetAllUptoCardSaid : Prop := Claim7.holds Tryd.pinned (.plain (OpenSpec.upto fnForgetAllSpec)) fnForgetAllUptoCard

/-- THE SECOND FORM's CARD OF 'laws.FnValidFinder'. -/
def fnValidFinderUptoCard : Claim7 := { stood := { row := fnValidFinderUptoRow, standIns := [], harness := (true, "2c02d2e2486cb5169fbdc53b21f901367ad0cbf962c63d2ec000d0aa94e64e34"), looks := false }, kinds := [], alts := [], laidByText := true, laidKinds := [.data, .pinned], laidTests := true, laidLooks := .later }
def FnValidFinderUptoCardSaid : Prop := Claim7.holds Tryd.pinned (.plain (OpenSpec.upto fnValidFinderSpec)) fnValidFinderUptoCard
end Rows
end Go.Proofs.YtgjfjjhmgbemcaaDoor
