/-
  DERIVED. GIVEN WITH THE SEED: THE CARDS: each row of YtjonaihgldmmmaaDoorRows.lean that lists a variable, with what it lists TIED to the program's text (the seventh form; the later family's looks); each row that meets fmt, with fmt's text TOLD by the authors' own Lean function (tested against real Go, not proved from fmt's source: count such statements apart). THE CARD IS WHAT COUNTS. Prove the row's statement (the work); the ties are given (YtjonaihgldmmmaaDoorTie.lean); close each card by the builder's one call (the guide's Derived/Test/ToyasCard.lean, 'card_holds'). Laid BY PROGRAM, IN A SANDBOX (cutbox-door.mjs). By AI agents, Wed Nov 11 2026. No macro, syntax, notation, axiom, sorry.
-/
import Derived.Test.YtjonaihgldmmmaaDoorRows
import GoSem.ClaimSeven
namespace Go.Proofs.YtjonaihgldmmmaaDoor
namespace Rows

/-- THE TIED CARD OF 'laws.FnExactFormatTree'. -/
def fnExactFormatTreeCard : Claim7 := { stood := { row := fnExactFormatTreeRow, standIns := [], harness := (true, "9b971490cb855b574415f59e640beba4615c2f7b19b033f5ee7885adce8d89c1"), looks := false }, kinds := [], alts := [], laidByText := true, laidKinds := [.data, .data, .data, .data, .pinned], laidTests := true, laidLooks := .later }
def FnExactFormatTreeCardSaid : Prop := Claim7.holds Tryd.pinned (.plain (OpenSpec.ofChange fnExactFormatTreeSpec)) fnExactFormatTreeCard

/-- THE SECOND FORM's CARD OF 'laws.FnExactFormatTree'. -/
def fnExactFormatTreeUptoCard : Claim7 := { stood := { row := fnExactFormatTreeUptoRow, standIns := [], harness := (true, "9b971490cb855b574415f59e640beba4615c2f7b19b033f5ee7885adce8d89c1"), looks := false }, kinds := [], alts := [], laidByText := true, laidKinds := [.data, .data, .data, .data, .pinned], laidTests := true, laidLooks := .later }
def FnExactFormatTreeUptoCardSaid : Prop := Claim7.holds Tryd.pinned (.plain (OpenSpec.upto fnExactFormatTreeSpec)) fnExactFormatTreeUptoCard
end Rows
end Go.Proofs.YtjonaihgldmmmaaDoor
