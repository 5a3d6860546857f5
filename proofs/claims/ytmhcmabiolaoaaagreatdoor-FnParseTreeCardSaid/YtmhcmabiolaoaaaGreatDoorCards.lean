/-
  DERIVED. GIVEN WITH THE SEED: THE CARDS: each row of YtmhcmabiolaoaaaGreatDoorRows.lean that lists a variable, with what it lists TIED to the program's text (the seventh form; the later family's looks); each row that meets fmt, with fmt's text TOLD by the authors' own Lean function (tested against real Go, not proved from fmt's source: count such statements apart). THE CARD IS WHAT COUNTS. Prove the row's statement (the work); the ties are given (YtmhcmabiolaoaaaGreatDoorTie.lean); close each card by the builder's one call (the guide's Derived/Test/ToyasCard.lean, 'card_holds'). Laid BY PROGRAM, IN A SANDBOX (cutbox-door.mjs). By AI agents, Wed Nov 11 2026. No macro, syntax, notation, axiom, sorry.
-/
import Derived.Test.YtmhcmabiolaoaaaGreatDoorRows
import GoSem.ClaimSeven
namespace Go.Proofs.YtmhcmabiolaoaaaGreatDoor
namespace Rows

/-- THE TIED CARD OF 'laws.FnExactParseTree'. -/
def fnExactParseTreeCard : Claim7 := { stood := { row := fnExactParseTreeRow, standIns := [], harness := (true, "f867272da29a3317d9bad5937dd187c6afe6378fbba3a9d448a7687f94c03fb1"), looks := true }, kinds := [], alts := [], laidByText := true, laidKinds := [.data, .data, .data, .data, .sentinel, .sentinel, .pinned], laidTests := true, laidLooks := .later }
def FnExactParseTreeCardSaid : Prop := Claim7.holds Tryz.pinned (.plain (OpenSpec.ofChange fnExactParseTreeSpec)) fnExactParseTreeCard

/-- THE TIED CARD OF 'laws.FnFormatTree'. -/
def fnFormatTreeCard : Claim7 := { stood := { row := fnFormatTreeRow, standIns := [], harness := (true, "f867272da29a3317d9bad5937dd187c6afe6378fbba3a9d448a7687f94c03fb1"), looks := true }, kinds := [], alts := [], laidByText := true, laidKinds := [.data, .data, .data, .data, .sentinel, .sentinel, .pinned], laidTests := true, laidLooks := .later }
def FnFormatTreeCardSaid : Prop := Claim7.holds Tryz.pinned (.plain (OpenSpec.ofChange fnFormatTreeSpec)) fnFormatTreeCard

/-- THE TIED CARD OF 'laws.FnParseTree'. -/
def fnParseTreeCard : Claim7 := { stood := { row := fnParseTreeRow, standIns := [], harness := (true, "f867272da29a3317d9bad5937dd187c6afe6378fbba3a9d448a7687f94c03fb1"), looks := true }, kinds := [], alts := [], laidByText := true, laidKinds := [.data, .data, .data, .data, .sentinel, .sentinel, .pinned], laidTests := true, laidLooks := .later }
def FnParseTreeCardSaid : Prop := Claim7.holds Tryz.pinned (.plain (OpenSpec.ofChange fnParseTreeSpec)) fnParseTreeCard

/-- THE SECOND FORM's CARD OF 'laws.FnExactParseTree'. -/
def fnExactParseTreeUptoCard : Claim7 := { stood := { row := fnExactParseTreeUptoRow, standIns := [], harness := (true, "f867272da29a3317d9bad5937dd187c6afe6378fbba3a9d448a7687f94c03fb1"), looks := true }, kinds := [], alts := [], laidByText := true, laidKinds := [.data, .data, .data, .data, .sentinel, .sentinel, .pinned], laidTests := true, laidLooks := .later }
def FnExactParseTreeUptoCardSaid : Prop := Claim7.holds Tryz.pinned (.plain (OpenSpec.upto fnExactParseTreeSpec)) fnExactParseTreeUptoCard

/-- THE SECOND FORM's CARD OF 'laws.FnFormatTree'. -/
def fnFormatTreeUptoCard : Claim7 := { stood := { row := fnFormatTreeUptoRow, standIns := [], harness := (true, "f867272da29a3317d9bad5937dd187c6afe6378fbba3a9d448a7687f94c03fb1"), looks := true }, kinds := [], alts := [], laidByText := true, laidKinds := [.data, .data, .data, .data, .sentinel, .sentinel, .pinned], laidTests := true, laidLooks := .later }
def FnFormatTreeUptoCardSaid : Prop := Claim7.holds Tryz.pinned (.plain (OpenSpec.upto fnFormatTreeSpec)) fnFormatTreeUptoCard

/-- THE SECOND FORM's CARD OF 'laws.FnParseTree'. -/
def fnParseTreeUptoCard : Claim7 := { stood := { row := fnParseTreeUptoRow, standIns := [], harness := (true, "f867272da29a3317d9bad5937dd187c6afe6378fbba3a9d448a7687f94c03fb1"), looks := true }, kinds := [], alts := [], laidByText := true, laidKinds := [.data, .data, .data, .data, .sentinel, .sentinel, .pinned], laidTests := true, laidLooks := .later }
def FnParseTreeUptoCardSaid : Prop := Claim7.holds Tryz.pinned (.plain (OpenSpec.upto fnParseTreeSpec)) fnParseTreeUptoCard
end Rows
end Go.Proofs.YtmhcmabiolaoaaaGreatDoor
