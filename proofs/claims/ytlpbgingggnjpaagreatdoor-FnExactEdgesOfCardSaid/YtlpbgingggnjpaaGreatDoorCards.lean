/-
  DERIVED. GIVEN WITH THE SEED: THE CARDS: each row of YtlpbgingggnjpaaGreatDoorRows.lean that lists a variable, with what it lists TIED to the program's text (the seventh form; the later family's looks); each row that meets fmt, with fmt's text TOLD by the authors' own Lean function (tested against real Go, not proved from fmt's source: count such statements apart). THE CARD IS WHAT COUNTS. Prove the row's statement (the work); the ties are given (YtlpbgingggnjpaaGreatDoorTie.lean); close each card by the builder's one call (the guide's Derived/Test/ToyasCard.lean, 'card_holds'). Laid BY PROGRAM, IN A SANDBOX (cutbox-door.mjs). By AI agents, Wed Nov 11 2026. No macro, syntax, notation, axiom, sorry.
-/
import Derived.Test.YtlpbgingggnjpaaGreatDoorRows
import GoSem.ClaimSeven
namespace Go.Proofs.YtlpbgingggnjpaaGreatDoor
namespace Rows

/-- THE TIED CARD OF 'laws.FnPackagesOf'. -/
def fnPackagesOfCard : Claim7 := { stood := { row := fnPackagesOfRow, standIns := [], harness := (true, "293b35930ba18109f4a45731ff8bfae720780f4f6d32679ec6b8b71226a8cd61"), looks := false }, kinds := [], alts := [], laidByText := true, laidKinds := [.data, .pinned], laidTests := true, laidLooks := .later }
def FnPackagesOfCardSaid : Prop := Claim7.holds Tryz.pinned (.plain (OpenSpec.ofChange fnPackagesOfSpec)) fnPackagesOfCard

/-- THE TIED CARD OF 'laws.FnExactPackagesOf'. -/
def fnExactPackagesOfCard : Claim7 := { stood := { row := fnExactPackagesOfRow, standIns := [], harness := (true, "293b35930ba18109f4a45731ff8bfae720780f4f6d32679ec6b8b71226a8cd61"), looks := false }, kinds := [], alts := [], laidByText := true, laidKinds := [.data, .pinned], laidTests := true, laidLooks := .later }
def FnExactPackagesOfCardSaid : Prop := Claim7.holds Tryz.pinned (.plain (OpenSpec.ofChange fnExactPackagesOfSpec)) fnExactPackagesOfCard

/-- THE TIED CARD OF 'laws.FnExactNeedsOf'. -/
def fnExactNeedsOfCard : Claim7 := { stood := { row := fnExactNeedsOfRow, standIns := [], harness := (true, "293b35930ba18109f4a45731ff8bfae720780f4f6d32679ec6b8b71226a8cd61"), looks := false }, kinds := [], alts := [], laidByText := true, laidKinds := [.data, .pinned], laidTests := true, laidLooks := .later }
def FnExactNeedsOfCardSaid : Prop := Claim7.holds Tryz.pinned (.plain (OpenSpec.ofChange fnExactNeedsOfSpec)) fnExactNeedsOfCard

/-- THE TIED CARD OF 'laws.FnEdgesOf'. -/
def fnEdgesOfCard : Claim7 := { stood := { row := fnEdgesOfRow, standIns := [], harness := (true, "293b35930ba18109f4a45731ff8bfae720780f4f6d32679ec6b8b71226a8cd61"), looks := false }, kinds := [], alts := [], laidByText := true, laidKinds := [.data, .pinned], laidTests := true, laidLooks := .later }
def FnEdgesOfCardSaid : Prop := Claim7.holds Tryz.pinned (.plain (OpenSpec.ofChange fnEdgesOfSpec)) fnEdgesOfCard

/-- THE TIED CARD OF 'laws.FnExactEdgesOf'. -/
def fnExactEdgesOfCard : Claim7 := { stood := { row := fnExactEdgesOfRow, standIns := [], harness := (true, "293b35930ba18109f4a45731ff8bfae720780f4f6d32679ec6b8b71226a8cd61"), looks := false }, kinds := [], alts := [], laidByText := true, laidKinds := [.data, .pinned], laidTests := true, laidLooks := .later }
def FnExactEdgesOfCardSaid : Prop := Claim7.holds Tryz.pinned (.plain (OpenSpec.ofChange fnExactEdgesOfSpec)) fnExactEdgesOfCard

/-- THE SECOND FORM's CARD OF 'laws.FnPackagesOf'. -/
def fnPackagesOfUptoCard : Claim7 := { stood := { row := fnPackagesOfUptoRow, standIns := [], harness := (true, "293b35930ba18109f4a45731ff8bfae720780f4f6d32679ec6b8b71226a8cd61"), looks := false }, kinds := [], alts := [], laidByText := true, laidKinds := [.data, .pinned], laidTests := true, laidLooks := .later }
def FnPackagesOfUptoCardSaid : Prop := Claim7.holds Tryz.pinned (.plain (OpenSpec.upto fnPackagesOfSpec)) fnPackagesOfUptoCard

/-- THE SECOND FORM's CARD OF 'laws.FnExactPackagesOf'. -/
def fnExactPackagesOfUptoCard : Claim7 := { stood := { row := fnExactPackagesOfUptoRow, standIns := [], harness := (true, "293b35930ba18109f4a45731ff8bfae720780f4f6d32679ec6b8b71226a8cd61"), looks := false }, kinds := [], alts := [], laidByText := true, laidKinds := [.data, .pinned], laidTests := true, laidLooks := .later }
def FnExactPackagesOfUptoCardSaid : Prop := Claim7.holds Tryz.pinned (.plain (OpenSpec.upto fnExactPackagesOfSpec)) fnExactPackagesOfUptoCard

/-- THE SECOND FORM's CARD OF 'laws.FnExactNeedsOf'. -/
def fnExactNeedsOfUptoCard : Claim7 := { stood := { row := fnExactNeedsOfUptoRow, standIns := [], harness := (true, "293b35930ba18109f4a45731ff8bfae720780f4f6d32679ec6b8b71226a8cd61"), looks := false }, kinds := [], alts := [], laidByText := true, laidKinds := [.data, .pinned], laidTests := true, laidLooks := .later }
def FnExactNeedsOfUptoCardSaid : Prop := Claim7.holds Tryz.pinned (.plain (OpenSpec.upto fnExactNeedsOfSpec)) fnExactNeedsOfUptoCard

/-- THE SECOND FORM's CARD OF 'laws.FnEdgesOf'. -/
def fnEdgesOfUptoCard : Claim7 := { stood := { row := fnEdgesOfUptoRow, standIns := [], harness := (true, "293b35930ba18109f4a45731ff8bfae720780f4f6d32679ec6b8b71226a8cd61"), looks := false }, kinds := [], alts := [], laidByText := true, laidKinds := [.data, .pinned], laidTests := true, laidLooks := .later }
def FnEdgesOfUptoCardSaid : Prop := Claim7.holds Tryz.pinned (.plain (OpenSpec.upto fnEdgesOfSpec)) fnEdgesOfUptoCard

/-- THE SECOND FORM's CARD OF 'laws.FnExactEdgesOf'. -/
def fnExactEdgesOfUptoCard : Claim7 := { stood := { row := fnExactEdgesOfUptoRow, standIns := [], harness := (true, "293b35930ba18109f4a45731ff8bfae720780f4f6d32679ec6b8b71226a8cd61"), looks := false }, kinds := [], alts := [], laidByText := true, laidKinds := [.data, .pinned], laidTests := true, laidLooks := .later }
def FnExactEdgesOfUptoCardSaid : Prop := Claim7.holds Tryz.pinned (.plain (OpenSpec.upto fnExactEdgesOfSpec)) fnExactEdgesOfUptoCard
end Rows
end Go.Proofs.YtlpbgingggnjpaaGreatDoor
