/-
  DERIVED. GIVEN WITH THE SEED: THE CARDS: each row of YtlpbgingggnjpaaDoorRows.lean that lists a variable, with what it lists TIED to the program's text (the seventh form; the later family's looks); each row that meets fmt, with fmt's text TOLD by the authors' own Lean function (tested against real Go, not proved from fmt's source: count such statements apart). THE CARD IS WHAT COUNTS. Prove the row's statement (the work); the ties are given (YtlpbgingggnjpaaDoorTie.lean); close each card by the builder's one call (the guide's Derived/Test/ToyasCard.lean, 'card_holds'). Laid BY PROGRAM, IN A SANDBOX (cutbox-door.mjs). By AI agents, Wed Nov 11 2026. No macro, syntax, notation, axiom, sorry.
-/
import Derived.Test.YtlpbgingggnjpaaDoorRows
import GoSem.ClaimSeven
namespace Go.Proofs.YtlpbgingggnjpaaDoor
namespace Rows

/-- THE TIED CARD OF 'laws.FnModulesOf'. -/
def fnModulesOfCard : Claim7 := { stood := { row := fnModulesOfRow, standIns := [], harness := (true, "1be4f73c74a165454a9850c82b7691f4fcdf15d7fbc302e30c78ec8c7b1740ab"), looks := false }, kinds := [], alts := [], laidByText := true, laidKinds := [.data, .pinned], laidTests := true, laidLooks := .later }
def FnModulesOfCardSaid : Prop := Claim7.holds Tryd.pinned (.plain (OpenSpec.ofChange fnModulesOfSpec)) fnModulesOfCard

/-- THE TIED CARD OF 'laws.FnExactModulesOf'. -/
def fnExactModulesOfCard : Claim7 := { stood := { row := fnExactModulesOfRow, standIns := [], harness := (true, "1be4f73c74a165454a9850c82b7691f4fcdf15d7fbc302e30c78ec8c7b1740ab"), looks := false }, kinds := [], alts := [], laidByText := true, laidKinds := [.data, .pinned], laidTests := true, laidLooks := .later }
def FnExactModulesOfCardSaid : Prop := Claim7.holds Tryd.pinned (.plain (OpenSpec.ofChange fnExactModulesOfSpec)) fnExactModulesOfCard

/-- THE TIED CARD OF 'laws.FnListDir'. -/
def fnListDirCard : Claim7 := { stood := { row := fnListDirRow, standIns := [], harness := (true, "1be4f73c74a165454a9850c82b7691f4fcdf15d7fbc302e30c78ec8c7b1740ab"), looks := false }, kinds := [], alts := [], laidByText := true, laidKinds := [.data, .pinned], laidTests := true, laidLooks := .later }
def FnListDirCardSaid : Prop := Claim7.holds Tryd.pinned (.plain (OpenSpec.ofChange fnListDirSpec)) fnListDirCard

/-- THE TIED CARD OF 'laws.FnExactListDir'. -/
def fnExactListDirCard : Claim7 := { stood := { row := fnExactListDirRow, standIns := [], harness := (true, "1be4f73c74a165454a9850c82b7691f4fcdf15d7fbc302e30c78ec8c7b1740ab"), looks := false }, kinds := [], alts := [], laidByText := true, laidKinds := [.data, .pinned], laidTests := true, laidLooks := .later }
def FnExactListDirCardSaid : Prop := Claim7.holds Tryd.pinned (.plain (OpenSpec.ofChange fnExactListDirSpec)) fnExactListDirCard

/-- THE TIED CARD OF 'laws.FnHasDir'. -/
def fnHasDirCard : Claim7 := { stood := { row := fnHasDirRow, standIns := [], harness := (true, "1be4f73c74a165454a9850c82b7691f4fcdf15d7fbc302e30c78ec8c7b1740ab"), looks := false }, kinds := [], alts := [], laidByText := true, laidKinds := [.data, .pinned], laidTests := true, laidLooks := .later }
def FnHasDirCardSaid : Prop := Claim7.holds Tryd.pinned (.plain (OpenSpec.ofChange fnHasDirSpec)) fnHasDirCard

/-- THE TIED CARD OF 'laws.FnAddFile'. -/
def fnAddFileCard : Claim7 := { stood := { row := fnAddFileRow, standIns := [], harness := (true, "1be4f73c74a165454a9850c82b7691f4fcdf15d7fbc302e30c78ec8c7b1740ab"), looks := false }, kinds := [], alts := [], laidByText := true, laidKinds := [.data, .pinned], laidTests := true, laidLooks := .later }
def FnAddFileCardSaid : Prop := Claim7.holds Tryd.pinned (.plain (OpenSpec.ofChange fnAddFileSpec)) fnAddFileCard

/-- THE TIED CARD OF 'laws.FnNeedsOf'. -/
def fnNeedsOfCard : Claim7 := { stood := { row := fnNeedsOfRow, standIns := [], harness := (true, "1be4f73c74a165454a9850c82b7691f4fcdf15d7fbc302e30c78ec8c7b1740ab"), looks := false }, kinds := [], alts := [], laidByText := true, laidKinds := [.data, .pinned], laidTests := true, laidLooks := .later }
def FnNeedsOfCardSaid : Prop := Claim7.holds Tryd.pinned (.plain (OpenSpec.ofChange fnNeedsOfSpec)) fnNeedsOfCard

/-- THE SECOND FORM's CARD OF 'laws.FnModulesOf'. -/
def fnModulesOfUptoCard : Claim7 := { stood := { row := fnModulesOfUptoRow, standIns := [], harness := (true, "1be4f73c74a165454a9850c82b7691f4fcdf15d7fbc302e30c78ec8c7b1740ab"), looks := false }, kinds := [], alts := [], laidByText := true, laidKinds := [.data, .pinned], laidTests := true, laidLooks := .later }
def FnModulesOfUptoCardSaid : Prop := Claim7.holds Tryd.pinned (.plain (OpenSpec.upto fnModulesOfSpec)) fnModulesOfUptoCard

/-- THE SECOND FORM's CARD OF 'laws.FnExactModulesOf'. -/
def fnExactModulesOfUptoCard : Claim7 := { stood := { row := fnExactModulesOfUptoRow, standIns := [], harness := (true, "1be4f73c74a165454a9850c82b7691f4fcdf15d7fbc302e30c78ec8c7b1740ab"), looks := false }, kinds := [], alts := [], laidByText := true, laidKinds := [.data, .pinned], laidTests := true, laidLooks := .later }
def FnExactModulesOfUptoCardSaid : Prop := Claim7.holds Tryd.pinned (.plain (OpenSpec.upto fnExactModulesOfSpec)) fnExactModulesOfUptoCard

/-- THE SECOND FORM's CARD OF 'laws.FnListDir'. -/
def fnListDirUptoCard : Claim7 := { stood := { row := fnListDirUptoRow, standIns := [], harness := (true, "1be4f73c74a165454a9850c82b7691f4fcdf15d7fbc302e30c78ec8c7b1740ab"), looks := false }, kinds := [], alts := [], laidByText := true, laidKinds := [.data, .pinned], laidTests := true, laidLooks := .later }
def FnListDirUptoCardSaid : Prop := Claim7.holds Tryd.pinned (.plain (OpenSpec.upto fnListDirSpec)) fnListDirUptoCard

/-- THE SECOND FORM's CARD OF 'laws.FnExactListDir'. -/
def fnExactListDirUptoCard : Claim7 := { stood := { row := fnExactListDirUptoRow, standIns := [], harness := (true, "1be4f73c74a165454a9850c82b7691f4fcdf15d7fbc302e30c78ec8c7b1740ab"), looks := false }, kinds := [], alts := [], laidByText := true, laidKinds := [.data, .pinned], laidTests := true, laidLooks := .later }
def FnExactListDirUptoCardSaid : Prop := Claim7.holds Tryd.pinned (.plain (OpenSpec.upto fnExactListDirSpec)) fnExactListDirUptoCard

/-- THE SECOND FORM's CARD OF 'laws.FnHasDir'. -/
def fnHasDirUptoCard : Claim7 := { stood := { row := fnHasDirUptoRow, standIns := [], harness := (true, "1be4f73c74a165454a9850c82b7691f4fcdf15d7fbc302e30c78ec8c7b1740ab"), looks := false }, kinds := [], alts := [], laidByText := true, laidKinds := [.data, .pinned], laidTests := true, laidLooks := .later }
def FnHasDirUptoCardSaid : Prop := Claim7.holds Tryd.pinned (.plain (OpenSpec.upto fnHasDirSpec)) fnHasDirUptoCard

/-- THE SECOND FORM's CARD OF 'laws.FnAddFile'. -/
def fnAddFileUptoCard : Claim7 := { stood := { row := fnAddFileUptoRow, standIns := [], harness := (true, "1be4f73c74a165454a9850c82b7691f4fcdf15d7fbc302e30c78ec8c7b1740ab"), looks := false }, kinds := [], alts := [], laidByText := true, laidKinds := [.data, .pinned], laidTests := true, laidLooks := .later }
def FnAddFileUptoCardSaid : Prop := Claim7.holds Tryd.pinned (.plain (OpenSpec.upto fnAddFileSpec)) fnAddFileUptoCard

/-- THE SECOND FORM's CARD OF 'laws.FnNeedsOf'. -/
def fnNeedsOfUptoCard : Claim7 := { stood := { row := fnNeedsOfUptoRow, standIns := [], harness := (true, "1be4f73c74a165454a9850c82b7691f4fcdf15d7fbc302e30c78ec8c7b1740ab"), looks := false }, kinds := [], alts := [], laidByText := true, laidKinds := [.data, .pinned], laidTests := true, laidLooks := .later }
def FnNeedsOfUptoCardSaid : Prop := Claim7.holds Tryd.pinned (.plain (OpenSpec.upto fnNeedsOfSpec)) fnNeedsOfUptoCard
end Rows
end Go.Proofs.YtlpbgingggnjpaaDoor
