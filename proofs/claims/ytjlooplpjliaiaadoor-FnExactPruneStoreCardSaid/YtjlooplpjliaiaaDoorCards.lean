/-
  DERIVED. GIVEN WITH THE SEED: THE CARDS: each row of YtjlooplpjliaiaaDoorRows.lean that lists a variable, with what it lists TIED to the program's text (the seventh form; the later family's looks); each row that meets fmt, with fmt's text TOLD by the authors' own Lean function (tested against real Go, not proved from fmt's source: count such statements apart). THE CARD IS WHAT COUNTS. Prove the row's statement (the work); the ties are given (YtjlooplpjliaiaaDoorTie.lean); close each card by the builder's one call (the guide's Derived/Test/ToyasCard.lean, 'card_holds'). Laid BY PROGRAM, IN A SANDBOX (cutbox-door.mjs). By AI agents, Wed Nov 11 2026. No macro, syntax, notation, axiom, sorry.
-/
import Derived.Test.YtjlooplpjliaiaaDoorRows
import GoSem.ClaimSeven
namespace Go.Proofs.YtjlooplpjliaiaaDoor
namespace Rows

/-- THE TIED CARD OF 'laws.FnExactCompileTree'. -/
def fnExactCompileTreeCard : Claim7 := { stood := { row := fnExactCompileTreeRow, standIns := [], harness := (true, "be856907e2dabccc48ad17c1c7fbbb991d95a198302d69976fecfa4b40eda629"), looks := false }, kinds := [], alts := [], laidByText := true, laidKinds := [.data, .pinned], laidTests := true, laidLooks := .later }
def FnExactCompileTreeCardSaid : Prop := Claim7.holds Tryd.pinned (.plain (OpenSpec.ofChange fnExactCompileTreeSpec)) fnExactCompileTreeCard

/-- THE TIED CARD OF 'laws.FnExactLoadBody'. -/
def fnExactLoadBodyCard : Claim7 := { stood := { row := fnExactLoadBodyRow, standIns := [], harness := (true, "be856907e2dabccc48ad17c1c7fbbb991d95a198302d69976fecfa4b40eda629"), looks := false }, kinds := [], alts := [], laidByText := true, laidKinds := [.data, .pinned], laidTests := true, laidLooks := .later }
def FnExactLoadBodyCardSaid : Prop := Claim7.holds Tryd.pinned (.plain (OpenSpec.ofChange fnExactLoadBodySpec)) fnExactLoadBodyCard

/-- THE TIED CARD OF 'laws.FnExactPruneStore'. -/
def fnExactPruneStoreCard : Claim7 := { stood := { row := fnExactPruneStoreRow, standIns := [], harness := (true, "be856907e2dabccc48ad17c1c7fbbb991d95a198302d69976fecfa4b40eda629"), looks := false }, kinds := [], alts := [], laidByText := true, laidKinds := [.data, .pinned], laidTests := true, laidLooks := .later }
def FnExactPruneStoreCardSaid : Prop := Claim7.holds Tryd.pinned (.plain (OpenSpec.ofChange fnExactPruneStoreSpec)) fnExactPruneStoreCard

/-- THE TIED CARD OF 'laws.FnExactWrongFiles'. -/
def fnExactWrongFilesCard : Claim7 := { stood := { row := fnExactWrongFilesRow, standIns := [], harness := (true, "be856907e2dabccc48ad17c1c7fbbb991d95a198302d69976fecfa4b40eda629"), looks := false }, kinds := [], alts := [], laidByText := true, laidKinds := [.data, .pinned], laidTests := true, laidLooks := .later }
def FnExactWrongFilesCardSaid : Prop := Claim7.holds Tryd.pinned (.plain (OpenSpec.ofChange fnExactWrongFilesSpec)) fnExactWrongFilesCard

/-- THE SECOND FORM's CARD OF 'laws.FnExactCompileTree'. -/
def fnExactCompileTreeUptoCard : Claim7 := { stood := { row := fnExactCompileTreeUptoRow, standIns := [], harness := (true, "be856907e2dabccc48ad17c1c7fbbb991d95a198302d69976fecfa4b40eda629"), looks := false }, kinds := [], alts := [], laidByText := true, laidKinds := [.data, .pinned], laidTests := true, laidLooks := .later }
def FnExactCompileTreeUptoCardSaid : Prop := Claim7.holds Tryd.pinned (.plain (OpenSpec.upto fnExactCompileTreeSpec)) fnExactCompileTreeUptoCard

/-- THE SECOND FORM's CARD OF 'laws.FnExactLoadBody'. -/
def fnExactLoadBodyUptoCard : Claim7 := { stood := { row := fnExactLoadBodyUptoRow, standIns := [], harness := (true, "be856907e2dabccc48ad17c1c7fbbb991d95a198302d69976fecfa4b40eda629"), looks := false }, kinds := [], alts := [], laidByText := true, laidKinds := [.data, .pinned], laidTests := true, laidLooks := .later }
def FnExactLoadBodyUptoCardSaid : Prop := Claim7.holds Tryd.pinned (.plain (OpenSpec.upto fnExactLoadBodySpec)) fnExactLoadBodyUptoCard

/-- THE SECOND FORM's CARD OF 'laws.FnExactPruneStore'. -/
def fnExactPruneStoreUptoCard : Claim7 := { stood := { row := fnExactPruneStoreUptoRow, standIns := [], harness := (true, "be856907e2dabccc48ad17c1c7fbbb991d95a198302d69976fecfa4b40eda629"), looks := false }, kinds := [], alts := [], laidByText := true, laidKinds := [.data, .pinned], laidTests := true, laidLooks := .later }
def FnExactPruneStoreUptoCardSaid : Prop := Claim7.holds Tryd.pinned (.plain (OpenSpec.upto fnExactPruneStoreSpec)) fnExactPruneStoreUptoCard

/-- THE SECOND FORM's CARD OF 'laws.FnExactWrongFiles'. -/
def fnExactWrongFilesUptoCard : Claim7 := { stood := { row := fnExactWrongFilesUptoRow, standIns := [], harness := (true, "be856907e2dabccc48ad17c1c7fbbb991d95a198302d69976fecfa4b40eda629"), looks := false }, kinds := [], alts := [], laidByText := true, laidKinds := [.data, .pinned], laidTests := true, laidLooks := .later }
def FnExactWrongFilesUptoCardSaid : Prop := Claim7.holds Tryd.pinned (.plain (OpenSpec.upto fnExactWrongFilesSpec)) fnExactWrongFilesUptoCard
end Rows
end Go.Proofs.YtjlooplpjliaiaaDoor
