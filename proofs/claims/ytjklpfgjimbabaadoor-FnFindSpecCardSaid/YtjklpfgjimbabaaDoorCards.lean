/-
  DERIVED. GIVEN WITH THE SEED: THE CARDS: each row of YtjklpfgjimbabaaDoorRows.lean that lists a variable, with what it lists TIED to the program's text (the seventh form; the later family's looks); each row that meets fmt, with fmt's text TOLD by the authors' own Lean function (tested against real Go, not proved from fmt's source: count such statements apart). THE CARD IS WHAT COUNTS. Prove the row's statement (the work); the ties are given (YtjklpfgjimbabaaDoorTie.lean); close each card by the builder's one call (the guide's Derived/Test/ToyasCard.lean, 'card_holds'). Laid BY PROGRAM, IN A SANDBOX (cutbox-door.mjs). By AI agents, Wed Nov 11 2026. No macro, syntax, notation, axiom, sorry.
-/
import Derived.Test.YtjklpfgjimbabaaDoorRows
import GoSem.ClaimSeven
namespace Go.Proofs.YtjklpfgjimbabaaDoor
namespace Rows

/-- THE TIED CARD OF 'laws.FnFindInSpace'. -/
def fnFindInSpaceCard : Claim7 := { stood := { row := fnFindInSpaceRow, standIns := [], harness := (true, "11ec01ddc43c9752ee7398727f23fb7bf0b4e419e1c765c7adadfb762600c062"), looks := false }, kinds := [], alts := [], laidByText := true, laidKinds := [.data, .pinned], laidTests := true, laidLooks := .later }
def FnFindInSpaceCardSaid : Prop := Claim7.holds Tryd.pinned (.plain (OpenSpec.ofChange fnFindInSpaceSpec)) fnFindInSpaceCard

/-- THE TIED CARD OF 'laws.FnFindIn'. -/
def fnFindInCard : Claim7 := { stood := { row := fnFindInRow, standIns := [], harness := (true, "11ec01ddc43c9752ee7398727f23fb7bf0b4e419e1c765c7adadfb762600c062"), looks := false }, kinds := [], alts := [], laidByText := true, laidKinds := [.data, .pinned], laidTests := true, laidLooks := .later }
def FnFindInCardSaid : Prop := Claim7.holds Tryd.pinned (.plain (OpenSpec.ofChange fnFindInSpec)) fnFindInCard

/-- THE TIED CARD OF 'laws.FnIsPackage'. -/
def fnIsPackageCard : Claim7 := { stood := { row := fnIsPackageRow, standIns := [], harness := (true, "11ec01ddc43c9752ee7398727f23fb7bf0b4e419e1c765c7adadfb762600c062"), looks := false }, kinds := [], alts := [], laidByText := true, laidKinds := [.data, .pinned], laidTests := true, laidLooks := .later }
def FnIsPackageCardSaid : Prop := Claim7.holds Tryd.pinned (.plain (OpenSpec.ofChange fnIsPackageSpec)) fnIsPackageCard

/-- THE TIED CARD OF 'laws.FnFindSpecFile'. -/
def fnFindSpecFileCard : Claim7 := { stood := { row := fnFindSpecFileRow, standIns := [], harness := (true, "11ec01ddc43c9752ee7398727f23fb7bf0b4e419e1c765c7adadfb762600c062"), looks := false }, kinds := [], alts := [], laidByText := true, laidKinds := [.data, .pinned], laidTests := true, laidLooks := .later }
def FnFindSpecFileCardSaid : Prop := Claim7.holds Tryd.pinned (.plain (OpenSpec.ofChange fnFindSpecFileSpec)) fnFindSpecFileCard

/-- THE TIED CARD OF 'laws.FnFindSpec'. -/
def fnFindSpecCard : Claim7 := { stood := { row := fnFindSpecRow, standIns := [], harness := (true, "11ec01ddc43c9752ee7398727f23fb7bf0b4e419e1c765c7adadfb762600c062"), looks := false }, kinds := [], alts := [], laidByText := true, laidKinds := [.data, .pinned], laidTests := true, laidLooks := .later }
def FnFindSpecCardSaid : Prop := Claim7.holds Tryd.pinned (.plain (OpenSpec.ofChange fnFindSpecSpec)) fnFindSpecCard

/-- THE TIED CARD OF 'laws.FnWhoHides'. -/
def fnWhoHidesCard : Claim7 := { stood := { row := fnWhoHidesRow, standIns := [], harness := (true, "11ec01ddc43c9752ee7398727f23fb7bf0b4e419e1c765c7adadfb762600c062"), looks := false }, kinds := [], alts := [], laidByText := true, laidKinds := [.data, .pinned], laidTests := true, laidLooks := .later }
def FnWhoHidesCardSaid : Prop := Claim7.holds Tryd.pinned (.plain (OpenSpec.ofChange fnWhoHidesSpec)) fnWhoHidesCard

/-- THE TIED CARD OF 'laws.FnHiddenFiles'. -/
def fnHiddenFilesCard : Claim7 := { stood := { row := fnHiddenFilesRow, standIns := [], harness := (true, "11ec01ddc43c9752ee7398727f23fb7bf0b4e419e1c765c7adadfb762600c062"), looks := false }, kinds := [], alts := [], laidByText := true, laidKinds := [.data, .pinned], laidTests := true, laidLooks := .later }
def FnHiddenFilesCardSaid : Prop := Claim7.holds Tryd.pinned (.plain (OpenSpec.ofChange fnHiddenFilesSpec)) fnHiddenFilesCard

/-- THE TIED CARD OF 'laws.FnCanFind'. -/
def fnCanFindCard : Claim7 := { stood := { row := fnCanFindRow, standIns := [], harness := (true, "11ec01ddc43c9752ee7398727f23fb7bf0b4e419e1c765c7adadfb762600c062"), looks := false }, kinds := [], alts := [], laidByText := true, laidKinds := [.data, .pinned], laidTests := true, laidLooks := .later }
def FnCanFindCardSaid : Prop := Claim7.holds Tryd.pinned (.plain (OpenSpec.ofChange fnCanFindSpec)) fnCanFindCard

/-- THE SECOND FORM's CARD OF 'laws.FnFindInSpace'. -/
def fnFindInSpaceUptoCard : Claim7 := { stood := { row := fnFindInSpaceUptoRow, standIns := [], harness := (true, "11ec01ddc43c9752ee7398727f23fb7bf0b4e419e1c765c7adadfb762600c062"), looks := false }, kinds := [], alts := [], laidByText := true, laidKinds := [.data, .pinned], laidTests := true, laidLooks := .later }
def FnFindInSpaceUptoCardSaid : Prop := Claim7.holds Tryd.pinned (.plain (OpenSpec.upto fnFindInSpaceSpec)) fnFindInSpaceUptoCard

/-- THE SECOND FORM's CARD OF 'laws.FnFindIn'. -/
def fnFindInUptoCard : Claim7 := { stood := { row := fnFindInUptoRow, standIns := [], harness := (true, "11ec01ddc43c9752ee7398727f23fb7bf0b4e419e1c765c7adadfb762600c062"), looks := false }, kinds := [], alts := [], laidByText := true, laidKinds := [.data, .pinned], laidTests := true, laidLooks := .later }
def FnFindInUptoCardSaid : Prop := Claim7.holds Tryd.pinned (.plain (OpenSpec.upto fnFindInSpec)) fnFindInUptoCard

/-- THE SECOND FORM's CARD OF 'laws.FnIsPackage'. -/
def fnIsPackageUptoCard : Claim7 := { stood := { row := fnIsPackageUptoRow, standIns := [], harness := (true, "11ec01ddc43c9752ee7398727f23fb7bf0b4e419e1c765c7adadfb762600c062"), looks := false }, kinds := [], alts := [], laidByText := true, laidKinds := [.data, .pinned], laidTests := true, laidLooks := .later }
def FnIsPackageUptoCardSaid : Prop := Claim7.holds Tryd.pinned (.plain (OpenSpec.upto fnIsPackageSpec)) fnIsPackageUptoCard

/-- THE SECOND FORM's CARD OF 'laws.FnFindSpecFile'. -/
def fnFindSpecFileUptoCard : Claim7 := { stood := { row := fnFindSpecFileUptoRow, standIns := [], harness := (true, "11ec01ddc43c9752ee7398727f23fb7bf0b4e419e1c765c7adadfb762600c062"), looks := false }, kinds := [], alts := [], laidByText := true, laidKinds := [.data, .pinned], laidTests := true, laidLooks := .later }
def FnFindSpecFileUptoCardSaid : Prop := Claim7.holds Tryd.pinned (.plain (OpenSpec.upto fnFindSpecFileSpec)) fnFindSpecFileUptoCard

/-- THE SECOND FORM's CARD OF 'laws.FnFindSpec'. -/
def fnFindSpecUptoCard : Claim7 := { stood := { row := fnFindSpecUptoRow, standIns := [], harness := (true, "11ec01ddc43c9752ee7398727f23fb7bf0b4e419e1c765c7adadfb762600c062"), looks := false }, kinds := [], alts := [], laidByText := true, laidKinds := [.data, .pinned], laidTests := true, laidLooks := .later }
def FnFindSpecUptoCardSaid : Prop := Claim7.holds Tryd.pinned (.plain (OpenSpec.upto fnFindSpecSpec)) fnFindSpecUptoCard

/-- THE SECOND FORM's CARD OF 'laws.FnWhoHides'. -/
def fnWhoHidesUptoCard : Claim7 := { stood := { row := fnWhoHidesUptoRow, standIns := [], harness := (true, "11ec01ddc43c9752ee7398727f23fb7bf0b4e419e1c765c7adadfb762600c062"), looks := false }, kinds := [], alts := [], laidByText := true, laidKinds := [.data, .pinned], laidTests := true, laidLooks := .later }
def FnWhoHidesUptoCardSaid : Prop := Claim7.holds Tryd.pinned (.plain (OpenSpec.upto fnWhoHidesSpec)) fnWhoHidesUptoCard

/-- THE SECOND FORM's CARD OF 'laws.FnHiddenFiles'. -/
def fnHiddenFilesUptoCard : Claim7 := { stood := { row := fnHiddenFilesUptoRow, standIns := [], harness := (true, "11ec01ddc43c9752ee7398727f23fb7bf0b4e419e1c765c7adadfb762600c062"), looks := false }, kinds := [], alts := [], laidByText := true, laidKinds := [.data, .pinned], laidTests := true, laidLooks := .later }
def FnHiddenFilesUptoCardSaid : Prop := Claim7.holds Tryd.pinned (.plain (OpenSpec.upto fnHiddenFilesSpec)) fnHiddenFilesUptoCard

/-- THE SECOND FORM's CARD OF 'laws.FnCanFind'. -/
def fnCanFindUptoCard : Claim7 := { stood := { row := fnCanFindUptoRow, standIns := [], harness := (true, "11ec01ddc43c9752ee7398727f23fb7bf0b4e419e1c765c7adadfb762600c062"), looks := false }, kinds := [], alts := [], laidByText := true, laidKinds := [.data, .pinned], laidTests := true, laidLooks := .later }
def FnCanFindUptoCardSaid : Prop := Claim7.holds Tryd.pinned (.plain (OpenSpec.upto fnCanFindSpec)) fnCanFindUptoCard
end Rows
end Go.Proofs.YtjklpfgjimbabaaDoor
