/-
  DERIVED. GIVEN WITH THE SEED: THE CARDS: each row of YtchoalibhpbbdaaDoorRows.lean that lists a variable, with what it lists TIED to the program's text (the seventh form; the later family's looks); each row that meets fmt, with fmt's text TOLD by the authors' own Lean function (tested against real Go, not proved from fmt's source: count such statements apart). THE CARD IS WHAT COUNTS. Prove the row's statement (the work); the ties are given (YtchoalibhpbbdaaDoorTie.lean); close each card by the builder's one call (the guide's Derived/Test/ToyasCard.lean, 'card_holds'). Laid BY PROGRAM, IN A SANDBOX (cutbox-door.mjs). By AI agents, Wed Nov 11 2026. No macro, syntax, notation, axiom, sorry.
-/
import Derived.Test.YtchoalibhpbbdaaDoorRows
import GoSem.ClaimSeven
namespace Go.Proofs.YtchoalibhpbbdaaDoor
namespace Rows

/-- THE TIED CARD OF 'cayleylaw.SeriesGo'. -/
def seriesGoCard : Claim7 := { stood := { row := seriesGoRow, standIns := [], harness := (true, "6bc0727fdc616c6c00babb53012225f6225aea33c250b9a08dbc66261f290e31"), looks := false }, kinds := [], alts := [], laidByText := true, laidKinds := [.data], laidTests := true, laidLooks := .later }
def SeriesGoCardSaid : Prop := Claim7.holds Tryd.pinned (.plain (OpenSpec.ofChange seriesGoSpec)) seriesGoCard

/-- THE TIED CARD OF 'cayleylaw.CosetLists'. -/
def cosetListsCard : Claim7 := { stood := { row := cosetListsRow, standIns := [], harness := (true, "6bc0727fdc616c6c00babb53012225f6225aea33c250b9a08dbc66261f290e31"), looks := false }, kinds := [], alts := [], laidByText := true, laidKinds := [.data], laidTests := true, laidLooks := .later }
def CosetListsCardSaid : Prop := Claim7.holds Tryd.pinned (.plain (OpenSpec.ofChange cosetListsSpec)) cosetListsCard

/-- THE TIED CARD OF 'cayleylaw.CosetTowers'. -/
def cosetTowersCard : Claim7 := { stood := { row := cosetTowersRow, standIns := [], harness := (true, "6bc0727fdc616c6c00babb53012225f6225aea33c250b9a08dbc66261f290e31"), looks := false }, kinds := [], alts := [], laidByText := true, laidKinds := [.data], laidTests := true, laidLooks := .later }
def CosetTowersCardSaid : Prop := Claim7.holds Tryd.pinned (.plain (OpenSpec.ofChange cosetTowersSpec)) cosetTowersCard

/-- THE TIED CARD OF 'cayleylaw.CosetDouble'. -/
def cosetDoubleCard : Claim7 := { stood := { row := cosetDoubleRow, standIns := [], harness := (true, "6bc0727fdc616c6c00babb53012225f6225aea33c250b9a08dbc66261f290e31"), looks := false }, kinds := [], alts := [], laidByText := true, laidKinds := [.data], laidTests := true, laidLooks := .later }
def CosetDoubleCardSaid : Prop := Claim7.holds Tryd.pinned (.plain (OpenSpec.ofChange cosetDoubleSpec)) cosetDoubleCard

/-- THE TIED CARD OF 'cayleylaw.CosetSides'. -/
def cosetSidesCard : Claim7 := { stood := { row := cosetSidesRow, standIns := [], harness := (true, "6bc0727fdc616c6c00babb53012225f6225aea33c250b9a08dbc66261f290e31"), looks := false }, kinds := [], alts := [], laidByText := true, laidKinds := [.data], laidTests := true, laidLooks := .later }
def CosetSidesCardSaid : Prop := Claim7.holds Tryd.pinned (.plain (OpenSpec.ofChange cosetSidesSpec)) cosetSidesCard

/-- THE TIED CARD OF 'cayleylaw.SubNormal'. -/
def subNormalCard : Claim7 := { stood := { row := subNormalRow, standIns := [], harness := (true, "6bc0727fdc616c6c00babb53012225f6225aea33c250b9a08dbc66261f290e31"), looks := false }, kinds := [], alts := [], laidByText := true, laidKinds := [.data], laidTests := true, laidLooks := .later }
def SubNormalCardSaid : Prop := Claim7.holds Tryd.pinned (.plain (OpenSpec.ofChange subNormalSpec)) subNormalCard

/-- THE TIED CARD OF 'cayleylaw.ProdDirect'. -/
def prodDirectCard : Claim7 := { stood := { row := prodDirectRow, standIns := [], harness := (true, "6bc0727fdc616c6c00babb53012225f6225aea33c250b9a08dbc66261f290e31"), looks := false }, kinds := [], alts := [], laidByText := true, laidKinds := [.data], laidTests := true, laidLooks := .later }
def ProdDirectCardSaid : Prop := Claim7.holds Tryd.pinned (.plain (OpenSpec.ofChange prodDirectSpec)) prodDirectCard

/-- THE TIED CARD OF 'cayleylaw.SeriesNormal'. -/
def seriesNormalCard : Claim7 := { stood := { row := seriesNormalRow, standIns := [], harness := (true, "6bc0727fdc616c6c00babb53012225f6225aea33c250b9a08dbc66261f290e31"), looks := false }, kinds := [], alts := [], laidByText := true, laidKinds := [.data], laidTests := true, laidLooks := .later }
def SeriesNormalCardSaid : Prop := Claim7.holds Tryd.pinned (.plain (OpenSpec.ofChange seriesNormalSpec)) seriesNormalCard

/-- THE TIED CARD OF 'cayleylaw.QuotMakes'. -/
def quotMakesCard : Claim7 := { stood := { row := quotMakesRow, standIns := [], harness := (true, "6bc0727fdc616c6c00babb53012225f6225aea33c250b9a08dbc66261f290e31"), looks := false }, kinds := [], alts := [], laidByText := true, laidKinds := [.data], laidTests := true, laidLooks := .later }
def QuotMakesCardSaid : Prop := Claim7.holds Tryd.pinned (.plain (OpenSpec.ofChange quotMakesSpec)) quotMakesCard

/-- THE TIED CARD OF 'cayleylaw.SubChains'. -/
def subChainsCard : Claim7 := { stood := { row := subChainsRow, standIns := [], harness := (true, "6bc0727fdc616c6c00babb53012225f6225aea33c250b9a08dbc66261f290e31"), looks := false }, kinds := [], alts := [], laidByText := true, laidKinds := [.data], laidTests := true, laidLooks := .later }
def SubChainsCardSaid : Prop := Claim7.holds Tryd.pinned (.plain (OpenSpec.ofChange subChainsSpec)) subChainsCard

/-- THE TIED CARD OF 'cayleylaw.QuotParts'. -/
def quotPartsCard : Claim7 := { stood := { row := quotPartsRow, standIns := [], harness := (true, "6bc0727fdc616c6c00babb53012225f6225aea33c250b9a08dbc66261f290e31"), looks := false }, kinds := [], alts := [], laidByText := true, laidKinds := [.data], laidTests := true, laidLooks := .later }
def QuotPartsCardSaid : Prop := Claim7.holds Tryd.pinned (.plain (OpenSpec.ofChange quotPartsSpec)) quotPartsCard

/-- THE TIED CARD OF 'cayleylaw.CosetActs'. -/
def cosetActsCard : Claim7 := { stood := { row := cosetActsRow, standIns := [], harness := (true, "6bc0727fdc616c6c00babb53012225f6225aea33c250b9a08dbc66261f290e31"), looks := false }, kinds := [], alts := [], laidByText := true, laidKinds := [.data], laidTests := true, laidLooks := .later }
def CosetActsCardSaid : Prop := Claim7.holds Tryd.pinned (.plain (OpenSpec.ofChange cosetActsSpec)) cosetActsCard

/-- THE SECOND FORM's CARD OF 'cayleylaw.SeriesGo'. -/
def seriesGoUptoCard : Claim7 := { stood := { row := seriesGoUptoRow, standIns := [], harness := (true, "6bc0727fdc616c6c00babb53012225f6225aea33c250b9a08dbc66261f290e31"), looks := false }, kinds := [], alts := [], laidByText := true, laidKinds := [.data], laidTests := true, laidLooks := .later }
def SeriesGoUptoCardSaid : Prop := Claim7.holds Tryd.pinned (.plain (OpenSpec.upto seriesGoSpec)) seriesGoUptoCard

/-- THE SECOND FORM's CARD OF 'cayleylaw.CosetLists'. -/
def cosetListsUptoCard : Claim7 := { stood := { row := cosetListsUptoRow, standIns := [], harness := (true, "6bc0727fdc616c6c00babb53012225f6225aea33c250b9a08dbc66261f290e31"), looks := false }, kinds := [], alts := [], laidByText := true, laidKinds := [.data], laidTests := true, laidLooks := .later }
def CosetListsUptoCardSaid : Prop := Claim7.holds Tryd.pinned (.plain (OpenSpec.upto cosetListsSpec)) cosetListsUptoCard

/-- THE SECOND FORM's CARD OF 'cayleylaw.CosetTowers'. -/
def cosetTowersUptoCard : Claim7 := { stood := { row := cosetTowersUptoRow, standIns := [], harness := (true, "6bc0727fdc616c6c00babb53012225f6225aea33c250b9a08dbc66261f290e31"), looks := false }, kinds := [], alts := [], laidByText := true, laidKinds := [.data], laidTests := true, laidLooks := .later }
def CosetTowersUptoCardSaid : Prop := Claim7.holds Tryd.pinned (.plain (OpenSpec.upto cosetTowersSpec)) cosetTowersUptoCard

/-- THE SECOND FORM's CARD OF 'cayleylaw.CosetDouble'. -/
def cosetDoubleUptoCard : Claim7 := { stood := { row := cosetDoubleUptoRow, standIns := [], harness := (true, "6bc0727fdc616c6c00babb53012225f6225aea33c250b9a08dbc66261f290e31"), looks := false }, kinds := [], alts := [], laidByText := true, laidKinds := [.data], laidTests := true, laidLooks := .later }
def CosetDoubleUptoCardSaid : Prop := Claim7.holds Tryd.pinned (.plain (OpenSpec.upto cosetDoubleSpec)) cosetDoubleUptoCard

/-- THE SECOND FORM's CARD OF 'cayleylaw.CosetSides'. -/
def cosetSidesUptoCard : Claim7 := { stood := { row := cosetSidesUptoRow, standIns := [], harness := (true, "6bc0727fdc616c6c00babb53012225f6225aea33c250b9a08dbc66261f290e31"), looks := false }, kinds := [], alts := [], laidByText := true, laidKinds := [.data], laidTests := true, laidLooks := .later }
def CosetSidesUptoCardSaid : Prop := Claim7.holds Tryd.pinned (.plain (OpenSpec.upto cosetSidesSpec)) cosetSidesUptoCard

/-- THE SECOND FORM's CARD OF 'cayleylaw.SubNormal'. -/
def subNormalUptoCard : Claim7 := { stood := { row := subNormalUptoRow, standIns := [], harness := (true, "6bc0727fdc616c6c00babb53012225f6225aea33c250b9a08dbc66261f290e31"), looks := false }, kinds := [], alts := [], laidByText := true, laidKinds := [.data], laidTests := true, laidLooks := .later }
def SubNormalUptoCardSaid : Prop := Claim7.holds Tryd.pinned (.plain (OpenSpec.upto subNormalSpec)) subNormalUptoCard

/-- THE SECOND FORM's CARD OF 'cayleylaw.ProdDirect'. -/
def prodDirectUptoCard : Claim7 := { stood := { row := prodDirectUptoRow, standIns := [], harness := (true, "6bc0727fdc616c6c00babb53012225f6225aea33c250b9a08dbc66261f290e31"), looks := false }, kinds := [], alts := [], laidByText := true, laidKinds := [.data], laidTests := true, laidLooks := .later }
def ProdDirectUptoCardSaid : Prop := Claim7.holds Tryd.pinned (.plain (OpenSpec.upto prodDirectSpec)) prodDirectUptoCard

/-- THE SECOND FORM's CARD OF 'cayleylaw.SeriesNormal'. -/
def seriesNormalUptoCard : Claim7 := { stood := { row := seriesNormalUptoRow, standIns := [], harness := (true, "6bc0727fdc616c6c00babb53012225f6225aea33c250b9a08dbc66261f290e31"), looks := false }, kinds := [], alts := [], laidByText := true, laidKinds := [.data], laidTests := true, laidLooks := .later }
def SeriesNormalUptoCardSaid : Prop := Claim7.holds Tryd.pinned (.plain (OpenSpec.upto seriesNormalSpec)) seriesNormalUptoCard

/-- THE SECOND FORM's CARD OF 'cayleylaw.QuotMakes'. -/
def quotMakesUptoCard : Claim7 := { stood := { row := quotMakesUptoRow, standIns := [], harness := (true, "6bc0727fdc616c6c00babb53012225f6225aea33c250b9a08dbc66261f290e31"), looks := false }, kinds := [], alts := [], laidByText := true, laidKinds := [.data], laidTests := true, laidLooks := .later }
def QuotMakesUptoCardSaid : Prop := Claim7.holds Tryd.pinned (.plain (OpenSpec.upto quotMakesSpec)) quotMakesUptoCard

/-- THE SECOND FORM's CARD OF 'cayleylaw.SubChains'. -/
def subChainsUptoCard : Claim7 := { stood := { row := subChainsUptoRow, standIns := [], harness := (true, "6bc0727fdc616c6c00babb53012225f6225aea33c250b9a08dbc66261f290e31"), looks := false }, kinds := [], alts := [], laidByText := true, laidKinds := [.data], laidTests := true, laidLooks := .later }
def SubChainsUptoCardSaid : Prop := Claim7.holds Tryd.pinned (.plain (OpenSpec.upto subChainsSpec)) subChainsUptoCard

/-- THE SECOND FORM's CARD OF 'cayleylaw.QuotParts'. -/
def quotPartsUptoCard : Claim7 := { stood := { row := quotPartsUptoRow, standIns := [], harness := (true, "6bc0727fdc616c6c00babb53012225f6225aea33c250b9a08dbc66261f290e31"), looks := false }, kinds := [], alts := [], laidByText := true, laidKinds := [.data], laidTests := true, laidLooks := .later }
def QuotPartsUptoCardSaid : Prop := Claim7.holds Tryd.pinned (.plain (OpenSpec.upto quotPartsSpec)) quotPartsUptoCard

/-- THE SECOND FORM's CARD OF 'cayleylaw.CosetActs'. -/
def cosetActsUptoCard : Claim7 := { stood := { row := cosetActsUptoRow, standIns := [], harness := (true, "6bc0727fdc616c6c00babb53012225f6225aea33c250b9a08dbc66261f290e31"), looks := false }, kinds := [], alts := [], laidByText := true, laidKinds := [.data], laidTests := true, laidLooks := .later }
def CosetActsUptoCardSaid : Prop := Claim7.holds Tryd.pinned (.plain (OpenSpec.upto cosetActsSpec)) cosetActsUptoCard
end Rows
end Go.Proofs.YtchoalibhpbbdaaDoor
