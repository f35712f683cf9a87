/-
  DERIVED. GIVEN WITH THE SEED: THE CARDS: each row of YtllompejbfbabaaDoorRows.lean that lists a variable, with what it lists TIED to the program's text (the seventh form; the later family's looks); each row that meets fmt, with fmt's text TOLD by the authors' own Lean function (tested against real Go, not proved from fmt's source: count such statements apart). THE CARD IS WHAT COUNTS. Prove the row's statement (the work); the ties are given (YtllompejbfbabaaDoorTie.lean); close each card by the builder's one call (the guide's Derived/Test/ToyasCard.lean, 'card_holds'). Laid BY PROGRAM, IN A SANDBOX (cutbox-door.mjs). By AI agents, Wed Nov 11 2026. No macro, syntax, notation, axiom, sorry.
-/
import Derived.Test.YtllompejbfbabaaDoorRows
import GoSem.ClaimSeven
namespace Go.Proofs.YtllompejbfbabaaDoor
namespace Rows

/-- THE TIED CARD OF 'cayleylaw.ClassTimes'. -/
def classTimesCard : Claim7 := { stood := { row := classTimesRow, standIns := [], harness := (true, "8208238710b2cce59c44d1d5dffeec0b7b0a17b96f5b93ae20216952c5a2ec8c"), looks := false }, kinds := [], alts := [], laidByText := true, laidKinds := [.data], laidTests := true, laidLooks := .later }
def ClassTimesCardSaid : Prop := Claim7.holds Tryd.pinned (.plain (OpenSpec.ofChange classTimesSpec)) classTimesCard

/-- THE TIED CARD OF 'cayleylaw.ClassSums'. -/
def classSumsCard : Claim7 := { stood := { row := classSumsRow, standIns := [], harness := (true, "8208238710b2cce59c44d1d5dffeec0b7b0a17b96f5b93ae20216952c5a2ec8c"), looks := false }, kinds := [], alts := [], laidByText := true, laidKinds := [.data], laidTests := true, laidLooks := .later }
def ClassSumsCardSaid : Prop := Claim7.holds Tryd.pinned (.plain (OpenSpec.ofChange classSumsSpec)) classSumsCard

/-- THE TIED CARD OF 'cayleylaw.ClassPowers'. -/
def classPowersCard : Claim7 := { stood := { row := classPowersRow, standIns := [], harness := (true, "8208238710b2cce59c44d1d5dffeec0b7b0a17b96f5b93ae20216952c5a2ec8c"), looks := false }, kinds := [], alts := [], laidByText := true, laidKinds := [.data], laidTests := true, laidLooks := .later }
def ClassPowersCardSaid : Prop := Claim7.holds Tryd.pinned (.plain (OpenSpec.ofChange classPowersSpec)) classPowersCard

/-- THE TIED CARD OF 'cayleylaw.ClassAll'. -/
def classAllCard : Claim7 := { stood := { row := classAllRow, standIns := [], harness := (true, "8208238710b2cce59c44d1d5dffeec0b7b0a17b96f5b93ae20216952c5a2ec8c"), looks := false }, kinds := [], alts := [], laidByText := true, laidKinds := [.data], laidTests := true, laidLooks := .later }
def ClassAllCardSaid : Prop := Claim7.holds Tryd.pinned (.plain (OpenSpec.ofChange classAllSpec)) classAllCard

/-- THE TIED CARD OF 'cayleylaw.ClassCentres'. -/
def classCentresCard : Claim7 := { stood := { row := classCentresRow, standIns := [], harness := (true, "8208238710b2cce59c44d1d5dffeec0b7b0a17b96f5b93ae20216952c5a2ec8c"), looks := false }, kinds := [], alts := [], laidByText := true, laidKinds := [.data], laidTests := true, laidLooks := .later }
def ClassCentresCardSaid : Prop := Claim7.holds Tryd.pinned (.plain (OpenSpec.ofChange classCentresSpec)) classCentresCard

/-- THE TIED CARD OF 'cayleylaw.SubDedekind'. -/
def subDedekindCard : Claim7 := { stood := { row := subDedekindRow, standIns := [], harness := (true, "8208238710b2cce59c44d1d5dffeec0b7b0a17b96f5b93ae20216952c5a2ec8c"), looks := false }, kinds := [], alts := [], laidByText := true, laidKinds := [.data], laidTests := true, laidLooks := .later }
def SubDedekindCardSaid : Prop := Claim7.holds Tryd.pinned (.plain (OpenSpec.ofChange subDedekindSpec)) subDedekindCard

/-- THE TIED CARD OF 'cayleylaw.SubMakes'. -/
def subMakesCard : Claim7 := { stood := { row := subMakesRow, standIns := [], harness := (true, "8208238710b2cce59c44d1d5dffeec0b7b0a17b96f5b93ae20216952c5a2ec8c"), looks := false }, kinds := [], alts := [], laidByText := true, laidKinds := [.data], laidTests := true, laidLooks := .later }
def SubMakesCardSaid : Prop := Claim7.holds Tryd.pinned (.plain (OpenSpec.ofChange subMakesSpec)) subMakesCard

/-- THE TIED CARD OF 'cayleylaw.SubProducts'. -/
def subProductsCard : Claim7 := { stood := { row := subProductsRow, standIns := [], harness := (true, "8208238710b2cce59c44d1d5dffeec0b7b0a17b96f5b93ae20216952c5a2ec8c"), looks := false }, kinds := [], alts := [], laidByText := true, laidKinds := [.data], laidTests := true, laidLooks := .later }
def SubProductsCardSaid : Prop := Claim7.holds Tryd.pinned (.plain (OpenSpec.ofChange subProductsSpec)) subProductsCard

/-- THE TIED CARD OF 'cayleylaw.SubCentres'. -/
def subCentresCard : Claim7 := { stood := { row := subCentresRow, standIns := [], harness := (true, "8208238710b2cce59c44d1d5dffeec0b7b0a17b96f5b93ae20216952c5a2ec8c"), looks := false }, kinds := [], alts := [], laidByText := true, laidKinds := [.data], laidTests := true, laidLooks := .later }
def SubCentresCardSaid : Prop := Claim7.holds Tryd.pinned (.plain (OpenSpec.ofChange subCentresSpec)) subCentresCard

/-- THE TIED CARD OF 'cayleylaw.SubAbelian'. -/
def subAbelianCard : Claim7 := { stood := { row := subAbelianRow, standIns := [], harness := (true, "8208238710b2cce59c44d1d5dffeec0b7b0a17b96f5b93ae20216952c5a2ec8c"), looks := false }, kinds := [], alts := [], laidByText := true, laidKinds := [.data], laidTests := true, laidLooks := .later }
def SubAbelianCardSaid : Prop := Claim7.holds Tryd.pinned (.plain (OpenSpec.ofChange subAbelianSpec)) subAbelianCard

/-- THE SECOND FORM's CARD OF 'cayleylaw.ClassTimes'. -/
def classTimesUptoCard : Claim7 := { stood := { row := classTimesUptoRow, standIns := [], harness := (true, "8208238710b2cce59c44d1d5dffeec0b7b0a17b96f5b93ae20216952c5a2ec8c"), looks := false }, kinds := [], alts := [], laidByText := true, laidKinds := [.data], laidTests := true, laidLooks := .later }
def ClassTimesUptoCardSaid : Prop := Claim7.holds Tryd.pinned (.plain (OpenSpec.upto classTimesSpec)) classTimesUptoCard

/-- THE SECOND FORM's CARD OF 'cayleylaw.ClassSums'. -/
def classSumsUptoCard : Claim7 := { stood := { row := classSumsUptoRow, standIns := [], harness := (true, "8208238710b2cce59c44d1d5dffeec0b7b0a17b96f5b93ae20216952c5a2ec8c"), looks := false }, kinds := [], alts := [], laidByText := true, laidKinds := [.data], laidTests := true, laidLooks := .later }
def ClassSumsUptoCardSaid : Prop := Claim7.holds Tryd.pinned (.plain (OpenSpec.upto classSumsSpec)) classSumsUptoCard

/-- THE SECOND FORM's CARD OF 'cayleylaw.ClassPowers'. -/
def classPowersUptoCard : Claim7 := { stood := { row := classPowersUptoRow, standIns := [], harness := (true, "8208238710b2cce59c44d1d5dffeec0b7b0a17b96f5b93ae20216952c5a2ec8c"), looks := false }, kinds := [], alts := [], laidByText := true, laidKinds := [.data], laidTests := true, laidLooks := .later }
def ClassPowersUptoCardSaid : Prop := Claim7.holds Tryd.pinned (.plain (OpenSpec.upto classPowersSpec)) classPowersUptoCard

/-- THE SECOND FORM's CARD OF 'cayleylaw.ClassAll'. -/
def classAllUptoCard : Claim7 := { stood := { row := classAllUptoRow, standIns := [], harness := (true, "8208238710b2cce59c44d1d5dffeec0b7b0a17b96f5b93ae20216952c5a2ec8c"), looks := false }, kinds := [], alts := [], laidByText := true, laidKinds := [.data], laidTests := true, laidLooks := .later }
def ClassAllUptoCardSaid : Prop := Claim7.holds Tryd.pinned (.plain (OpenSpec.upto classAllSpec)) classAllUptoCard

/-- THE SECOND FORM's CARD OF 'cayleylaw.ClassCentres'. -/
def classCentresUptoCard : Claim7 := { stood := { row := classCentresUptoRow, standIns := [], harness := (true, "8208238710b2cce59c44d1d5dffeec0b7b0a17b96f5b93ae20216952c5a2ec8c"), looks := false }, kinds := [], alts := [], laidByText := true, laidKinds := [.data], laidTests := true, laidLooks := .later }
def ClassCentresUptoCardSaid : Prop := Claim7.holds Tryd.pinned (.plain (OpenSpec.upto classCentresSpec)) classCentresUptoCard

/-- THE SECOND FORM's CARD OF 'cayleylaw.SubDedekind'. -/
def subDedekindUptoCard : Claim7 := { stood := { row := subDedekindUptoRow, standIns := [], harness := (true, "8208238710b2cce59c44d1d5dffeec0b7b0a17b96f5b93ae20216952c5a2ec8c"), looks := false }, kinds := [], alts := [], laidByText := true, laidKinds := [.data], laidTests := true, laidLooks := .later }
def SubDedekindUptoCardSaid : Prop := Claim7.holds Tryd.pinned (.plain (OpenSpec.upto subDedekindSpec)) subDedekindUptoCard

/-- THE SECOND FORM's CARD OF 'cayleylaw.SubMakes'. -/
def subMakesUptoCard : Claim7 := { stood := { row := subMakesUptoRow, standIns := [], harness := (true, "8208238710b2cce59c44d1d5dffeec0b7b0a17b96f5b93ae20216952c5a2ec8c"), looks := false }, kinds := [], alts := [], laidByText := true, laidKinds := [.data], laidTests := true, laidLooks := .later }
def SubMakesUptoCardSaid : Prop := Claim7.holds Tryd.pinned (.plain (OpenSpec.upto subMakesSpec)) subMakesUptoCard

/-- THE SECOND FORM's CARD OF 'cayleylaw.SubProducts'. -/
def subProductsUptoCard : Claim7 := { stood := { row := subProductsUptoRow, standIns := [], harness := (true, "8208238710b2cce59c44d1d5dffeec0b7b0a17b96f5b93ae20216952c5a2ec8c"), looks := false }, kinds := [], alts := [], laidByText := true, laidKinds := [.data], laidTests := true, laidLooks := .later }
def SubProductsUptoCardSaid : Prop := Claim7.holds Tryd.pinned (.plain (OpenSpec.upto subProductsSpec)) subProductsUptoCard

/-- THE SECOND FORM's CARD OF 'cayleylaw.SubCentres'. -/
def subCentresUptoCard : Claim7 := { stood := { row := subCentresUptoRow, standIns := [], harness := (true, "8208238710b2cce59c44d1d5dffeec0b7b0a17b96f5b93ae20216952c5a2ec8c"), looks := false }, kinds := [], alts := [], laidByText := true, laidKinds := [.data], laidTests := true, laidLooks := .later }
def SubCentresUptoCardSaid : Prop := Claim7.holds Tryd.pinned (.plain (OpenSpec.upto subCentresSpec)) subCentresUptoCard

/-- THE SECOND FORM's CARD OF 'cayleylaw.SubAbelian'. -/
def subAbelianUptoCard : Claim7 := { stood := { row := subAbelianUptoRow, standIns := [], harness := (true, "8208238710b2cce59c44d1d5dffeec0b7b0a17b96f5b93ae20216952c5a2ec8c"), looks := false }, kinds := [], alts := [], laidByText := true, laidKinds := [.data], laidTests := true, laidLooks := .later }
def SubAbelianUptoCardSaid : Prop := Claim7.holds Tryd.pinned (.plain (OpenSpec.upto subAbelianSpec)) subAbelianUptoCard
end Rows
end Go.Proofs.YtllompejbfbabaaDoor
