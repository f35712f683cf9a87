/-
  DERIVED. GIVEN WITH THE SEED: THE CARDS: each row of YthdmioeddgednaaDoorRows.lean that lists a variable, with what it lists TIED to the program's text (the seventh form; the later family's looks); each row that meets fmt, with fmt's text TOLD by the authors' own Lean function (tested against real Go, not proved from fmt's source: count such statements apart). THE CARD IS WHAT COUNTS. Prove the row's statement (the work); the ties are given (YthdmioeddgednaaDoorTie.lean); close each card by the builder's one call (the guide's Derived/Test/ToyasCard.lean, 'card_holds'). Laid BY PROGRAM, IN A SANDBOX (cutbox-door.mjs). By AI agents, Wed Nov 11 2026. No macro, syntax, notation, axiom, sorry.
-/
import Derived.Test.YthdmioeddgednaaDoorRows
import GoSem.ClaimSeven
namespace Go.Proofs.YthdmioeddgednaaDoor
namespace Rows

/-- THE TIED CARD OF 'cayleylaw.ClassQuotients'. -/
def classQuotientsCard : Claim7 := { stood := { row := classQuotientsRow, standIns := [], harness := (true, "0169076f809328673806f28dc6cd5ebe6c81dd3141e129672d2fdf5b8d6a7b50"), looks := false }, kinds := [], alts := [], laidByText := true, laidKinds := [.data], laidTests := true, laidLooks := .later }
def ClassQuotientsCardSaid : Prop := Claim7.holds Tryd.pinned (.plain (OpenSpec.ofChange classQuotientsSpec)) classQuotientsCard

/-- THE TIED CARD OF 'cayleylaw.QuotSimple'. -/
def quotSimpleCard : Claim7 := { stood := { row := quotSimpleRow, standIns := [], harness := (true, "0169076f809328673806f28dc6cd5ebe6c81dd3141e129672d2fdf5b8d6a7b50"), looks := false }, kinds := [], alts := [], laidByText := true, laidKinds := [.data], laidTests := true, laidLooks := .later }
def QuotSimpleCardSaid : Prop := Claim7.holds Tryd.pinned (.plain (OpenSpec.ofChange quotSimpleSpec)) quotSimpleCard

/-- THE TIED CARD OF 'cayleylaw.SeriesGrow'. -/
def seriesGrowCard : Claim7 := { stood := { row := seriesGrowRow, standIns := [], harness := (true, "0169076f809328673806f28dc6cd5ebe6c81dd3141e129672d2fdf5b8d6a7b50"), looks := false }, kinds := [], alts := [], laidByText := true, laidKinds := [.data], laidTests := true, laidLooks := .later }
def SeriesGrowCardSaid : Prop := Claim7.holds Tryd.pinned (.plain (OpenSpec.ofChange seriesGrowSpec)) seriesGrowCard

/-- THE TIED CARD OF 'cayleylaw.SeriesComposes'. -/
def seriesComposesCard : Claim7 := { stood := { row := seriesComposesRow, standIns := [], harness := (true, "0169076f809328673806f28dc6cd5ebe6c81dd3141e129672d2fdf5b8d6a7b50"), looks := false }, kinds := [], alts := [], laidByText := true, laidKinds := [.data], laidTests := true, laidLooks := .later }
def SeriesComposesCardSaid : Prop := Claim7.holds Tryd.pinned (.plain (OpenSpec.ofChange seriesComposesSpec)) seriesComposesCard

/-- THE TIED CARD OF 'cayleylaw.ProdDirect'. -/
def prodDirectCard : Claim7 := { stood := { row := prodDirectRow, standIns := [], harness := (true, "0169076f809328673806f28dc6cd5ebe6c81dd3141e129672d2fdf5b8d6a7b50"), looks := false }, kinds := [], alts := [], laidByText := true, laidKinds := [.data], laidTests := true, laidLooks := .later }
def ProdDirectCardSaid : Prop := Claim7.holds Tryd.pinned (.plain (OpenSpec.ofChange prodDirectSpec)) prodDirectCard

/-- THE TIED CARD OF 'cayleylaw.ProdPairs'. -/
def prodPairsCard : Claim7 := { stood := { row := prodPairsRow, standIns := [], harness := (true, "0169076f809328673806f28dc6cd5ebe6c81dd3141e129672d2fdf5b8d6a7b50"), looks := false }, kinds := [], alts := [], laidByText := true, laidKinds := [.data], laidTests := true, laidLooks := .later }
def ProdPairsCardSaid : Prop := Claim7.holds Tryd.pinned (.plain (OpenSpec.ofChange prodPairsSpec)) prodPairsCard

/-- THE TIED CARD OF 'cayleylaw.ClassTimes'. -/
def classTimesCard : Claim7 := { stood := { row := classTimesRow, standIns := [], harness := (true, "0169076f809328673806f28dc6cd5ebe6c81dd3141e129672d2fdf5b8d6a7b50"), looks := false }, kinds := [], alts := [], laidByText := true, laidKinds := [.data], laidTests := true, laidLooks := .later }
def ClassTimesCardSaid : Prop := Claim7.holds Tryd.pinned (.plain (OpenSpec.ofChange classTimesSpec)) classTimesCard

/-- THE TIED CARD OF 'cayleylaw.ClassSums'. -/
def classSumsCard : Claim7 := { stood := { row := classSumsRow, standIns := [], harness := (true, "0169076f809328673806f28dc6cd5ebe6c81dd3141e129672d2fdf5b8d6a7b50"), looks := false }, kinds := [], alts := [], laidByText := true, laidKinds := [.data], laidTests := true, laidLooks := .later }
def ClassSumsCardSaid : Prop := Claim7.holds Tryd.pinned (.plain (OpenSpec.ofChange classSumsSpec)) classSumsCard

/-- THE SECOND FORM's CARD OF 'cayleylaw.ClassQuotients'. -/
def classQuotientsUptoCard : Claim7 := { stood := { row := classQuotientsUptoRow, standIns := [], harness := (true, "0169076f809328673806f28dc6cd5ebe6c81dd3141e129672d2fdf5b8d6a7b50"), looks := false }, kinds := [], alts := [], laidByText := true, laidKinds := [.data], laidTests := true, laidLooks := .later }
def ClassQuotientsUptoCardSaid : Prop := Claim7.holds Tryd.pinned (.plain (OpenSpec.upto classQuotientsSpec)) classQuotientsUptoCard

/-- THE SECOND FORM's CARD OF 'cayleylaw.QuotSimple'. -/
def quotSimpleUptoCard : Claim7 := { stood := { row := quotSimpleUptoRow, standIns := [], harness := (true, "0169076f809328673806f28dc6cd5ebe6c81dd3141e129672d2fdf5b8d6a7b50"), looks := false }, kinds := [], alts := [], laidByText := true, laidKinds := [.data], laidTests := true, laidLooks := .later }
def QuotSimpleUptoCardSaid : Prop := Claim7.holds Tryd.pinned (.plain (OpenSpec.upto quotSimpleSpec)) quotSimpleUptoCard

/-- THE SECOND FORM's CARD OF 'cayleylaw.SeriesGrow'. -/
def seriesGrowUptoCard : Claim7 := { stood := { row := seriesGrowUptoRow, standIns := [], harness := (true, "0169076f809328673806f28dc6cd5ebe6c81dd3141e129672d2fdf5b8d6a7b50"), looks := false }, kinds := [], alts := [], laidByText := true, laidKinds := [.data], laidTests := true, laidLooks := .later }
def SeriesGrowUptoCardSaid : Prop := Claim7.holds Tryd.pinned (.plain (OpenSpec.upto seriesGrowSpec)) seriesGrowUptoCard

/-- THE SECOND FORM's CARD OF 'cayleylaw.SeriesComposes'. -/
def seriesComposesUptoCard : Claim7 := { stood := { row := seriesComposesUptoRow, standIns := [], harness := (true, "0169076f809328673806f28dc6cd5ebe6c81dd3141e129672d2fdf5b8d6a7b50"), looks := false }, kinds := [], alts := [], laidByText := true, laidKinds := [.data], laidTests := true, laidLooks := .later }
def SeriesComposesUptoCardSaid : Prop := Claim7.holds Tryd.pinned (.plain (OpenSpec.upto seriesComposesSpec)) seriesComposesUptoCard

/-- THE SECOND FORM's CARD OF 'cayleylaw.ProdDirect'. -/
def prodDirectUptoCard : Claim7 := { stood := { row := prodDirectUptoRow, standIns := [], harness := (true, "0169076f809328673806f28dc6cd5ebe6c81dd3141e129672d2fdf5b8d6a7b50"), looks := false }, kinds := [], alts := [], laidByText := true, laidKinds := [.data], laidTests := true, laidLooks := .later }
def ProdDirectUptoCardSaid : Prop := Claim7.holds Tryd.pinned (.plain (OpenSpec.upto prodDirectSpec)) prodDirectUptoCard

/-- THE SECOND FORM's CARD OF 'cayleylaw.ProdPairs'. -/
def prodPairsUptoCard : Claim7 := { stood := { row := prodPairsUptoRow, standIns := [], harness := (true, "0169076f809328673806f28dc6cd5ebe6c81dd3141e129672d2fdf5b8d6a7b50"), looks := false }, kinds := [], alts := [], laidByText := true, laidKinds := [.data], laidTests := true, laidLooks := .later }
def ProdPairsUptoCardSaid : Prop := Claim7.holds Tryd.pinned (.plain (OpenSpec.upto prodPairsSpec)) prodPairsUptoCard

/-- THE SECOND FORM's CARD OF 'cayleylaw.ClassTimes'. -/
def classTimesUptoCard : Claim7 := { stood := { row := classTimesUptoRow, standIns := [], harness := (true, "0169076f809328673806f28dc6cd5ebe6c81dd3141e129672d2fdf5b8d6a7b50"), looks := false }, kinds := [], alts := [], laidByText := true, laidKinds := [.data], laidTests := true, laidLooks := .later }
def ClassTimesUptoCardSaid : Prop := Claim7.holds Tryd.pinned (.plain (OpenSpec.upto classTimesSpec)) classTimesUptoCard

/-- THE SECOND FORM's CARD OF 'cayleylaw.ClassSums'. -/
def classSumsUptoCard : Claim7 := { stood := { row := classSumsUptoRow, standIns := [], harness := (true, "0169076f809328673806f28dc6cd5ebe6c81dd3141e129672d2fdf5b8d6a7b50"), looks := false }, kinds := [], alts := [], laidByText := true, laidKinds := [.data], laidTests := true, laidLooks := .later }
def ClassSumsUptoCardSaid : Prop := Claim7.holds Tryd.pinned (.plain (OpenSpec.upto classSumsSpec)) classSumsUptoCard
end Rows
end Go.Proofs.YthdmioeddgednaaDoor
