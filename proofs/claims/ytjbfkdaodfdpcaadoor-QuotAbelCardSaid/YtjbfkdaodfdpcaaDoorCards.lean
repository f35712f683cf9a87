/-
  DERIVED. GIVEN WITH THE SEED: THE CARDS: each row of YtjbfkdaodfdpcaaDoorRows.lean that lists a variable, with what it lists TIED to the program's text (the seventh form; the later family's looks); each row that meets fmt, with fmt's text TOLD by the authors' own Lean function (tested against real Go, not proved from fmt's source: count such statements apart). THE CARD IS WHAT COUNTS. Prove the row's statement (the work); the ties are given (YtjbfkdaodfdpcaaDoorTie.lean); close each card by the builder's one call (the guide's Derived/Test/ToyasCard.lean, 'card_holds'). Laid BY PROGRAM, IN A SANDBOX (cutbox-door.mjs). By AI agents, Wed Nov 11 2026. No macro, syntax, notation, axiom, sorry.
-/
import Derived.Test.YtjbfkdaodfdpcaaDoorRows
import GoSem.ClaimSeven
namespace Go.Proofs.YtjbfkdaodfdpcaaDoor
namespace Rows

/-- THE TIED CARD OF 'cayleylaw.SeriesFactors'. -/
def seriesFactorsCard : Claim7 := { stood := { row := seriesFactorsRow, standIns := [], harness := (true, "3027dc6e92e3a05eebe32ca49663b2fc21e6409bf56eaa5ece77cd81e1416b93"), looks := false }, kinds := [], alts := [], laidByText := true, laidKinds := [.data], laidTests := true, laidLooks := .later }
def SeriesFactorsCardSaid : Prop := Claim7.holds Tryd.pinned (.plain (OpenSpec.ofChange seriesFactorsSpec)) seriesFactorsCard

/-- THE TIED CARD OF 'cayleylaw.SeriesJordan'. -/
def seriesJordanCard : Claim7 := { stood := { row := seriesJordanRow, standIns := [], harness := (true, "3027dc6e92e3a05eebe32ca49663b2fc21e6409bf56eaa5ece77cd81e1416b93"), looks := false }, kinds := [], alts := [], laidByText := true, laidKinds := [.data], laidTests := true, laidLooks := .later }
def SeriesJordanCardSaid : Prop := Claim7.holds Tryd.pinned (.plain (OpenSpec.ofChange seriesJordanSpec)) seriesJordanCard

/-- THE TIED CARD OF 'cayleylaw.SeriesSolvable'. -/
def seriesSolvableCard : Claim7 := { stood := { row := seriesSolvableRow, standIns := [], harness := (true, "3027dc6e92e3a05eebe32ca49663b2fc21e6409bf56eaa5ece77cd81e1416b93"), looks := false }, kinds := [], alts := [], laidByText := true, laidKinds := [.data], laidTests := true, laidLooks := .later }
def SeriesSolvableCardSaid : Prop := Claim7.holds Tryd.pinned (.plain (OpenSpec.ofChange seriesSolvableSpec)) seriesSolvableCard

/-- THE TIED CARD OF 'cayleylaw.ExtSplits'. -/
def extSplitsCard : Claim7 := { stood := { row := extSplitsRow, standIns := [], harness := (true, "3027dc6e92e3a05eebe32ca49663b2fc21e6409bf56eaa5ece77cd81e1416b93"), looks := false }, kinds := [], alts := [], laidByText := true, laidKinds := [.data], laidTests := true, laidLooks := .later }
def ExtSplitsCardSaid : Prop := Claim7.holds Tryd.pinned (.plain (OpenSpec.ofChange extSplitsSpec)) extSplitsCard

/-- THE TIED CARD OF 'cayleylaw.QuotAbel'. -/
def quotAbelCard : Claim7 := { stood := { row := quotAbelRow, standIns := [], harness := (true, "3027dc6e92e3a05eebe32ca49663b2fc21e6409bf56eaa5ece77cd81e1416b93"), looks := false }, kinds := [], alts := [], laidByText := true, laidKinds := [.data], laidTests := true, laidLooks := .later }
def QuotAbelCardSaid : Prop := Claim7.holds Tryd.pinned (.plain (OpenSpec.ofChange quotAbelSpec)) quotAbelCard

/-- THE TIED CARD OF 'cayleylaw.HomChecks'. -/
def homChecksCard : Claim7 := { stood := { row := homChecksRow, standIns := [], harness := (true, "3027dc6e92e3a05eebe32ca49663b2fc21e6409bf56eaa5ece77cd81e1416b93"), looks := false }, kinds := [], alts := [], laidByText := true, laidKinds := [.data], laidTests := true, laidLooks := .later }
def HomChecksCardSaid : Prop := Claim7.holds Tryd.pinned (.plain (OpenSpec.ofChange homChecksSpec)) homChecksCard

/-- THE TIED CARD OF 'cayleylaw.HomComposes'. -/
def homComposesCard : Claim7 := { stood := { row := homComposesRow, standIns := [], harness := (true, "3027dc6e92e3a05eebe32ca49663b2fc21e6409bf56eaa5ece77cd81e1416b93"), looks := false }, kinds := [], alts := [], laidByText := true, laidKinds := [.data], laidTests := true, laidLooks := .later }
def HomComposesCardSaid : Prop := Claim7.holds Tryd.pinned (.plain (OpenSpec.ofChange homComposesSpec)) homComposesCard

/-- THE TIED CARD OF 'cayleylaw.HomTheorem'. -/
def homTheoremCard : Claim7 := { stood := { row := homTheoremRow, standIns := [], harness := (true, "3027dc6e92e3a05eebe32ca49663b2fc21e6409bf56eaa5ece77cd81e1416b93"), looks := false }, kinds := [], alts := [], laidByText := true, laidKinds := [.data], laidTests := true, laidLooks := .later }
def HomTheoremCardSaid : Prop := Claim7.holds Tryd.pinned (.plain (OpenSpec.ofChange homTheoremSpec)) homTheoremCard

/-- THE TIED CARD OF 'cayleylaw.HomOrders'. -/
def homOrdersCard : Claim7 := { stood := { row := homOrdersRow, standIns := [], harness := (true, "3027dc6e92e3a05eebe32ca49663b2fc21e6409bf56eaa5ece77cd81e1416b93"), looks := false }, kinds := [], alts := [], laidByText := true, laidKinds := [.data], laidTests := true, laidLooks := .later }
def HomOrdersCardSaid : Prop := Claim7.holds Tryd.pinned (.plain (OpenSpec.ofChange homOrdersSpec)) homOrdersCard

/-- THE TIED CARD OF 'cayleylaw.HomExtends'. -/
def homExtendsCard : Claim7 := { stood := { row := homExtendsRow, standIns := [], harness := (true, "3027dc6e92e3a05eebe32ca49663b2fc21e6409bf56eaa5ece77cd81e1416b93"), looks := false }, kinds := [], alts := [], laidByText := true, laidKinds := [.data], laidTests := true, laidLooks := .later }
def HomExtendsCardSaid : Prop := Claim7.holds Tryd.pinned (.plain (OpenSpec.ofChange homExtendsSpec)) homExtendsCard

/-- THE TIED CARD OF 'cayleylaw.HomAll'. -/
def homAllCard : Claim7 := { stood := { row := homAllRow, standIns := [], harness := (true, "3027dc6e92e3a05eebe32ca49663b2fc21e6409bf56eaa5ece77cd81e1416b93"), looks := false }, kinds := [], alts := [], laidByText := true, laidKinds := [.data], laidTests := true, laidLooks := .later }
def HomAllCardSaid : Prop := Claim7.holds Tryd.pinned (.plain (OpenSpec.ofChange homAllSpec)) homAllCard

/-- THE SECOND FORM's CARD OF 'cayleylaw.SeriesFactors'. -/
def seriesFactorsUptoCard : Claim7 := { stood := { row := seriesFactorsUptoRow, standIns := [], harness := (true, "3027dc6e92e3a05eebe32ca49663b2fc21e6409bf56eaa5ece77cd81e1416b93"), looks := false }, kinds := [], alts := [], laidByText := true, laidKinds := [.data], laidTests := true, laidLooks := .later }
def SeriesFactorsUptoCardSaid : Prop := Claim7.holds Tryd.pinned (.plain (OpenSpec.upto seriesFactorsSpec)) seriesFactorsUptoCard

/-- THE SECOND FORM's CARD OF 'cayleylaw.SeriesJordan'. -/
def seriesJordanUptoCard : Claim7 := { stood := { row := seriesJordanUptoRow, standIns := [], harness := (true, "3027dc6e92e3a05eebe32ca49663b2fc21e6409bf56eaa5ece77cd81e1416b93"), looks := false }, kinds := [], alts := [], laidByText := true, laidKinds := [.data], laidTests := true, laidLooks := .later }
def SeriesJordanUptoCardSaid : Prop := Claim7.holds Tryd.pinned (.plain (OpenSpec.upto seriesJordanSpec)) seriesJordanUptoCard

/-- THE SECOND FORM's CARD OF 'cayleylaw.SeriesSolvable'. -/
def seriesSolvableUptoCard : Claim7 := { stood := { row := seriesSolvableUptoRow, standIns := [], harness := (true, "3027dc6e92e3a05eebe32ca49663b2fc21e6409bf56eaa5ece77cd81e1416b93"), looks := false }, kinds := [], alts := [], laidByText := true, laidKinds := [.data], laidTests := true, laidLooks := .later }
def SeriesSolvableUptoCardSaid : Prop := Claim7.holds Tryd.pinned (.plain (OpenSpec.upto seriesSolvableSpec)) seriesSolvableUptoCard

/-- THE SECOND FORM's CARD OF 'cayleylaw.ExtSplits'. -/
def extSplitsUptoCard : Claim7 := { stood := { row := extSplitsUptoRow, standIns := [], harness := (true, "3027dc6e92e3a05eebe32ca49663b2fc21e6409bf56eaa5ece77cd81e1416b93"), looks := false }, kinds := [], alts := [], laidByText := true, laidKinds := [.data], laidTests := true, laidLooks := .later }
def ExtSplitsUptoCardSaid : Prop := Claim7.holds Tryd.pinned (.plain (OpenSpec.upto extSplitsSpec)) extSplitsUptoCard

/-- THE SECOND FORM's CARD OF 'cayleylaw.QuotAbel'. -/
def quotAbelUptoCard : Claim7 := { stood := { row := quotAbelUptoRow, standIns := [], harness := (true, "3027dc6e92e3a05eebe32ca49663b2fc21e6409bf56eaa5ece77cd81e1416b93"), looks := false }, kinds := [], alts := [], laidByText := true, laidKinds := [.data], laidTests := true, laidLooks := .later }
def QuotAbelUptoCardSaid : Prop := Claim7.holds Tryd.pinned (.plain (OpenSpec.upto quotAbelSpec)) quotAbelUptoCard

/-- THE SECOND FORM's CARD OF 'cayleylaw.HomChecks'. -/
def homChecksUptoCard : Claim7 := { stood := { row := homChecksUptoRow, standIns := [], harness := (true, "3027dc6e92e3a05eebe32ca49663b2fc21e6409bf56eaa5ece77cd81e1416b93"), looks := false }, kinds := [], alts := [], laidByText := true, laidKinds := [.data], laidTests := true, laidLooks := .later }
def HomChecksUptoCardSaid : Prop := Claim7.holds Tryd.pinned (.plain (OpenSpec.upto homChecksSpec)) homChecksUptoCard

/-- THE SECOND FORM's CARD OF 'cayleylaw.HomComposes'. -/
def homComposesUptoCard : Claim7 := { stood := { row := homComposesUptoRow, standIns := [], harness := (true, "3027dc6e92e3a05eebe32ca49663b2fc21e6409bf56eaa5ece77cd81e1416b93"), looks := false }, kinds := [], alts := [], laidByText := true, laidKinds := [.data], laidTests := true, laidLooks := .later }
def HomComposesUptoCardSaid : Prop := Claim7.holds Tryd.pinned (.plain (OpenSpec.upto homComposesSpec)) homComposesUptoCard

/-- THE SECOND FORM's CARD OF 'cayleylaw.HomTheorem'. -/
def homTheoremUptoCard : Claim7 := { stood := { row := homTheoremUptoRow, standIns := [], harness := (true, "3027dc6e92e3a05eebe32ca49663b2fc21e6409bf56eaa5ece77cd81e1416b93"), looks := false }, kinds := [], alts := [], laidByText := true, laidKinds := [.data], laidTests := true, laidLooks := .later }
def HomTheoremUptoCardSaid : Prop := Claim7.holds Tryd.pinned (.plain (OpenSpec.upto homTheoremSpec)) homTheoremUptoCard

/-- THE SECOND FORM's CARD OF 'cayleylaw.HomOrders'. -/
def homOrdersUptoCard : Claim7 := { stood := { row := homOrdersUptoRow, standIns := [], harness := (true, "3027dc6e92e3a05eebe32ca49663b2fc21e6409bf56eaa5ece77cd81e1416b93"), looks := false }, kinds := [], alts := [], laidByText := true, laidKinds := [.data], laidTests := true, laidLooks := .later }
def HomOrdersUptoCardSaid : Prop := Claim7.holds Tryd.pinned (.plain (OpenSpec.upto homOrdersSpec)) homOrdersUptoCard

/-- THE SECOND FORM's CARD OF 'cayleylaw.HomExtends'. -/
def homExtendsUptoCard : Claim7 := { stood := { row := homExtendsUptoRow, standIns := [], harness := (true, "3027dc6e92e3a05eebe32ca49663b2fc21e6409bf56eaa5ece77cd81e1416b93"), looks := false }, kinds := [], alts := [], laidByText := true, laidKinds := [.data], laidTests := true, laidLooks := .later }
def HomExtendsUptoCardSaid : Prop := Claim7.holds Tryd.pinned (.plain (OpenSpec.upto homExtendsSpec)) homExtendsUptoCard

/-- THE SECOND FORM's CARD OF 'cayleylaw.HomAll'. -/
def homAllUptoCard : Claim7 := { stood := { row := homAllUptoRow, standIns := [], harness := (true, "3027dc6e92e3a05eebe32ca49663b2fc21e6409bf56eaa5ece77cd81e1416b93"), looks := false }, kinds := [], alts := [], laidByText := true, laidKinds := [.data], laidTests := true, laidLooks := .later }
def HomAllUptoCardSaid : Prop := Claim7.holds Tryd.pinned (.plain (OpenSpec.upto homAllSpec)) homAllUptoCard
end Rows
end Go.Proofs.YtjbfkdaodfdpcaaDoor
