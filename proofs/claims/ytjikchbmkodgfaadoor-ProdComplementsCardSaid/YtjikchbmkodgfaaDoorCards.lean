/-
  DERIVED. GIVEN WITH THE SEED: THE CARDS: each row of YtjikchbmkodgfaaDoorRows.lean that lists a variable, with what it lists TIED to the program's text (the seventh form; the later family's looks); each row that meets fmt, with fmt's text TOLD by the authors' own Lean function (tested against real Go, not proved from fmt's source: count such statements apart). THE CARD IS WHAT COUNTS. Prove the row's statement (the work); the ties are given (YtjikchbmkodgfaaDoorTie.lean); close each card by the builder's one call (the guide's Derived/Test/ToyasCard.lean, 'card_holds'). Laid BY PROGRAM, IN A SANDBOX (cutbox-door.mjs). By AI agents, Wed Nov 11 2026. No macro, syntax, notation, axiom, sorry.
-/
import Derived.Test.YtjikchbmkodgfaaDoorRows
import GoSem.ClaimSeven
namespace Go.Proofs.YtjikchbmkodgfaaDoor
namespace Rows

/-- THE TIED CARD OF 'cayleylaw.SubAll'. -/
def subAllCard : Claim7 := { stood := { row := subAllRow, standIns := [], harness := (true, "81a54937270481ac7f38125acbff33bec85cad9d8ee5333fa47249cea5622916"), looks := false }, kinds := [], alts := [], laidByText := true, laidKinds := [.data], laidTests := true, laidLooks := .later }
def SubAllCardSaid : Prop := Claim7.holds Tryd.pinned (.plain (OpenSpec.ofChange subAllSpec)) subAllCard

/-- THE TIED CARD OF 'cayleylaw.SubMeets'. -/
def subMeetsCard : Claim7 := { stood := { row := subMeetsRow, standIns := [], harness := (true, "81a54937270481ac7f38125acbff33bec85cad9d8ee5333fa47249cea5622916"), looks := false }, kinds := [], alts := [], laidByText := true, laidKinds := [.data], laidTests := true, laidLooks := .later }
def SubMeetsCardSaid : Prop := Claim7.holds Tryd.pinned (.plain (OpenSpec.ofChange subMeetsSpec)) subMeetsCard

/-- THE TIED CARD OF 'cayleylaw.SubNeedless'. -/
def subNeedlessCard : Claim7 := { stood := { row := subNeedlessRow, standIns := [], harness := (true, "81a54937270481ac7f38125acbff33bec85cad9d8ee5333fa47249cea5622916"), looks := false }, kinds := [], alts := [], laidByText := true, laidKinds := [.data], laidTests := true, laidLooks := .later }
def SubNeedlessCardSaid : Prop := Claim7.holds Tryd.pinned (.plain (OpenSpec.ofChange subNeedlessSpec)) subNeedlessCard

/-- THE TIED CARD OF 'cayleylaw.ProdComplements'. -/
def prodComplementsCard : Claim7 := { stood := { row := prodComplementsRow, standIns := [], harness := (true, "81a54937270481ac7f38125acbff33bec85cad9d8ee5333fa47249cea5622916"), looks := false }, kinds := [], alts := [], laidByText := true, laidKinds := [.data], laidTests := true, laidLooks := .later }
def ProdComplementsCardSaid : Prop := Claim7.holds Tryd.pinned (.plain (OpenSpec.ofChange prodComplementsSpec)) prodComplementsCard

/-- THE TIED CARD OF 'cayleylaw.SylowCauchy'. -/
def sylowCauchyCard : Claim7 := { stood := { row := sylowCauchyRow, standIns := [], harness := (true, "81a54937270481ac7f38125acbff33bec85cad9d8ee5333fa47249cea5622916"), looks := false }, kinds := [], alts := [], laidByText := true, laidKinds := [.data], laidTests := true, laidLooks := .later }
def SylowCauchyCardSaid : Prop := Claim7.holds Tryd.pinned (.plain (OpenSpec.ofChange sylowCauchySpec)) sylowCauchyCard

/-- THE TIED CARD OF 'cayleylaw.SylowPowers'. -/
def sylowPowersCard : Claim7 := { stood := { row := sylowPowersRow, standIns := [], harness := (true, "81a54937270481ac7f38125acbff33bec85cad9d8ee5333fa47249cea5622916"), looks := false }, kinds := [], alts := [], laidByText := true, laidKinds := [.data], laidTests := true, laidLooks := .later }
def SylowPowersCardSaid : Prop := Claim7.holds Tryd.pinned (.plain (OpenSpec.ofChange sylowPowersSpec)) sylowPowersCard

/-- THE TIED CARD OF 'cayleylaw.SylowAll'. -/
def sylowAllCard : Claim7 := { stood := { row := sylowAllRow, standIns := [], harness := (true, "81a54937270481ac7f38125acbff33bec85cad9d8ee5333fa47249cea5622916"), looks := false }, kinds := [], alts := [], laidByText := true, laidKinds := [.data], laidTests := true, laidLooks := .later }
def SylowAllCardSaid : Prop := Claim7.holds Tryd.pinned (.plain (OpenSpec.ofChange sylowAllSpec)) sylowAllCard

/-- THE TIED CARD OF 'cayleylaw.SylowHolds'. -/
def sylowHoldsCard : Claim7 := { stood := { row := sylowHoldsRow, standIns := [], harness := (true, "81a54937270481ac7f38125acbff33bec85cad9d8ee5333fa47249cea5622916"), looks := false }, kinds := [], alts := [], laidByText := true, laidKinds := [.data], laidTests := true, laidLooks := .later }
def SylowHoldsCardSaid : Prop := Claim7.holds Tryd.pinned (.plain (OpenSpec.ofChange sylowHoldsSpec)) sylowHoldsCard

/-- THE TIED CARD OF 'cayleylaw.SylowQuotients'. -/
def sylowQuotientsCard : Claim7 := { stood := { row := sylowQuotientsRow, standIns := [], harness := (true, "81a54937270481ac7f38125acbff33bec85cad9d8ee5333fa47249cea5622916"), looks := false }, kinds := [], alts := [], laidByText := true, laidKinds := [.data], laidTests := true, laidLooks := .later }
def SylowQuotientsCardSaid : Prop := Claim7.holds Tryd.pinned (.plain (OpenSpec.ofChange sylowQuotientsSpec)) sylowQuotientsCard

/-- THE TIED CARD OF 'cayleylaw.SylowFrattini'. -/
def sylowFrattiniCard : Claim7 := { stood := { row := sylowFrattiniRow, standIns := [], harness := (true, "81a54937270481ac7f38125acbff33bec85cad9d8ee5333fa47249cea5622916"), looks := false }, kinds := [], alts := [], laidByText := true, laidKinds := [.data], laidTests := true, laidLooks := .later }
def SylowFrattiniCardSaid : Prop := Claim7.holds Tryd.pinned (.plain (OpenSpec.ofChange sylowFrattiniSpec)) sylowFrattiniCard

/-- THE TIED CARD OF 'cayleylaw.SeriesNilpotent'. -/
def seriesNilpotentCard : Claim7 := { stood := { row := seriesNilpotentRow, standIns := [], harness := (true, "81a54937270481ac7f38125acbff33bec85cad9d8ee5333fa47249cea5622916"), looks := false }, kinds := [], alts := [], laidByText := true, laidKinds := [.data], laidTests := true, laidLooks := .later }
def SeriesNilpotentCardSaid : Prop := Claim7.holds Tryd.pinned (.plain (OpenSpec.ofChange seriesNilpotentSpec)) seriesNilpotentCard

/-- THE SECOND FORM's CARD OF 'cayleylaw.SubAll'. -/
def subAllUptoCard : Claim7 := { stood := { row := subAllUptoRow, standIns := [], harness := (true, "81a54937270481ac7f38125acbff33bec85cad9d8ee5333fa47249cea5622916"), looks := false }, kinds := [], alts := [], laidByText := true, laidKinds := [.data], laidTests := true, laidLooks := .later }
def SubAllUptoCardSaid : Prop := Claim7.holds Tryd.pinned (.plain (OpenSpec.upto subAllSpec)) subAllUptoCard

/-- THE SECOND FORM's CARD OF 'cayleylaw.SubMeets'. -/
def subMeetsUptoCard : Claim7 := { stood := { row := subMeetsUptoRow, standIns := [], harness := (true, "81a54937270481ac7f38125acbff33bec85cad9d8ee5333fa47249cea5622916"), looks := false }, kinds := [], alts := [], laidByText := true, laidKinds := [.data], laidTests := true, laidLooks := .later }
def SubMeetsUptoCardSaid : Prop := Claim7.holds Tryd.pinned (.plain (OpenSpec.upto subMeetsSpec)) subMeetsUptoCard

/-- THE SECOND FORM's CARD OF 'cayleylaw.SubNeedless'. -/
def subNeedlessUptoCard : Claim7 := { stood := { row := subNeedlessUptoRow, standIns := [], harness := (true, "81a54937270481ac7f38125acbff33bec85cad9d8ee5333fa47249cea5622916"), looks := false }, kinds := [], alts := [], laidByText := true, laidKinds := [.data], laidTests := true, laidLooks := .later }
def SubNeedlessUptoCardSaid : Prop := Claim7.holds Tryd.pinned (.plain (OpenSpec.upto subNeedlessSpec)) subNeedlessUptoCard

/-- THE SECOND FORM's CARD OF 'cayleylaw.ProdComplements'. -/
def prodComplementsUptoCard : Claim7 := { stood := { row := prodComplementsUptoRow, standIns := [], harness := (true, "81a54937270481ac7f38125acbff33bec85cad9d8ee5333fa47249cea5622916"), looks := false }, kinds := [], alts := [], laidByText := true, laidKinds := [.data], laidTests := true, laidLooks := .later }
def ProdComplementsUptoCardSaid : Prop := Claim7.holds Tryd.pinned (.plain (OpenSpec.upto prodComplementsSpec)) prodComplementsUptoCard

/-- THE SECOND FORM's CARD OF 'cayleylaw.SylowCauchy'. -/
def sylowCauchyUptoCard : Claim7 := { stood := { row := sylowCauchyUptoRow, standIns := [], harness := (true, "81a54937270481ac7f38125acbff33bec85cad9d8ee5333fa47249cea5622916"), looks := false }, kinds := [], alts := [], laidByText := true, laidKinds := [.data], laidTests := true, laidLooks := .later }
def SylowCauchyUptoCardSaid : Prop := Claim7.holds Tryd.pinned (.plain (OpenSpec.upto sylowCauchySpec)) sylowCauchyUptoCard

/-- THE SECOND FORM's CARD OF 'cayleylaw.SylowPowers'. -/
def sylowPowersUptoCard : Claim7 := { stood := { row := sylowPowersUptoRow, standIns := [], harness := (true, "81a54937270481ac7f38125acbff33bec85cad9d8ee5333fa47249cea5622916"), looks := false }, kinds := [], alts := [], laidByText := true, laidKinds := [.data], laidTests := true, laidLooks := .later }
def SylowPowersUptoCardSaid : Prop := Claim7.holds Tryd.pinned (.plain (OpenSpec.upto sylowPowersSpec)) sylowPowersUptoCard

/-- THE SECOND FORM's CARD OF 'cayleylaw.SylowAll'. -/
def sylowAllUptoCard : Claim7 := { stood := { row := sylowAllUptoRow, standIns := [], harness := (true, "81a54937270481ac7f38125acbff33bec85cad9d8ee5333fa47249cea5622916"), looks := false }, kinds := [], alts := [], laidByText := true, laidKinds := [.data], laidTests := true, laidLooks := .later }
def SylowAllUptoCardSaid : Prop := Claim7.holds Tryd.pinned (.plain (OpenSpec.upto sylowAllSpec)) sylowAllUptoCard

/-- THE SECOND FORM's CARD OF 'cayleylaw.SylowHolds'. -/
def sylowHoldsUptoCard : Claim7 := { stood := { row := sylowHoldsUptoRow, standIns := [], harness := (true, "81a54937270481ac7f38125acbff33bec85cad9d8ee5333fa47249cea5622916"), looks := false }, kinds := [], alts := [], laidByText := true, laidKinds := [.data], laidTests := true, laidLooks := .later }
def SylowHoldsUptoCardSaid : Prop := Claim7.holds Tryd.pinned (.plain (OpenSpec.upto sylowHoldsSpec)) sylowHoldsUptoCard

/-- THE SECOND FORM's CARD OF 'cayleylaw.SylowQuotients'. -/
def sylowQuotientsUptoCard : Claim7 := { stood := { row := sylowQuotientsUptoRow, standIns := [], harness := (true, "81a54937270481ac7f38125acbff33bec85cad9d8ee5333fa47249cea5622916"), looks := false }, kinds := [], alts := [], laidByText := true, laidKinds := [.data], laidTests := true, laidLooks := .later }
def SylowQuotientsUptoCardSaid : Prop := Claim7.holds Tryd.pinned (.plain (OpenSpec.upto sylowQuotientsSpec)) sylowQuotientsUptoCard

/-- THE SECOND FORM's CARD OF 'cayleylaw.SylowFrattini'. -/
def sylowFrattiniUptoCard : Claim7 := { stood := { row := sylowFrattiniUptoRow, standIns := [], harness := (true, "81a54937270481ac7f38125acbff33bec85cad9d8ee5333fa47249cea5622916"), looks := false }, kinds := [], alts := [], laidByText := true, laidKinds := [.data], laidTests := true, laidLooks := .later }
def SylowFrattiniUptoCardSaid : Prop := Claim7.holds Tryd.pinned (.plain (OpenSpec.upto sylowFrattiniSpec)) sylowFrattiniUptoCard

/-- THE SECOND FORM's CARD OF 'cayleylaw.SeriesNilpotent'. -/
def seriesNilpotentUptoCard : Claim7 := { stood := { row := seriesNilpotentUptoRow, standIns := [], harness := (true, "81a54937270481ac7f38125acbff33bec85cad9d8ee5333fa47249cea5622916"), looks := false }, kinds := [], alts := [], laidByText := true, laidKinds := [.data], laidTests := true, laidLooks := .later }
def SeriesNilpotentUptoCardSaid : Prop := Claim7.holds Tryd.pinned (.plain (OpenSpec.upto seriesNilpotentSpec)) seriesNilpotentUptoCard
end Rows
end Go.Proofs.YtjikchbmkodgfaaDoor
