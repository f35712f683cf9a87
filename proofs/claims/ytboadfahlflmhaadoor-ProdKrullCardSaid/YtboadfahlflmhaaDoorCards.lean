/-
  DERIVED. GIVEN WITH THE SEED: THE CARDS: each row of YtboadfahlflmhaaDoorRows.lean that lists a variable, with what it lists TIED to the program's text (the seventh form; the later family's looks); each row that meets fmt, with fmt's text TOLD by the authors' own Lean function (tested against real Go, not proved from fmt's source: count such statements apart). THE CARD IS WHAT COUNTS. Prove the row's statement (the work); the ties are given (YtboadfahlflmhaaDoorTie.lean); close each card by the builder's one call (the guide's Derived/Test/ToyasCard.lean, 'card_holds'). Laid BY PROGRAM, IN A SANDBOX (cutbox-door.mjs). By AI agents, Wed Nov 11 2026. No macro, syntax, notation, axiom, sorry.
-/
import Derived.Test.YtboadfahlflmhaaDoorRows
import GoSem.ClaimSeven
namespace Go.Proofs.YtboadfahlflmhaaDoor
namespace Rows

/-- THE TIED CARD OF 'cayleylaw.HomAutos'. -/
def homAutosCard : Claim7 := { stood := { row := homAutosRow, standIns := [], harness := (true, "0ca9f24cf61c46a7e97bce64dbc49ef8142456fd312effe50f4764347b1e601c"), looks := false }, kinds := [], alts := [], laidByText := true, laidKinds := [.data], laidTests := true, laidLooks := .later }
def HomAutosCardSaid : Prop := Claim7.holds Tryd.pinned (.plain (OpenSpec.ofChange homAutosSpec)) homAutosCard

/-- THE TIED CARD OF 'cayleylaw.HomIso'. -/
def homIsoCard : Claim7 := { stood := { row := homIsoRow, standIns := [], harness := (true, "0ca9f24cf61c46a7e97bce64dbc49ef8142456fd312effe50f4764347b1e601c"), looks := false }, kinds := [], alts := [], laidByText := true, laidKinds := [.data], laidTests := true, laidLooks := .later }
def HomIsoCardSaid : Prop := Claim7.holds Tryd.pinned (.plain (OpenSpec.ofChange homIsoSpec)) homIsoCard

/-- THE TIED CARD OF 'cayleylaw.HomInner'. -/
def homInnerCard : Claim7 := { stood := { row := homInnerRow, standIns := [], harness := (true, "0ca9f24cf61c46a7e97bce64dbc49ef8142456fd312effe50f4764347b1e601c"), looks := false }, kinds := [], alts := [], laidByText := true, laidKinds := [.data], laidTests := true, laidLooks := .later }
def HomInnerCardSaid : Prop := Claim7.holds Tryd.pinned (.plain (OpenSpec.ofChange homInnerSpec)) homInnerCard

/-- THE TIED CARD OF 'cayleylaw.HomCyclic'. -/
def homCyclicCard : Claim7 := { stood := { row := homCyclicRow, standIns := [], harness := (true, "0ca9f24cf61c46a7e97bce64dbc49ef8142456fd312effe50f4764347b1e601c"), looks := false }, kinds := [], alts := [], laidByText := true, laidKinds := [.data], laidTests := true, laidLooks := .later }
def HomCyclicCardSaid : Prop := Claim7.holds Tryd.pinned (.plain (OpenSpec.ofChange homCyclicSpec)) homCyclicCard

/-- THE TIED CARD OF 'cayleylaw.QuotFirst'. -/
def quotFirstCard : Claim7 := { stood := { row := quotFirstRow, standIns := [], harness := (true, "0ca9f24cf61c46a7e97bce64dbc49ef8142456fd312effe50f4764347b1e601c"), looks := false }, kinds := [], alts := [], laidByText := true, laidKinds := [.data], laidTests := true, laidLooks := .later }
def QuotFirstCardSaid : Prop := Claim7.holds Tryd.pinned (.plain (OpenSpec.ofChange quotFirstSpec)) quotFirstCard

/-- THE TIED CARD OF 'cayleylaw.QuotSecond'. -/
def quotSecondCard : Claim7 := { stood := { row := quotSecondRow, standIns := [], harness := (true, "0ca9f24cf61c46a7e97bce64dbc49ef8142456fd312effe50f4764347b1e601c"), looks := false }, kinds := [], alts := [], laidByText := true, laidKinds := [.data], laidTests := true, laidLooks := .later }
def QuotSecondCardSaid : Prop := Claim7.holds Tryd.pinned (.plain (OpenSpec.ofChange quotSecondSpec)) quotSecondCard

/-- THE TIED CARD OF 'cayleylaw.QuotThird'. -/
def quotThirdCard : Claim7 := { stood := { row := quotThirdRow, standIns := [], harness := (true, "0ca9f24cf61c46a7e97bce64dbc49ef8142456fd312effe50f4764347b1e601c"), looks := false }, kinds := [], alts := [], laidByText := true, laidKinds := [.data], laidTests := true, laidLooks := .later }
def QuotThirdCardSaid : Prop := Claim7.holds Tryd.pinned (.plain (OpenSpec.ofChange quotThirdSpec)) quotThirdCard

/-- THE TIED CARD OF 'cayleylaw.ProdSemiParts'. -/
def prodSemiPartsCard : Claim7 := { stood := { row := prodSemiPartsRow, standIns := [], harness := (true, "0ca9f24cf61c46a7e97bce64dbc49ef8142456fd312effe50f4764347b1e601c"), looks := false }, kinds := [], alts := [], laidByText := true, laidKinds := [.data], laidTests := true, laidLooks := .later }
def ProdSemiPartsCardSaid : Prop := Claim7.holds Tryd.pinned (.plain (OpenSpec.ofChange prodSemiPartsSpec)) prodSemiPartsCard

/-- THE TIED CARD OF 'cayleylaw.ProdSplit'. -/
def prodSplitCard : Claim7 := { stood := { row := prodSplitRow, standIns := [], harness := (true, "0ca9f24cf61c46a7e97bce64dbc49ef8142456fd312effe50f4764347b1e601c"), looks := false }, kinds := [], alts := [], laidByText := true, laidKinds := [.data], laidTests := true, laidLooks := .later }
def ProdSplitCardSaid : Prop := Claim7.holds Tryd.pinned (.plain (OpenSpec.ofChange prodSplitSpec)) prodSplitCard

/-- THE TIED CARD OF 'cayleylaw.ProdKrull'. -/
def prodKrullCard : Claim7 := { stood := { row := prodKrullRow, standIns := [], harness := (true, "0ca9f24cf61c46a7e97bce64dbc49ef8142456fd312effe50f4764347b1e601c"), looks := false }, kinds := [], alts := [], laidByText := true, laidKinds := [.data], laidTests := true, laidLooks := .later }
def ProdKrullCardSaid : Prop := Claim7.holds Tryd.pinned (.plain (OpenSpec.ofChange prodKrullSpec)) prodKrullCard

/-- THE SECOND FORM's CARD OF 'cayleylaw.HomAutos'. -/
def homAutosUptoCard : Claim7 := { stood := { row := homAutosUptoRow, standIns := [], harness := (true, "0ca9f24cf61c46a7e97bce64dbc49ef8142456fd312effe50f4764347b1e601c"), looks := false }, kinds := [], alts := [], laidByText := true, laidKinds := [.data], laidTests := true, laidLooks := .later }
def HomAutosUptoCardSaid : Prop := Claim7.holds Tryd.pinned (.plain (OpenSpec.upto homAutosSpec)) homAutosUptoCard

/-- THE SECOND FORM's CARD OF 'cayleylaw.HomIso'. -/
def homIsoUptoCard : Claim7 := { stood := { row := homIsoUptoRow, standIns := [], harness := (true, "0ca9f24cf61c46a7e97bce64dbc49ef8142456fd312effe50f4764347b1e601c"), looks := false }, kinds := [], alts := [], laidByText := true, laidKinds := [.data], laidTests := true, laidLooks := .later }
def HomIsoUptoCardSaid : Prop := Claim7.holds Tryd.pinned (.plain (OpenSpec.upto homIsoSpec)) homIsoUptoCard

/-- THE SECOND FORM's CARD OF 'cayleylaw.HomInner'. -/
def homInnerUptoCard : Claim7 := { stood := { row := homInnerUptoRow, standIns := [], harness := (true, "0ca9f24cf61c46a7e97bce64dbc49ef8142456fd312effe50f4764347b1e601c"), looks := false }, kinds := [], alts := [], laidByText := true, laidKinds := [.data], laidTests := true, laidLooks := .later }
def HomInnerUptoCardSaid : Prop := Claim7.holds Tryd.pinned (.plain (OpenSpec.upto homInnerSpec)) homInnerUptoCard

/-- THE SECOND FORM's CARD OF 'cayleylaw.HomCyclic'. -/
def homCyclicUptoCard : Claim7 := { stood := { row := homCyclicUptoRow, standIns := [], harness := (true, "0ca9f24cf61c46a7e97bce64dbc49ef8142456fd312effe50f4764347b1e601c"), looks := false }, kinds := [], alts := [], laidByText := true, laidKinds := [.data], laidTests := true, laidLooks := .later }
def HomCyclicUptoCardSaid : Prop := Claim7.holds Tryd.pinned (.plain (OpenSpec.upto homCyclicSpec)) homCyclicUptoCard

/-- THE SECOND FORM's CARD OF 'cayleylaw.QuotFirst'. -/
def quotFirstUptoCard : Claim7 := { stood := { row := quotFirstUptoRow, standIns := [], harness := (true, "0ca9f24cf61c46a7e97bce64dbc49ef8142456fd312effe50f4764347b1e601c"), looks := false }, kinds := [], alts := [], laidByText := true, laidKinds := [.data], laidTests := true, laidLooks := .later }
def QuotFirstUptoCardSaid : Prop := Claim7.holds Tryd.pinned (.plain (OpenSpec.upto quotFirstSpec)) quotFirstUptoCard

/-- THE SECOND FORM's CARD OF 'cayleylaw.QuotSecond'. -/
def quotSecondUptoCard : Claim7 := { stood := { row := quotSecondUptoRow, standIns := [], harness := (true, "0ca9f24cf61c46a7e97bce64dbc49ef8142456fd312effe50f4764347b1e601c"), looks := false }, kinds := [], alts := [], laidByText := true, laidKinds := [.data], laidTests := true, laidLooks := .later }
def QuotSecondUptoCardSaid : Prop := Claim7.holds Tryd.pinned (.plain (OpenSpec.upto quotSecondSpec)) quotSecondUptoCard

/-- THE SECOND FORM's CARD OF 'cayleylaw.QuotThird'. -/
def quotThirdUptoCard : Claim7 := { stood := { row := quotThirdUptoRow, standIns := [], harness := (true, "0ca9f24cf61c46a7e97bce64dbc49ef8142456fd312effe50f4764347b1e601c"), looks := false }, kinds := [], alts := [], laidByText := true, laidKinds := [.data], laidTests := true, laidLooks := .later }
def QuotThirdUptoCardSaid : Prop := Claim7.holds Tryd.pinned (.plain (OpenSpec.upto quotThirdSpec)) quotThirdUptoCard

/-- THE SECOND FORM's CARD OF 'cayleylaw.ProdSemiParts'. -/
def prodSemiPartsUptoCard : Claim7 := { stood := { row := prodSemiPartsUptoRow, standIns := [], harness := (true, "0ca9f24cf61c46a7e97bce64dbc49ef8142456fd312effe50f4764347b1e601c"), looks := false }, kinds := [], alts := [], laidByText := true, laidKinds := [.data], laidTests := true, laidLooks := .later }
def ProdSemiPartsUptoCardSaid : Prop := Claim7.holds Tryd.pinned (.plain (OpenSpec.upto prodSemiPartsSpec)) prodSemiPartsUptoCard

/-- THE SECOND FORM's CARD OF 'cayleylaw.ProdSplit'. -/
def prodSplitUptoCard : Claim7 := { stood := { row := prodSplitUptoRow, standIns := [], harness := (true, "0ca9f24cf61c46a7e97bce64dbc49ef8142456fd312effe50f4764347b1e601c"), looks := false }, kinds := [], alts := [], laidByText := true, laidKinds := [.data], laidTests := true, laidLooks := .later }
def ProdSplitUptoCardSaid : Prop := Claim7.holds Tryd.pinned (.plain (OpenSpec.upto prodSplitSpec)) prodSplitUptoCard

/-- THE SECOND FORM's CARD OF 'cayleylaw.ProdKrull'. -/
def prodKrullUptoCard : Claim7 := { stood := { row := prodKrullUptoRow, standIns := [], harness := (true, "0ca9f24cf61c46a7e97bce64dbc49ef8142456fd312effe50f4764347b1e601c"), looks := false }, kinds := [], alts := [], laidByText := true, laidKinds := [.data], laidTests := true, laidLooks := .later }
def ProdKrullUptoCardSaid : Prop := Claim7.holds Tryd.pinned (.plain (OpenSpec.upto prodKrullSpec)) prodKrullUptoCard
end Rows
end Go.Proofs.YtboadfahlflmhaaDoor
