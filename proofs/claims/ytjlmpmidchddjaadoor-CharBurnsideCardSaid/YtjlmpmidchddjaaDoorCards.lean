/-
  DERIVED. GIVEN WITH THE SEED: THE CARDS: each row of YtjlmpmidchddjaaDoorRows.lean that lists a variable, with what it lists TIED to the program's text (the seventh form; the later family's looks); each row that meets fmt, with fmt's text TOLD by the authors' own Lean function (tested against real Go, not proved from fmt's source: count such statements apart). THE CARD IS WHAT COUNTS. Prove the row's statement (the work); the ties are given (YtjlmpmidchddjaaDoorTie.lean); close each card by the builder's one call (the guide's Derived/Test/ToyasCard.lean, 'card_holds'). Laid BY PROGRAM, IN A SANDBOX (cutbox-door.mjs). By AI agents, Wed Nov 11 2026. No macro, syntax, notation, axiom, sorry.
-/
import Derived.Test.YtjlmpmidchddjaaDoorRows
import GoSem.ClaimSeven
namespace Go.Proofs.YtjlmpmidchddjaaDoor
namespace Rows

/-- THE TIED CARD OF 'cayleylaw.CharTables'. -/
def charTablesCard : Claim7 := { stood := { row := charTablesRow, standIns := [], harness := (true, "dcfe2109839d330f5de7d2eeb3528b5d4e65684fb34c9574e1da4166696c4ae7"), looks := false }, kinds := [], alts := [], laidByText := true, laidKinds := [.data], laidTests := true, laidLooks := .later }
def CharTablesCardSaid : Prop := Claim7.holds Tryd.pinned (.plain (OpenSpec.ofChange charTablesSpec)) charTablesCard

/-- THE TIED CARD OF 'cayleylaw.CharOrthogonal'. -/
def charOrthogonalCard : Claim7 := { stood := { row := charOrthogonalRow, standIns := [], harness := (true, "dcfe2109839d330f5de7d2eeb3528b5d4e65684fb34c9574e1da4166696c4ae7"), looks := false }, kinds := [], alts := [], laidByText := true, laidKinds := [.data], laidTests := true, laidLooks := .later }
def CharOrthogonalCardSaid : Prop := Claim7.holds Tryd.pinned (.plain (OpenSpec.ofChange charOrthogonalSpec)) charOrthogonalCard

/-- THE TIED CARD OF 'cayleylaw.CharBrauer'. -/
def charBrauerCard : Claim7 := { stood := { row := charBrauerRow, standIns := [], harness := (true, "dcfe2109839d330f5de7d2eeb3528b5d4e65684fb34c9574e1da4166696c4ae7"), looks := false }, kinds := [], alts := [], laidByText := true, laidKinds := [.data], laidTests := true, laidLooks := .later }
def CharBrauerCardSaid : Prop := Claim7.holds Tryd.pinned (.plain (OpenSpec.ofChange charBrauerSpec)) charBrauerCard

/-- THE TIED CARD OF 'cayleylaw.CharSchur'. -/
def charSchurCard : Claim7 := { stood := { row := charSchurRow, standIns := [], harness := (true, "dcfe2109839d330f5de7d2eeb3528b5d4e65684fb34c9574e1da4166696c4ae7"), looks := false }, kinds := [], alts := [], laidByText := true, laidKinds := [.data], laidTests := true, laidLooks := .later }
def CharSchurCardSaid : Prop := Claim7.holds Tryd.pinned (.plain (OpenSpec.ofChange charSchurSpec)) charSchurCard

/-- THE TIED CARD OF 'cayleylaw.CharDegrees'. -/
def charDegreesCard : Claim7 := { stood := { row := charDegreesRow, standIns := [], harness := (true, "dcfe2109839d330f5de7d2eeb3528b5d4e65684fb34c9574e1da4166696c4ae7"), looks := false }, kinds := [], alts := [], laidByText := true, laidKinds := [.data], laidTests := true, laidLooks := .later }
def CharDegreesCardSaid : Prop := Claim7.holds Tryd.pinned (.plain (OpenSpec.ofChange charDegreesSpec)) charDegreesCard

/-- THE TIED CARD OF 'cayleylaw.CharProducts'. -/
def charProductsCard : Claim7 := { stood := { row := charProductsRow, standIns := [], harness := (true, "dcfe2109839d330f5de7d2eeb3528b5d4e65684fb34c9574e1da4166696c4ae7"), looks := false }, kinds := [], alts := [], laidByText := true, laidKinds := [.data], laidTests := true, laidLooks := .later }
def CharProductsCardSaid : Prop := Claim7.holds Tryd.pinned (.plain (OpenSpec.ofChange charProductsSpec)) charProductsCard

/-- THE TIED CARD OF 'cayleylaw.CharBurnside'. -/
def charBurnsideCard : Claim7 := { stood := { row := charBurnsideRow, standIns := [], harness := (true, "dcfe2109839d330f5de7d2eeb3528b5d4e65684fb34c9574e1da4166696c4ae7"), looks := false }, kinds := [], alts := [], laidByText := true, laidKinds := [.data], laidTests := true, laidLooks := .later }
def CharBurnsideCardSaid : Prop := Claim7.holds Tryd.pinned (.plain (OpenSpec.ofChange charBurnsideSpec)) charBurnsideCard

/-- THE TIED CARD OF 'cayleylaw.CharKernels'. -/
def charKernelsCard : Claim7 := { stood := { row := charKernelsRow, standIns := [], harness := (true, "dcfe2109839d330f5de7d2eeb3528b5d4e65684fb34c9574e1da4166696c4ae7"), looks := false }, kinds := [], alts := [], laidByText := true, laidKinds := [.data], laidTests := true, laidLooks := .later }
def CharKernelsCardSaid : Prop := Claim7.holds Tryd.pinned (.plain (OpenSpec.ofChange charKernelsSpec)) charKernelsCard

/-- THE SECOND FORM's CARD OF 'cayleylaw.CharTables'. -/
def charTablesUptoCard : Claim7 := { stood := { row := charTablesUptoRow, standIns := [], harness := (true, "dcfe2109839d330f5de7d2eeb3528b5d4e65684fb34c9574e1da4166696c4ae7"), looks := false }, kinds := [], alts := [], laidByText := true, laidKinds := [.data], laidTests := true, laidLooks := .later }
def CharTablesUptoCardSaid : Prop := Claim7.holds Tryd.pinned (.plain (OpenSpec.upto charTablesSpec)) charTablesUptoCard

/-- THE SECOND FORM's CARD OF 'cayleylaw.CharOrthogonal'. -/
def charOrthogonalUptoCard : Claim7 := { stood := { row := charOrthogonalUptoRow, standIns := [], harness := (true, "dcfe2109839d330f5de7d2eeb3528b5d4e65684fb34c9574e1da4166696c4ae7"), looks := false }, kinds := [], alts := [], laidByText := true, laidKinds := [.data], laidTests := true, laidLooks := .later }
def CharOrthogonalUptoCardSaid : Prop := Claim7.holds Tryd.pinned (.plain (OpenSpec.upto charOrthogonalSpec)) charOrthogonalUptoCard

/-- THE SECOND FORM's CARD OF 'cayleylaw.CharBrauer'. -/
def charBrauerUptoCard : Claim7 := { stood := { row := charBrauerUptoRow, standIns := [], harness := (true, "dcfe2109839d330f5de7d2eeb3528b5d4e65684fb34c9574e1da4166696c4ae7"), looks := false }, kinds := [], alts := [], laidByText := true, laidKinds := [.data], laidTests := true, laidLooks := .later }
def CharBrauerUptoCardSaid : Prop := Claim7.holds Tryd.pinned (.plain (OpenSpec.upto charBrauerSpec)) charBrauerUptoCard

/-- THE SECOND FORM's CARD OF 'cayleylaw.CharSchur'. -/
def charSchurUptoCard : Claim7 := { stood := { row := charSchurUptoRow, standIns := [], harness := (true, "dcfe2109839d330f5de7d2eeb3528b5d4e65684fb34c9574e1da4166696c4ae7"), looks := false }, kinds := [], alts := [], laidByText := true, laidKinds := [.data], laidTests := true, laidLooks := .later }
def CharSchurUptoCardSaid : Prop := Claim7.holds Tryd.pinned (.plain (OpenSpec.upto charSchurSpec)) charSchurUptoCard

/-- THE SECOND FORM's CARD OF 'cayleylaw.CharDegrees'. -/
def charDegreesUptoCard : Claim7 := { stood := { row := charDegreesUptoRow, standIns := [], harness := (true, "dcfe2109839d330f5de7d2eeb3528b5d4e65684fb34c9574e1da4166696c4ae7"), looks := false }, kinds := [], alts := [], laidByText := true, laidKinds := [.data], laidTests := true, laidLooks := .later }
def CharDegreesUptoCardSaid : Prop := Claim7.holds Tryd.pinned (.plain (OpenSpec.upto charDegreesSpec)) charDegreesUptoCard

/-- THE SECOND FORM's CARD OF 'cayleylaw.CharProducts'. -/
def charProductsUptoCard : Claim7 := { stood := { row := charProductsUptoRow, standIns := [], harness := (true, "dcfe2109839d330f5de7d2eeb3528b5d4e65684fb34c9574e1da4166696c4ae7"), looks := false }, kinds := [], alts := [], laidByText := true, laidKinds := [.data], laidTests := true, laidLooks := .later }
def CharProductsUptoCardSaid : Prop := Claim7.holds Tryd.pinned (.plain (OpenSpec.upto charProductsSpec)) charProductsUptoCard

/-- THE SECOND FORM's CARD OF 'cayleylaw.CharBurnside'. -/
def charBurnsideUptoCard : Claim7 := { stood := { row := charBurnsideUptoRow, standIns := [], harness := (true, "dcfe2109839d330f5de7d2eeb3528b5d4e65684fb34c9574e1da4166696c4ae7"), looks := false }, kinds := [], alts := [], laidByText := true, laidKinds := [.data], laidTests := true, laidLooks := .later }
def CharBurnsideUptoCardSaid : Prop := Claim7.holds Tryd.pinned (.plain (OpenSpec.upto charBurnsideSpec)) charBurnsideUptoCard

/-- THE SECOND FORM's CARD OF 'cayleylaw.CharKernels'. -/
def charKernelsUptoCard : Claim7 := { stood := { row := charKernelsUptoRow, standIns := [], harness := (true, "dcfe2109839d330f5de7d2eeb3528b5d4e65684fb34c9574e1da4166696c4ae7"), looks := false }, kinds := [], alts := [], laidByText := true, laidKinds := [.data], laidTests := true, laidLooks := .later }
def CharKernelsUptoCardSaid : Prop := Claim7.holds Tryd.pinned (.plain (OpenSpec.upto charKernelsSpec)) charKernelsUptoCard
end Rows
end Go.Proofs.YtjlmpmidchddjaaDoor
