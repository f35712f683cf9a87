/-
  DERIVED. GIVEN WITH THE SEED: THE CARDS: each row of YtpogfmijefephaaDoorRows.lean that lists a variable, with what it lists TIED to the program's text (the seventh form; the later family's looks); each row that meets fmt, with fmt's text TOLD by the authors' own Lean function (tested against real Go, not proved from fmt's source: count such statements apart). THE CARD IS WHAT COUNTS. Prove the row's statement (the work); the ties are given (YtpogfmijefephaaDoorTie.lean); close each card by the builder's one call (the guide's Derived/Test/ToyasCard.lean, 'card_holds'). Laid BY PROGRAM, IN A SANDBOX (cutbox-door.mjs). By AI agents, Wed Nov 11 2026. No macro, syntax, notation, axiom, sorry.
-/
import Derived.Test.YtpogfmijefephaaDoorRows
import GoSem.ClaimSeven
namespace Go.Proofs.YtpogfmijefephaaDoor
namespace Rows

/-- THE TIED CARD OF 'cayleylaw.SeriesGo'. -/
def seriesGoCard : Claim7 := { stood := { row := seriesGoRow, standIns := [], harness := (true, "08e7b75bf507f7e277b7dd6f98ba9cc23b96fb62255eeb5773b144567a940803"), looks := false }, kinds := [], alts := [], laidByText := true, laidKinds := [.data], laidTests := true, laidLooks := .later }
def SeriesGoCardSaid : Prop := Claim7.holds Tryd.pinned (.plain (OpenSpec.ofChange seriesGoSpec)) seriesGoCard

/-- THE TIED CARD OF 'cayleylaw.SeriesComposes'. -/
def seriesComposesCard : Claim7 := { stood := { row := seriesComposesRow, standIns := [], harness := (true, "08e7b75bf507f7e277b7dd6f98ba9cc23b96fb62255eeb5773b144567a940803"), looks := false }, kinds := [], alts := [], laidByText := true, laidKinds := [.data], laidTests := true, laidLooks := .later }
def SeriesComposesCardSaid : Prop := Claim7.holds Tryd.pinned (.plain (OpenSpec.ofChange seriesComposesSpec)) seriesComposesCard

/-- THE SECOND FORM's CARD OF 'cayleylaw.SeriesGo'. -/
def seriesGoUptoCard : Claim7 := { stood := { row := seriesGoUptoRow, standIns := [], harness := (true, "08e7b75bf507f7e277b7dd6f98ba9cc23b96fb62255eeb5773b144567a940803"), looks := false }, kinds := [], alts := [], laidByText := true, laidKinds := [.data], laidTests := true, laidLooks := .later }
def SeriesGoUptoCardSaid : Prop := Claim7.holds Tryd.pinned (.plain (OpenSpec.upto seriesGoSpec)) seriesGoUptoCard

/-- THE SECOND FORM's CARD OF 'cayleylaw.SeriesComposes'. -/
def seriesComposesUptoCard : Claim7 := { stood := { row := seriesComposesUptoRow, standIns := [], harness := (true, "08e7b75bf507f7e277b7dd6f98ba9cc23b96fb62255eeb5773b144567a940803"), looks := false }, kinds := [], alts := [], laidByText := true, laidKinds := [.data], laidTests := true, laidLooks := .later }
def SeriesComposesUptoCardSaid : Prop := Claim7.holds Tryd.pinned (.plain (OpenSpec.upto seriesComposesSpec)) seriesComposesUptoCard
end Rows
end Go.Proofs.YtpogfmijefephaaDoor
