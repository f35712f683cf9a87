/-
  DERIVED. GIVEN WITH THE SEED: THE CARDS: each row of YtpobnnfkeekiaaaDoorRows.lean that lists a variable, with what it lists TIED to the program's text (the seventh form; the later family's looks); each row that meets fmt, with fmt's text TOLD by the authors' own Lean function (tested against real Go, not proved from fmt's source: count such statements apart). THE CARD IS WHAT COUNTS. Prove the row's statement (the work); the ties are given (YtpobnnfkeekiaaaDoorTie.lean); close each card by the builder's one call (the guide's Derived/Test/ToyasCard.lean, 'card_holds'). Laid BY PROGRAM, IN A SANDBOX (cutbox-door.mjs). By AI agents, Wed Nov 11 2026. No macro, syntax, notation, axiom, sorry.
-/
import Derived.Test.YtpobnnfkeekiaaaDoorRows
import GoSem.ClaimSeven
namespace Go.Proofs.YtpobnnfkeekiaaaDoor
namespace Rows

/-- THE TIED CARD OF 'cayleylaw.PresHolds'. -/
def presHoldsCard : Claim7 := { stood := { row := presHoldsRow, standIns := [], harness := (true, "f6e97d2130130978d2b7dea2fb4f92d4872540c225643ec5801d87ba20209e21"), looks := true }, kinds := [], alts := [], laidByText := true, laidKinds := [.data], laidTests := true, laidLooks := .later }
def PresHoldsCardSaid : Prop := Claim7.holds Tryd.pinned (.plain (OpenSpec.ofChange presHoldsSpec)) presHoldsCard

/-- THE SECOND FORM's CARD OF 'cayleylaw.PresHolds'. -/
def presHoldsUptoCard : Claim7 := { stood := { row := presHoldsUptoRow, standIns := [], harness := (true, "f6e97d2130130978d2b7dea2fb4f92d4872540c225643ec5801d87ba20209e21"), looks := true }, kinds := [], alts := [], laidByText := true, laidKinds := [.data], laidTests := true, laidLooks := .later }
def PresHoldsUptoCardSaid : Prop := Claim7.holds Tryd.pinned (.plain (OpenSpec.upto presHoldsSpec)) presHoldsUptoCard
end Rows
end Go.Proofs.YtpobnnfkeekiaaaDoor
