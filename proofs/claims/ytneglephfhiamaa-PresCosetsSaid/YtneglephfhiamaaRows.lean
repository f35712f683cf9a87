/-
  No cell of these rows narrows 'for every input' (looked for: loops, veiled, ifaces, maps, wideKeys, modest, calm, conditions, laid).
  DERIVED. THE GIVEN ROWS OF THIS SEAT. 10 by the template 'for every input the law returns true; each argument reads behind the call as it read before'; 0 by the template 'total and deterministic' (their statements: YtneglephfhiamaaTotals.lean).
  GIVEN WITH THE SEED: the statements are not yours to turn. If you find one false, say at which input.
  Laid BY PROGRAM, IN A SANDBOX (cutbox-rows.mjs): the forced cells as the released guide's own fill.sh prints them over the translation 33b76fe2a73e7030… (all of the seat's roots in one cut). By AI agents, Wed Nov 11 2026. No macro, syntax, notation, axiom, sorry.
-/
import Derived.Test.YtneglephfhiamaaChecked
import GoSem.Claim
import GoSem.ClaimJoined
import GoSem.ClaimMapViews
import Derived.JoinedTies
import Derived.KernelRfl
namespace Go.Proofs.Ytneglephfhiamaa
/- THE CELL 'sum', in the pinned program and in every row, IS THE sha256 OF THE DUMP (.gsa) THAT YtneglephfhiamaaProg.lean LOADS. Nothing in Lean hashes anything: it is a label: what it is worth is what the hold of that sum in a sandbox is worth. -/
noncomputable def Try.pinned : Pinned := { name := "ytneglephfhiamaa", sum := "33b76fe2a73e70307aedc653eba6a4bc3a45f1dd5b1589b71a3fbfe3a9f76384", checked := Try.checked }
namespace Rows
def none {H : Type} : Left H := { results := [], args := [] }

/-- 'cayleylaw.FoldBases': WHATEVER THE INPUT: true; the input reads as it did. -/
def foldBasesSpec : ChangeSpec := { name := "foldBases", fn := fun _ => fun
  | [d] => { results := [.lit (.bool true)], args := [d] }
  | _ => none }
def foldBasesRow : OpenClaim := { program := "ytneglephfhiamaa", sum := "33b76fe2a73e70307aedc653eba6a4bc3a45f1dd5b1589b71a3fbfe3a9f76384", func := "cayley/cayleylaw.FoldBases", spec := "foldBases", recurses := true, plainKeys := false, apart := false }
def FoldBasesSaid : Prop := foldBasesRow.holds Try.pinned (OpenSpec.ofChange foldBasesSpec)

/-- ITS FALSE NEIGHBOUR: 'it returns false'. Refute it at one input. -/
def foldBasesWrong : ChangeSpec := { name := "foldBases", fn := fun _ => fun
  | [d] => { results := [.lit (.bool false)], args := [d] }
  | _ => none }
def FoldBasesWrongFalsely : Prop := foldBasesRow.holds Try.pinned (OpenSpec.ofChange foldBasesWrong)

/-- 'cayleylaw.FoldIndex': WHATEVER THE INPUT: true; the input reads as it did. -/
def foldIndexSpec : ChangeSpec := { name := "foldIndex", fn := fun _ => fun
  | [d1, d2] => { results := [.lit (.bool true)], args := [d1, d2] }
  | _ => none }
def foldIndexRow : OpenClaim := { program := "ytneglephfhiamaa", sum := "33b76fe2a73e70307aedc653eba6a4bc3a45f1dd5b1589b71a3fbfe3a9f76384", func := "cayley/cayleylaw.FoldIndex", spec := "foldIndex", unfollowed := true, recurses := true, plainKeys := false, apart := false }
def FoldIndexSaid : Prop := foldIndexRow.holds Try.pinned (OpenSpec.ofChange foldIndexSpec)

/-- ITS FALSE NEIGHBOUR: 'it returns false'. Refute it at one input. -/
def foldIndexWrong : ChangeSpec := { name := "foldIndex", fn := fun _ => fun
  | [d1, d2] => { results := [.lit (.bool false)], args := [d1, d2] }
  | _ => none }
def FoldIndexWrongFalsely : Prop := foldIndexRow.holds Try.pinned (OpenSpec.ofChange foldIndexWrong)

/-- 'cayleylaw.FoldSchreier': WHATEVER THE INPUT: true; the input reads as it did. -/
def foldSchreierSpec : ChangeSpec := { name := "foldSchreier", fn := fun _ => fun
  | [d1, d2] => { results := [.lit (.bool true)], args := [d1, d2] }
  | _ => none }
def foldSchreierRow : OpenClaim := { program := "ytneglephfhiamaa", sum := "33b76fe2a73e70307aedc653eba6a4bc3a45f1dd5b1589b71a3fbfe3a9f76384", func := "cayley/cayleylaw.FoldSchreier", spec := "foldSchreier", recurses := true, plainKeys := false, apart := false }
def FoldSchreierSaid : Prop := foldSchreierRow.holds Try.pinned (OpenSpec.ofChange foldSchreierSpec)

/-- ITS FALSE NEIGHBOUR: 'it returns false'. Refute it at one input. -/
def foldSchreierWrong : ChangeSpec := { name := "foldSchreier", fn := fun _ => fun
  | [d1, d2] => { results := [.lit (.bool false)], args := [d1, d2] }
  | _ => none }
def FoldSchreierWrongFalsely : Prop := foldSchreierRow.holds Try.pinned (OpenSpec.ofChange foldSchreierWrong)

/-- 'cayleylaw.FoldFree': WHATEVER THE INPUT: true; the input reads as it did. -/
def foldFreeSpec : ChangeSpec := { name := "foldFree", fn := fun _ => fun
  | [d1, d2] => { results := [.lit (.bool true)], args := [d1, d2] }
  | _ => none }
def foldFreeRow : OpenClaim := { program := "ytneglephfhiamaa", sum := "33b76fe2a73e70307aedc653eba6a4bc3a45f1dd5b1589b71a3fbfe3a9f76384", func := "cayley/cayleylaw.FoldFree", spec := "foldFree", recurses := true, plainKeys := false, apart := false }
def FoldFreeSaid : Prop := foldFreeRow.holds Try.pinned (OpenSpec.ofChange foldFreeSpec)

/-- ITS FALSE NEIGHBOUR: 'it returns false'. Refute it at one input. -/
def foldFreeWrong : ChangeSpec := { name := "foldFree", fn := fun _ => fun
  | [d1, d2] => { results := [.lit (.bool false)], args := [d1, d2] }
  | _ => none }
def FoldFreeWrongFalsely : Prop := foldFreeRow.holds Try.pinned (OpenSpec.ofChange foldFreeWrong)

/-- 'cayleylaw.FoldMeets': WHATEVER THE INPUT: true; the input reads as it did. -/
def foldMeetsSpec : ChangeSpec := { name := "foldMeets", fn := fun _ => fun
  | [d1, d2, d3] => { results := [.lit (.bool true)], args := [d1, d2, d3] }
  | _ => none }
def foldMeetsRow : OpenClaim := { program := "ytneglephfhiamaa", sum := "33b76fe2a73e70307aedc653eba6a4bc3a45f1dd5b1589b71a3fbfe3a9f76384", func := "cayley/cayleylaw.FoldMeets", spec := "foldMeets", unfollowed := true, recurses := true, plainKeys := false, apart := false }
def FoldMeetsSaid : Prop := foldMeetsRow.holds Try.pinned (OpenSpec.ofChange foldMeetsSpec)

/-- ITS FALSE NEIGHBOUR: 'it returns false'. Refute it at one input. -/
def foldMeetsWrong : ChangeSpec := { name := "foldMeets", fn := fun _ => fun
  | [d1, d2, d3] => { results := [.lit (.bool false)], args := [d1, d2, d3] }
  | _ => none }
def FoldMeetsWrongFalsely : Prop := foldMeetsRow.holds Try.pinned (OpenSpec.ofChange foldMeetsWrong)

/-- 'cayleylaw.FoldNeumann': WHATEVER THE INPUT: true; the input reads as it did. -/
def foldNeumannSpec : ChangeSpec := { name := "foldNeumann", fn := fun _ => fun
  | [d1, d2] => { results := [.lit (.bool true)], args := [d1, d2] }
  | _ => none }
def foldNeumannRow : OpenClaim := { program := "ytneglephfhiamaa", sum := "33b76fe2a73e70307aedc653eba6a4bc3a45f1dd5b1589b71a3fbfe3a9f76384", func := "cayley/cayleylaw.FoldNeumann", spec := "foldNeumann", recurses := true, plainKeys := false, apart := false }
def FoldNeumannSaid : Prop := foldNeumannRow.holds Try.pinned (OpenSpec.ofChange foldNeumannSpec)

/-- ITS FALSE NEIGHBOUR: 'it returns false'. Refute it at one input. -/
def foldNeumannWrong : ChangeSpec := { name := "foldNeumann", fn := fun _ => fun
  | [d1, d2] => { results := [.lit (.bool false)], args := [d1, d2] }
  | _ => none }
def FoldNeumannWrongFalsely : Prop := foldNeumannRow.holds Try.pinned (OpenSpec.ofChange foldNeumannWrong)

/-- 'cayleylaw.FoldMembers': WHATEVER THE INPUT: true; the input reads as it did. -/
def foldMembersSpec : ChangeSpec := { name := "foldMembers", fn := fun _ => fun
  | [d1, d2, d3] => { results := [.lit (.bool true)], args := [d1, d2, d3] }
  | _ => none }
def foldMembersRow : OpenClaim := { program := "ytneglephfhiamaa", sum := "33b76fe2a73e70307aedc653eba6a4bc3a45f1dd5b1589b71a3fbfe3a9f76384", func := "cayley/cayleylaw.FoldMembers", spec := "foldMembers", unfollowed := true, recurses := true, plainKeys := false, apart := false }
def FoldMembersSaid : Prop := foldMembersRow.holds Try.pinned (OpenSpec.ofChange foldMembersSpec)

/-- ITS FALSE NEIGHBOUR: 'it returns false'. Refute it at one input. -/
def foldMembersWrong : ChangeSpec := { name := "foldMembers", fn := fun _ => fun
  | [d1, d2, d3] => { results := [.lit (.bool false)], args := [d1, d2, d3] }
  | _ => none }
def FoldMembersWrongFalsely : Prop := foldMembersRow.holds Try.pinned (OpenSpec.ofChange foldMembersWrong)

/-- 'cayleylaw.FoldMoves': WHATEVER THE INPUT: true; the input reads as it did. -/
def foldMovesSpec : ChangeSpec := { name := "foldMoves", fn := fun _ => fun
  | [d1, d2, d3] => { results := [.lit (.bool true)], args := [d1, d2, d3] }
  | _ => none }
def foldMovesRow : OpenClaim := { program := "ytneglephfhiamaa", sum := "33b76fe2a73e70307aedc653eba6a4bc3a45f1dd5b1589b71a3fbfe3a9f76384", func := "cayley/cayleylaw.FoldMoves", spec := "foldMoves", unfollowed := true, recurses := true, plainKeys := false, apart := false }
def FoldMovesSaid : Prop := foldMovesRow.holds Try.pinned (OpenSpec.ofChange foldMovesSpec)

/-- ITS FALSE NEIGHBOUR: 'it returns false'. Refute it at one input. -/
def foldMovesWrong : ChangeSpec := { name := "foldMoves", fn := fun _ => fun
  | [d1, d2, d3] => { results := [.lit (.bool false)], args := [d1, d2, d3] }
  | _ => none }
def FoldMovesWrongFalsely : Prop := foldMovesRow.holds Try.pinned (OpenSpec.ofChange foldMovesWrong)

/-- 'cayleylaw.PresCosets': WHATEVER THE INPUT: true; the input reads as it did. -/
def presCosetsSpec : ChangeSpec := { name := "presCosets", fn := fun _ => fun
  | [d1, d2, d3, d4] => { results := [.lit (.bool true)], args := [d1, d2, d3, d4] }
  | _ => none }
def presCosetsRow : OpenClaim := { program := "ytneglephfhiamaa", sum := "33b76fe2a73e70307aedc653eba6a4bc3a45f1dd5b1589b71a3fbfe3a9f76384", func := "cayley/cayleylaw.PresCosets", spec := "presCosets", unfollowed := true, recurses := true, plainKeys := false, apart := false }
def PresCosetsSaid : Prop := presCosetsRow.holds Try.pinned (OpenSpec.ofChange presCosetsSpec)

/-- ITS FALSE NEIGHBOUR: 'it returns false'. Refute it at one input. -/
def presCosetsWrong : ChangeSpec := { name := "presCosets", fn := fun _ => fun
  | [d1, d2, d3, d4] => { results := [.lit (.bool false)], args := [d1, d2, d3, d4] }
  | _ => none }
def PresCosetsWrongFalsely : Prop := presCosetsRow.holds Try.pinned (OpenSpec.ofChange presCosetsWrong)

/-- 'cayleylaw.PresTietze': WHATEVER THE INPUT: true; the input reads as it did. -/
def presTietzeSpec : ChangeSpec := { name := "presTietze", fn := fun _ => fun
  | [d1, d2, d3] => { results := [.lit (.bool true)], args := [d1, d2, d3] }
  | _ => none }
def presTietzeRow : OpenClaim := { program := "ytneglephfhiamaa", sum := "33b76fe2a73e70307aedc653eba6a4bc3a45f1dd5b1589b71a3fbfe3a9f76384", func := "cayley/cayleylaw.PresTietze", spec := "presTietze", unfollowed := true, recurses := true, plainKeys := false, apart := false }
def PresTietzeSaid : Prop := presTietzeRow.holds Try.pinned (OpenSpec.ofChange presTietzeSpec)

/-- ITS FALSE NEIGHBOUR: 'it returns false'. Refute it at one input. -/
def presTietzeWrong : ChangeSpec := { name := "presTietze", fn := fun _ => fun
  | [d1, d2, d3] => { results := [.lit (.bool false)], args := [d1, d2, d3] }
  | _ => none }
def PresTietzeWrongFalsely : Prop := presTietzeRow.holds Try.pinned (OpenSpec.ofChange presTietzeWrong)

/- THE SECOND FORM. 'bulk': how many values and letters a reading holds, each counted each time it is reached (what is shared counts as often as it is met; a slice's spare places count too). A statement '..UptoSaid' is the law's where the arguments, and the package variables that the reading takes, are together of bulk at most 1048576: NARROWER than '..Said'. Prove '..Said' where nothing that the law and all that it calls make is longer than what came in: it says more and counts as full. Else prove '..UptoSaid'. A law counts once. -/
mutual
def uptoBulk {H : Type} : DataW H → Nat
  | .lit (.string bytes) => bytes.length + 1
  | .lit _ => 1
  | .nil => 1
  | .ptr d => uptoBulk d + 1
  | .slice elems spare => uptoBulkAll elems + uptoBulkAll spare + 1
  | .agg parts => uptoBulkAll parts + 1
  | .iface _ d => uptoBulk d + 1
  | .map entries => uptoBulkEntries entries + 1
  | .held _ => 1
def uptoBulkAll {H : Type} : List (DataW H) → Nat
  | [] => 0
  | d :: r => uptoBulk d + uptoBulkAll r
def uptoBulkEntries {H : Type} : List (Lit × DataW H) → Nat
  | [] => 0
  | x :: r => uptoBulkEntry x + uptoBulkEntries r
def uptoBulkEntry {H : Type} : Lit × DataW H → Nat
  | (.string bytes, d) => bytes.length + uptoBulk d + 1
  | (_, d) => uptoBulk d + 1
 end
def uptoSmall : (H : Type) → List (DataW H) → Bool := fun _ ds => decide (uptoBulkAll ds ≤ 1048576)
def OpenSpec.upto (s : _root_.Go.ChangeSpec) : _root_.Go.OpenSpec := { _root_.Go.OpenSpec.ofChange s with cond := some uptoSmall }

/-- 'cayleylaw.FoldBases', WHERE WHAT IT READS IS OF BULK AT MOST 1048576: true; the input reads as it did. -/
def foldBasesUptoRow : OpenClaim := { program := "ytneglephfhiamaa", sum := "33b76fe2a73e70307aedc653eba6a4bc3a45f1dd5b1589b71a3fbfe3a9f76384", func := "cayley/cayleylaw.FoldBases", spec := "foldBases", recurses := true, plainKeys := false, apart := false, narrowed := true }
def FoldBasesUptoSaid : Prop := foldBasesUptoRow.holds Try.pinned (OpenSpec.upto foldBasesSpec)

/-- 'cayleylaw.FoldIndex', WHERE WHAT IT READS IS OF BULK AT MOST 1048576: true; the input reads as it did. -/
def foldIndexUptoRow : OpenClaim := { program := "ytneglephfhiamaa", sum := "33b76fe2a73e70307aedc653eba6a4bc3a45f1dd5b1589b71a3fbfe3a9f76384", func := "cayley/cayleylaw.FoldIndex", spec := "foldIndex", unfollowed := true, recurses := true, plainKeys := false, apart := false, narrowed := true }
def FoldIndexUptoSaid : Prop := foldIndexUptoRow.holds Try.pinned (OpenSpec.upto foldIndexSpec)

/-- 'cayleylaw.FoldSchreier', WHERE WHAT IT READS IS OF BULK AT MOST 1048576: true; the input reads as it did. -/
def foldSchreierUptoRow : OpenClaim := { program := "ytneglephfhiamaa", sum := "33b76fe2a73e70307aedc653eba6a4bc3a45f1dd5b1589b71a3fbfe3a9f76384", func := "cayley/cayleylaw.FoldSchreier", spec := "foldSchreier", recurses := true, plainKeys := false, apart := false, narrowed := true }
def FoldSchreierUptoSaid : Prop := foldSchreierUptoRow.holds Try.pinned (OpenSpec.upto foldSchreierSpec)

/-- 'cayleylaw.FoldFree', WHERE WHAT IT READS IS OF BULK AT MOST 1048576: true; the input reads as it did. -/
def foldFreeUptoRow : OpenClaim := { program := "ytneglephfhiamaa", sum := "33b76fe2a73e70307aedc653eba6a4bc3a45f1dd5b1589b71a3fbfe3a9f76384", func := "cayley/cayleylaw.FoldFree", spec := "foldFree", recurses := true, plainKeys := false, apart := false, narrowed := true }
def FoldFreeUptoSaid : Prop := foldFreeUptoRow.holds Try.pinned (OpenSpec.upto foldFreeSpec)

/-- 'cayleylaw.FoldMeets', WHERE WHAT IT READS IS OF BULK AT MOST 1048576: true; the input reads as it did. -/
def foldMeetsUptoRow : OpenClaim := { program := "ytneglephfhiamaa", sum := "33b76fe2a73e70307aedc653eba6a4bc3a45f1dd5b1589b71a3fbfe3a9f76384", func := "cayley/cayleylaw.FoldMeets", spec := "foldMeets", unfollowed := true, recurses := true, plainKeys := false, apart := false, narrowed := true }
def FoldMeetsUptoSaid : Prop := foldMeetsUptoRow.holds Try.pinned (OpenSpec.upto foldMeetsSpec)

/-- 'cayleylaw.FoldNeumann', WHERE WHAT IT READS IS OF BULK AT MOST 1048576: true; the input reads as it did. -/
def foldNeumannUptoRow : OpenClaim := { program := "ytneglephfhiamaa", sum := "33b76fe2a73e70307aedc653eba6a4bc3a45f1dd5b1589b71a3fbfe3a9f76384", func := "cayley/cayleylaw.FoldNeumann", spec := "foldNeumann", recurses := true, plainKeys := false, apart := false, narrowed := true }
def FoldNeumannUptoSaid : Prop := foldNeumannUptoRow.holds Try.pinned (OpenSpec.upto foldNeumannSpec)

/-- 'cayleylaw.FoldMembers', WHERE WHAT IT READS IS OF BULK AT MOST 1048576: true; the input reads as it did. -/
def foldMembersUptoRow : OpenClaim := { program := "ytneglephfhiamaa", sum := "33b76fe2a73e70307aedc653eba6a4bc3a45f1dd5b1589b71a3fbfe3a9f76384", func := "cayley/cayleylaw.FoldMembers", spec := "foldMembers", unfollowed := true, recurses := true, plainKeys := false, apart := false, narrowed := true }
def FoldMembersUptoSaid : Prop := foldMembersUptoRow.holds Try.pinned (OpenSpec.upto foldMembersSpec)

/-- 'cayleylaw.FoldMoves', WHERE WHAT IT READS IS OF BULK AT MOST 1048576: true; the input reads as it did. -/
def foldMovesUptoRow : OpenClaim := { program := "ytneglephfhiamaa", sum := "33b76fe2a73e70307aedc653eba6a4bc3a45f1dd5b1589b71a3fbfe3a9f76384", func := "cayley/cayleylaw.FoldMoves", spec := "foldMoves", unfollowed := true, recurses := true, plainKeys := false, apart := false, narrowed := true }
def FoldMovesUptoSaid : Prop := foldMovesUptoRow.holds Try.pinned (OpenSpec.upto foldMovesSpec)

/-- 'cayleylaw.PresCosets', WHERE WHAT IT READS IS OF BULK AT MOST 1048576: true; the input reads as it did. -/
def presCosetsUptoRow : OpenClaim := { program := "ytneglephfhiamaa", sum := "33b76fe2a73e70307aedc653eba6a4bc3a45f1dd5b1589b71a3fbfe3a9f76384", func := "cayley/cayleylaw.PresCosets", spec := "presCosets", unfollowed := true, recurses := true, plainKeys := false, apart := false, narrowed := true }
def PresCosetsUptoSaid : Prop := presCosetsUptoRow.holds Try.pinned (OpenSpec.upto presCosetsSpec)

/-- 'cayleylaw.PresTietze', WHERE WHAT IT READS IS OF BULK AT MOST 1048576: true; the input reads as it did. -/
def presTietzeUptoRow : OpenClaim := { program := "ytneglephfhiamaa", sum := "33b76fe2a73e70307aedc653eba6a4bc3a45f1dd5b1589b71a3fbfe3a9f76384", func := "cayley/cayleylaw.PresTietze", spec := "presTietze", unfollowed := true, recurses := true, plainKeys := false, apart := false, narrowed := true }
def PresTietzeUptoSaid : Prop := presTietzeUptoRow.holds Try.pinned (OpenSpec.upto presTietzeSpec)

end Rows
end Go.Proofs.Ytneglephfhiamaa
