/-
  No cell of these rows narrows 'for every input' (looked for: loops, veiled, ifaces, maps, wideKeys, modest, calm, conditions, laid).
  DERIVED. THE GIVEN ROWS OF THIS SEAT. 8 by the template 'for every input the law returns true; each argument reads behind the call as it read before'; 0 by the template 'total and deterministic' (their statements: YthmgpgkfeknhgaaTotals.lean).
  GIVEN WITH THE SEED: the statements are not yours to turn. If you find one false, say at which input.
  Laid BY PROGRAM, IN A SANDBOX (cutbox-rows.mjs): the forced cells as the released guide's own fill.sh prints them over the translation 7d6a8a7fd0cecba8… (all of the seat's roots in one cut). By AI agents, Wed Nov 11 2026. No macro, syntax, notation, axiom, sorry.
-/
import Derived.Test.YthmgpgkfeknhgaaChecked
import GoSem.Claim
import GoSem.ClaimJoined
import GoSem.ClaimMapViews
import Derived.JoinedTies
import Derived.KernelRfl
namespace Go.Proofs.Ythmgpgkfeknhgaa
/- THE CELL 'sum', in the pinned program and in every row, IS THE sha256 OF THE DUMP (.gsa) THAT YthmgpgkfeknhgaaProg.lean LOADS. Nothing in Lean hashes anything: it is a label: what it is worth is what the hold of that sum in a sandbox is worth. -/
noncomputable def Try.pinned : Pinned := { name := "ythmgpgkfeknhgaa", sum := "7d6a8a7fd0cecba837fce4951c2ed8b2816e953d58d1ca4d7c77d110b0605fd1", checked := Try.checked }
namespace Rows
def none {H : Type} : Left H := { results := [], args := [] }

/-- 'cayleylaw.FreeRoots': WHATEVER THE INPUT: true; the input reads as it did. -/
def freeRootsSpec : ChangeSpec := { name := "freeRoots", fn := fun _ => fun
  | [d] => { results := [.lit (.bool true)], args := [d] }
  | _ => none }
def freeRootsRow : OpenClaim := { program := "ythmgpgkfeknhgaa", sum := "7d6a8a7fd0cecba837fce4951c2ed8b2816e953d58d1ca4d7c77d110b0605fd1", func := "cayley/cayleylaw.FreeRoots", spec := "freeRoots", apart := false }
def FreeRootsSaid : Prop := freeRootsRow.holds Try.pinned (OpenSpec.ofChange freeRootsSpec)

/-- ITS FALSE NEIGHBOUR: 'it returns false'. Refute it at one input. -/
def freeRootsWrong : ChangeSpec := { name := "freeRoots", fn := fun _ => fun
  | [d] => { results := [.lit (.bool false)], args := [d] }
  | _ => none }
def FreeRootsWrongFalsely : Prop := freeRootsRow.holds Try.pinned (OpenSpec.ofChange freeRootsWrong)

/-- 'cayleylaw.FreeTurns': WHATEVER THE INPUT: true; the input reads as it did. -/
def freeTurnsSpec : ChangeSpec := { name := "freeTurns", fn := fun _ => fun
  | [d1, d2, d3] => { results := [.lit (.bool true)], args := [d1, d2, d3] }
  | _ => none }
def freeTurnsRow : OpenClaim := { program := "ythmgpgkfeknhgaa", sum := "7d6a8a7fd0cecba837fce4951c2ed8b2816e953d58d1ca4d7c77d110b0605fd1", func := "cayley/cayleylaw.FreeTurns", spec := "freeTurns", apart := false }
def FreeTurnsSaid : Prop := freeTurnsRow.holds Try.pinned (OpenSpec.ofChange freeTurnsSpec)

/-- ITS FALSE NEIGHBOUR: 'it returns false'. Refute it at one input. -/
def freeTurnsWrong : ChangeSpec := { name := "freeTurns", fn := fun _ => fun
  | [d1, d2, d3] => { results := [.lit (.bool false)], args := [d1, d2, d3] }
  | _ => none }
def FreeTurnsWrongFalsely : Prop := freeTurnsRow.holds Try.pinned (OpenSpec.ofChange freeTurnsWrong)

/-- 'cayleylaw.FreeCores': WHATEVER THE INPUT: true; the input reads as it did. -/
def freeCoresSpec : ChangeSpec := { name := "freeCores", fn := fun _ => fun
  | [d] => { results := [.lit (.bool true)], args := [d] }
  | _ => none }
def freeCoresRow : OpenClaim := { program := "ythmgpgkfeknhgaa", sum := "7d6a8a7fd0cecba837fce4951c2ed8b2816e953d58d1ca4d7c77d110b0605fd1", func := "cayley/cayleylaw.FreeCores", spec := "freeCores", apart := false }
def FreeCoresSaid : Prop := freeCoresRow.holds Try.pinned (OpenSpec.ofChange freeCoresSpec)

/-- ITS FALSE NEIGHBOUR: 'it returns false'. Refute it at one input. -/
def freeCoresWrong : ChangeSpec := { name := "freeCores", fn := fun _ => fun
  | [d] => { results := [.lit (.bool false)], args := [d] }
  | _ => none }
def FreeCoresWrongFalsely : Prop := freeCoresRow.holds Try.pinned (OpenSpec.ofChange freeCoresWrong)

/-- 'cayleylaw.FreeCommutes': WHATEVER THE INPUT: true; the input reads as it did. -/
def freeCommutesSpec : ChangeSpec := { name := "freeCommutes", fn := fun _ => fun
  | [d1, d2] => { results := [.lit (.bool true)], args := [d1, d2] }
  | _ => none }
def freeCommutesRow : OpenClaim := { program := "ythmgpgkfeknhgaa", sum := "7d6a8a7fd0cecba837fce4951c2ed8b2816e953d58d1ca4d7c77d110b0605fd1", func := "cayley/cayleylaw.FreeCommutes", spec := "freeCommutes", apart := false }
def FreeCommutesSaid : Prop := freeCommutesRow.holds Try.pinned (OpenSpec.ofChange freeCommutesSpec)

/-- ITS FALSE NEIGHBOUR: 'it returns false'. Refute it at one input. -/
def freeCommutesWrong : ChangeSpec := { name := "freeCommutes", fn := fun _ => fun
  | [d1, d2] => { results := [.lit (.bool false)], args := [d1, d2] }
  | _ => none }
def FreeCommutesWrongFalsely : Prop := freeCommutesRow.holds Try.pinned (OpenSpec.ofChange freeCommutesWrong)

/-- 'cayleylaw.FreeConjugates': WHATEVER THE INPUT: true; the input reads as it did. -/
def freeConjugatesSpec : ChangeSpec := { name := "freeConjugates", fn := fun _ => fun
  | [d1, d2] => { results := [.lit (.bool true)], args := [d1, d2] }
  | _ => none }
def freeConjugatesRow : OpenClaim := { program := "ythmgpgkfeknhgaa", sum := "7d6a8a7fd0cecba837fce4951c2ed8b2816e953d58d1ca4d7c77d110b0605fd1", func := "cayley/cayleylaw.FreeConjugates", spec := "freeConjugates", apart := false }
def FreeConjugatesSaid : Prop := freeConjugatesRow.holds Try.pinned (OpenSpec.ofChange freeConjugatesSpec)

/-- ITS FALSE NEIGHBOUR: 'it returns false'. Refute it at one input. -/
def freeConjugatesWrong : ChangeSpec := { name := "freeConjugates", fn := fun _ => fun
  | [d1, d2] => { results := [.lit (.bool false)], args := [d1, d2] }
  | _ => none }
def FreeConjugatesWrongFalsely : Prop := freeConjugatesRow.holds Try.pinned (OpenSpec.ofChange freeConjugatesWrong)

/-- 'cayleylaw.FreeGroup': WHATEVER THE INPUT: true; the input reads as it did. -/
def freeGroupSpec : ChangeSpec := { name := "freeGroup", fn := fun _ => fun
  | [d1, d2, d3] => { results := [.lit (.bool true)], args := [d1, d2, d3] }
  | _ => none }
def freeGroupRow : OpenClaim := { program := "ythmgpgkfeknhgaa", sum := "7d6a8a7fd0cecba837fce4951c2ed8b2816e953d58d1ca4d7c77d110b0605fd1", func := "cayley/cayleylaw.FreeGroup", spec := "freeGroup", apart := false }
def FreeGroupSaid : Prop := freeGroupRow.holds Try.pinned (OpenSpec.ofChange freeGroupSpec)

/-- ITS FALSE NEIGHBOUR: 'it returns false'. Refute it at one input. -/
def freeGroupWrong : ChangeSpec := { name := "freeGroup", fn := fun _ => fun
  | [d1, d2, d3] => { results := [.lit (.bool false)], args := [d1, d2, d3] }
  | _ => none }
def FreeGroupWrongFalsely : Prop := freeGroupRow.holds Try.pinned (OpenSpec.ofChange freeGroupWrong)

/-- 'cayleylaw.FreeReckons': WHATEVER THE INPUT: true; the input reads as it did. -/
def freeReckonsSpec : ChangeSpec := { name := "freeReckons", fn := fun _ => fun
  | [d1, d2] => { results := [.lit (.bool true)], args := [d1, d2] }
  | _ => none }
def freeReckonsRow : OpenClaim := { program := "ythmgpgkfeknhgaa", sum := "7d6a8a7fd0cecba837fce4951c2ed8b2816e953d58d1ca4d7c77d110b0605fd1", func := "cayley/cayleylaw.FreeReckons", spec := "freeReckons", unfollowed := true, recurses := true, apart := false }
def FreeReckonsSaid : Prop := freeReckonsRow.holds Try.pinned (OpenSpec.ofChange freeReckonsSpec)

/-- ITS FALSE NEIGHBOUR: 'it returns false'. Refute it at one input. -/
def freeReckonsWrong : ChangeSpec := { name := "freeReckons", fn := fun _ => fun
  | [d1, d2] => { results := [.lit (.bool false)], args := [d1, d2] }
  | _ => none }
def FreeReckonsWrongFalsely : Prop := freeReckonsRow.holds Try.pinned (OpenSpec.ofChange freeReckonsWrong)

/-- 'cayleylaw.FreeTexts': WHATEVER THE INPUT: true; the input reads as it did. -/
def freeTextsSpec : ChangeSpec := { name := "freeTexts", fn := fun _ => fun
  | [d1, d2] => { results := [.lit (.bool true)], args := [d1, d2] }
  | _ => none }
def freeTextsRow : OpenClaim := { program := "ythmgpgkfeknhgaa", sum := "7d6a8a7fd0cecba837fce4951c2ed8b2816e953d58d1ca4d7c77d110b0605fd1", func := "cayley/cayleylaw.FreeTexts", spec := "freeTexts", apart := false }
def FreeTextsSaid : Prop := freeTextsRow.holds Try.pinned (OpenSpec.ofChange freeTextsSpec)

/-- ITS FALSE NEIGHBOUR: 'it returns false'. Refute it at one input. -/
def freeTextsWrong : ChangeSpec := { name := "freeTexts", fn := fun _ => fun
  | [d1, d2] => { results := [.lit (.bool false)], args := [d1, d2] }
  | _ => none }
def FreeTextsWrongFalsely : Prop := freeTextsRow.holds Try.pinned (OpenSpec.ofChange freeTextsWrong)

/- THE SECOND FORM. 'bulk': how many values and letters a reading holds, each counted each time it is reached (what is shared counts as often as it is met; a slice's spare places count too). A statement '..UptoSaid' is the law's where the arguments, and the package variables that the reading takes, are together of bulk at most 1048576: NARROWER than '..Said'. Prove '..Said' where nothing that the law and all that it calls make is longer than what came in: it says more and counts as full. Else prove '..UptoSaid'. A law counts once. -/
mutual
def uptoBulk {H : Type} : DataW H → Nat
  | .lit (.string bytes) => bytes.length + 1
  | .lit _ => 1
  | .nil => 1
  | .ptr d => uptoBulk d + 1
  | .slice elems spare => uptoBulkAll elems + uptoBulkAll spare + 1
  | .agg parts => uptoBulkAll parts + 1
  | .iface _ d => uptoBulk d + 1
  | .map entries => uptoBulkEntries entries + 1
  | .held _ => 1
def uptoBulkAll {H : Type} : List (DataW H) → Nat
  | [] => 0
  | d :: r => uptoBulk d + uptoBulkAll r
def uptoBulkEntries {H : Type} : List (Lit × DataW H) → Nat
  | [] => 0
  | x :: r => uptoBulkEntry x + uptoBulkEntries r
def uptoBulkEntry {H : Type} : Lit × DataW H → Nat
  | (.string bytes, d) => bytes.length + uptoBulk d + 1
  | (_, d) => uptoBulk d + 1
 end
def uptoSmall : (H : Type) → List (DataW H) → Bool := fun _ ds => decide (uptoBulkAll ds ≤ 1048576)
def OpenSpec.upto (s : _root_.Go.ChangeSpec) : _root_.Go.OpenSpec := { _root_.Go.OpenSpec.ofChange s with cond := some uptoSmall }

/-- 'cayleylaw.FreeRoots', WHERE WHAT IT READS IS OF BULK AT MOST 1048576: true; the input reads as it did. -/
def freeRootsUptoRow : OpenClaim := { program := "ythmgpgkfeknhgaa", sum := "7d6a8a7fd0cecba837fce4951c2ed8b2816e953d58d1ca4d7c77d110b0605fd1", func := "cayley/cayleylaw.FreeRoots", spec := "freeRoots", apart := false, narrowed := true }
def FreeRootsUptoSaid : Prop := freeRootsUptoRow.holds Try.pinned (OpenSpec.upto freeRootsSpec)

/-- 'cayleylaw.FreeTurns', WHERE WHAT IT READS IS OF BULK AT MOST 1048576: true; the input reads as it did. -/
def freeTurnsUptoRow : OpenClaim := { program := "ythmgpgkfeknhgaa", sum := "7d6a8a7fd0cecba837fce4951c2ed8b2816e953d58d1ca4d7c77d110b0605fd1", func := "cayley/cayleylaw.FreeTurns", spec := "freeTurns", apart := false, narrowed := true }
def FreeTurnsUptoSaid : Prop := freeTurnsUptoRow.holds Try.pinned (OpenSpec.upto freeTurnsSpec)

/-- 'cayleylaw.FreeCores', WHERE WHAT IT READS IS OF BULK AT MOST 1048576: true; the input reads as it did. -/
def freeCoresUptoRow : OpenClaim := { program := "ythmgpgkfeknhgaa", sum := "7d6a8a7fd0cecba837fce4951c2ed8b2816e953d58d1ca4d7c77d110b0605fd1", func := "cayley/cayleylaw.FreeCores", spec := "freeCores", apart := false, narrowed := true }
def FreeCoresUptoSaid : Prop := freeCoresUptoRow.holds Try.pinned (OpenSpec.upto freeCoresSpec)

/-- 'cayleylaw.FreeCommutes', WHERE WHAT IT READS IS OF BULK AT MOST 1048576: true; the input reads as it did. -/
def freeCommutesUptoRow : OpenClaim := { program := "ythmgpgkfeknhgaa", sum := "7d6a8a7fd0cecba837fce4951c2ed8b2816e953d58d1ca4d7c77d110b0605fd1", func := "cayley/cayleylaw.FreeCommutes", spec := "freeCommutes", apart := false, narrowed := true }
def FreeCommutesUptoSaid : Prop := freeCommutesUptoRow.holds Try.pinned (OpenSpec.upto freeCommutesSpec)

/-- 'cayleylaw.FreeConjugates', WHERE WHAT IT READS IS OF BULK AT MOST 1048576: true; the input reads as it did. -/
def freeConjugatesUptoRow : OpenClaim := { program := "ythmgpgkfeknhgaa", sum := "7d6a8a7fd0cecba837fce4951c2ed8b2816e953d58d1ca4d7c77d110b0605fd1", func := "cayley/cayleylaw.FreeConjugates", spec := "freeConjugates", apart := false, narrowed := true }
def FreeConjugatesUptoSaid : Prop := freeConjugatesUptoRow.holds Try.pinned (OpenSpec.upto freeConjugatesSpec)

/-- 'cayleylaw.FreeGroup', WHERE WHAT IT READS IS OF BULK AT MOST 1048576: true; the input reads as it did. -/
def freeGroupUptoRow : OpenClaim := { program := "ythmgpgkfeknhgaa", sum := "7d6a8a7fd0cecba837fce4951c2ed8b2816e953d58d1ca4d7c77d110b0605fd1", func := "cayley/cayleylaw.FreeGroup", spec := "freeGroup", apart := false, narrowed := true }
def FreeGroupUptoSaid : Prop := freeGroupUptoRow.holds Try.pinned (OpenSpec.upto freeGroupSpec)

/-- 'cayleylaw.FreeReckons', WHERE WHAT IT READS IS OF BULK AT MOST 1048576: true; the input reads as it did. -/
def freeReckonsUptoRow : OpenClaim := { program := "ythmgpgkfeknhgaa", sum := "7d6a8a7fd0cecba837fce4951c2ed8b2816e953d58d1ca4d7c77d110b0605fd1", func := "cayley/cayleylaw.FreeReckons", spec := "freeReckons", unfollowed := true, recurses := true, apart := false, narrowed := true }
def FreeReckonsUptoSaid : Prop := freeReckonsUptoRow.holds Try.pinned (OpenSpec.upto freeReckonsSpec)

/-- 'cayleylaw.FreeTexts', WHERE WHAT IT READS IS OF BULK AT MOST 1048576: true; the input reads as it did. -/
def freeTextsUptoRow : OpenClaim := { program := "ythmgpgkfeknhgaa", sum := "7d6a8a7fd0cecba837fce4951c2ed8b2816e953d58d1ca4d7c77d110b0605fd1", func := "cayley/cayleylaw.FreeTexts", spec := "freeTexts", apart := false, narrowed := true }
def FreeTextsUptoSaid : Prop := freeTextsUptoRow.holds Try.pinned (OpenSpec.upto freeTextsSpec)

end Rows
end Go.Proofs.Ythmgpgkfeknhgaa
