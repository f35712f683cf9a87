/-
  No cell of these rows narrows 'for every input' (looked for: loops, veiled, ifaces, maps, wideKeys, modest, calm, conditions, laid).
  DERIVED. THE GIVEN ROWS OF THIS SEAT. 4 by the template 'for every input the law returns true; each argument reads behind the call as it read before'; 0 by the template 'total and deterministic' (their statements: YthdmioeddgednaaTotals.lean).
  GIVEN WITH THE SEED: the statements are not yours to turn. If you find one false, say at which input.
  Laid BY PROGRAM, IN A SANDBOX (cutbox-rows.mjs): the forced cells as the released guide's own fill.sh prints them over the translation cef40b1c917d11f1… (all of the seat's roots in one cut). By AI agents, Wed Nov 11 2026. No macro, syntax, notation, axiom, sorry.
-/
import Derived.Test.YthdmioeddgednaaChecked
import GoSem.Claim
import GoSem.ClaimJoined
import GoSem.ClaimMapViews
import Derived.JoinedTies
import Derived.KernelRfl
namespace Go.Proofs.Ythdmioeddgednaa
/- THE CELL 'sum', in the pinned program and in every row, IS THE sha256 OF THE DUMP (.gsa) THAT YthdmioeddgednaaProg.lean LOADS. Nothing in Lean hashes anything: it is a label: what it is worth is what the hold of that sum in a sandbox is worth. -/
noncomputable def Try.pinned : Pinned := { name := "ythdmioeddgednaa", sum := "cef40b1c917d11f1296e7365e375d0d1e1a07bf72846dfa3638ef8ddbf59a235", checked := Try.checked }
namespace Rows
def none {H : Type} : Left H := { results := [], args := [] }

/-- 'cayleylaw.ExtCoprime': WHATEVER THE INPUT: true; the input reads as it did. -/
def extCoprimeSpec : ChangeSpec := { name := "extCoprime", fn := fun _ => fun
  | [d1, d2, d3, d4] => { results := [.lit (.bool true)], args := [d1, d2, d3, d4] }
  | _ => none }
def extCoprimeRow : OpenClaim := { program := "ythdmioeddgednaa", sum := "cef40b1c917d11f1296e7365e375d0d1e1a07bf72846dfa3638ef8ddbf59a235", func := "cayley/cayleylaw.ExtCoprime", spec := "extCoprime", apart := false }
def ExtCoprimeSaid : Prop := extCoprimeRow.holds Try.pinned (OpenSpec.ofChange extCoprimeSpec)

/-- ITS FALSE NEIGHBOUR: 'it returns false'. Refute it at one input. -/
def extCoprimeWrong : ChangeSpec := { name := "extCoprime", fn := fun _ => fun
  | [d1, d2, d3, d4] => { results := [.lit (.bool false)], args := [d1, d2, d3, d4] }
  | _ => none }
def ExtCoprimeWrongFalsely : Prop := extCoprimeRow.holds Try.pinned (OpenSpec.ofChange extCoprimeWrong)

/-- 'cayleylaw.ExtMakes': WHATEVER THE INPUT: true; the input reads as it did. -/
def extMakesSpec : ChangeSpec := { name := "extMakes", fn := fun _ => fun
  | [d1, d2, d3] => { results := [.lit (.bool true)], args := [d1, d2, d3] }
  | _ => none }
def extMakesRow : OpenClaim := { program := "ythdmioeddgednaa", sum := "cef40b1c917d11f1296e7365e375d0d1e1a07bf72846dfa3638ef8ddbf59a235", func := "cayley/cayleylaw.ExtMakes", spec := "extMakes", unfollowed := true, recurses := true, apart := false }
def ExtMakesSaid : Prop := extMakesRow.holds Try.pinned (OpenSpec.ofChange extMakesSpec)

/-- ITS FALSE NEIGHBOUR: 'it returns false'. Refute it at one input. -/
def extMakesWrong : ChangeSpec := { name := "extMakes", fn := fun _ => fun
  | [d1, d2, d3] => { results := [.lit (.bool false)], args := [d1, d2, d3] }
  | _ => none }
def ExtMakesWrongFalsely : Prop := extMakesRow.holds Try.pinned (OpenSpec.ofChange extMakesWrong)

/-- 'cayleylaw.ExtChecks': WHATEVER THE INPUT: true; the input reads as it did. -/
def extChecksSpec : ChangeSpec := { name := "extChecks", fn := fun _ => fun
  | [d1, d2, d3, d4, d5] => { results := [.lit (.bool true)], args := [d1, d2, d3, d4, d5] }
  | _ => none }
def extChecksRow : OpenClaim := { program := "ythdmioeddgednaa", sum := "cef40b1c917d11f1296e7365e375d0d1e1a07bf72846dfa3638ef8ddbf59a235", func := "cayley/cayleylaw.ExtChecks", spec := "extChecks", unfollowed := true, recurses := true, apart := false }
def ExtChecksSaid : Prop := extChecksRow.holds Try.pinned (OpenSpec.ofChange extChecksSpec)

/-- ITS FALSE NEIGHBOUR: 'it returns false'. Refute it at one input. -/
def extChecksWrong : ChangeSpec := { name := "extChecks", fn := fun _ => fun
  | [d1, d2, d3, d4, d5] => { results := [.lit (.bool false)], args := [d1, d2, d3, d4, d5] }
  | _ => none }
def ExtChecksWrongFalsely : Prop := extChecksRow.holds Try.pinned (OpenSpec.ofChange extChecksWrong)

/-- 'cayleylaw.ExtBounds': WHATEVER THE INPUT: true; the input reads as it did. -/
def extBoundsSpec : ChangeSpec := { name := "extBounds", fn := fun _ => fun
  | [d1, d2, d3] => { results := [.lit (.bool true)], args := [d1, d2, d3] }
  | _ => none }
def extBoundsRow : OpenClaim := { program := "ythdmioeddgednaa", sum := "cef40b1c917d11f1296e7365e375d0d1e1a07bf72846dfa3638ef8ddbf59a235", func := "cayley/cayleylaw.ExtBounds", spec := "extBounds", apart := false }
def ExtBoundsSaid : Prop := extBoundsRow.holds Try.pinned (OpenSpec.ofChange extBoundsSpec)

/-- ITS FALSE NEIGHBOUR: 'it returns false'. Refute it at one input. -/
def extBoundsWrong : ChangeSpec := { name := "extBounds", fn := fun _ => fun
  | [d1, d2, d3] => { results := [.lit (.bool false)], args := [d1, d2, d3] }
  | _ => none }
def ExtBoundsWrongFalsely : Prop := extBoundsRow.holds Try.pinned (OpenSpec.ofChange extBoundsWrong)

/- THE SECOND FORM. 'bulk': how many values and letters a reading holds, each counted each time it is reached (what is shared counts as often as it is met; a slice's spare places count too). A statement '..UptoSaid' is the law's where the arguments, and the package variables that the reading takes, are together of bulk at most 1048576: NARROWER than '..Said'. Prove '..Said' where nothing that the law and all that it calls make is longer than what came in: it says more and counts as full. Else prove '..UptoSaid'. A law counts once. -/
mutual
def uptoBulk {H : Type} : DataW H → Nat
  | .lit (.string bytes) => bytes.length + 1
  | .lit _ => 1
  | .nil => 1
  | .ptr d => uptoBulk d + 1
  | .slice elems spare => uptoBulkAll elems + uptoBulkAll spare + 1
  | .agg parts => uptoBulkAll parts + 1
  | .iface _ d => uptoBulk d + 1
  | .map entries => uptoBulkEntries entries + 1
  | .held _ => 1
def uptoBulkAll {H : Type} : List (DataW H) → Nat
  | [] => 0
  | d :: r => uptoBulk d + uptoBulkAll r
def uptoBulkEntries {H : Type} : List (Lit × DataW H) → Nat
  | [] => 0
  | x :: r => uptoBulkEntry x + uptoBulkEntries r
def uptoBulkEntry {H : Type} : Lit × DataW H → Nat
  | (.string bytes, d) => bytes.length + uptoBulk d + 1
  | (_, d) => uptoBulk d + 1
 end
def uptoSmall : (H : Type) → List (DataW H) → Bool := fun _ ds => decide (uptoBulkAll ds ≤ 1048576)
def OpenSpec.upto (s : _root_.Go.ChangeSpec) : _root_.Go.OpenSpec := { _root_.Go.OpenSpec.ofChange s with cond := some uptoSmall }

/-- 'cayleylaw.ExtCoprime', WHERE WHAT IT READS IS OF BULK AT MOST 1048576: true; the input reads as it did. -/
def extCoprimeUptoRow : OpenClaim := { program := "ythdmioeddgednaa", sum := "cef40b1c917d11f1296e7365e375d0d1e1a07bf72846dfa3638ef8ddbf59a235", func := "cayley/cayleylaw.ExtCoprime", spec := "extCoprime", apart := false, narrowed := true }
def ExtCoprimeUptoSaid : Prop := extCoprimeUptoRow.holds Try.pinned (OpenSpec.upto extCoprimeSpec)

/-- 'cayleylaw.ExtMakes', WHERE WHAT IT READS IS OF BULK AT MOST 1048576: true; the input reads as it did. -/
def extMakesUptoRow : OpenClaim := { program := "ythdmioeddgednaa", sum := "cef40b1c917d11f1296e7365e375d0d1e1a07bf72846dfa3638ef8ddbf59a235", func := "cayley/cayleylaw.ExtMakes", spec := "extMakes", unfollowed := true, recurses := true, apart := false, narrowed := true }
def ExtMakesUptoSaid : Prop := extMakesUptoRow.holds Try.pinned (OpenSpec.upto extMakesSpec)

/-- 'cayleylaw.ExtChecks', WHERE WHAT IT READS IS OF BULK AT MOST 1048576: true; the input reads as it did. -/
def extChecksUptoRow : OpenClaim := { program := "ythdmioeddgednaa", sum := "cef40b1c917d11f1296e7365e375d0d1e1a07bf72846dfa3638ef8ddbf59a235", func := "cayley/cayleylaw.ExtChecks", spec := "extChecks", unfollowed := true, recurses := true, apart := false, narrowed := true }
def ExtChecksUptoSaid : Prop := extChecksUptoRow.holds Try.pinned (OpenSpec.upto extChecksSpec)

/-- 'cayleylaw.ExtBounds', WHERE WHAT IT READS IS OF BULK AT MOST 1048576: true; the input reads as it did. -/
def extBoundsUptoRow : OpenClaim := { program := "ythdmioeddgednaa", sum := "cef40b1c917d11f1296e7365e375d0d1e1a07bf72846dfa3638ef8ddbf59a235", func := "cayley/cayleylaw.ExtBounds", spec := "extBounds", apart := false, narrowed := true }
def ExtBoundsUptoSaid : Prop := extBoundsUptoRow.holds Try.pinned (OpenSpec.upto extBoundsSpec)

end Rows
end Go.Proofs.Ythdmioeddgednaa
