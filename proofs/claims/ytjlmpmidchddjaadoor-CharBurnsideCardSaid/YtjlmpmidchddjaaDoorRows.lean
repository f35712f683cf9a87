/-
  NARROWER THAN 'FOR EVERY INPUT', by the rows' own cells (each row's printed sentence says how): CharTables: laid · CharOrthogonal: laid · CharBrauer: laid · CharSchur: laid · CharDegrees: laid · CharProducts: laid · CharBurnside: laid · CharKernels: laid.
  DERIVED. THE GIVEN ROWS OF THIS SEAT. 8 by the template 'for every input the law returns true; each argument reads behind the call as it read before'; 0 by the template 'total and deterministic' (their statements: YtjlmpmidchddjaaDoorTotals.lean).
  GIVEN WITH THE SEED: the statements are not yours to turn. If you find one false, say at which input.
  Laid BY PROGRAM, IN A SANDBOX (cutbox-rows.mjs): the forced cells as the released guide's own fill.sh prints them over the translation 2a8750edc3e9aeb0… (all of the seat's roots in one cut). By AI agents, Wed Nov 11 2026. No macro, syntax, notation, axiom, sorry.
-/
import Derived.Test.YtjlmpmidchddjaaDoorChecked
import GoSem.Claim
import GoSem.ClaimJoined
import GoSem.ClaimMapViews
import Derived.JoinedTies
import Derived.KernelRfl
namespace Go.Proofs.YtjlmpmidchddjaaDoor
/- THE CELL 'sum', in the pinned program and in every row, IS THE sha256 OF THE DUMP (.gsa) THAT YtjlmpmidchddjaaDoorProg.lean LOADS. Nothing in Lean hashes anything: it is a label: what it is worth is what the hold of that sum in a sandbox is worth. -/
noncomputable def Tryd.pinned : Pinned := { name := "ytjlmpmidchddjaadoor", sum := "2a8750edc3e9aeb02885651bffd5616fef934e74adb98ff49123cdc2ebfd37d8", checked := Tryd.checked }
namespace Rows
def none {H : Type} : Left H := { results := [], args := [] }

/- WHAT THE LISTED PACKAGE-LEVEL VARIABLES READ AS WHEN THE CALL BEGINS. Each datum BY PROGRAM (the guide's laid-datum.mjs) off the statement by which the dump's own 'gosem.cut.vars' lays the variable. In a bare row this is a premise. The card (YtjlmpmidchddjaaDoorCards.lean) ties it to the program's text. -/
def laid_math_bits_deBruijn64tab {H : Type} : DataW H := .agg [.lit (.int .u8 0), .lit (.int .u8 1), .lit (.int .u8 56), .lit (.int .u8 2), .lit (.int .u8 57), .lit (.int .u8 49), .lit (.int .u8 28), .lit (.int .u8 3), .lit (.int .u8 61), .lit (.int .u8 58), .lit (.int .u8 42), .lit (.int .u8 50), .lit (.int .u8 38), .lit (.int .u8 29), .lit (.int .u8 17), .lit (.int .u8 4), .lit (.int .u8 62), .lit (.int .u8 47), .lit (.int .u8 59), .lit (.int .u8 36), .lit (.int .u8 45), .lit (.int .u8 43), .lit (.int .u8 51), .lit (.int .u8 22), .lit (.int .u8 53), .lit (.int .u8 39), .lit (.int .u8 33), .lit (.int .u8 30), .lit (.int .u8 24), .lit (.int .u8 18), .lit (.int .u8 12), .lit (.int .u8 5), .lit (.int .u8 63), .lit (.int .u8 55), .lit (.int .u8 48), .lit (.int .u8 27), .lit (.int .u8 60), .lit (.int .u8 41), .lit (.int .u8 37), .lit (.int .u8 16), .lit (.int .u8 46), .lit (.int .u8 35), .lit (.int .u8 44), .lit (.int .u8 21), .lit (.int .u8 52), .lit (.int .u8 32), .lit (.int .u8 23), .lit (.int .u8 11), .lit (.int .u8 54), .lit (.int .u8 26), .lit (.int .u8 40), .lit (.int .u8 15), .lit (.int .u8 34), .lit (.int .u8 20), .lit (.int .u8 31), .lit (.int .u8 10), .lit (.int .u8 25), .lit (.int .u8 14), .lit (.int .u8 19), .lit (.int .u8 9), .lit (.int .u8 13), .lit (.int .u8 8), .lit (.int .u8 7), .lit (.int .u8 6)]

/-- 'cayleylaw.CharTables': WHATEVER THE INPUT: true; the input reads as it did. -/
def charTablesSpec : ChangeSpec := { name := "charTables", fn := fun _ => fun
  | [d] => { results := [.lit (.bool true)], args := [d] }
  | _ => none }
def charTablesRow : OpenClaim := { program := "ytjlmpmidchddjaadoor", sum := "2a8750edc3e9aeb02885651bffd5616fef934e74adb98ff49123cdc2ebfd37d8", func := "cayley/cayleylaw.CharTables", spec := "charTables", unfollowed := true, recurses := true, named := ["math/bits.deBruijn64tab"], apart := false, laid := [("math/bits.deBruijn64tab", laid_math_bits_deBruijn64tab)] }
def CharTablesSaid : Prop := charTablesRow.holds Tryd.pinned (OpenSpec.ofChange charTablesSpec)

/-- ITS FALSE NEIGHBOUR: 'it returns false'. Refute it at one input. -/
def charTablesWrong : ChangeSpec := { name := "charTables", fn := fun _ => fun
  | [d] => { results := [.lit (.bool false)], args := [d] }
  | _ => none }
def CharTablesWrongFalsely : Prop := charTablesRow.holds Tryd.pinned (OpenSpec.ofChange charTablesWrong)

/-- 'cayleylaw.CharOrthogonal': WHATEVER THE INPUT: true; the input reads as it did. -/
def charOrthogonalSpec : ChangeSpec := { name := "charOrthogonal", fn := fun _ => fun
  | [d] => { results := [.lit (.bool true)], args := [d] }
  | _ => none }
def charOrthogonalRow : OpenClaim := { program := "ytjlmpmidchddjaadoor", sum := "2a8750edc3e9aeb02885651bffd5616fef934e74adb98ff49123cdc2ebfd37d8", func := "cayley/cayleylaw.CharOrthogonal", spec := "charOrthogonal", unfollowed := true, recurses := true, named := ["math/bits.deBruijn64tab"], apart := false, laid := [("math/bits.deBruijn64tab", laid_math_bits_deBruijn64tab)] }
def CharOrthogonalSaid : Prop := charOrthogonalRow.holds Tryd.pinned (OpenSpec.ofChange charOrthogonalSpec)

/-- ITS FALSE NEIGHBOUR: 'it returns false'. Refute it at one input. -/
def charOrthogonalWrong : ChangeSpec := { name := "charOrthogonal", fn := fun _ => fun
  | [d] => { results := [.lit (.bool false)], args := [d] }
  | _ => none }
def CharOrthogonalWrongFalsely : Prop := charOrthogonalRow.holds Tryd.pinned (OpenSpec.ofChange charOrthogonalWrong)

/-- 'cayleylaw.CharBrauer': WHATEVER THE INPUT: true; the input reads as it did. -/
def charBrauerSpec : ChangeSpec := { name := "charBrauer", fn := fun _ => fun
  | [d] => { results := [.lit (.bool true)], args := [d] }
  | _ => none }
def charBrauerRow : OpenClaim := { program := "ytjlmpmidchddjaadoor", sum := "2a8750edc3e9aeb02885651bffd5616fef934e74adb98ff49123cdc2ebfd37d8", func := "cayley/cayleylaw.CharBrauer", spec := "charBrauer", unfollowed := true, recurses := true, named := ["math/bits.deBruijn64tab"], apart := false, laid := [("math/bits.deBruijn64tab", laid_math_bits_deBruijn64tab)] }
def CharBrauerSaid : Prop := charBrauerRow.holds Tryd.pinned (OpenSpec.ofChange charBrauerSpec)

/-- ITS FALSE NEIGHBOUR: 'it returns false'. Refute it at one input. -/
def charBrauerWrong : ChangeSpec := { name := "charBrauer", fn := fun _ => fun
  | [d] => { results := [.lit (.bool false)], args := [d] }
  | _ => none }
def CharBrauerWrongFalsely : Prop := charBrauerRow.holds Tryd.pinned (OpenSpec.ofChange charBrauerWrong)

/-- 'cayleylaw.CharSchur': WHATEVER THE INPUT: true; the input reads as it did. -/
def charSchurSpec : ChangeSpec := { name := "charSchur", fn := fun _ => fun
  | [d] => { results := [.lit (.bool true)], args := [d] }
  | _ => none }
def charSchurRow : OpenClaim := { program := "ytjlmpmidchddjaadoor", sum := "2a8750edc3e9aeb02885651bffd5616fef934e74adb98ff49123cdc2ebfd37d8", func := "cayley/cayleylaw.CharSchur", spec := "charSchur", unfollowed := true, recurses := true, named := ["math/bits.deBruijn64tab"], apart := false, laid := [("math/bits.deBruijn64tab", laid_math_bits_deBruijn64tab)] }
def CharSchurSaid : Prop := charSchurRow.holds Tryd.pinned (OpenSpec.ofChange charSchurSpec)

/-- ITS FALSE NEIGHBOUR: 'it returns false'. Refute it at one input. -/
def charSchurWrong : ChangeSpec := { name := "charSchur", fn := fun _ => fun
  | [d] => { results := [.lit (.bool false)], args := [d] }
  | _ => none }
def CharSchurWrongFalsely : Prop := charSchurRow.holds Tryd.pinned (OpenSpec.ofChange charSchurWrong)

/-- 'cayleylaw.CharDegrees': WHATEVER THE INPUT: true; the input reads as it did. -/
def charDegreesSpec : ChangeSpec := { name := "charDegrees", fn := fun _ => fun
  | [d] => { results := [.lit (.bool true)], args := [d] }
  | _ => none }
def charDegreesRow : OpenClaim := { program := "ytjlmpmidchddjaadoor", sum := "2a8750edc3e9aeb02885651bffd5616fef934e74adb98ff49123cdc2ebfd37d8", func := "cayley/cayleylaw.CharDegrees", spec := "charDegrees", unfollowed := true, recurses := true, named := ["math/bits.deBruijn64tab"], apart := false, laid := [("math/bits.deBruijn64tab", laid_math_bits_deBruijn64tab)] }
def CharDegreesSaid : Prop := charDegreesRow.holds Tryd.pinned (OpenSpec.ofChange charDegreesSpec)

/-- ITS FALSE NEIGHBOUR: 'it returns false'. Refute it at one input. -/
def charDegreesWrong : ChangeSpec := { name := "charDegrees", fn := fun _ => fun
  | [d] => { results := [.lit (.bool false)], args := [d] }
  | _ => none }
def CharDegreesWrongFalsely : Prop := charDegreesRow.holds Tryd.pinned (OpenSpec.ofChange charDegreesWrong)

/-- 'cayleylaw.CharProducts': WHATEVER THE INPUT: true; the input reads as it did. -/
def charProductsSpec : ChangeSpec := { name := "charProducts", fn := fun _ => fun
  | [d1, d2] => { results := [.lit (.bool true)], args := [d1, d2] }
  | _ => none }
def charProductsRow : OpenClaim := { program := "ytjlmpmidchddjaadoor", sum := "2a8750edc3e9aeb02885651bffd5616fef934e74adb98ff49123cdc2ebfd37d8", func := "cayley/cayleylaw.CharProducts", spec := "charProducts", unfollowed := true, recurses := true, named := ["math/bits.deBruijn64tab"], apart := false, laid := [("math/bits.deBruijn64tab", laid_math_bits_deBruijn64tab)] }
def CharProductsSaid : Prop := charProductsRow.holds Tryd.pinned (OpenSpec.ofChange charProductsSpec)

/-- ITS FALSE NEIGHBOUR: 'it returns false'. Refute it at one input. -/
def charProductsWrong : ChangeSpec := { name := "charProducts", fn := fun _ => fun
  | [d1, d2] => { results := [.lit (.bool false)], args := [d1, d2] }
  | _ => none }
def CharProductsWrongFalsely : Prop := charProductsRow.holds Tryd.pinned (OpenSpec.ofChange charProductsWrong)

/-- 'cayleylaw.CharBurnside': WHATEVER THE INPUT: true; the input reads as it did. -/
def charBurnsideSpec : ChangeSpec := { name := "charBurnside", fn := fun _ => fun
  | [d] => { results := [.lit (.bool true)], args := [d] }
  | _ => none }
def charBurnsideRow : OpenClaim := { program := "ytjlmpmidchddjaadoor", sum := "2a8750edc3e9aeb02885651bffd5616fef934e74adb98ff49123cdc2ebfd37d8", func := "cayley/cayleylaw.CharBurnside", spec := "charBurnside", unfollowed := true, recurses := true, named := ["math/bits.deBruijn64tab"], apart := false, laid := [("math/bits.deBruijn64tab", laid_math_bits_deBruijn64tab)] }
def CharBurnsideSaid : Prop := charBurnsideRow.holds Tryd.pinned (OpenSpec.ofChange charBurnsideSpec)

/-- ITS FALSE NEIGHBOUR: 'it returns false'. Refute it at one input. -/
def charBurnsideWrong : ChangeSpec := { name := "charBurnside", fn := fun _ => fun
  | [d] => { results := [.lit (.bool false)], args := [d] }
  | _ => none }
def CharBurnsideWrongFalsely : Prop := charBurnsideRow.holds Tryd.pinned (OpenSpec.ofChange charBurnsideWrong)

/-- 'cayleylaw.CharKernels': WHATEVER THE INPUT: true; the input reads as it did. -/
def charKernelsSpec : ChangeSpec := { name := "charKernels", fn := fun _ => fun
  | [d1, d2] => { results := [.lit (.bool true)], args := [d1, d2] }
  | _ => none }
def charKernelsRow : OpenClaim := { program := "ytjlmpmidchddjaadoor", sum := "2a8750edc3e9aeb02885651bffd5616fef934e74adb98ff49123cdc2ebfd37d8", func := "cayley/cayleylaw.CharKernels", spec := "charKernels", unfollowed := true, recurses := true, named := ["math/bits.deBruijn64tab"], apart := false, laid := [("math/bits.deBruijn64tab", laid_math_bits_deBruijn64tab)] }
def CharKernelsSaid : Prop := charKernelsRow.holds Tryd.pinned (OpenSpec.ofChange charKernelsSpec)

/-- ITS FALSE NEIGHBOUR: 'it returns false'. Refute it at one input. -/
def charKernelsWrong : ChangeSpec := { name := "charKernels", fn := fun _ => fun
  | [d1, d2] => { results := [.lit (.bool false)], args := [d1, d2] }
  | _ => none }
def CharKernelsWrongFalsely : Prop := charKernelsRow.holds Tryd.pinned (OpenSpec.ofChange charKernelsWrong)

/- THE SECOND FORM. 'bulk': how many values and letters a reading holds, each counted each time it is reached (what is shared counts as often as it is met; a slice's spare places count too). A statement '..UptoSaid' is the law's where the arguments, and the package variables that the reading takes, are together of bulk at most 1048576: NARROWER than '..Said'. Prove '..Said' where nothing that the law and all that it calls make is longer than what came in: it says more and counts as full. Else prove '..UptoSaid'. A law counts once. -/
mutual
def uptoBulk {H : Type} : DataW H → Nat
  | .lit (.string bytes) => bytes.length + 1
  | .lit _ => 1
  | .nil => 1
  | .ptr d => uptoBulk d + 1
  | .slice elems spare => uptoBulkAll elems + uptoBulkAll spare + 1
  | .agg parts => uptoBulkAll parts + 1
  | .iface _ d => uptoBulk d + 1
  | .map entries => uptoBulkEntries entries + 1
  | .held _ => 1
def uptoBulkAll {H : Type} : List (DataW H) → Nat
  | [] => 0
  | d :: r => uptoBulk d + uptoBulkAll r
def uptoBulkEntries {H : Type} : List (Lit × DataW H) → Nat
  | [] => 0
  | x :: r => uptoBulkEntry x + uptoBulkEntries r
def uptoBulkEntry {H : Type} : Lit × DataW H → Nat
  | (.string bytes, d) => bytes.length + uptoBulk d + 1
  | (_, d) => uptoBulk d + 1
 end
def uptoSmall : (H : Type) → List (DataW H) → Bool := fun _ ds => decide (uptoBulkAll ds ≤ 1048576)
def OpenSpec.upto (s : _root_.Go.ChangeSpec) : _root_.Go.OpenSpec := { _root_.Go.OpenSpec.ofChange s with cond := some uptoSmall }

/-- 'cayleylaw.CharTables', WHERE WHAT IT READS IS OF BULK AT MOST 1048576: true; the input reads as it did. -/
def charTablesUptoRow : OpenClaim := { program := "ytjlmpmidchddjaadoor", sum := "2a8750edc3e9aeb02885651bffd5616fef934e74adb98ff49123cdc2ebfd37d8", func := "cayley/cayleylaw.CharTables", spec := "charTables", unfollowed := true, recurses := true, named := ["math/bits.deBruijn64tab"], apart := false, laid := [("math/bits.deBruijn64tab", laid_math_bits_deBruijn64tab)], narrowed := true }
def CharTablesUptoSaid : Prop := charTablesUptoRow.holds Tryd.pinned (OpenSpec.upto charTablesSpec)

/-- 'cayleylaw.CharOrthogonal', WHERE WHAT IT READS IS OF BULK AT MOST 1048576: true; the input reads as it did. -/
def charOrthogonalUptoRow : OpenClaim := { program := "ytjlmpmidchddjaadoor", sum := "2a8750edc3e9aeb02885651bffd5616fef934e74adb98ff49123cdc2ebfd37d8", func := "cayley/cayleylaw.CharOrthogonal", spec := "charOrthogonal", unfollowed := true, recurses := true, named := ["math/bits.deBruijn64tab"], apart := false, laid := [("math/bits.deBruijn64tab", laid_math_bits_deBruijn64tab)], narrowed := true }
def CharOrthogonalUptoSaid : Prop := charOrthogonalUptoRow.holds Tryd.pinned (OpenSpec.upto charOrthogonalSpec)

/-- 'cayleylaw.CharBrauer', WHERE WHAT IT READS IS OF BULK AT MOST 1048576: true; the input reads as it did. -/
def charBrauerUptoRow : OpenClaim := { program := "ytjlmpmidchddjaadoor", sum := "2a8750edc3e9aeb02885651bffd5616fef934e74adb98ff49123cdc2ebfd37d8", func := "cayley/cayleylaw.CharBrauer", spec := "charBrauer", unfollowed := true, recurses := true, named := ["math/bits.deBruijn64tab"], apart := false, laid := [("math/bits.deBruijn64tab", laid_math_bits_deBruijn64tab)], narrowed := true }
def CharBrauerUptoSaid : Prop := charBrauerUptoRow.holds Tryd.pinned (OpenSpec.upto charBrauerSpec)

/-- 'cayleylaw.CharSchur', WHERE WHAT IT READS IS OF BULK AT MOST 1048576: true; the input reads as it did. -/
def charSchurUptoRow : OpenClaim := { program := "ytjlmpmidchddjaadoor", sum := "2a8750edc3e9aeb02885651bffd5616fef934e74adb98ff49123cdc2ebfd37d8", func := "cayley/cayleylaw.CharSchur", spec := "charSchur", unfollowed := true, recurses := true, named := ["math/bits.deBruijn64tab"], apart := false, laid := [("math/bits.deBruijn64tab", laid_math_bits_deBruijn64tab)], narrowed := true }
def CharSchurUptoSaid : Prop := charSchurUptoRow.holds Tryd.pinned (OpenSpec.upto charSchurSpec)

/-- 'cayleylaw.CharDegrees', WHERE WHAT IT READS IS OF BULK AT MOST 1048576: true; the input reads as it did. -/
def charDegreesUptoRow : OpenClaim := { program := "ytjlmpmidchddjaadoor", sum := "2a8750edc3e9aeb02885651bffd5616fef934e74adb98ff49123cdc2ebfd37d8", func := "cayley/cayleylaw.CharDegrees", spec := "charDegrees", unfollowed := true, recurses := true, named := ["math/bits.deBruijn64tab"], apart := false, laid := [("math/bits.deBruijn64tab", laid_math_bits_deBruijn64tab)], narrowed := true }
def CharDegreesUptoSaid : Prop := charDegreesUptoRow.holds Tryd.pinned (OpenSpec.upto charDegreesSpec)

/-- 'cayleylaw.CharProducts', WHERE WHAT IT READS IS OF BULK AT MOST 1048576: true; the input reads as it did. -/
def charProductsUptoRow : OpenClaim := { program := "ytjlmpmidchddjaadoor", sum := "2a8750edc3e9aeb02885651bffd5616fef934e74adb98ff49123cdc2ebfd37d8", func := "cayley/cayleylaw.CharProducts", spec := "charProducts", unfollowed := true, recurses := true, named := ["math/bits.deBruijn64tab"], apart := false, laid := [("math/bits.deBruijn64tab", laid_math_bits_deBruijn64tab)], narrowed := true }
def CharProductsUptoSaid : Prop := charProductsUptoRow.holds Tryd.pinned (OpenSpec.upto charProductsSpec)

/-- 'cayleylaw.CharBurnside', WHERE WHAT IT READS IS OF BULK AT MOST 1048576: true; the input reads as it did. -/
def charBurnsideUptoRow : OpenClaim := { program := "ytjlmpmidchddjaadoor", sum := "2a8750edc3e9aeb02885651bffd5616fef934e74adb98ff49123cdc2ebfd37d8", func := "cayley/cayleylaw.CharBurnside", spec := "charBurnside", unfollowed := true, recurses := true, named := ["math/bits.deBruijn64tab"], apart := false, laid := [("math/bits.deBruijn64tab", laid_math_bits_deBruijn64tab)], narrowed := true }
def CharBurnsideUptoSaid : Prop := charBurnsideUptoRow.holds Tryd.pinned (OpenSpec.upto charBurnsideSpec)

/-- 'cayleylaw.CharKernels', WHERE WHAT IT READS IS OF BULK AT MOST 1048576: true; the input reads as it did. -/
def charKernelsUptoRow : OpenClaim := { program := "ytjlmpmidchddjaadoor", sum := "2a8750edc3e9aeb02885651bffd5616fef934e74adb98ff49123cdc2ebfd37d8", func := "cayley/cayleylaw.CharKernels", spec := "charKernels", unfollowed := true, recurses := true, named := ["math/bits.deBruijn64tab"], apart := false, laid := [("math/bits.deBruijn64tab", laid_math_bits_deBruijn64tab)], narrowed := true }
def CharKernelsUptoSaid : Prop := charKernelsUptoRow.holds Tryd.pinned (OpenSpec.upto charKernelsSpec)

end Rows
end Go.Proofs.YtjlmpmidchddjaaDoor
