/-
  NARROWER THAN 'FOR EVERY INPUT', by the rows' own cells (each row's printed sentence says how): ClassTimes: laid · ClassSums: laid · ClassPowers: laid · ClassAll: laid · ClassCentres: laid · SubDedekind: laid · SubMakes: laid · SubProducts: laid · SubCentres: laid · SubAbelian: laid.
  DERIVED. THE GIVEN ROWS OF THIS SEAT. 10 by the template 'for every input the law returns true; each argument reads behind the call as it read before'; 0 by the template 'total and deterministic' (their statements: YtllompejbfbabaaDoorTotals.lean).
  GIVEN WITH THE SEED: the statements are not yours to turn. If you find one false, say at which input.
  Laid BY PROGRAM, IN A SANDBOX (cutbox-rows.mjs): the forced cells as the released guide's own fill.sh prints them over the translation df87b40c8f1642b0… (all of the seat's roots in one cut). By AI agents, Wed Nov 11 2026. No macro, syntax, notation, axiom, sorry.
-/
import Derived.Test.YtllompejbfbabaaDoorChecked
import GoSem.Claim
import GoSem.ClaimJoined
import GoSem.ClaimMapViews
import Derived.JoinedTies
import Derived.KernelRfl
namespace Go.Proofs.YtllompejbfbabaaDoor
/- THE CELL 'sum', in the pinned program and in every row, IS THE sha256 OF THE DUMP (.gsa) THAT YtllompejbfbabaaDoorProg.lean LOADS. Nothing in Lean hashes anything: it is a label: what it is worth is what the hold of that sum in a sandbox is worth. -/
noncomputable def Tryd.pinned : Pinned := { name := "ytllompejbfbabaadoor", sum := "df87b40c8f1642b0d1ba11afe11b0a63c17542c8aa3445741f2aef61b2ea93e1", checked := Tryd.checked }
namespace Rows
def none {H : Type} : Left H := { results := [], args := [] }

/- WHAT THE LISTED PACKAGE-LEVEL VARIABLES READ AS WHEN THE CALL BEGINS. Each datum BY PROGRAM (the guide's laid-datum.mjs) off the statement by which the dump's own 'gosem.cut.vars' lays the variable. In a bare row this is a premise. The card (YtllompejbfbabaaDoorCards.lean) ties it to the program's text. -/
def laid_math_bits_deBruijn64tab {H : Type} : DataW H := .agg [.lit (.int .u8 0), .lit (.int .u8 1), .lit (.int .u8 56), .lit (.int .u8 2), .lit (.int .u8 57), .lit (.int .u8 49), .lit (.int .u8 28), .lit (.int .u8 3), .lit (.int .u8 61), .lit (.int .u8 58), .lit (.int .u8 42), .lit (.int .u8 50), .lit (.int .u8 38), .lit (.int .u8 29), .lit (.int .u8 17), .lit (.int .u8 4), .lit (.int .u8 62), .lit (.int .u8 47), .lit (.int .u8 59), .lit (.int .u8 36), .lit (.int .u8 45), .lit (.int .u8 43), .lit (.int .u8 51), .lit (.int .u8 22), .lit (.int .u8 53), .lit (.int .u8 39), .lit (.int .u8 33), .lit (.int .u8 30), .lit (.int .u8 24), .lit (.int .u8 18), .lit (.int .u8 12), .lit (.int .u8 5), .lit (.int .u8 63), .lit (.int .u8 55), .lit (.int .u8 48), .lit (.int .u8 27), .lit (.int .u8 60), .lit (.int .u8 41), .lit (.int .u8 37), .lit (.int .u8 16), .lit (.int .u8 46), .lit (.int .u8 35), .lit (.int .u8 44), .lit (.int .u8 21), .lit (.int .u8 52), .lit (.int .u8 32), .lit (.int .u8 23), .lit (.int .u8 11), .lit (.int .u8 54), .lit (.int .u8 26), .lit (.int .u8 40), .lit (.int .u8 15), .lit (.int .u8 34), .lit (.int .u8 20), .lit (.int .u8 31), .lit (.int .u8 10), .lit (.int .u8 25), .lit (.int .u8 14), .lit (.int .u8 19), .lit (.int .u8 9), .lit (.int .u8 13), .lit (.int .u8 8), .lit (.int .u8 7), .lit (.int .u8 6)]

/-- 'cayleylaw.ClassTimes': WHATEVER THE INPUT: true; the input reads as it did. -/
def classTimesSpec : ChangeSpec := { name := "classTimes", fn := fun _ => fun
  | [d] => { results := [.lit (.bool true)], args := [d] }
  | _ => none }
def classTimesRow : OpenClaim := { program := "ytllompejbfbabaadoor", sum := "df87b40c8f1642b0d1ba11afe11b0a63c17542c8aa3445741f2aef61b2ea93e1", func := "cayley/cayleylaw.ClassTimes", spec := "classTimes", unfollowed := true, recurses := true, named := ["math/bits.deBruijn64tab"], apart := false, laid := [("math/bits.deBruijn64tab", laid_math_bits_deBruijn64tab)] }
def ClassTimesSaid : Prop := classTimesRow.holds Tryd.pinned (OpenSpec.ofChange classTimesSpec)

/-- ITS FALSE NEIGHBOUR: 'it returns false'. Refute it at one input. -/
def classTimesWrong : ChangeSpec := { name := "classTimes", fn := fun _ => fun
  | [d] => { results := [.lit (.bool false)], args := [d] }
  | _ => none }
def ClassTimesWrongFalsely : Prop := classTimesRow.holds Tryd.pinned (OpenSpec.ofChange classTimesWrong)

/-- 'cayleylaw.ClassSums': WHATEVER THE INPUT: true; the input reads as it did. -/
def classSumsSpec : ChangeSpec := { name := "classSums", fn := fun _ => fun
  | [d1, d2, d3, d4] => { results := [.lit (.bool true)], args := [d1, d2, d3, d4] }
  | _ => none }
def classSumsRow : OpenClaim := { program := "ytllompejbfbabaadoor", sum := "df87b40c8f1642b0d1ba11afe11b0a63c17542c8aa3445741f2aef61b2ea93e1", func := "cayley/cayleylaw.ClassSums", spec := "classSums", named := ["math/bits.deBruijn64tab"], apart := false, laid := [("math/bits.deBruijn64tab", laid_math_bits_deBruijn64tab)] }
def ClassSumsSaid : Prop := classSumsRow.holds Tryd.pinned (OpenSpec.ofChange classSumsSpec)

/-- ITS FALSE NEIGHBOUR: 'it returns false'. Refute it at one input. -/
def classSumsWrong : ChangeSpec := { name := "classSums", fn := fun _ => fun
  | [d1, d2, d3, d4] => { results := [.lit (.bool false)], args := [d1, d2, d3, d4] }
  | _ => none }
def ClassSumsWrongFalsely : Prop := classSumsRow.holds Tryd.pinned (OpenSpec.ofChange classSumsWrong)

/-- 'cayleylaw.ClassPowers': WHATEVER THE INPUT: true; the input reads as it did. -/
def classPowersSpec : ChangeSpec := { name := "classPowers", fn := fun _ => fun
  | [d1, d2] => { results := [.lit (.bool true)], args := [d1, d2] }
  | _ => none }
def classPowersRow : OpenClaim := { program := "ytllompejbfbabaadoor", sum := "df87b40c8f1642b0d1ba11afe11b0a63c17542c8aa3445741f2aef61b2ea93e1", func := "cayley/cayleylaw.ClassPowers", spec := "classPowers", unfollowed := true, recurses := true, named := ["math/bits.deBruijn64tab"], apart := false, laid := [("math/bits.deBruijn64tab", laid_math_bits_deBruijn64tab)] }
def ClassPowersSaid : Prop := classPowersRow.holds Tryd.pinned (OpenSpec.ofChange classPowersSpec)

/-- ITS FALSE NEIGHBOUR: 'it returns false'. Refute it at one input. -/
def classPowersWrong : ChangeSpec := { name := "classPowers", fn := fun _ => fun
  | [d1, d2] => { results := [.lit (.bool false)], args := [d1, d2] }
  | _ => none }
def ClassPowersWrongFalsely : Prop := classPowersRow.holds Tryd.pinned (OpenSpec.ofChange classPowersWrong)

/-- 'cayleylaw.ClassAll': WHATEVER THE INPUT: true; the input reads as it did. -/
def classAllSpec : ChangeSpec := { name := "classAll", fn := fun _ => fun
  | [d] => { results := [.lit (.bool true)], args := [d] }
  | _ => none }
def classAllRow : OpenClaim := { program := "ytllompejbfbabaadoor", sum := "df87b40c8f1642b0d1ba11afe11b0a63c17542c8aa3445741f2aef61b2ea93e1", func := "cayley/cayleylaw.ClassAll", spec := "classAll", unfollowed := true, recurses := true, named := ["math/bits.deBruijn64tab"], apart := false, laid := [("math/bits.deBruijn64tab", laid_math_bits_deBruijn64tab)] }
def ClassAllSaid : Prop := classAllRow.holds Tryd.pinned (OpenSpec.ofChange classAllSpec)

/-- ITS FALSE NEIGHBOUR: 'it returns false'. Refute it at one input. -/
def classAllWrong : ChangeSpec := { name := "classAll", fn := fun _ => fun
  | [d] => { results := [.lit (.bool false)], args := [d] }
  | _ => none }
def ClassAllWrongFalsely : Prop := classAllRow.holds Tryd.pinned (OpenSpec.ofChange classAllWrong)

/-- 'cayleylaw.ClassCentres': WHATEVER THE INPUT: true; the input reads as it did. -/
def classCentresSpec : ChangeSpec := { name := "classCentres", fn := fun _ => fun
  | [d] => { results := [.lit (.bool true)], args := [d] }
  | _ => none }
def classCentresRow : OpenClaim := { program := "ytllompejbfbabaadoor", sum := "df87b40c8f1642b0d1ba11afe11b0a63c17542c8aa3445741f2aef61b2ea93e1", func := "cayley/cayleylaw.ClassCentres", spec := "classCentres", unfollowed := true, recurses := true, named := ["math/bits.deBruijn64tab"], apart := false, laid := [("math/bits.deBruijn64tab", laid_math_bits_deBruijn64tab)] }
def ClassCentresSaid : Prop := classCentresRow.holds Tryd.pinned (OpenSpec.ofChange classCentresSpec)

/-- ITS FALSE NEIGHBOUR: 'it returns false'. Refute it at one input. -/
def classCentresWrong : ChangeSpec := { name := "classCentres", fn := fun _ => fun
  | [d] => { results := [.lit (.bool false)], args := [d] }
  | _ => none }
def ClassCentresWrongFalsely : Prop := classCentresRow.holds Tryd.pinned (OpenSpec.ofChange classCentresWrong)

/-- 'cayleylaw.SubDedekind': WHATEVER THE INPUT: true; the input reads as it did. -/
def subDedekindSpec : ChangeSpec := { name := "subDedekind", fn := fun _ => fun
  | [d1, d2, d3, d4] => { results := [.lit (.bool true)], args := [d1, d2, d3, d4] }
  | _ => none }
def subDedekindRow : OpenClaim := { program := "ytllompejbfbabaadoor", sum := "df87b40c8f1642b0d1ba11afe11b0a63c17542c8aa3445741f2aef61b2ea93e1", func := "cayley/cayleylaw.SubDedekind", spec := "subDedekind", unfollowed := true, recurses := true, named := ["math/bits.deBruijn64tab"], apart := false, laid := [("math/bits.deBruijn64tab", laid_math_bits_deBruijn64tab)] }
def SubDedekindSaid : Prop := subDedekindRow.holds Tryd.pinned (OpenSpec.ofChange subDedekindSpec)

/-- ITS FALSE NEIGHBOUR: 'it returns false'. Refute it at one input. -/
def subDedekindWrong : ChangeSpec := { name := "subDedekind", fn := fun _ => fun
  | [d1, d2, d3, d4] => { results := [.lit (.bool false)], args := [d1, d2, d3, d4] }
  | _ => none }
def SubDedekindWrongFalsely : Prop := subDedekindRow.holds Tryd.pinned (OpenSpec.ofChange subDedekindWrong)

/-- 'cayleylaw.SubMakes': WHATEVER THE INPUT: true; the input reads as it did. -/
def subMakesSpec : ChangeSpec := { name := "subMakes", fn := fun _ => fun
  | [d1, d2] => { results := [.lit (.bool true)], args := [d1, d2] }
  | _ => none }
def subMakesRow : OpenClaim := { program := "ytllompejbfbabaadoor", sum := "df87b40c8f1642b0d1ba11afe11b0a63c17542c8aa3445741f2aef61b2ea93e1", func := "cayley/cayleylaw.SubMakes", spec := "subMakes", unfollowed := true, recurses := true, named := ["math/bits.deBruijn64tab"], apart := false, laid := [("math/bits.deBruijn64tab", laid_math_bits_deBruijn64tab)] }
def SubMakesSaid : Prop := subMakesRow.holds Tryd.pinned (OpenSpec.ofChange subMakesSpec)

/-- ITS FALSE NEIGHBOUR: 'it returns false'. Refute it at one input. -/
def subMakesWrong : ChangeSpec := { name := "subMakes", fn := fun _ => fun
  | [d1, d2] => { results := [.lit (.bool false)], args := [d1, d2] }
  | _ => none }
def SubMakesWrongFalsely : Prop := subMakesRow.holds Tryd.pinned (OpenSpec.ofChange subMakesWrong)

/-- 'cayleylaw.SubProducts': WHATEVER THE INPUT: true; the input reads as it did. -/
def subProductsSpec : ChangeSpec := { name := "subProducts", fn := fun _ => fun
  | [d1, d2, d3] => { results := [.lit (.bool true)], args := [d1, d2, d3] }
  | _ => none }
def subProductsRow : OpenClaim := { program := "ytllompejbfbabaadoor", sum := "df87b40c8f1642b0d1ba11afe11b0a63c17542c8aa3445741f2aef61b2ea93e1", func := "cayley/cayleylaw.SubProducts", spec := "subProducts", unfollowed := true, recurses := true, named := ["math/bits.deBruijn64tab"], apart := false, laid := [("math/bits.deBruijn64tab", laid_math_bits_deBruijn64tab)] }
def SubProductsSaid : Prop := subProductsRow.holds Tryd.pinned (OpenSpec.ofChange subProductsSpec)

/-- ITS FALSE NEIGHBOUR: 'it returns false'. Refute it at one input. -/
def subProductsWrong : ChangeSpec := { name := "subProducts", fn := fun _ => fun
  | [d1, d2, d3] => { results := [.lit (.bool false)], args := [d1, d2, d3] }
  | _ => none }
def SubProductsWrongFalsely : Prop := subProductsRow.holds Tryd.pinned (OpenSpec.ofChange subProductsWrong)

/-- 'cayleylaw.SubCentres': WHATEVER THE INPUT: true; the input reads as it did. -/
def subCentresSpec : ChangeSpec := { name := "subCentres", fn := fun _ => fun
  | [d1, d2, d3] => { results := [.lit (.bool true)], args := [d1, d2, d3] }
  | _ => none }
def subCentresRow : OpenClaim := { program := "ytllompejbfbabaadoor", sum := "df87b40c8f1642b0d1ba11afe11b0a63c17542c8aa3445741f2aef61b2ea93e1", func := "cayley/cayleylaw.SubCentres", spec := "subCentres", unfollowed := true, recurses := true, named := ["math/bits.deBruijn64tab"], apart := false, laid := [("math/bits.deBruijn64tab", laid_math_bits_deBruijn64tab)] }
def SubCentresSaid : Prop := subCentresRow.holds Tryd.pinned (OpenSpec.ofChange subCentresSpec)

/-- ITS FALSE NEIGHBOUR: 'it returns false'. Refute it at one input. -/
def subCentresWrong : ChangeSpec := { name := "subCentres", fn := fun _ => fun
  | [d1, d2, d3] => { results := [.lit (.bool false)], args := [d1, d2, d3] }
  | _ => none }
def SubCentresWrongFalsely : Prop := subCentresRow.holds Tryd.pinned (OpenSpec.ofChange subCentresWrong)

/-- 'cayleylaw.SubAbelian': WHATEVER THE INPUT: true; the input reads as it did. -/
def subAbelianSpec : ChangeSpec := { name := "subAbelian", fn := fun _ => fun
  | [d] => { results := [.lit (.bool true)], args := [d] }
  | _ => none }
def subAbelianRow : OpenClaim := { program := "ytllompejbfbabaadoor", sum := "df87b40c8f1642b0d1ba11afe11b0a63c17542c8aa3445741f2aef61b2ea93e1", func := "cayley/cayleylaw.SubAbelian", spec := "subAbelian", unfollowed := true, recurses := true, named := ["math/bits.deBruijn64tab"], apart := false, laid := [("math/bits.deBruijn64tab", laid_math_bits_deBruijn64tab)] }
def SubAbelianSaid : Prop := subAbelianRow.holds Tryd.pinned (OpenSpec.ofChange subAbelianSpec)

/-- ITS FALSE NEIGHBOUR: 'it returns false'. Refute it at one input. -/
def subAbelianWrong : ChangeSpec := { name := "subAbelian", fn := fun _ => fun
  | [d] => { results := [.lit (.bool false)], args := [d] }
  | _ => none }
def SubAbelianWrongFalsely : Prop := subAbelianRow.holds Tryd.pinned (OpenSpec.ofChange subAbelianWrong)

/- THE SECOND FORM. 'bulk': how many values and letters a reading holds, each counted each time it is reached (what is shared counts as often as it is met; a slice's spare places count too). A statement '..UptoSaid' is the law's where the arguments, and the package variables that the reading takes, are together of bulk at most 1048576: NARROWER than '..Said'. Prove '..Said' where nothing that the law and all that it calls make is longer than what came in: it says more and counts as full. Else prove '..UptoSaid'. A law counts once. -/
mutual
def uptoBulk {H : Type} : DataW H → Nat
  | .lit (.string bytes) => bytes.length + 1
  | .lit _ => 1
  | .nil => 1
  | .ptr d => uptoBulk d + 1
  | .slice elems spare => uptoBulkAll elems + uptoBulkAll spare + 1
  | .agg parts => uptoBulkAll parts + 1
  | .iface _ d => uptoBulk d + 1
  | .map entries => uptoBulkEntries entries + 1
  | .held _ => 1
def uptoBulkAll {H : Type} : List (DataW H) → Nat
  | [] => 0
  | d :: r => uptoBulk d + uptoBulkAll r
def uptoBulkEntries {H : Type} : List (Lit × DataW H) → Nat
  | [] => 0
  | x :: r => uptoBulkEntry x + uptoBulkEntries r
def uptoBulkEntry {H : Type} : Lit × DataW H → Nat
  | (.string bytes, d) => bytes.length + uptoBulk d + 1
  | (_, d) => uptoBulk d + 1
 end
def uptoSmall : (H : Type) → List (DataW H) → Bool := fun _ ds => decide (uptoBulkAll ds ≤ 1048576)
def OpenSpec.upto (s : _root_.Go.ChangeSpec) : _root_.Go.OpenSpec := { _root_.Go.OpenSpec.ofChange s with cond := some uptoSmall }

/-- 'cayleylaw.ClassTimes', WHERE WHAT IT READS IS OF BULK AT MOST 1048576: true; the input reads as it did. -/
def classTimesUptoRow : OpenClaim := { program := "ytllompejbfbabaadoor", sum := "df87b40c8f1642b0d1ba11afe11b0a63c17542c8aa3445741f2aef61b2ea93e1", func := "cayley/cayleylaw.ClassTimes", spec := "classTimes", unfollowed := true, recurses := true, named := ["math/bits.deBruijn64tab"], apart := false, laid := [("math/bits.deBruijn64tab", laid_math_bits_deBruijn64tab)], narrowed := true }
def ClassTimesUptoSaid : Prop := classTimesUptoRow.holds Tryd.pinned (OpenSpec.upto classTimesSpec)

/-- 'cayleylaw.ClassSums', WHERE WHAT IT READS IS OF BULK AT MOST 1048576: true; the input reads as it did. -/
def classSumsUptoRow : OpenClaim := { program := "ytllompejbfbabaadoor", sum := "df87b40c8f1642b0d1ba11afe11b0a63c17542c8aa3445741f2aef61b2ea93e1", func := "cayley/cayleylaw.ClassSums", spec := "classSums", named := ["math/bits.deBruijn64tab"], apart := false, laid := [("math/bits.deBruijn64tab", laid_math_bits_deBruijn64tab)], narrowed := true }
def ClassSumsUptoSaid : Prop := classSumsUptoRow.holds Tryd.pinned (OpenSpec.upto classSumsSpec)

/-- 'cayleylaw.ClassPowers', WHERE WHAT IT READS IS OF BULK AT MOST 1048576: true; the input reads as it did. -/
def classPowersUptoRow : OpenClaim := { program := "ytllompejbfbabaadoor", sum := "df87b40c8f1642b0d1ba11afe11b0a63c17542c8aa3445741f2aef61b2ea93e1", func := "cayley/cayleylaw.ClassPowers", spec := "classPowers", unfollowed := true, recurses := true, named := ["math/bits.deBruijn64tab"], apart := false, laid := [("math/bits.deBruijn64tab", laid_math_bits_deBruijn64tab)], narrowed := true }
def ClassPowersUptoSaid : Prop := classPowersUptoRow.holds Tryd.pinned (OpenSpec.upto classPowersSpec)

/-- 'cayleylaw.ClassAll', WHERE WHAT IT READS IS OF BULK AT MOST 1048576: true; the input reads as it did. -/
def classAllUptoRow : OpenClaim := { program := "ytllompejbfbabaadoor", sum := "df87b40c8f1642b0d1ba11afe11b0a63c17542c8aa3445741f2aef61b2ea93e1", func := "cayley/cayleylaw.ClassAll", spec := "classAll", unfollowed := true, recurses := true, named := ["math/bits.deBruijn64tab"], apart := false, laid := [("math/bits.deBruijn64tab", laid_math_bits_deBruijn64tab)], narrowed := true }
def ClassAllUptoSaid : Prop := classAllUptoRow.holds Tryd.pinned (OpenSpec.upto classAllSpec)

/-- 'cayleylaw.ClassCentres', WHERE WHAT IT READS IS OF BULK AT MOST 1048576: true; the input reads as it did. -/
def classCentresUptoRow : OpenClaim := { program := "ytllompejbfbabaadoor", sum := "df87b40c8f1642b0d1ba11afe11b0a63c17542c8aa3445741f2aef61b2ea93e1", func := "cayley/cayleylaw.ClassCentres", spec := "classCentres", unfollowed := true, recurses := true, named := ["math/bits.deBruijn64tab"], apart := false, laid := [("math/bits.deBruijn64tab", laid_math_bits_deBruijn64tab)], narrowed := true }
def ClassCentresUptoSaid : Prop := classCentresUptoRow.holds Tryd.pinned (OpenSpec.upto classCentresSpec)

/-- 'cayleylaw.SubDedekind', WHERE WHAT IT READS IS OF BULK AT MOST 1048576: true; the input reads as it did. -/
def subDedekindUptoRow : OpenClaim := { program := "ytllompejbfbabaadoor", sum := "df87b40c8f1642b0d1ba11afe11b0a63c17542c8aa3445741f2aef61b2ea93e1", func := "cayley/cayleylaw.SubDedekind", spec := "subDedekind", unfollowed := true, recurses := true, named := ["math/bits.deBruijn64tab"], apart := false, laid := [("math/bits.deBruijn64tab", laid_math_bits_deBruijn64tab)], narrowed := true }
def SubDedekindUptoSaid : Prop := subDedekindUptoRow.holds Tryd.pinned (OpenSpec.upto subDedekindSpec)

/-- 'cayleylaw.SubMakes', WHERE WHAT IT READS IS OF BULK AT MOST 1048576: true; the input reads as it did. -/
def subMakesUptoRow : OpenClaim := { program := "ytllompejbfbabaadoor", sum := "df87b40c8f1642b0d1ba11afe11b0a63c17542c8aa3445741f2aef61b2ea93e1", func := "cayley/cayleylaw.SubMakes", spec := "subMakes", unfollowed := true, recurses := true, named := ["math/bits.deBruijn64tab"], apart := false, laid := [("math/bits.deBruijn64tab", laid_math_bits_deBruijn64tab)], narrowed := true }
def SubMakesUptoSaid : Prop := subMakesUptoRow.holds Tryd.pinned (OpenSpec.upto subMakesSpec)

/-- 'cayleylaw.SubProducts', WHERE WHAT IT READS IS OF BULK AT MOST 1048576: true; the input reads as it did. -/
def subProductsUptoRow : OpenClaim := { program := "ytllompejbfbabaadoor", sum := "df87b40c8f1642b0d1ba11afe11b0a63c17542c8aa3445741f2aef61b2ea93e1", func := "cayley/cayleylaw.SubProducts", spec := "subProducts", unfollowed := true, recurses := true, named := ["math/bits.deBruijn64tab"], apart := false, laid := [("math/bits.deBruijn64tab", laid_math_bits_deBruijn64tab)], narrowed := true }
def SubProductsUptoSaid : Prop := subProductsUptoRow.holds Tryd.pinned (OpenSpec.upto subProductsSpec)

/-- 'cayleylaw.SubCentres', WHERE WHAT IT READS IS OF BULK AT MOST 1048576: true; the input reads as it did. -/
def subCentresUptoRow : OpenClaim := { program := "ytllompejbfbabaadoor", sum := "df87b40c8f1642b0d1ba11afe11b0a63c17542c8aa3445741f2aef61b2ea93e1", func := "cayley/cayleylaw.SubCentres", spec := "subCentres", unfollowed := true, recurses := true, named := ["math/bits.deBruijn64tab"], apart := false, laid := [("math/bits.deBruijn64tab", laid_math_bits_deBruijn64tab)], narrowed := true }
def SubCentresUptoSaid : Prop := subCentresUptoRow.holds Tryd.pinned (OpenSpec.upto subCentresSpec)

/-- 'cayleylaw.SubAbelian', WHERE WHAT IT READS IS OF BULK AT MOST 1048576: true; the input reads as it did. -/
def subAbelianUptoRow : OpenClaim := { program := "ytllompejbfbabaadoor", sum := "df87b40c8f1642b0d1ba11afe11b0a63c17542c8aa3445741f2aef61b2ea93e1", func := "cayley/cayleylaw.SubAbelian", spec := "subAbelian", unfollowed := true, recurses := true, named := ["math/bits.deBruijn64tab"], apart := false, laid := [("math/bits.deBruijn64tab", laid_math_bits_deBruijn64tab)], narrowed := true }
def SubAbelianUptoSaid : Prop := subAbelianUptoRow.holds Tryd.pinned (OpenSpec.upto subAbelianSpec)

end Rows
end Go.Proofs.YtllompejbfbabaaDoor
