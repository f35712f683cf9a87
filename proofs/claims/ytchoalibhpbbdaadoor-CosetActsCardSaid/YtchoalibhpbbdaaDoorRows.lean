/-
  NARROWER THAN 'FOR EVERY INPUT', by the rows' own cells (each row's printed sentence says how): SeriesGo: laid · CosetLists: laid · CosetTowers: laid · CosetDouble: laid · CosetSides: laid · SubNormal: laid · ProdDirect: laid · SeriesNormal: laid · QuotMakes: laid · SubChains: laid · QuotParts: laid · CosetActs: laid.
  DERIVED. THE GIVEN ROWS OF THIS SEAT. 12 by the template 'for every input the law returns true; each argument reads behind the call as it read before'; 0 by the template 'total and deterministic' (their statements: YtchoalibhpbbdaaDoorTotals.lean).
  GIVEN WITH THE SEED: the statements are not yours to turn. If you find one false, say at which input.
  Laid BY PROGRAM, IN A SANDBOX (cutbox-rows.mjs): the forced cells as the released guide's own fill.sh prints them over the translation cd7f55311e618861… (all of the seat's roots in one cut). By AI agents, Wed Nov 11 2026. No macro, syntax, notation, axiom, sorry.
-/
import Derived.Test.YtchoalibhpbbdaaDoorChecked
import GoSem.Claim
import GoSem.ClaimJoined
import GoSem.ClaimMapViews
import Derived.JoinedTies
import Derived.KernelRfl
namespace Go.Proofs.YtchoalibhpbbdaaDoor
/- THE CELL 'sum', in the pinned program and in every row, IS THE sha256 OF THE DUMP (.gsa) THAT YtchoalibhpbbdaaDoorProg.lean LOADS. Nothing in Lean hashes anything: it is a label: what it is worth is what the hold of that sum in a sandbox is worth. -/
noncomputable def Tryd.pinned : Pinned := { name := "ytchoalibhpbbdaadoor", sum := "cd7f55311e6188617813696b908fe53e66e319d6f68ccb58de300baf6cab19f2", checked := Tryd.checked }
namespace Rows
def none {H : Type} : Left H := { results := [], args := [] }

/- WHAT THE LISTED PACKAGE-LEVEL VARIABLES READ AS WHEN THE CALL BEGINS. Each datum BY PROGRAM (the guide's laid-datum.mjs) off the statement by which the dump's own 'gosem.cut.vars' lays the variable. In a bare row this is a premise. The card (YtchoalibhpbbdaaDoorCards.lean) ties it to the program's text. -/
def laid_math_bits_deBruijn64tab {H : Type} : DataW H := .agg [.lit (.int .u8 0), .lit (.int .u8 1), .lit (.int .u8 56), .lit (.int .u8 2), .lit (.int .u8 57), .lit (.int .u8 49), .lit (.int .u8 28), .lit (.int .u8 3), .lit (.int .u8 61), .lit (.int .u8 58), .lit (.int .u8 42), .lit (.int .u8 50), .lit (.int .u8 38), .lit (.int .u8 29), .lit (.int .u8 17), .lit (.int .u8 4), .lit (.int .u8 62), .lit (.int .u8 47), .lit (.int .u8 59), .lit (.int .u8 36), .lit (.int .u8 45), .lit (.int .u8 43), .lit (.int .u8 51), .lit (.int .u8 22), .lit (.int .u8 53), .lit (.int .u8 39), .lit (.int .u8 33), .lit (.int .u8 30), .lit (.int .u8 24), .lit (.int .u8 18), .lit (.int .u8 12), .lit (.int .u8 5), .lit (.int .u8 63), .lit (.int .u8 55), .lit (.int .u8 48), .lit (.int .u8 27), .lit (.int .u8 60), .lit (.int .u8 41), .lit (.int .u8 37), .lit (.int .u8 16), .lit (.int .u8 46), .lit (.int .u8 35), .lit (.int .u8 44), .lit (.int .u8 21), .lit (.int .u8 52), .lit (.int .u8 32), .lit (.int .u8 23), .lit (.int .u8 11), .lit (.int .u8 54), .lit (.int .u8 26), .lit (.int .u8 40), .lit (.int .u8 15), .lit (.int .u8 34), .lit (.int .u8 20), .lit (.int .u8 31), .lit (.int .u8 10), .lit (.int .u8 25), .lit (.int .u8 14), .lit (.int .u8 19), .lit (.int .u8 9), .lit (.int .u8 13), .lit (.int .u8 8), .lit (.int .u8 7), .lit (.int .u8 6)]

/-- 'cayleylaw.SeriesGo': WHATEVER THE INPUT: true; the input reads as it did. -/
def seriesGoSpec : ChangeSpec := { name := "seriesGo", fn := fun _ => fun
  | [d] => { results := [.lit (.bool true)], args := [d] }
  | _ => none }
def seriesGoRow : OpenClaim := { program := "ytchoalibhpbbdaadoor", sum := "cd7f55311e6188617813696b908fe53e66e319d6f68ccb58de300baf6cab19f2", func := "cayley/cayleylaw.SeriesGo", spec := "seriesGo", unfollowed := true, recurses := true, named := ["math/bits.deBruijn64tab"], apart := false, laid := [("math/bits.deBruijn64tab", laid_math_bits_deBruijn64tab)] }
def SeriesGoSaid : Prop := seriesGoRow.holds Tryd.pinned (OpenSpec.ofChange seriesGoSpec)

/-- ITS FALSE NEIGHBOUR: 'it returns false'. Refute it at one input. -/
def seriesGoWrong : ChangeSpec := { name := "seriesGo", fn := fun _ => fun
  | [d] => { results := [.lit (.bool false)], args := [d] }
  | _ => none }
def SeriesGoWrongFalsely : Prop := seriesGoRow.holds Tryd.pinned (OpenSpec.ofChange seriesGoWrong)

/-- 'cayleylaw.CosetLists': WHATEVER THE INPUT: true; the input reads as it did. -/
def cosetListsSpec : ChangeSpec := { name := "cosetLists", fn := fun _ => fun
  | [d1, d2] => { results := [.lit (.bool true)], args := [d1, d2] }
  | _ => none }
def cosetListsRow : OpenClaim := { program := "ytchoalibhpbbdaadoor", sum := "cd7f55311e6188617813696b908fe53e66e319d6f68ccb58de300baf6cab19f2", func := "cayley/cayleylaw.CosetLists", spec := "cosetLists", unfollowed := true, recurses := true, named := ["math/bits.deBruijn64tab"], apart := false, laid := [("math/bits.deBruijn64tab", laid_math_bits_deBruijn64tab)] }
def CosetListsSaid : Prop := cosetListsRow.holds Tryd.pinned (OpenSpec.ofChange cosetListsSpec)

/-- ITS FALSE NEIGHBOUR: 'it returns false'. Refute it at one input. -/
def cosetListsWrong : ChangeSpec := { name := "cosetLists", fn := fun _ => fun
  | [d1, d2] => { results := [.lit (.bool false)], args := [d1, d2] }
  | _ => none }
def CosetListsWrongFalsely : Prop := cosetListsRow.holds Tryd.pinned (OpenSpec.ofChange cosetListsWrong)

/-- 'cayleylaw.CosetTowers': WHATEVER THE INPUT: true; the input reads as it did. -/
def cosetTowersSpec : ChangeSpec := { name := "cosetTowers", fn := fun _ => fun
  | [d1, d2, d3] => { results := [.lit (.bool true)], args := [d1, d2, d3] }
  | _ => none }
def cosetTowersRow : OpenClaim := { program := "ytchoalibhpbbdaadoor", sum := "cd7f55311e6188617813696b908fe53e66e319d6f68ccb58de300baf6cab19f2", func := "cayley/cayleylaw.CosetTowers", spec := "cosetTowers", unfollowed := true, recurses := true, named := ["math/bits.deBruijn64tab"], apart := false, laid := [("math/bits.deBruijn64tab", laid_math_bits_deBruijn64tab)] }
def CosetTowersSaid : Prop := cosetTowersRow.holds Tryd.pinned (OpenSpec.ofChange cosetTowersSpec)

/-- ITS FALSE NEIGHBOUR: 'it returns false'. Refute it at one input. -/
def cosetTowersWrong : ChangeSpec := { name := "cosetTowers", fn := fun _ => fun
  | [d1, d2, d3] => { results := [.lit (.bool false)], args := [d1, d2, d3] }
  | _ => none }
def CosetTowersWrongFalsely : Prop := cosetTowersRow.holds Tryd.pinned (OpenSpec.ofChange cosetTowersWrong)

/-- 'cayleylaw.CosetDouble': WHATEVER THE INPUT: true; the input reads as it did. -/
def cosetDoubleSpec : ChangeSpec := { name := "cosetDouble", fn := fun _ => fun
  | [d1, d2, d3] => { results := [.lit (.bool true)], args := [d1, d2, d3] }
  | _ => none }
def cosetDoubleRow : OpenClaim := { program := "ytchoalibhpbbdaadoor", sum := "cd7f55311e6188617813696b908fe53e66e319d6f68ccb58de300baf6cab19f2", func := "cayley/cayleylaw.CosetDouble", spec := "cosetDouble", unfollowed := true, recurses := true, named := ["math/bits.deBruijn64tab"], apart := false, laid := [("math/bits.deBruijn64tab", laid_math_bits_deBruijn64tab)] }
def CosetDoubleSaid : Prop := cosetDoubleRow.holds Tryd.pinned (OpenSpec.ofChange cosetDoubleSpec)

/-- ITS FALSE NEIGHBOUR: 'it returns false'. Refute it at one input. -/
def cosetDoubleWrong : ChangeSpec := { name := "cosetDouble", fn := fun _ => fun
  | [d1, d2, d3] => { results := [.lit (.bool false)], args := [d1, d2, d3] }
  | _ => none }
def CosetDoubleWrongFalsely : Prop := cosetDoubleRow.holds Tryd.pinned (OpenSpec.ofChange cosetDoubleWrong)

/-- 'cayleylaw.CosetSides': WHATEVER THE INPUT: true; the input reads as it did. -/
def cosetSidesSpec : ChangeSpec := { name := "cosetSides", fn := fun _ => fun
  | [d1, d2] => { results := [.lit (.bool true)], args := [d1, d2] }
  | _ => none }
def cosetSidesRow : OpenClaim := { program := "ytchoalibhpbbdaadoor", sum := "cd7f55311e6188617813696b908fe53e66e319d6f68ccb58de300baf6cab19f2", func := "cayley/cayleylaw.CosetSides", spec := "cosetSides", unfollowed := true, recurses := true, named := ["math/bits.deBruijn64tab"], apart := false, laid := [("math/bits.deBruijn64tab", laid_math_bits_deBruijn64tab)] }
def CosetSidesSaid : Prop := cosetSidesRow.holds Tryd.pinned (OpenSpec.ofChange cosetSidesSpec)

/-- ITS FALSE NEIGHBOUR: 'it returns false'. Refute it at one input. -/
def cosetSidesWrong : ChangeSpec := { name := "cosetSides", fn := fun _ => fun
  | [d1, d2] => { results := [.lit (.bool false)], args := [d1, d2] }
  | _ => none }
def CosetSidesWrongFalsely : Prop := cosetSidesRow.holds Tryd.pinned (OpenSpec.ofChange cosetSidesWrong)

/-- 'cayleylaw.SubNormal': WHATEVER THE INPUT: true; the input reads as it did. -/
def subNormalSpec : ChangeSpec := { name := "subNormal", fn := fun _ => fun
  | [d1, d2] => { results := [.lit (.bool true)], args := [d1, d2] }
  | _ => none }
def subNormalRow : OpenClaim := { program := "ytchoalibhpbbdaadoor", sum := "cd7f55311e6188617813696b908fe53e66e319d6f68ccb58de300baf6cab19f2", func := "cayley/cayleylaw.SubNormal", spec := "subNormal", unfollowed := true, recurses := true, named := ["math/bits.deBruijn64tab"], apart := false, laid := [("math/bits.deBruijn64tab", laid_math_bits_deBruijn64tab)] }
def SubNormalSaid : Prop := subNormalRow.holds Tryd.pinned (OpenSpec.ofChange subNormalSpec)

/-- ITS FALSE NEIGHBOUR: 'it returns false'. Refute it at one input. -/
def subNormalWrong : ChangeSpec := { name := "subNormal", fn := fun _ => fun
  | [d1, d2] => { results := [.lit (.bool false)], args := [d1, d2] }
  | _ => none }
def SubNormalWrongFalsely : Prop := subNormalRow.holds Tryd.pinned (OpenSpec.ofChange subNormalWrong)

/-- 'cayleylaw.ProdDirect': WHATEVER THE INPUT: true; the input reads as it did. -/
def prodDirectSpec : ChangeSpec := { name := "prodDirect", fn := fun _ => fun
  | [d1, d2, d3] => { results := [.lit (.bool true)], args := [d1, d2, d3] }
  | _ => none }
def prodDirectRow : OpenClaim := { program := "ytchoalibhpbbdaadoor", sum := "cd7f55311e6188617813696b908fe53e66e319d6f68ccb58de300baf6cab19f2", func := "cayley/cayleylaw.ProdDirect", spec := "prodDirect", unfollowed := true, recurses := true, named := ["math/bits.deBruijn64tab"], apart := false, laid := [("math/bits.deBruijn64tab", laid_math_bits_deBruijn64tab)] }
def ProdDirectSaid : Prop := prodDirectRow.holds Tryd.pinned (OpenSpec.ofChange prodDirectSpec)

/-- ITS FALSE NEIGHBOUR: 'it returns false'. Refute it at one input. -/
def prodDirectWrong : ChangeSpec := { name := "prodDirect", fn := fun _ => fun
  | [d1, d2, d3] => { results := [.lit (.bool false)], args := [d1, d2, d3] }
  | _ => none }
def ProdDirectWrongFalsely : Prop := prodDirectRow.holds Tryd.pinned (OpenSpec.ofChange prodDirectWrong)

/-- 'cayleylaw.SeriesNormal': WHATEVER THE INPUT: true; the input reads as it did. -/
def seriesNormalSpec : ChangeSpec := { name := "seriesNormal", fn := fun _ => fun
  | [d] => { results := [.lit (.bool true)], args := [d] }
  | _ => none }
def seriesNormalRow : OpenClaim := { program := "ytchoalibhpbbdaadoor", sum := "cd7f55311e6188617813696b908fe53e66e319d6f68ccb58de300baf6cab19f2", func := "cayley/cayleylaw.SeriesNormal", spec := "seriesNormal", unfollowed := true, recurses := true, named := ["math/bits.deBruijn64tab"], apart := false, laid := [("math/bits.deBruijn64tab", laid_math_bits_deBruijn64tab)] }
def SeriesNormalSaid : Prop := seriesNormalRow.holds Tryd.pinned (OpenSpec.ofChange seriesNormalSpec)

/-- ITS FALSE NEIGHBOUR: 'it returns false'. Refute it at one input. -/
def seriesNormalWrong : ChangeSpec := { name := "seriesNormal", fn := fun _ => fun
  | [d] => { results := [.lit (.bool false)], args := [d] }
  | _ => none }
def SeriesNormalWrongFalsely : Prop := seriesNormalRow.holds Tryd.pinned (OpenSpec.ofChange seriesNormalWrong)

/-- 'cayleylaw.QuotMakes': WHATEVER THE INPUT: true; the input reads as it did. -/
def quotMakesSpec : ChangeSpec := { name := "quotMakes", fn := fun _ => fun
  | [d1, d2] => { results := [.lit (.bool true)], args := [d1, d2] }
  | _ => none }
def quotMakesRow : OpenClaim := { program := "ytchoalibhpbbdaadoor", sum := "cd7f55311e6188617813696b908fe53e66e319d6f68ccb58de300baf6cab19f2", func := "cayley/cayleylaw.QuotMakes", spec := "quotMakes", unfollowed := true, recurses := true, named := ["math/bits.deBruijn64tab"], apart := false, laid := [("math/bits.deBruijn64tab", laid_math_bits_deBruijn64tab)] }
def QuotMakesSaid : Prop := quotMakesRow.holds Tryd.pinned (OpenSpec.ofChange quotMakesSpec)

/-- ITS FALSE NEIGHBOUR: 'it returns false'. Refute it at one input. -/
def quotMakesWrong : ChangeSpec := { name := "quotMakes", fn := fun _ => fun
  | [d1, d2] => { results := [.lit (.bool false)], args := [d1, d2] }
  | _ => none }
def QuotMakesWrongFalsely : Prop := quotMakesRow.holds Tryd.pinned (OpenSpec.ofChange quotMakesWrong)

/-- 'cayleylaw.SubChains': WHATEVER THE INPUT: true; the input reads as it did. -/
def subChainsSpec : ChangeSpec := { name := "subChains", fn := fun _ => fun
  | [d1, d2] => { results := [.lit (.bool true)], args := [d1, d2] }
  | _ => none }
def subChainsRow : OpenClaim := { program := "ytchoalibhpbbdaadoor", sum := "cd7f55311e6188617813696b908fe53e66e319d6f68ccb58de300baf6cab19f2", func := "cayley/cayleylaw.SubChains", spec := "subChains", unfollowed := true, recurses := true, named := ["math/bits.deBruijn64tab"], apart := false, laid := [("math/bits.deBruijn64tab", laid_math_bits_deBruijn64tab)] }
def SubChainsSaid : Prop := subChainsRow.holds Tryd.pinned (OpenSpec.ofChange subChainsSpec)

/-- ITS FALSE NEIGHBOUR: 'it returns false'. Refute it at one input. -/
def subChainsWrong : ChangeSpec := { name := "subChains", fn := fun _ => fun
  | [d1, d2] => { results := [.lit (.bool false)], args := [d1, d2] }
  | _ => none }
def SubChainsWrongFalsely : Prop := subChainsRow.holds Tryd.pinned (OpenSpec.ofChange subChainsWrong)

/-- 'cayleylaw.QuotParts': WHATEVER THE INPUT: true; the input reads as it did. -/
def quotPartsSpec : ChangeSpec := { name := "quotParts", fn := fun _ => fun
  | [d1, d2] => { results := [.lit (.bool true)], args := [d1, d2] }
  | _ => none }
def quotPartsRow : OpenClaim := { program := "ytchoalibhpbbdaadoor", sum := "cd7f55311e6188617813696b908fe53e66e319d6f68ccb58de300baf6cab19f2", func := "cayley/cayleylaw.QuotParts", spec := "quotParts", unfollowed := true, recurses := true, named := ["math/bits.deBruijn64tab"], apart := false, laid := [("math/bits.deBruijn64tab", laid_math_bits_deBruijn64tab)] }
def QuotPartsSaid : Prop := quotPartsRow.holds Tryd.pinned (OpenSpec.ofChange quotPartsSpec)

/-- ITS FALSE NEIGHBOUR: 'it returns false'. Refute it at one input. -/
def quotPartsWrong : ChangeSpec := { name := "quotParts", fn := fun _ => fun
  | [d1, d2] => { results := [.lit (.bool false)], args := [d1, d2] }
  | _ => none }
def QuotPartsWrongFalsely : Prop := quotPartsRow.holds Tryd.pinned (OpenSpec.ofChange quotPartsWrong)

/-- 'cayleylaw.CosetActs': WHATEVER THE INPUT: true; the input reads as it did. -/
def cosetActsSpec : ChangeSpec := { name := "cosetActs", fn := fun _ => fun
  | [d1, d2] => { results := [.lit (.bool true)], args := [d1, d2] }
  | _ => none }
def cosetActsRow : OpenClaim := { program := "ytchoalibhpbbdaadoor", sum := "cd7f55311e6188617813696b908fe53e66e319d6f68ccb58de300baf6cab19f2", func := "cayley/cayleylaw.CosetActs", spec := "cosetActs", unfollowed := true, recurses := true, named := ["math/bits.deBruijn64tab"], apart := false, laid := [("math/bits.deBruijn64tab", laid_math_bits_deBruijn64tab)] }
def CosetActsSaid : Prop := cosetActsRow.holds Tryd.pinned (OpenSpec.ofChange cosetActsSpec)

/-- ITS FALSE NEIGHBOUR: 'it returns false'. Refute it at one input. -/
def cosetActsWrong : ChangeSpec := { name := "cosetActs", fn := fun _ => fun
  | [d1, d2] => { results := [.lit (.bool false)], args := [d1, d2] }
  | _ => none }
def CosetActsWrongFalsely : Prop := cosetActsRow.holds Tryd.pinned (OpenSpec.ofChange cosetActsWrong)

/- THE SECOND FORM. 'bulk': how many values and letters a reading holds, each counted each time it is reached (what is shared counts as often as it is met; a slice's spare places count too). A statement '..UptoSaid' is the law's where the arguments, and the package variables that the reading takes, are together of bulk at most 1048576: NARROWER than '..Said'. Prove '..Said' where nothing that the law and all that it calls make is longer than what came in: it says more and counts as full. Else prove '..UptoSaid'. A law counts once. -/
mutual
def uptoBulk {H : Type} : DataW H → Nat
  | .lit (.string bytes) => bytes.length + 1
  | .lit _ => 1
  | .nil => 1
  | .ptr d => uptoBulk d + 1
  | .slice elems spare => uptoBulkAll elems + uptoBulkAll spare + 1
  | .agg parts => uptoBulkAll parts + 1
  | .iface _ d => uptoBulk d + 1
  | .map entries => uptoBulkEntries entries + 1
  | .held _ => 1
def uptoBulkAll {H : Type} : List (DataW H) → Nat
  | [] => 0
  | d :: r => uptoBulk d + uptoBulkAll r
def uptoBulkEntries {H : Type} : List (Lit × DataW H) → Nat
  | [] => 0
  | x :: r => uptoBulkEntry x + uptoBulkEntries r
def uptoBulkEntry {H : Type} : Lit × DataW H → Nat
  | (.string bytes, d) => bytes.length + uptoBulk d + 1
  | (_, d) => uptoBulk d + 1
 end
def uptoSmall : (H : Type) → List (DataW H) → Bool := fun _ ds => decide (uptoBulkAll ds ≤ 1048576)
def OpenSpec.upto (s : _root_.Go.ChangeSpec) : _root_.Go.OpenSpec := { _root_.Go.OpenSpec.ofChange s with cond := some uptoSmall }

/-- 'cayleylaw.SeriesGo', WHERE WHAT IT READS IS OF BULK AT MOST 1048576: true; the input reads as it did. -/
def seriesGoUptoRow : OpenClaim := { program := "ytchoalibhpbbdaadoor", sum := "cd7f55311e6188617813696b908fe53e66e319d6f68ccb58de300baf6cab19f2", func := "cayley/cayleylaw.SeriesGo", spec := "seriesGo", unfollowed := true, recurses := true, named := ["math/bits.deBruijn64tab"], apart := false, laid := [("math/bits.deBruijn64tab", laid_math_bits_deBruijn64tab)], narrowed := true }
def SeriesGoUptoSaid : Prop := seriesGoUptoRow.holds Tryd.pinned (OpenSpec.upto seriesGoSpec)

/-- 'cayleylaw.CosetLists', WHERE WHAT IT READS IS OF BULK AT MOST 1048576: true; the input reads as it did. -/
def cosetListsUptoRow : OpenClaim := { program := "ytchoalibhpbbdaadoor", sum := "cd7f55311e6188617813696b908fe53e66e319d6f68ccb58de300baf6cab19f2", func := "cayley/cayleylaw.CosetLists", spec := "cosetLists", unfollowed := true, recurses := true, named := ["math/bits.deBruijn64tab"], apart := false, laid := [("math/bits.deBruijn64tab", laid_math_bits_deBruijn64tab)], narrowed := true }
def CosetListsUptoSaid : Prop := cosetListsUptoRow.holds Tryd.pinned (OpenSpec.upto cosetListsSpec)

/-- 'cayleylaw.CosetTowers', WHERE WHAT IT READS IS OF BULK AT MOST 1048576: true; the input reads as it did. -/
def cosetTowersUptoRow : OpenClaim := { program := "ytchoalibhpbbdaadoor", sum := "cd7f55311e6188617813696b908fe53e66e319d6f68ccb58de300baf6cab19f2", func := "cayley/cayleylaw.CosetTowers", spec := "cosetTowers", unfollowed := true, recurses := true, named := ["math/bits.deBruijn64tab"], apart := false, laid := [("math/bits.deBruijn64tab", laid_math_bits_deBruijn64tab)], narrowed := true }
def CosetTowersUptoSaid : Prop := cosetTowersUptoRow.holds Tryd.pinned (OpenSpec.upto cosetTowersSpec)

/-- 'cayleylaw.CosetDouble', WHERE WHAT IT READS IS OF BULK AT MOST 1048576: true; the input reads as it did. -/
def cosetDoubleUptoRow : OpenClaim := { program := "ytchoalibhpbbdaadoor", sum := "cd7f55311e6188617813696b908fe53e66e319d6f68ccb58de300baf6cab19f2", func := "cayley/cayleylaw.CosetDouble", spec := "cosetDouble", unfollowed := true, recurses := true, named := ["math/bits.deBruijn64tab"], apart := false, laid := [("math/bits.deBruijn64tab", laid_math_bits_deBruijn64tab)], narrowed := true }
def CosetDoubleUptoSaid : Prop := cosetDoubleUptoRow.holds Tryd.pinned (OpenSpec.upto cosetDoubleSpec)

/-- 'cayleylaw.CosetSides', WHERE WHAT IT READS IS OF BULK AT MOST 1048576: true; the input reads as it did. -/
def cosetSidesUptoRow : OpenClaim := { program := "ytchoalibhpbbdaadoor", sum := "cd7f55311e6188617813696b908fe53e66e319d6f68ccb58de300baf6cab19f2", func := "cayley/cayleylaw.CosetSides", spec := "cosetSides", unfollowed := true, recurses := true, named := ["math/bits.deBruijn64tab"], apart := false, laid := [("math/bits.deBruijn64tab", laid_math_bits_deBruijn64tab)], narrowed := true }
def CosetSidesUptoSaid : Prop := cosetSidesUptoRow.holds Tryd.pinned (OpenSpec.upto cosetSidesSpec)

/-- 'cayleylaw.SubNormal', WHERE WHAT IT READS IS OF BULK AT MOST 1048576: true; the input reads as it did. -/
def subNormalUptoRow : OpenClaim := { program := "ytchoalibhpbbdaadoor", sum := "cd7f55311e6188617813696b908fe53e66e319d6f68ccb58de300baf6cab19f2", func := "cayley/cayleylaw.SubNormal", spec := "subNormal", unfollowed := true, recurses := true, named := ["math/bits.deBruijn64tab"], apart := false, laid := [("math/bits.deBruijn64tab", laid_math_bits_deBruijn64tab)], narrowed := true }
def SubNormalUptoSaid : Prop := subNormalUptoRow.holds Tryd.pinned (OpenSpec.upto subNormalSpec)

/-- 'cayleylaw.ProdDirect', WHERE WHAT IT READS IS OF BULK AT MOST 1048576: true; the input reads as it did. -/
def prodDirectUptoRow : OpenClaim := { program := "ytchoalibhpbbdaadoor", sum := "cd7f55311e6188617813696b908fe53e66e319d6f68ccb58de300baf6cab19f2", func := "cayley/cayleylaw.ProdDirect", spec := "prodDirect", unfollowed := true, recurses := true, named := ["math/bits.deBruijn64tab"], apart := false, laid := [("math/bits.deBruijn64tab", laid_math_bits_deBruijn64tab)], narrowed := true }
def ProdDirectUptoSaid : Prop := prodDirectUptoRow.holds Tryd.pinned (OpenSpec.upto prodDirectSpec)

/-- 'cayleylaw.SeriesNormal', WHERE WHAT IT READS IS OF BULK AT MOST 1048576: true; the input reads as it did. -/
def seriesNormalUptoRow : OpenClaim := { program := "ytchoalibhpbbdaadoor", sum := "cd7f55311e6188617813696b908fe53e66e319d6f68ccb58de300baf6cab19f2", func := "cayley/cayleylaw.SeriesNormal", spec := "seriesNormal", unfollowed := true, recurses := true, named := ["math/bits.deBruijn64tab"], apart := false, laid := [("math/bits.deBruijn64tab", laid_math_bits_deBruijn64tab)], narrowed := true }
def SeriesNormalUptoSaid : Prop := seriesNormalUptoRow.holds Tryd.pinned (OpenSpec.upto seriesNormalSpec)

/-- 'cayleylaw.QuotMakes', WHERE WHAT IT READS IS OF BULK AT MOST 1048576: true; the input reads as it did. -/
def quotMakesUptoRow : OpenClaim := { program := "ytchoalibhpbbdaadoor", sum := "cd7f55311e6188617813696b908fe53e66e319d6f68ccb58de300baf6cab19f2", func := "cayley/cayleylaw.QuotMakes", spec := "quotMakes", unfollowed := true, recurses := true, named := ["math/bits.deBruijn64tab"], apart := false, laid := [("math/bits.deBruijn64tab", laid_math_bits_deBruijn64tab)], narrowed := true }
def QuotMakesUptoSaid : Prop := quotMakesUptoRow.holds Tryd.pinned (OpenSpec.upto quotMakesSpec)

/-- 'cayleylaw.SubChains', WHERE WHAT IT READS IS OF BULK AT MOST 1048576: true; the input reads as it did. -/
def subChainsUptoRow : OpenClaim := { program := "ytchoalibhpbbdaadoor", sum := "cd7f55311e6188617813696b908fe53e66e319d6f68ccb58de300baf6cab19f2", func := "cayley/cayleylaw.SubChains", spec := "subChains", unfollowed := true, recurses := true, named := ["math/bits.deBruijn64tab"], apart := false, laid := [("math/bits.deBruijn64tab", laid_math_bits_deBruijn64tab)], narrowed := true }
def SubChainsUptoSaid : Prop := subChainsUptoRow.holds Tryd.pinned (OpenSpec.upto subChainsSpec)

/-- 'cayleylaw.QuotParts', WHERE WHAT IT READS IS OF BULK AT MOST 1048576: true; the input reads as it did. -/
def quotPartsUptoRow : OpenClaim := { program := "ytchoalibhpbbdaadoor", sum := "cd7f55311e6188617813696b908fe53e66e319d6f68ccb58de300baf6cab19f2", func := "cayley/cayleylaw.QuotParts", spec := "quotParts", unfollowed := true, recurses := true, named := ["math/bits.deBruijn64tab"], apart := false, laid := [("math/bits.deBruijn64tab", laid_math_bits_deBruijn64tab)], narrowed := true }
def QuotPartsUptoSaid : Prop := quotPartsUptoRow.holds Tryd.pinned (OpenSpec.upto quotPartsSpec)

/-- 'cayleylaw.CosetActs', WHERE WHAT IT READS IS OF BULK AT MOST 1048576: true; the input reads as it did. -/
def cosetActsUptoRow : OpenClaim := { program := "ytchoalibhpbbdaadoor", sum := "cd7f55311e6188617813696b908fe53e66e319d6f68ccb58de300baf6cab19f2", func := "cayley/cayleylaw.CosetActs", spec := "cosetActs", unfollowed := true, recurses := true, named := ["math/bits.deBruijn64tab"], apart := false, laid := [("math/bits.deBruijn64tab", laid_math_bits_deBruijn64tab)], narrowed := true }
def CosetActsUptoSaid : Prop := cosetActsUptoRow.holds Tryd.pinned (OpenSpec.upto cosetActsSpec)

end Rows
end Go.Proofs.YtchoalibhpbbdaaDoor
