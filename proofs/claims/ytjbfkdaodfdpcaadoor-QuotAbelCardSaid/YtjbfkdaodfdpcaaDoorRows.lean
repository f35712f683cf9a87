/-
  NARROWER THAN 'FOR EVERY INPUT', by the rows' own cells (each row's printed sentence says how): SeriesFactors: laid · SeriesJordan: laid · SeriesSolvable: laid · ExtSplits: laid · QuotAbel: laid · HomChecks: laid · HomComposes: laid · HomTheorem: laid · HomOrders: laid · HomExtends: laid · HomAll: laid.
  DERIVED. THE GIVEN ROWS OF THIS SEAT. 11 by the template 'for every input the law returns true; each argument reads behind the call as it read before'; 0 by the template 'total and deterministic' (their statements: YtjbfkdaodfdpcaaDoorTotals.lean).
  GIVEN WITH THE SEED: the statements are not yours to turn. If you find one false, say at which input.
  Laid BY PROGRAM, IN A SANDBOX (cutbox-rows.mjs): the forced cells as the released guide's own fill.sh prints them over the translation 8acdca59f6108ebe… (all of the seat's roots in one cut). By AI agents, Wed Nov 11 2026. No macro, syntax, notation, axiom, sorry.
-/
import Derived.Test.YtjbfkdaodfdpcaaDoorChecked
import GoSem.Claim
import GoSem.ClaimJoined
import GoSem.ClaimMapViews
import Derived.JoinedTies
import Derived.KernelRfl
namespace Go.Proofs.YtjbfkdaodfdpcaaDoor
/- THE CELL 'sum', in the pinned program and in every row, IS THE sha256 OF THE DUMP (.gsa) THAT YtjbfkdaodfdpcaaDoorProg.lean LOADS. Nothing in Lean hashes anything: it is a label: what it is worth is what the hold of that sum in a sandbox is worth. -/
noncomputable def Tryd.pinned : Pinned := { name := "ytjbfkdaodfdpcaadoor", sum := "8acdca59f6108ebec8995bf980128e4f49dbacd869026596a9663bef03313b84", checked := Tryd.checked }
namespace Rows
def none {H : Type} : Left H := { results := [], args := [] }

/- WHAT THE LISTED PACKAGE-LEVEL VARIABLES READ AS WHEN THE CALL BEGINS. Each datum BY PROGRAM (the guide's laid-datum.mjs) off the statement by which the dump's own 'gosem.cut.vars' lays the variable. In a bare row this is a premise. The card (YtjbfkdaodfdpcaaDoorCards.lean) ties it to the program's text. -/
def laid_math_bits_deBruijn64tab {H : Type} : DataW H := .agg [.lit (.int .u8 0), .lit (.int .u8 1), .lit (.int .u8 56), .lit (.int .u8 2), .lit (.int .u8 57), .lit (.int .u8 49), .lit (.int .u8 28), .lit (.int .u8 3), .lit (.int .u8 61), .lit (.int .u8 58), .lit (.int .u8 42), .lit (.int .u8 50), .lit (.int .u8 38), .lit (.int .u8 29), .lit (.int .u8 17), .lit (.int .u8 4), .lit (.int .u8 62), .lit (.int .u8 47), .lit (.int .u8 59), .lit (.int .u8 36), .lit (.int .u8 45), .lit (.int .u8 43), .lit (.int .u8 51), .lit (.int .u8 22), .lit (.int .u8 53), .lit (.int .u8 39), .lit (.int .u8 33), .lit (.int .u8 30), .lit (.int .u8 24), .lit (.int .u8 18), .lit (.int .u8 12), .lit (.int .u8 5), .lit (.int .u8 63), .lit (.int .u8 55), .lit (.int .u8 48), .lit (.int .u8 27), .lit (.int .u8 60), .lit (.int .u8 41), .lit (.int .u8 37), .lit (.int .u8 16), .lit (.int .u8 46), .lit (.int .u8 35), .lit (.int .u8 44), .lit (.int .u8 21), .lit (.int .u8 52), .lit (.int .u8 32), .lit (.int .u8 23), .lit (.int .u8 11), .lit (.int .u8 54), .lit (.int .u8 26), .lit (.int .u8 40), .lit (.int .u8 15), .lit (.int .u8 34), .lit (.int .u8 20), .lit (.int .u8 31), .lit (.int .u8 10), .lit (.int .u8 25), .lit (.int .u8 14), .lit (.int .u8 19), .lit (.int .u8 9), .lit (.int .u8 13), .lit (.int .u8 8), .lit (.int .u8 7), .lit (.int .u8 6)]

/-- 'cayleylaw.SeriesFactors': WHATEVER THE INPUT: true; the input reads as it did. -/
def seriesFactorsSpec : ChangeSpec := { name := "seriesFactors", fn := fun _ => fun
  | [d1, d2] => { results := [.lit (.bool true)], args := [d1, d2] }
  | _ => none }
def seriesFactorsRow : OpenClaim := { program := "ytjbfkdaodfdpcaadoor", sum := "8acdca59f6108ebec8995bf980128e4f49dbacd869026596a9663bef03313b84", func := "cayley/cayleylaw.SeriesFactors", spec := "seriesFactors", unfollowed := true, recurses := true, named := ["math/bits.deBruijn64tab"], apart := false, laid := [("math/bits.deBruijn64tab", laid_math_bits_deBruijn64tab)] }
def SeriesFactorsSaid : Prop := seriesFactorsRow.holds Tryd.pinned (OpenSpec.ofChange seriesFactorsSpec)

/-- ITS FALSE NEIGHBOUR: 'it returns false'. Refute it at one input. -/
def seriesFactorsWrong : ChangeSpec := { name := "seriesFactors", fn := fun _ => fun
  | [d1, d2] => { results := [.lit (.bool false)], args := [d1, d2] }
  | _ => none }
def SeriesFactorsWrongFalsely : Prop := seriesFactorsRow.holds Tryd.pinned (OpenSpec.ofChange seriesFactorsWrong)

/-- 'cayleylaw.SeriesJordan': WHATEVER THE INPUT: true; the input reads as it did. -/
def seriesJordanSpec : ChangeSpec := { name := "seriesJordan", fn := fun _ => fun
  | [d1, d2] => { results := [.lit (.bool true)], args := [d1, d2] }
  | _ => none }
def seriesJordanRow : OpenClaim := { program := "ytjbfkdaodfdpcaadoor", sum := "8acdca59f6108ebec8995bf980128e4f49dbacd869026596a9663bef03313b84", func := "cayley/cayleylaw.SeriesJordan", spec := "seriesJordan", unfollowed := true, recurses := true, named := ["math/bits.deBruijn64tab"], apart := false, laid := [("math/bits.deBruijn64tab", laid_math_bits_deBruijn64tab)] }
def SeriesJordanSaid : Prop := seriesJordanRow.holds Tryd.pinned (OpenSpec.ofChange seriesJordanSpec)

/-- ITS FALSE NEIGHBOUR: 'it returns false'. Refute it at one input. -/
def seriesJordanWrong : ChangeSpec := { name := "seriesJordan", fn := fun _ => fun
  | [d1, d2] => { results := [.lit (.bool false)], args := [d1, d2] }
  | _ => none }
def SeriesJordanWrongFalsely : Prop := seriesJordanRow.holds Tryd.pinned (OpenSpec.ofChange seriesJordanWrong)

/-- 'cayleylaw.SeriesSolvable': WHATEVER THE INPUT: true; the input reads as it did. -/
def seriesSolvableSpec : ChangeSpec := { name := "seriesSolvable", fn := fun _ => fun
  | [d1, d2] => { results := [.lit (.bool true)], args := [d1, d2] }
  | _ => none }
def seriesSolvableRow : OpenClaim := { program := "ytjbfkdaodfdpcaadoor", sum := "8acdca59f6108ebec8995bf980128e4f49dbacd869026596a9663bef03313b84", func := "cayley/cayleylaw.SeriesSolvable", spec := "seriesSolvable", unfollowed := true, recurses := true, named := ["math/bits.deBruijn64tab"], apart := false, laid := [("math/bits.deBruijn64tab", laid_math_bits_deBruijn64tab)] }
def SeriesSolvableSaid : Prop := seriesSolvableRow.holds Tryd.pinned (OpenSpec.ofChange seriesSolvableSpec)

/-- ITS FALSE NEIGHBOUR: 'it returns false'. Refute it at one input. -/
def seriesSolvableWrong : ChangeSpec := { name := "seriesSolvable", fn := fun _ => fun
  | [d1, d2] => { results := [.lit (.bool false)], args := [d1, d2] }
  | _ => none }
def SeriesSolvableWrongFalsely : Prop := seriesSolvableRow.holds Tryd.pinned (OpenSpec.ofChange seriesSolvableWrong)

/-- 'cayleylaw.ExtSplits': WHATEVER THE INPUT: true; the input reads as it did. -/
def extSplitsSpec : ChangeSpec := { name := "extSplits", fn := fun _ => fun
  | [d1, d2, d3] => { results := [.lit (.bool true)], args := [d1, d2, d3] }
  | _ => none }
def extSplitsRow : OpenClaim := { program := "ytjbfkdaodfdpcaadoor", sum := "8acdca59f6108ebec8995bf980128e4f49dbacd869026596a9663bef03313b84", func := "cayley/cayleylaw.ExtSplits", spec := "extSplits", unfollowed := true, recurses := true, named := ["math/bits.deBruijn64tab"], apart := false, laid := [("math/bits.deBruijn64tab", laid_math_bits_deBruijn64tab)] }
def ExtSplitsSaid : Prop := extSplitsRow.holds Tryd.pinned (OpenSpec.ofChange extSplitsSpec)

/-- ITS FALSE NEIGHBOUR: 'it returns false'. Refute it at one input. -/
def extSplitsWrong : ChangeSpec := { name := "extSplits", fn := fun _ => fun
  | [d1, d2, d3] => { results := [.lit (.bool false)], args := [d1, d2, d3] }
  | _ => none }
def ExtSplitsWrongFalsely : Prop := extSplitsRow.holds Tryd.pinned (OpenSpec.ofChange extSplitsWrong)

/-- 'cayleylaw.QuotAbel': WHATEVER THE INPUT: true; the input reads as it did. -/
def quotAbelSpec : ChangeSpec := { name := "quotAbel", fn := fun _ => fun
  | [d1, d2, d3] => { results := [.lit (.bool true)], args := [d1, d2, d3] }
  | _ => none }
def quotAbelRow : OpenClaim := { program := "ytjbfkdaodfdpcaadoor", sum := "8acdca59f6108ebec8995bf980128e4f49dbacd869026596a9663bef03313b84", func := "cayley/cayleylaw.QuotAbel", spec := "quotAbel", unfollowed := true, recurses := true, named := ["math/bits.deBruijn64tab"], apart := false, laid := [("math/bits.deBruijn64tab", laid_math_bits_deBruijn64tab)] }
def QuotAbelSaid : Prop := quotAbelRow.holds Tryd.pinned (OpenSpec.ofChange quotAbelSpec)

/-- ITS FALSE NEIGHBOUR: 'it returns false'. Refute it at one input. -/
def quotAbelWrong : ChangeSpec := { name := "quotAbel", fn := fun _ => fun
  | [d1, d2, d3] => { results := [.lit (.bool false)], args := [d1, d2, d3] }
  | _ => none }
def QuotAbelWrongFalsely : Prop := quotAbelRow.holds Tryd.pinned (OpenSpec.ofChange quotAbelWrong)

/-- 'cayleylaw.HomChecks': WHATEVER THE INPUT: true; the input reads as it did. -/
def homChecksSpec : ChangeSpec := { name := "homChecks", fn := fun _ => fun
  | [d1, d2, d3] => { results := [.lit (.bool true)], args := [d1, d2, d3] }
  | _ => none }
def homChecksRow : OpenClaim := { program := "ytjbfkdaodfdpcaadoor", sum := "8acdca59f6108ebec8995bf980128e4f49dbacd869026596a9663bef03313b84", func := "cayley/cayleylaw.HomChecks", spec := "homChecks", unfollowed := true, recurses := true, named := ["math/bits.deBruijn64tab"], apart := false, laid := [("math/bits.deBruijn64tab", laid_math_bits_deBruijn64tab)] }
def HomChecksSaid : Prop := homChecksRow.holds Tryd.pinned (OpenSpec.ofChange homChecksSpec)

/-- ITS FALSE NEIGHBOUR: 'it returns false'. Refute it at one input. -/
def homChecksWrong : ChangeSpec := { name := "homChecks", fn := fun _ => fun
  | [d1, d2, d3] => { results := [.lit (.bool false)], args := [d1, d2, d3] }
  | _ => none }
def HomChecksWrongFalsely : Prop := homChecksRow.holds Tryd.pinned (OpenSpec.ofChange homChecksWrong)

/-- 'cayleylaw.HomComposes': WHATEVER THE INPUT: true; the input reads as it did. -/
def homComposesSpec : ChangeSpec := { name := "homComposes", fn := fun _ => fun
  | [d1, d2, d3, d4] => { results := [.lit (.bool true)], args := [d1, d2, d3, d4] }
  | _ => none }
def homComposesRow : OpenClaim := { program := "ytjbfkdaodfdpcaadoor", sum := "8acdca59f6108ebec8995bf980128e4f49dbacd869026596a9663bef03313b84", func := "cayley/cayleylaw.HomComposes", spec := "homComposes", unfollowed := true, recurses := true, named := ["math/bits.deBruijn64tab"], apart := false, laid := [("math/bits.deBruijn64tab", laid_math_bits_deBruijn64tab)] }
def HomComposesSaid : Prop := homComposesRow.holds Tryd.pinned (OpenSpec.ofChange homComposesSpec)

/-- ITS FALSE NEIGHBOUR: 'it returns false'. Refute it at one input. -/
def homComposesWrong : ChangeSpec := { name := "homComposes", fn := fun _ => fun
  | [d1, d2, d3, d4] => { results := [.lit (.bool false)], args := [d1, d2, d3, d4] }
  | _ => none }
def HomComposesWrongFalsely : Prop := homComposesRow.holds Tryd.pinned (OpenSpec.ofChange homComposesWrong)

/-- 'cayleylaw.HomTheorem': WHATEVER THE INPUT: true; the input reads as it did. -/
def homTheoremSpec : ChangeSpec := { name := "homTheorem", fn := fun _ => fun
  | [d1, d2, d3] => { results := [.lit (.bool true)], args := [d1, d2, d3] }
  | _ => none }
def homTheoremRow : OpenClaim := { program := "ytjbfkdaodfdpcaadoor", sum := "8acdca59f6108ebec8995bf980128e4f49dbacd869026596a9663bef03313b84", func := "cayley/cayleylaw.HomTheorem", spec := "homTheorem", unfollowed := true, recurses := true, named := ["math/bits.deBruijn64tab"], apart := false, laid := [("math/bits.deBruijn64tab", laid_math_bits_deBruijn64tab)] }
def HomTheoremSaid : Prop := homTheoremRow.holds Tryd.pinned (OpenSpec.ofChange homTheoremSpec)

/-- ITS FALSE NEIGHBOUR: 'it returns false'. Refute it at one input. -/
def homTheoremWrong : ChangeSpec := { name := "homTheorem", fn := fun _ => fun
  | [d1, d2, d3] => { results := [.lit (.bool false)], args := [d1, d2, d3] }
  | _ => none }
def HomTheoremWrongFalsely : Prop := homTheoremRow.holds Tryd.pinned (OpenSpec.ofChange homTheoremWrong)

/-- 'cayleylaw.HomOrders': WHATEVER THE INPUT: true; the input reads as it did. -/
def homOrdersSpec : ChangeSpec := { name := "homOrders", fn := fun _ => fun
  | [d1, d2, d3, d4] => { results := [.lit (.bool true)], args := [d1, d2, d3, d4] }
  | _ => none }
def homOrdersRow : OpenClaim := { program := "ytjbfkdaodfdpcaadoor", sum := "8acdca59f6108ebec8995bf980128e4f49dbacd869026596a9663bef03313b84", func := "cayley/cayleylaw.HomOrders", spec := "homOrders", unfollowed := true, recurses := true, named := ["math/bits.deBruijn64tab"], apart := false, laid := [("math/bits.deBruijn64tab", laid_math_bits_deBruijn64tab)] }
def HomOrdersSaid : Prop := homOrdersRow.holds Tryd.pinned (OpenSpec.ofChange homOrdersSpec)

/-- ITS FALSE NEIGHBOUR: 'it returns false'. Refute it at one input. -/
def homOrdersWrong : ChangeSpec := { name := "homOrders", fn := fun _ => fun
  | [d1, d2, d3, d4] => { results := [.lit (.bool false)], args := [d1, d2, d3, d4] }
  | _ => none }
def HomOrdersWrongFalsely : Prop := homOrdersRow.holds Tryd.pinned (OpenSpec.ofChange homOrdersWrong)

/-- 'cayleylaw.HomExtends': WHATEVER THE INPUT: true; the input reads as it did. -/
def homExtendsSpec : ChangeSpec := { name := "homExtends", fn := fun _ => fun
  | [d1, d2, d3, d4] => { results := [.lit (.bool true)], args := [d1, d2, d3, d4] }
  | _ => none }
def homExtendsRow : OpenClaim := { program := "ytjbfkdaodfdpcaadoor", sum := "8acdca59f6108ebec8995bf980128e4f49dbacd869026596a9663bef03313b84", func := "cayley/cayleylaw.HomExtends", spec := "homExtends", unfollowed := true, recurses := true, named := ["math/bits.deBruijn64tab"], apart := false, laid := [("math/bits.deBruijn64tab", laid_math_bits_deBruijn64tab)] }
def HomExtendsSaid : Prop := homExtendsRow.holds Tryd.pinned (OpenSpec.ofChange homExtendsSpec)

/-- ITS FALSE NEIGHBOUR: 'it returns false'. Refute it at one input. -/
def homExtendsWrong : ChangeSpec := { name := "homExtends", fn := fun _ => fun
  | [d1, d2, d3, d4] => { results := [.lit (.bool false)], args := [d1, d2, d3, d4] }
  | _ => none }
def HomExtendsWrongFalsely : Prop := homExtendsRow.holds Tryd.pinned (OpenSpec.ofChange homExtendsWrong)

/-- 'cayleylaw.HomAll': WHATEVER THE INPUT: true; the input reads as it did. -/
def homAllSpec : ChangeSpec := { name := "homAll", fn := fun _ => fun
  | [d1, d2] => { results := [.lit (.bool true)], args := [d1, d2] }
  | _ => none }
def homAllRow : OpenClaim := { program := "ytjbfkdaodfdpcaadoor", sum := "8acdca59f6108ebec8995bf980128e4f49dbacd869026596a9663bef03313b84", func := "cayley/cayleylaw.HomAll", spec := "homAll", unfollowed := true, recurses := true, named := ["math/bits.deBruijn64tab"], apart := false, laid := [("math/bits.deBruijn64tab", laid_math_bits_deBruijn64tab)] }
def HomAllSaid : Prop := homAllRow.holds Tryd.pinned (OpenSpec.ofChange homAllSpec)

/-- ITS FALSE NEIGHBOUR: 'it returns false'. Refute it at one input. -/
def homAllWrong : ChangeSpec := { name := "homAll", fn := fun _ => fun
  | [d1, d2] => { results := [.lit (.bool false)], args := [d1, d2] }
  | _ => none }
def HomAllWrongFalsely : Prop := homAllRow.holds Tryd.pinned (OpenSpec.ofChange homAllWrong)

/- THE SECOND FORM. 'bulk': how many values and letters a reading holds, each counted each time it is reached (what is shared counts as often as it is met; a slice's spare places count too). A statement '..UptoSaid' is the law's where the arguments, and the package variables that the reading takes, are together of bulk at most 1048576: NARROWER than '..Said'. Prove '..Said' where nothing that the law and all that it calls make is longer than what came in: it says more and counts as full. Else prove '..UptoSaid'. A law counts once. -/
mutual
def uptoBulk {H : Type} : DataW H → Nat
  | .lit (.string bytes) => bytes.length + 1
  | .lit _ => 1
  | .nil => 1
  | .ptr d => uptoBulk d + 1
  | .slice elems spare => uptoBulkAll elems + uptoBulkAll spare + 1
  | .agg parts => uptoBulkAll parts + 1
  | .iface _ d => uptoBulk d + 1
  | .map entries => uptoBulkEntries entries + 1
  | .held _ => 1
def uptoBulkAll {H : Type} : List (DataW H) → Nat
  | [] => 0
  | d :: r => uptoBulk d + uptoBulkAll r
def uptoBulkEntries {H : Type} : List (Lit × DataW H) → Nat
  | [] => 0
  | x :: r => uptoBulkEntry x + uptoBulkEntries r
def uptoBulkEntry {H : Type} : Lit × DataW H → Nat
  | (.string bytes, d) => bytes.length + uptoBulk d + 1
  | (_, d) => uptoBulk d + 1
 end
def uptoSmall : (H : Type) → List (DataW H) → Bool := fun _ ds => decide (uptoBulkAll ds ≤ 1048576)
def OpenSpec.upto (s : _root_.Go.ChangeSpec) : _root_.Go.OpenSpec := { _root_.Go.OpenSpec.ofChange s with cond := some uptoSmall }

/-- 'cayleylaw.SeriesFactors', WHERE WHAT IT READS IS OF BULK AT MOST 1048576: true; the input reads as it did. -/
def seriesFactorsUptoRow : OpenClaim := { program := "ytjbfkdaodfdpcaadoor", sum := "8acdca59f6108ebec8995bf980128e4f49dbacd869026596a9663bef03313b84", func := "cayley/cayleylaw.SeriesFactors", spec := "seriesFactors", unfollowed := true, recurses := true, named := ["math/bits.deBruijn64tab"], apart := false, laid := [("math/bits.deBruijn64tab", laid_math_bits_deBruijn64tab)], narrowed := true }
def SeriesFactorsUptoSaid : Prop := seriesFactorsUptoRow.holds Tryd.pinned (OpenSpec.upto seriesFactorsSpec)

/-- 'cayleylaw.SeriesJordan', WHERE WHAT IT READS IS OF BULK AT MOST 1048576: true; the input reads as it did. -/
def seriesJordanUptoRow : OpenClaim := { program := "ytjbfkdaodfdpcaadoor", sum := "8acdca59f6108ebec8995bf980128e4f49dbacd869026596a9663bef03313b84", func := "cayley/cayleylaw.SeriesJordan", spec := "seriesJordan", unfollowed := true, recurses := true, named := ["math/bits.deBruijn64tab"], apart := false, laid := [("math/bits.deBruijn64tab", laid_math_bits_deBruijn64tab)], narrowed := true }
def SeriesJordanUptoSaid : Prop := seriesJordanUptoRow.holds Tryd.pinned (OpenSpec.upto seriesJordanSpec)

/-- 'cayleylaw.SeriesSolvable', WHERE WHAT IT READS IS OF BULK AT MOST 1048576: true; the input reads as it did. -/
def seriesSolvableUptoRow : OpenClaim := { program := "ytjbfkdaodfdpcaadoor", sum := "8acdca59f6108ebec8995bf980128e4f49dbacd869026596a9663bef03313b84", func := "cayley/cayleylaw.SeriesSolvable", spec := "seriesSolvable", unfollowed := true, recurses := true, named := ["math/bits.deBruijn64tab"], apart := false, laid := [("math/bits.deBruijn64tab", laid_math_bits_deBruijn64tab)], narrowed := true }
def SeriesSolvableUptoSaid : Prop := seriesSolvableUptoRow.holds Tryd.pinned (OpenSpec.upto seriesSolvableSpec)

/-- 'cayleylaw.ExtSplits', WHERE WHAT IT READS IS OF BULK AT MOST 1048576: true; the input reads as it did. -/
def extSplitsUptoRow : OpenClaim := { program := "ytjbfkdaodfdpcaadoor", sum := "8acdca59f6108ebec8995bf980128e4f49dbacd869026596a9663bef03313b84", func := "cayley/cayleylaw.ExtSplits", spec := "extSplits", unfollowed := true, recurses := true, named := ["math/bits.deBruijn64tab"], apart := false, laid := [("math/bits.deBruijn64tab", laid_math_bits_deBruijn64tab)], narrowed := true }
def ExtSplitsUptoSaid : Prop := extSplitsUptoRow.holds Tryd.pinned (OpenSpec.upto extSplitsSpec)

/-- 'cayleylaw.QuotAbel', WHERE WHAT IT READS IS OF BULK AT MOST 1048576: true; the input reads as it did. -/
def quotAbelUptoRow : OpenClaim := { program := "ytjbfkdaodfdpcaadoor", sum := "8acdca59f6108ebec8995bf980128e4f49dbacd869026596a9663bef03313b84", func := "cayley/cayleylaw.QuotAbel", spec := "quotAbel", unfollowed := true, recurses := true, named := ["math/bits.deBruijn64tab"], apart := false, laid := [("math/bits.deBruijn64tab", laid_math_bits_deBruijn64tab)], narrowed := true }
def QuotAbelUptoSaid : Prop := quotAbelUptoRow.holds Tryd.pinned (OpenSpec.upto quotAbelSpec)

/-- 'cayleylaw.HomChecks', WHERE WHAT IT READS IS OF BULK AT MOST 1048576: true; the input reads as it did. -/
def homChecksUptoRow : OpenClaim := { program := "ytjbfkdaodfdpcaadoor", sum := "8acdca59f6108ebec8995bf980128e4f49dbacd869026596a9663bef03313b84", func := "cayley/cayleylaw.HomChecks", spec := "homChecks", unfollowed := true, recurses := true, named := ["math/bits.deBruijn64tab"], apart := false, laid := [("math/bits.deBruijn64tab", laid_math_bits_deBruijn64tab)], narrowed := true }
def HomChecksUptoSaid : Prop := homChecksUptoRow.holds Tryd.pinned (OpenSpec.upto homChecksSpec)

/-- 'cayleylaw.HomComposes', WHERE WHAT IT READS IS OF BULK AT MOST 1048576: true; the input reads as it did. -/
def homComposesUptoRow : OpenClaim := { program := "ytjbfkdaodfdpcaadoor", sum := "8acdca59f6108ebec8995bf980128e4f49dbacd869026596a9663bef03313b84", func := "cayley/cayleylaw.HomComposes", spec := "homComposes", unfollowed := true, recurses := true, named := ["math/bits.deBruijn64tab"], apart := false, laid := [("math/bits.deBruijn64tab", laid_math_bits_deBruijn64tab)], narrowed := true }
def HomComposesUptoSaid : Prop := homComposesUptoRow.holds Tryd.pinned (OpenSpec.upto homComposesSpec)

/-- 'cayleylaw.HomTheorem', WHERE WHAT IT READS IS OF BULK AT MOST 1048576: true; the input reads as it did. -/
def homTheoremUptoRow : OpenClaim := { program := "ytjbfkdaodfdpcaadoor", sum := "8acdca59f6108ebec8995bf980128e4f49dbacd869026596a9663bef03313b84", func := "cayley/cayleylaw.HomTheorem", spec := "homTheorem", unfollowed := true, recurses := true, named := ["math/bits.deBruijn64tab"], apart := false, laid := [("math/bits.deBruijn64tab", laid_math_bits_deBruijn64tab)], narrowed := true }
def HomTheoremUptoSaid : Prop := homTheoremUptoRow.holds Tryd.pinned (OpenSpec.upto homTheoremSpec)

/-- 'cayleylaw.HomOrders', WHERE WHAT IT READS IS OF BULK AT MOST 1048576: true; the input reads as it did. -/
def homOrdersUptoRow : OpenClaim := { program := "ytjbfkdaodfdpcaadoor", sum := "8acdca59f6108ebec8995bf980128e4f49dbacd869026596a9663bef03313b84", func := "cayley/cayleylaw.HomOrders", spec := "homOrders", unfollowed := true, recurses := true, named := ["math/bits.deBruijn64tab"], apart := false, laid := [("math/bits.deBruijn64tab", laid_math_bits_deBruijn64tab)], narrowed := true }
def HomOrdersUptoSaid : Prop := homOrdersUptoRow.holds Tryd.pinned (OpenSpec.upto homOrdersSpec)

/-- 'cayleylaw.HomExtends', WHERE WHAT IT READS IS OF BULK AT MOST 1048576: true; the input reads as it did. -/
def homExtendsUptoRow : OpenClaim := { program := "ytjbfkdaodfdpcaadoor", sum := "8acdca59f6108ebec8995bf980128e4f49dbacd869026596a9663bef03313b84", func := "cayley/cayleylaw.HomExtends", spec := "homExtends", unfollowed := true, recurses := true, named := ["math/bits.deBruijn64tab"], apart := false, laid := [("math/bits.deBruijn64tab", laid_math_bits_deBruijn64tab)], narrowed := true }
def HomExtendsUptoSaid : Prop := homExtendsUptoRow.holds Tryd.pinned (OpenSpec.upto homExtendsSpec)

/-- 'cayleylaw.HomAll', WHERE WHAT IT READS IS OF BULK AT MOST 1048576: true; the input reads as it did. -/
def homAllUptoRow : OpenClaim := { program := "ytjbfkdaodfdpcaadoor", sum := "8acdca59f6108ebec8995bf980128e4f49dbacd869026596a9663bef03313b84", func := "cayley/cayleylaw.HomAll", spec := "homAll", unfollowed := true, recurses := true, named := ["math/bits.deBruijn64tab"], apart := false, laid := [("math/bits.deBruijn64tab", laid_math_bits_deBruijn64tab)], narrowed := true }
def HomAllUptoSaid : Prop := homAllUptoRow.holds Tryd.pinned (OpenSpec.upto homAllSpec)

end Rows
end Go.Proofs.YtjbfkdaodfdpcaaDoor
