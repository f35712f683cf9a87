/-
  NARROWER THAN 'FOR EVERY INPUT', by the rows' own cells (each row's printed sentence says how): SubAll: laid · SubMeets: laid · SubNeedless: laid · ProdComplements: laid · SylowCauchy: laid · SylowPowers: laid · SylowAll: laid · SylowHolds: laid · SylowQuotients: laid · SylowFrattini: laid · SeriesNilpotent: laid.
  DERIVED. THE GIVEN ROWS OF THIS SEAT. 11 by the template 'for every input the law returns true; each argument reads behind the call as it read before'; 0 by the template 'total and deterministic' (their statements: YtjikchbmkodgfaaDoorTotals.lean).
  GIVEN WITH THE SEED: the statements are not yours to turn. If you find one false, say at which input.
  Laid BY PROGRAM, IN A SANDBOX (cutbox-rows.mjs): the forced cells as the released guide's own fill.sh prints them over the translation a4f76626ba6b0c05… (all of the seat's roots in one cut). By AI agents, Wed Nov 11 2026. No macro, syntax, notation, axiom, sorry.
-/
import Derived.Test.YtjikchbmkodgfaaDoorChecked
import GoSem.Claim
import GoSem.ClaimJoined
import GoSem.ClaimMapViews
import Derived.JoinedTies
import Derived.KernelRfl
namespace Go.Proofs.YtjikchbmkodgfaaDoor
/- THE CELL 'sum', in the pinned program and in every row, IS THE sha256 OF THE DUMP (.gsa) THAT YtjikchbmkodgfaaDoorProg.lean LOADS. Nothing in Lean hashes anything: it is a label: what it is worth is what the hold of that sum in a sandbox is worth. -/
noncomputable def Tryd.pinned : Pinned := { name := "ytjikchbmkodgfaadoor", sum := "a4f76626ba6b0c05fc1316fa0988ff9d6bf24a02c3db797d1bbf9518deb616e4", checked := Tryd.checked }
namespace Rows
def none {H : Type} : Left H := { results := [], args := [] }

/- WHAT THE LISTED PACKAGE-LEVEL VARIABLES READ AS WHEN THE CALL BEGINS. Each datum BY PROGRAM (the guide's laid-datum.mjs) off the statement by which the dump's own 'gosem.cut.vars' lays the variable. In a bare row this is a premise. The card (YtjikchbmkodgfaaDoorCards.lean) ties it to the program's text. -/
def laid_math_bits_deBruijn64tab {H : Type} : DataW H := .agg [.lit (.int .u8 0), .lit (.int .u8 1), .lit (.int .u8 56), .lit (.int .u8 2), .lit (.int .u8 57), .lit (.int .u8 49), .lit (.int .u8 28), .lit (.int .u8 3), .lit (.int .u8 61), .lit (.int .u8 58), .lit (.int .u8 42), .lit (.int .u8 50), .lit (.int .u8 38), .lit (.int .u8 29), .lit (.int .u8 17), .lit (.int .u8 4), .lit (.int .u8 62), .lit (.int .u8 47), .lit (.int .u8 59), .lit (.int .u8 36), .lit (.int .u8 45), .lit (.int .u8 43), .lit (.int .u8 51), .lit (.int .u8 22), .lit (.int .u8 53), .lit (.int .u8 39), .lit (.int .u8 33), .lit (.int .u8 30), .lit (.int .u8 24), .lit (.int .u8 18), .lit (.int .u8 12), .lit (.int .u8 5), .lit (.int .u8 63), .lit (.int .u8 55), .lit (.int .u8 48), .lit (.int .u8 27), .lit (.int .u8 60), .lit (.int .u8 41), .lit (.int .u8 37), .lit (.int .u8 16), .lit (.int .u8 46), .lit (.int .u8 35), .lit (.int .u8 44), .lit (.int .u8 21), .lit (.int .u8 52), .lit (.int .u8 32), .lit (.int .u8 23), .lit (.int .u8 11), .lit (.int .u8 54), .lit (.int .u8 26), .lit (.int .u8 40), .lit (.int .u8 15), .lit (.int .u8 34), .lit (.int .u8 20), .lit (.int .u8 31), .lit (.int .u8 10), .lit (.int .u8 25), .lit (.int .u8 14), .lit (.int .u8 19), .lit (.int .u8 9), .lit (.int .u8 13), .lit (.int .u8 8), .lit (.int .u8 7), .lit (.int .u8 6)]

/-- 'cayleylaw.SubAll': WHATEVER THE INPUT: true; the input reads as it did. -/
def subAllSpec : ChangeSpec := { name := "subAll", fn := fun _ => fun
  | [d] => { results := [.lit (.bool true)], args := [d] }
  | _ => none }
def subAllRow : OpenClaim := { program := "ytjikchbmkodgfaadoor", sum := "a4f76626ba6b0c05fc1316fa0988ff9d6bf24a02c3db797d1bbf9518deb616e4", func := "cayley/cayleylaw.SubAll", spec := "subAll", unfollowed := true, recurses := true, named := ["math/bits.deBruijn64tab"], apart := false, laid := [("math/bits.deBruijn64tab", laid_math_bits_deBruijn64tab)] }
def SubAllSaid : Prop := subAllRow.holds Tryd.pinned (OpenSpec.ofChange subAllSpec)

/-- ITS FALSE NEIGHBOUR: 'it returns false'. Refute it at one input. -/
def subAllWrong : ChangeSpec := { name := "subAll", fn := fun _ => fun
  | [d] => { results := [.lit (.bool false)], args := [d] }
  | _ => none }
def SubAllWrongFalsely : Prop := subAllRow.holds Tryd.pinned (OpenSpec.ofChange subAllWrong)

/-- 'cayleylaw.SubMeets': WHATEVER THE INPUT: true; the input reads as it did. -/
def subMeetsSpec : ChangeSpec := { name := "subMeets", fn := fun _ => fun
  | [d1, d2, d3] => { results := [.lit (.bool true)], args := [d1, d2, d3] }
  | _ => none }
def subMeetsRow : OpenClaim := { program := "ytjikchbmkodgfaadoor", sum := "a4f76626ba6b0c05fc1316fa0988ff9d6bf24a02c3db797d1bbf9518deb616e4", func := "cayley/cayleylaw.SubMeets", spec := "subMeets", unfollowed := true, recurses := true, named := ["math/bits.deBruijn64tab"], apart := false, laid := [("math/bits.deBruijn64tab", laid_math_bits_deBruijn64tab)] }
def SubMeetsSaid : Prop := subMeetsRow.holds Tryd.pinned (OpenSpec.ofChange subMeetsSpec)

/-- ITS FALSE NEIGHBOUR: 'it returns false'. Refute it at one input. -/
def subMeetsWrong : ChangeSpec := { name := "subMeets", fn := fun _ => fun
  | [d1, d2, d3] => { results := [.lit (.bool false)], args := [d1, d2, d3] }
  | _ => none }
def SubMeetsWrongFalsely : Prop := subMeetsRow.holds Tryd.pinned (OpenSpec.ofChange subMeetsWrong)

/-- 'cayleylaw.SubNeedless': WHATEVER THE INPUT: true; the input reads as it did. -/
def subNeedlessSpec : ChangeSpec := { name := "subNeedless", fn := fun _ => fun
  | [d1, d2] => { results := [.lit (.bool true)], args := [d1, d2] }
  | _ => none }
def subNeedlessRow : OpenClaim := { program := "ytjikchbmkodgfaadoor", sum := "a4f76626ba6b0c05fc1316fa0988ff9d6bf24a02c3db797d1bbf9518deb616e4", func := "cayley/cayleylaw.SubNeedless", spec := "subNeedless", unfollowed := true, recurses := true, named := ["math/bits.deBruijn64tab"], apart := false, laid := [("math/bits.deBruijn64tab", laid_math_bits_deBruijn64tab)] }
def SubNeedlessSaid : Prop := subNeedlessRow.holds Tryd.pinned (OpenSpec.ofChange subNeedlessSpec)

/-- ITS FALSE NEIGHBOUR: 'it returns false'. Refute it at one input. -/
def subNeedlessWrong : ChangeSpec := { name := "subNeedless", fn := fun _ => fun
  | [d1, d2] => { results := [.lit (.bool false)], args := [d1, d2] }
  | _ => none }
def SubNeedlessWrongFalsely : Prop := subNeedlessRow.holds Tryd.pinned (OpenSpec.ofChange subNeedlessWrong)

/-- 'cayleylaw.ProdComplements': WHATEVER THE INPUT: true; the input reads as it did. -/
def prodComplementsSpec : ChangeSpec := { name := "prodComplements", fn := fun _ => fun
  | [d1, d2] => { results := [.lit (.bool true)], args := [d1, d2] }
  | _ => none }
def prodComplementsRow : OpenClaim := { program := "ytjikchbmkodgfaadoor", sum := "a4f76626ba6b0c05fc1316fa0988ff9d6bf24a02c3db797d1bbf9518deb616e4", func := "cayley/cayleylaw.ProdComplements", spec := "prodComplements", unfollowed := true, recurses := true, named := ["math/bits.deBruijn64tab"], apart := false, laid := [("math/bits.deBruijn64tab", laid_math_bits_deBruijn64tab)] }
def ProdComplementsSaid : Prop := prodComplementsRow.holds Tryd.pinned (OpenSpec.ofChange prodComplementsSpec)

/-- ITS FALSE NEIGHBOUR: 'it returns false'. Refute it at one input. -/
def prodComplementsWrong : ChangeSpec := { name := "prodComplements", fn := fun _ => fun
  | [d1, d2] => { results := [.lit (.bool false)], args := [d1, d2] }
  | _ => none }
def ProdComplementsWrongFalsely : Prop := prodComplementsRow.holds Tryd.pinned (OpenSpec.ofChange prodComplementsWrong)

/-- 'cayleylaw.SylowCauchy': WHATEVER THE INPUT: true; the input reads as it did. -/
def sylowCauchySpec : ChangeSpec := { name := "sylowCauchy", fn := fun _ => fun
  | [d1, d2] => { results := [.lit (.bool true)], args := [d1, d2] }
  | _ => none }
def sylowCauchyRow : OpenClaim := { program := "ytjikchbmkodgfaadoor", sum := "a4f76626ba6b0c05fc1316fa0988ff9d6bf24a02c3db797d1bbf9518deb616e4", func := "cayley/cayleylaw.SylowCauchy", spec := "sylowCauchy", unfollowed := true, recurses := true, named := ["math/bits.deBruijn64tab"], apart := false, laid := [("math/bits.deBruijn64tab", laid_math_bits_deBruijn64tab)] }
def SylowCauchySaid : Prop := sylowCauchyRow.holds Tryd.pinned (OpenSpec.ofChange sylowCauchySpec)

/-- ITS FALSE NEIGHBOUR: 'it returns false'. Refute it at one input. -/
def sylowCauchyWrong : ChangeSpec := { name := "sylowCauchy", fn := fun _ => fun
  | [d1, d2] => { results := [.lit (.bool false)], args := [d1, d2] }
  | _ => none }
def SylowCauchyWrongFalsely : Prop := sylowCauchyRow.holds Tryd.pinned (OpenSpec.ofChange sylowCauchyWrong)

/-- 'cayleylaw.SylowPowers': WHATEVER THE INPUT: true; the input reads as it did. -/
def sylowPowersSpec : ChangeSpec := { name := "sylowPowers", fn := fun _ => fun
  | [d1, d2] => { results := [.lit (.bool true)], args := [d1, d2] }
  | _ => none }
def sylowPowersRow : OpenClaim := { program := "ytjikchbmkodgfaadoor", sum := "a4f76626ba6b0c05fc1316fa0988ff9d6bf24a02c3db797d1bbf9518deb616e4", func := "cayley/cayleylaw.SylowPowers", spec := "sylowPowers", unfollowed := true, recurses := true, named := ["math/bits.deBruijn64tab"], apart := false, laid := [("math/bits.deBruijn64tab", laid_math_bits_deBruijn64tab)] }
def SylowPowersSaid : Prop := sylowPowersRow.holds Tryd.pinned (OpenSpec.ofChange sylowPowersSpec)

/-- ITS FALSE NEIGHBOUR: 'it returns false'. Refute it at one input. -/
def sylowPowersWrong : ChangeSpec := { name := "sylowPowers", fn := fun _ => fun
  | [d1, d2] => { results := [.lit (.bool false)], args := [d1, d2] }
  | _ => none }
def SylowPowersWrongFalsely : Prop := sylowPowersRow.holds Tryd.pinned (OpenSpec.ofChange sylowPowersWrong)

/-- 'cayleylaw.SylowAll': WHATEVER THE INPUT: true; the input reads as it did. -/
def sylowAllSpec : ChangeSpec := { name := "sylowAll", fn := fun _ => fun
  | [d1, d2] => { results := [.lit (.bool true)], args := [d1, d2] }
  | _ => none }
def sylowAllRow : OpenClaim := { program := "ytjikchbmkodgfaadoor", sum := "a4f76626ba6b0c05fc1316fa0988ff9d6bf24a02c3db797d1bbf9518deb616e4", func := "cayley/cayleylaw.SylowAll", spec := "sylowAll", unfollowed := true, recurses := true, named := ["math/bits.deBruijn64tab"], apart := false, laid := [("math/bits.deBruijn64tab", laid_math_bits_deBruijn64tab)] }
def SylowAllSaid : Prop := sylowAllRow.holds Tryd.pinned (OpenSpec.ofChange sylowAllSpec)

/-- ITS FALSE NEIGHBOUR: 'it returns false'. Refute it at one input. -/
def sylowAllWrong : ChangeSpec := { name := "sylowAll", fn := fun _ => fun
  | [d1, d2] => { results := [.lit (.bool false)], args := [d1, d2] }
  | _ => none }
def SylowAllWrongFalsely : Prop := sylowAllRow.holds Tryd.pinned (OpenSpec.ofChange sylowAllWrong)

/-- 'cayleylaw.SylowHolds': WHATEVER THE INPUT: true; the input reads as it did. -/
def sylowHoldsSpec : ChangeSpec := { name := "sylowHolds", fn := fun _ => fun
  | [d1, d2, d3] => { results := [.lit (.bool true)], args := [d1, d2, d3] }
  | _ => none }
def sylowHoldsRow : OpenClaim := { program := "ytjikchbmkodgfaadoor", sum := "a4f76626ba6b0c05fc1316fa0988ff9d6bf24a02c3db797d1bbf9518deb616e4", func := "cayley/cayleylaw.SylowHolds", spec := "sylowHolds", unfollowed := true, recurses := true, named := ["math/bits.deBruijn64tab"], apart := false, laid := [("math/bits.deBruijn64tab", laid_math_bits_deBruijn64tab)] }
def SylowHoldsSaid : Prop := sylowHoldsRow.holds Tryd.pinned (OpenSpec.ofChange sylowHoldsSpec)

/-- ITS FALSE NEIGHBOUR: 'it returns false'. Refute it at one input. -/
def sylowHoldsWrong : ChangeSpec := { name := "sylowHolds", fn := fun _ => fun
  | [d1, d2, d3] => { results := [.lit (.bool false)], args := [d1, d2, d3] }
  | _ => none }
def SylowHoldsWrongFalsely : Prop := sylowHoldsRow.holds Tryd.pinned (OpenSpec.ofChange sylowHoldsWrong)

/-- 'cayleylaw.SylowQuotients': WHATEVER THE INPUT: true; the input reads as it did. -/
def sylowQuotientsSpec : ChangeSpec := { name := "sylowQuotients", fn := fun _ => fun
  | [d1, d2] => { results := [.lit (.bool true)], args := [d1, d2] }
  | _ => none }
def sylowQuotientsRow : OpenClaim := { program := "ytjikchbmkodgfaadoor", sum := "a4f76626ba6b0c05fc1316fa0988ff9d6bf24a02c3db797d1bbf9518deb616e4", func := "cayley/cayleylaw.SylowQuotients", spec := "sylowQuotients", unfollowed := true, recurses := true, named := ["math/bits.deBruijn64tab"], apart := false, laid := [("math/bits.deBruijn64tab", laid_math_bits_deBruijn64tab)] }
def SylowQuotientsSaid : Prop := sylowQuotientsRow.holds Tryd.pinned (OpenSpec.ofChange sylowQuotientsSpec)

/-- ITS FALSE NEIGHBOUR: 'it returns false'. Refute it at one input. -/
def sylowQuotientsWrong : ChangeSpec := { name := "sylowQuotients", fn := fun _ => fun
  | [d1, d2] => { results := [.lit (.bool false)], args := [d1, d2] }
  | _ => none }
def SylowQuotientsWrongFalsely : Prop := sylowQuotientsRow.holds Tryd.pinned (OpenSpec.ofChange sylowQuotientsWrong)

/-- 'cayleylaw.SylowFrattini': WHATEVER THE INPUT: true; the input reads as it did. -/
def sylowFrattiniSpec : ChangeSpec := { name := "sylowFrattini", fn := fun _ => fun
  | [d1, d2, d3] => { results := [.lit (.bool true)], args := [d1, d2, d3] }
  | _ => none }
def sylowFrattiniRow : OpenClaim := { program := "ytjikchbmkodgfaadoor", sum := "a4f76626ba6b0c05fc1316fa0988ff9d6bf24a02c3db797d1bbf9518deb616e4", func := "cayley/cayleylaw.SylowFrattini", spec := "sylowFrattini", unfollowed := true, recurses := true, named := ["math/bits.deBruijn64tab"], apart := false, laid := [("math/bits.deBruijn64tab", laid_math_bits_deBruijn64tab)] }
def SylowFrattiniSaid : Prop := sylowFrattiniRow.holds Tryd.pinned (OpenSpec.ofChange sylowFrattiniSpec)

/-- ITS FALSE NEIGHBOUR: 'it returns false'. Refute it at one input. -/
def sylowFrattiniWrong : ChangeSpec := { name := "sylowFrattini", fn := fun _ => fun
  | [d1, d2, d3] => { results := [.lit (.bool false)], args := [d1, d2, d3] }
  | _ => none }
def SylowFrattiniWrongFalsely : Prop := sylowFrattiniRow.holds Tryd.pinned (OpenSpec.ofChange sylowFrattiniWrong)

/-- 'cayleylaw.SeriesNilpotent': WHATEVER THE INPUT: true; the input reads as it did. -/
def seriesNilpotentSpec : ChangeSpec := { name := "seriesNilpotent", fn := fun _ => fun
  | [d] => { results := [.lit (.bool true)], args := [d] }
  | _ => none }
def seriesNilpotentRow : OpenClaim := { program := "ytjikchbmkodgfaadoor", sum := "a4f76626ba6b0c05fc1316fa0988ff9d6bf24a02c3db797d1bbf9518deb616e4", func := "cayley/cayleylaw.SeriesNilpotent", spec := "seriesNilpotent", unfollowed := true, recurses := true, named := ["math/bits.deBruijn64tab"], apart := false, laid := [("math/bits.deBruijn64tab", laid_math_bits_deBruijn64tab)] }
def SeriesNilpotentSaid : Prop := seriesNilpotentRow.holds Tryd.pinned (OpenSpec.ofChange seriesNilpotentSpec)

/-- ITS FALSE NEIGHBOUR: 'it returns false'. Refute it at one input. -/
def seriesNilpotentWrong : ChangeSpec := { name := "seriesNilpotent", fn := fun _ => fun
  | [d] => { results := [.lit (.bool false)], args := [d] }
  | _ => none }
def SeriesNilpotentWrongFalsely : Prop := seriesNilpotentRow.holds Tryd.pinned (OpenSpec.ofChange seriesNilpotentWrong)

/- THE SECOND FORM. 'bulk': how many values and letters a reading holds, each counted each time it is reached (what is shared counts as often as it is met; a slice's spare places count too). A statement '..UptoSaid' is the law's where the arguments, and the package variables that the reading takes, are together of bulk at most 1048576: NARROWER than '..Said'. Prove '..Said' where nothing that the law and all that it calls make is longer than what came in: it says more and counts as full. Else prove '..UptoSaid'. A law counts once. -/
mutual
def uptoBulk {H : Type} : DataW H → Nat
  | .lit (.string bytes) => bytes.length + 1
  | .lit _ => 1
  | .nil => 1
  | .ptr d => uptoBulk d + 1
  | .slice elems spare => uptoBulkAll elems + uptoBulkAll spare + 1
  | .agg parts => uptoBulkAll parts + 1
  | .iface _ d => uptoBulk d + 1
  | .map entries => uptoBulkEntries entries + 1
  | .held _ => 1
def uptoBulkAll {H : Type} : List (DataW H) → Nat
  | [] => 0
  | d :: r => uptoBulk d + uptoBulkAll r
def uptoBulkEntries {H : Type} : List (Lit × DataW H) → Nat
  | [] => 0
  | x :: r => uptoBulkEntry x + uptoBulkEntries r
def uptoBulkEntry {H : Type} : Lit × DataW H → Nat
  | (.string bytes, d) => bytes.length + uptoBulk d + 1
  | (_, d) => uptoBulk d + 1
 end
def uptoSmall : (H : Type) → List (DataW H) → Bool := fun _ ds => decide (uptoBulkAll ds ≤ 1048576)
def OpenSpec.upto (s : _root_.Go.ChangeSpec) : _root_.Go.OpenSpec := { _root_.Go.OpenSpec.ofChange s with cond := some uptoSmall }

/-- 'cayleylaw.SubAll', WHERE WHAT IT READS IS OF BULK AT MOST 1048576: true; the input reads as it did. -/
def subAllUptoRow : OpenClaim := { program := "ytjikchbmkodgfaadoor", sum := "a4f76626ba6b0c05fc1316fa0988ff9d6bf24a02c3db797d1bbf9518deb616e4", func := "cayley/cayleylaw.SubAll", spec := "subAll", unfollowed := true, recurses := true, named := ["math/bits.deBruijn64tab"], apart := false, laid := [("math/bits.deBruijn64tab", laid_math_bits_deBruijn64tab)], narrowed := true }
def SubAllUptoSaid : Prop := subAllUptoRow.holds Tryd.pinned (OpenSpec.upto subAllSpec)

/-- 'cayleylaw.SubMeets', WHERE WHAT IT READS IS OF BULK AT MOST 1048576: true; the input reads as it did. -/
def subMeetsUptoRow : OpenClaim := { program := "ytjikchbmkodgfaadoor", sum := "a4f76626ba6b0c05fc1316fa0988ff9d6bf24a02c3db797d1bbf9518deb616e4", func := "cayley/cayleylaw.SubMeets", spec := "subMeets", unfollowed := true, recurses := true, named := ["math/bits.deBruijn64tab"], apart := false, laid := [("math/bits.deBruijn64tab", laid_math_bits_deBruijn64tab)], narrowed := true }
def SubMeetsUptoSaid : Prop := subMeetsUptoRow.holds Tryd.pinned (OpenSpec.upto subMeetsSpec)

/-- 'cayleylaw.SubNeedless', WHERE WHAT IT READS IS OF BULK AT MOST 1048576: true; the input reads as it did. -/
def subNeedlessUptoRow : OpenClaim := { program := "ytjikchbmkodgfaadoor", sum := "a4f76626ba6b0c05fc1316fa0988ff9d6bf24a02c3db797d1bbf9518deb616e4", func := "cayley/cayleylaw.SubNeedless", spec := "subNeedless", unfollowed := true, recurses := true, named := ["math/bits.deBruijn64tab"], apart := false, laid := [("math/bits.deBruijn64tab", laid_math_bits_deBruijn64tab)], narrowed := true }
def SubNeedlessUptoSaid : Prop := subNeedlessUptoRow.holds Tryd.pinned (OpenSpec.upto subNeedlessSpec)

/-- 'cayleylaw.ProdComplements', WHERE WHAT IT READS IS OF BULK AT MOST 1048576: true; the input reads as it did. -/
def prodComplementsUptoRow : OpenClaim := { program := "ytjikchbmkodgfaadoor", sum := "a4f76626ba6b0c05fc1316fa0988ff9d6bf24a02c3db797d1bbf9518deb616e4", func := "cayley/cayleylaw.ProdComplements", spec := "prodComplements", unfollowed := true, recurses := true, named := ["math/bits.deBruijn64tab"], apart := false, laid := [("math/bits.deBruijn64tab", laid_math_bits_deBruijn64tab)], narrowed := true }
def ProdComplementsUptoSaid : Prop := prodComplementsUptoRow.holds Tryd.pinned (OpenSpec.upto prodComplementsSpec)

/-- 'cayleylaw.SylowCauchy', WHERE WHAT IT READS IS OF BULK AT MOST 1048576: true; the input reads as it did. -/
def sylowCauchyUptoRow : OpenClaim := { program := "ytjikchbmkodgfaadoor", sum := "a4f76626ba6b0c05fc1316fa0988ff9d6bf24a02c3db797d1bbf9518deb616e4", func := "cayley/cayleylaw.SylowCauchy", spec := "sylowCauchy", unfollowed := true, recurses := true, named := ["math/bits.deBruijn64tab"], apart := false, laid := [("math/bits.deBruijn64tab", laid_math_bits_deBruijn64tab)], narrowed := true }
def SylowCauchyUptoSaid : Prop := sylowCauchyUptoRow.holds Tryd.pinned (OpenSpec.upto sylowCauchySpec)

/-- 'cayleylaw.SylowPowers', WHERE WHAT IT READS IS OF BULK AT MOST 1048576: true; the input reads as it did. -/
def sylowPowersUptoRow : OpenClaim := { program := "ytjikchbmkodgfaadoor", sum := "a4f76626ba6b0c05fc1316fa0988ff9d6bf24a02c3db797d1bbf9518deb616e4", func := "cayley/cayleylaw.SylowPowers", spec := "sylowPowers", unfollowed := true, recurses := true, named := ["math/bits.deBruijn64tab"], apart := false, laid := [("math/bits.deBruijn64tab", laid_math_bits_deBruijn64tab)], narrowed := true }
def SylowPowersUptoSaid : Prop := sylowPowersUptoRow.holds Tryd.pinned (OpenSpec.upto sylowPowersSpec)

/-- 'cayleylaw.SylowAll', WHERE WHAT IT READS IS OF BULK AT MOST 1048576: true; the input reads as it did. -/
def sylowAllUptoRow : OpenClaim := { program := "ytjikchbmkodgfaadoor", sum := "a4f76626ba6b0c05fc1316fa0988ff9d6bf24a02c3db797d1bbf9518deb616e4", func := "cayley/cayleylaw.SylowAll", spec := "sylowAll", unfollowed := true, recurses := true, named := ["math/bits.deBruijn64tab"], apart := false, laid := [("math/bits.deBruijn64tab", laid_math_bits_deBruijn64tab)], narrowed := true }
def SylowAllUptoSaid : Prop := sylowAllUptoRow.holds Tryd.pinned (OpenSpec.upto sylowAllSpec)

/-- 'cayleylaw.SylowHolds', WHERE WHAT IT READS IS OF BULK AT MOST 1048576: true; the input reads as it did. -/
def sylowHoldsUptoRow : OpenClaim := { program := "ytjikchbmkodgfaadoor", sum := "a4f76626ba6b0c05fc1316fa0988ff9d6bf24a02c3db797d1bbf9518deb616e4", func := "cayley/cayleylaw.SylowHolds", spec := "sylowHolds", unfollowed := true, recurses := true, named := ["math/bits.deBruijn64tab"], apart := false, laid := [("math/bits.deBruijn64tab", laid_math_bits_deBruijn64tab)], narrowed := true }
def SylowHoldsUptoSaid : Prop := sylowHoldsUptoRow.holds Tryd.pinned (OpenSpec.upto sylowHoldsSpec)

/-- 'cayleylaw.SylowQuotients', WHERE WHAT IT READS IS OF BULK AT MOST 1048576: true; the input reads as it did. -/
def sylowQuotientsUptoRow : OpenClaim := { program := "ytjikchbmkodgfaadoor", sum := "a4f76626ba6b0c05fc1316fa0988ff9d6bf24a02c3db797d1bbf9518deb616e4", func := "cayley/cayleylaw.SylowQuotients", spec := "sylowQuotients", unfollowed := true, recurses := true, named := ["math/bits.deBruijn64tab"], apart := false, laid := [("math/bits.deBruijn64tab", laid_math_bits_deBruijn64tab)], narrowed := true }
def SylowQuotientsUptoSaid : Prop := sylowQuotientsUptoRow.holds Tryd.pinned (OpenSpec.upto sylowQuotientsSpec)

/-- 'cayleylaw.SylowFrattini', WHERE WHAT IT READS IS OF BULK AT MOST 1048576: true; the input reads as it did. -/
def sylowFrattiniUptoRow : OpenClaim := { program := "ytjikchbmkodgfaadoor", sum := "a4f76626ba6b0c05fc1316fa0988ff9d6bf24a02c3db797d1bbf9518deb616e4", func := "cayley/cayleylaw.SylowFrattini", spec := "sylowFrattini", unfollowed := true, recurses := true, named := ["math/bits.deBruijn64tab"], apart := false, laid := [("math/bits.deBruijn64tab", laid_math_bits_deBruijn64tab)], narrowed := true }
def SylowFrattiniUptoSaid : Prop := sylowFrattiniUptoRow.holds Tryd.pinned (OpenSpec.upto sylowFrattiniSpec)

/-- 'cayleylaw.SeriesNilpotent', WHERE WHAT IT READS IS OF BULK AT MOST 1048576: true; the input reads as it did. -/
def seriesNilpotentUptoRow : OpenClaim := { program := "ytjikchbmkodgfaadoor", sum := "a4f76626ba6b0c05fc1316fa0988ff9d6bf24a02c3db797d1bbf9518deb616e4", func := "cayley/cayleylaw.SeriesNilpotent", spec := "seriesNilpotent", unfollowed := true, recurses := true, named := ["math/bits.deBruijn64tab"], apart := false, laid := [("math/bits.deBruijn64tab", laid_math_bits_deBruijn64tab)], narrowed := true }
def SeriesNilpotentUptoSaid : Prop := seriesNilpotentUptoRow.holds Tryd.pinned (OpenSpec.upto seriesNilpotentSpec)

end Rows
end Go.Proofs.YtjikchbmkodgfaaDoor
