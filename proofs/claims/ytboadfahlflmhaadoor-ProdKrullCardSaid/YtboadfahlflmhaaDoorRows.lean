/-
  NARROWER THAN 'FOR EVERY INPUT', by the rows' own cells (each row's printed sentence says how): HomAutos: laid · HomIso: laid · HomInner: laid · HomCyclic: laid · QuotFirst: laid · QuotSecond: laid · QuotThird: laid · ProdSemiParts: laid · ProdSplit: laid · ProdKrull: laid.
  DERIVED. THE GIVEN ROWS OF THIS SEAT. 10 by the template 'for every input the law returns true; each argument reads behind the call as it read before'; 0 by the template 'total and deterministic' (their statements: YtboadfahlflmhaaDoorTotals.lean).
  GIVEN WITH THE SEED: the statements are not yours to turn. If you find one false, say at which input.
  Laid BY PROGRAM, IN A SANDBOX (cutbox-rows.mjs): the forced cells as the released guide's own fill.sh prints them over the translation 60476f79399b5cae… (all of the seat's roots in one cut). By AI agents, Wed Nov 11 2026. No macro, syntax, notation, axiom, sorry.
-/
import Derived.Test.YtboadfahlflmhaaDoorChecked
import GoSem.Claim
import GoSem.ClaimJoined
import GoSem.ClaimMapViews
import Derived.JoinedTies
import Derived.KernelRfl
namespace Go.Proofs.YtboadfahlflmhaaDoor
/- THE CELL 'sum', in the pinned program and in every row, IS THE sha256 OF THE DUMP (.gsa) THAT YtboadfahlflmhaaDoorProg.lean LOADS. Nothing in Lean hashes anything: it is a label: what it is worth is what the hold of that sum in a sandbox is worth. -/
noncomputable def Tryd.pinned : Pinned := { name := "ytboadfahlflmhaadoor", sum := "60476f79399b5cae5a8b5ebecc796090d915658036d1ab20b27cd06be0570933", checked := Tryd.checked }
namespace Rows
def none {H : Type} : Left H := { results := [], args := [] }

/- WHAT THE LISTED PACKAGE-LEVEL VARIABLES READ AS WHEN THE CALL BEGINS. Each datum BY PROGRAM (the guide's laid-datum.mjs) off the statement by which the dump's own 'gosem.cut.vars' lays the variable. In a bare row this is a premise. The card (YtboadfahlflmhaaDoorCards.lean) ties it to the program's text. -/
def laid_math_bits_deBruijn64tab {H : Type} : DataW H := .agg [.lit (.int .u8 0), .lit (.int .u8 1), .lit (.int .u8 56), .lit (.int .u8 2), .lit (.int .u8 57), .lit (.int .u8 49), .lit (.int .u8 28), .lit (.int .u8 3), .lit (.int .u8 61), .lit (.int .u8 58), .lit (.int .u8 42), .lit (.int .u8 50), .lit (.int .u8 38), .lit (.int .u8 29), .lit (.int .u8 17), .lit (.int .u8 4), .lit (.int .u8 62), .lit (.int .u8 47), .lit (.int .u8 59), .lit (.int .u8 36), .lit (.int .u8 45), .lit (.int .u8 43), .lit (.int .u8 51), .lit (.int .u8 22), .lit (.int .u8 53), .lit (.int .u8 39), .lit (.int .u8 33), .lit (.int .u8 30), .lit (.int .u8 24), .lit (.int .u8 18), .lit (.int .u8 12), .lit (.int .u8 5), .lit (.int .u8 63), .lit (.int .u8 55), .lit (.int .u8 48), .lit (.int .u8 27), .lit (.int .u8 60), .lit (.int .u8 41), .lit (.int .u8 37), .lit (.int .u8 16), .lit (.int .u8 46), .lit (.int .u8 35), .lit (.int .u8 44), .lit (.int .u8 21), .lit (.int .u8 52), .lit (.int .u8 32), .lit (.int .u8 23), .lit (.int .u8 11), .lit (.int .u8 54), .lit (.int .u8 26), .lit (.int .u8 40), .lit (.int .u8 15), .lit (.int .u8 34), .lit (.int .u8 20), .lit (.int .u8 31), .lit (.int .u8 10), .lit (.int .u8 25), .lit (.int .u8 14), .lit (.int .u8 19), .lit (.int .u8 9), .lit (.int .u8 13), .lit (.int .u8 8), .lit (.int .u8 7), .lit (.int .u8 6)]

/-- 'cayleylaw.HomAutos': WHATEVER THE INPUT: true; the input reads as it did. -/
def homAutosSpec : ChangeSpec := { name := "homAutos", fn := fun _ => fun
  | [d] => { results := [.lit (.bool true)], args := [d] }
  | _ => none }
def homAutosRow : OpenClaim := { program := "ytboadfahlflmhaadoor", sum := "60476f79399b5cae5a8b5ebecc796090d915658036d1ab20b27cd06be0570933", func := "cayley/cayleylaw.HomAutos", spec := "homAutos", unfollowed := true, recurses := true, named := ["math/bits.deBruijn64tab"], apart := false, laid := [("math/bits.deBruijn64tab", laid_math_bits_deBruijn64tab)] }
def HomAutosSaid : Prop := homAutosRow.holds Tryd.pinned (OpenSpec.ofChange homAutosSpec)

/-- ITS FALSE NEIGHBOUR: 'it returns false'. Refute it at one input. -/
def homAutosWrong : ChangeSpec := { name := "homAutos", fn := fun _ => fun
  | [d] => { results := [.lit (.bool false)], args := [d] }
  | _ => none }
def HomAutosWrongFalsely : Prop := homAutosRow.holds Tryd.pinned (OpenSpec.ofChange homAutosWrong)

/-- 'cayleylaw.HomIso': WHATEVER THE INPUT: true; the input reads as it did. -/
def homIsoSpec : ChangeSpec := { name := "homIso", fn := fun _ => fun
  | [d1, d2] => { results := [.lit (.bool true)], args := [d1, d2] }
  | _ => none }
def homIsoRow : OpenClaim := { program := "ytboadfahlflmhaadoor", sum := "60476f79399b5cae5a8b5ebecc796090d915658036d1ab20b27cd06be0570933", func := "cayley/cayleylaw.HomIso", spec := "homIso", unfollowed := true, recurses := true, named := ["math/bits.deBruijn64tab"], apart := false, laid := [("math/bits.deBruijn64tab", laid_math_bits_deBruijn64tab)] }
def HomIsoSaid : Prop := homIsoRow.holds Tryd.pinned (OpenSpec.ofChange homIsoSpec)

/-- ITS FALSE NEIGHBOUR: 'it returns false'. Refute it at one input. -/
def homIsoWrong : ChangeSpec := { name := "homIso", fn := fun _ => fun
  | [d1, d2] => { results := [.lit (.bool false)], args := [d1, d2] }
  | _ => none }
def HomIsoWrongFalsely : Prop := homIsoRow.holds Tryd.pinned (OpenSpec.ofChange homIsoWrong)

/-- 'cayleylaw.HomInner': WHATEVER THE INPUT: true; the input reads as it did. -/
def homInnerSpec : ChangeSpec := { name := "homInner", fn := fun _ => fun
  | [d] => { results := [.lit (.bool true)], args := [d] }
  | _ => none }
def homInnerRow : OpenClaim := { program := "ytboadfahlflmhaadoor", sum := "60476f79399b5cae5a8b5ebecc796090d915658036d1ab20b27cd06be0570933", func := "cayley/cayleylaw.HomInner", spec := "homInner", unfollowed := true, recurses := true, named := ["math/bits.deBruijn64tab"], apart := false, laid := [("math/bits.deBruijn64tab", laid_math_bits_deBruijn64tab)] }
def HomInnerSaid : Prop := homInnerRow.holds Tryd.pinned (OpenSpec.ofChange homInnerSpec)

/-- ITS FALSE NEIGHBOUR: 'it returns false'. Refute it at one input. -/
def homInnerWrong : ChangeSpec := { name := "homInner", fn := fun _ => fun
  | [d] => { results := [.lit (.bool false)], args := [d] }
  | _ => none }
def HomInnerWrongFalsely : Prop := homInnerRow.holds Tryd.pinned (OpenSpec.ofChange homInnerWrong)

/-- 'cayleylaw.HomCyclic': WHATEVER THE INPUT: true; the input reads as it did. -/
def homCyclicSpec : ChangeSpec := { name := "homCyclic", fn := fun _ => fun
  | [d1, d2] => { results := [.lit (.bool true)], args := [d1, d2] }
  | _ => none }
def homCyclicRow : OpenClaim := { program := "ytboadfahlflmhaadoor", sum := "60476f79399b5cae5a8b5ebecc796090d915658036d1ab20b27cd06be0570933", func := "cayley/cayleylaw.HomCyclic", spec := "homCyclic", unfollowed := true, recurses := true, named := ["math/bits.deBruijn64tab"], apart := false, laid := [("math/bits.deBruijn64tab", laid_math_bits_deBruijn64tab)] }
def HomCyclicSaid : Prop := homCyclicRow.holds Tryd.pinned (OpenSpec.ofChange homCyclicSpec)

/-- ITS FALSE NEIGHBOUR: 'it returns false'. Refute it at one input. -/
def homCyclicWrong : ChangeSpec := { name := "homCyclic", fn := fun _ => fun
  | [d1, d2] => { results := [.lit (.bool false)], args := [d1, d2] }
  | _ => none }
def HomCyclicWrongFalsely : Prop := homCyclicRow.holds Tryd.pinned (OpenSpec.ofChange homCyclicWrong)

/-- 'cayleylaw.QuotFirst': WHATEVER THE INPUT: true; the input reads as it did. -/
def quotFirstSpec : ChangeSpec := { name := "quotFirst", fn := fun _ => fun
  | [d1, d2, d3] => { results := [.lit (.bool true)], args := [d1, d2, d3] }
  | _ => none }
def quotFirstRow : OpenClaim := { program := "ytboadfahlflmhaadoor", sum := "60476f79399b5cae5a8b5ebecc796090d915658036d1ab20b27cd06be0570933", func := "cayley/cayleylaw.QuotFirst", spec := "quotFirst", unfollowed := true, recurses := true, named := ["math/bits.deBruijn64tab"], apart := false, laid := [("math/bits.deBruijn64tab", laid_math_bits_deBruijn64tab)] }
def QuotFirstSaid : Prop := quotFirstRow.holds Tryd.pinned (OpenSpec.ofChange quotFirstSpec)

/-- ITS FALSE NEIGHBOUR: 'it returns false'. Refute it at one input. -/
def quotFirstWrong : ChangeSpec := { name := "quotFirst", fn := fun _ => fun
  | [d1, d2, d3] => { results := [.lit (.bool false)], args := [d1, d2, d3] }
  | _ => none }
def QuotFirstWrongFalsely : Prop := quotFirstRow.holds Tryd.pinned (OpenSpec.ofChange quotFirstWrong)

/-- 'cayleylaw.QuotSecond': WHATEVER THE INPUT: true; the input reads as it did. -/
def quotSecondSpec : ChangeSpec := { name := "quotSecond", fn := fun _ => fun
  | [d1, d2, d3] => { results := [.lit (.bool true)], args := [d1, d2, d3] }
  | _ => none }
def quotSecondRow : OpenClaim := { program := "ytboadfahlflmhaadoor", sum := "60476f79399b5cae5a8b5ebecc796090d915658036d1ab20b27cd06be0570933", func := "cayley/cayleylaw.QuotSecond", spec := "quotSecond", unfollowed := true, recurses := true, named := ["math/bits.deBruijn64tab"], apart := false, laid := [("math/bits.deBruijn64tab", laid_math_bits_deBruijn64tab)] }
def QuotSecondSaid : Prop := quotSecondRow.holds Tryd.pinned (OpenSpec.ofChange quotSecondSpec)

/-- ITS FALSE NEIGHBOUR: 'it returns false'. Refute it at one input. -/
def quotSecondWrong : ChangeSpec := { name := "quotSecond", fn := fun _ => fun
  | [d1, d2, d3] => { results := [.lit (.bool false)], args := [d1, d2, d3] }
  | _ => none }
def QuotSecondWrongFalsely : Prop := quotSecondRow.holds Tryd.pinned (OpenSpec.ofChange quotSecondWrong)

/-- 'cayleylaw.QuotThird': WHATEVER THE INPUT: true; the input reads as it did. -/
def quotThirdSpec : ChangeSpec := { name := "quotThird", fn := fun _ => fun
  | [d1, d2, d3] => { results := [.lit (.bool true)], args := [d1, d2, d3] }
  | _ => none }
def quotThirdRow : OpenClaim := { program := "ytboadfahlflmhaadoor", sum := "60476f79399b5cae5a8b5ebecc796090d915658036d1ab20b27cd06be0570933", func := "cayley/cayleylaw.QuotThird", spec := "quotThird", unfollowed := true, recurses := true, named := ["math/bits.deBruijn64tab"], apart := false, laid := [("math/bits.deBruijn64tab", laid_math_bits_deBruijn64tab)] }
def QuotThirdSaid : Prop := quotThirdRow.holds Tryd.pinned (OpenSpec.ofChange quotThirdSpec)

/-- ITS FALSE NEIGHBOUR: 'it returns false'. Refute it at one input. -/
def quotThirdWrong : ChangeSpec := { name := "quotThird", fn := fun _ => fun
  | [d1, d2, d3] => { results := [.lit (.bool false)], args := [d1, d2, d3] }
  | _ => none }
def QuotThirdWrongFalsely : Prop := quotThirdRow.holds Tryd.pinned (OpenSpec.ofChange quotThirdWrong)

/-- 'cayleylaw.ProdSemiParts': WHATEVER THE INPUT: true; the input reads as it did. -/
def prodSemiPartsSpec : ChangeSpec := { name := "prodSemiParts", fn := fun _ => fun
  | [d1, d2, d3] => { results := [.lit (.bool true)], args := [d1, d2, d3] }
  | _ => none }
def prodSemiPartsRow : OpenClaim := { program := "ytboadfahlflmhaadoor", sum := "60476f79399b5cae5a8b5ebecc796090d915658036d1ab20b27cd06be0570933", func := "cayley/cayleylaw.ProdSemiParts", spec := "prodSemiParts", unfollowed := true, recurses := true, named := ["math/bits.deBruijn64tab"], apart := false, laid := [("math/bits.deBruijn64tab", laid_math_bits_deBruijn64tab)] }
def ProdSemiPartsSaid : Prop := prodSemiPartsRow.holds Tryd.pinned (OpenSpec.ofChange prodSemiPartsSpec)

/-- ITS FALSE NEIGHBOUR: 'it returns false'. Refute it at one input. -/
def prodSemiPartsWrong : ChangeSpec := { name := "prodSemiParts", fn := fun _ => fun
  | [d1, d2, d3] => { results := [.lit (.bool false)], args := [d1, d2, d3] }
  | _ => none }
def ProdSemiPartsWrongFalsely : Prop := prodSemiPartsRow.holds Tryd.pinned (OpenSpec.ofChange prodSemiPartsWrong)

/-- 'cayleylaw.ProdSplit': WHATEVER THE INPUT: true; the input reads as it did. -/
def prodSplitSpec : ChangeSpec := { name := "prodSplit", fn := fun _ => fun
  | [d] => { results := [.lit (.bool true)], args := [d] }
  | _ => none }
def prodSplitRow : OpenClaim := { program := "ytboadfahlflmhaadoor", sum := "60476f79399b5cae5a8b5ebecc796090d915658036d1ab20b27cd06be0570933", func := "cayley/cayleylaw.ProdSplit", spec := "prodSplit", unfollowed := true, recurses := true, named := ["math/bits.deBruijn64tab"], apart := false, laid := [("math/bits.deBruijn64tab", laid_math_bits_deBruijn64tab)] }
def ProdSplitSaid : Prop := prodSplitRow.holds Tryd.pinned (OpenSpec.ofChange prodSplitSpec)

/-- ITS FALSE NEIGHBOUR: 'it returns false'. Refute it at one input. -/
def prodSplitWrong : ChangeSpec := { name := "prodSplit", fn := fun _ => fun
  | [d] => { results := [.lit (.bool false)], args := [d] }
  | _ => none }
def ProdSplitWrongFalsely : Prop := prodSplitRow.holds Tryd.pinned (OpenSpec.ofChange prodSplitWrong)

/-- 'cayleylaw.ProdKrull': WHATEVER THE INPUT: true; the input reads as it did. -/
def prodKrullSpec : ChangeSpec := { name := "prodKrull", fn := fun _ => fun
  | [d1, d2] => { results := [.lit (.bool true)], args := [d1, d2] }
  | _ => none }
def prodKrullRow : OpenClaim := { program := "ytboadfahlflmhaadoor", sum := "60476f79399b5cae5a8b5ebecc796090d915658036d1ab20b27cd06be0570933", func := "cayley/cayleylaw.ProdKrull", spec := "prodKrull", unfollowed := true, recurses := true, named := ["math/bits.deBruijn64tab"], apart := false, laid := [("math/bits.deBruijn64tab", laid_math_bits_deBruijn64tab)] }
def ProdKrullSaid : Prop := prodKrullRow.holds Tryd.pinned (OpenSpec.ofChange prodKrullSpec)

/-- ITS FALSE NEIGHBOUR: 'it returns false'. Refute it at one input. -/
def prodKrullWrong : ChangeSpec := { name := "prodKrull", fn := fun _ => fun
  | [d1, d2] => { results := [.lit (.bool false)], args := [d1, d2] }
  | _ => none }
def ProdKrullWrongFalsely : Prop := prodKrullRow.holds Tryd.pinned (OpenSpec.ofChange prodKrullWrong)

/- THE SECOND FORM. 'bulk': how many values and letters a reading holds, each counted each time it is reached (what is shared counts as often as it is met; a slice's spare places count too). A statement '..UptoSaid' is the law's where the arguments, and the package variables that the reading takes, are together of bulk at most 1048576: NARROWER than '..Said'. Prove '..Said' where nothing that the law and all that it calls make is longer than what came in: it says more and counts as full. Else prove '..UptoSaid'. A law counts once. -/
mutual
def uptoBulk {H : Type} : DataW H → Nat
  | .lit (.string bytes) => bytes.length + 1
  | .lit _ => 1
  | .nil => 1
  | .ptr d => uptoBulk d + 1
  | .slice elems spare => uptoBulkAll elems + uptoBulkAll spare + 1
  | .agg parts => uptoBulkAll parts + 1
  | .iface _ d => uptoBulk d + 1
  | .map entries => uptoBulkEntries entries + 1
  | .held _ => 1
def uptoBulkAll {H : Type} : List (DataW H) → Nat
  | [] => 0
  | d :: r => uptoBulk d + uptoBulkAll r
def uptoBulkEntries {H : Type} : List (Lit × DataW H) → Nat
  | [] => 0
  | x :: r => uptoBulkEntry x + uptoBulkEntries r
def uptoBulkEntry {H : Type} : Lit × DataW H → Nat
  | (.string bytes, d) => bytes.length + uptoBulk d + 1
  | (_, d) => uptoBulk d + 1
 end
def uptoSmall : (H : Type) → List (DataW H) → Bool := fun _ ds => decide (uptoBulkAll ds ≤ 1048576)
def OpenSpec.upto (s : _root_.Go.ChangeSpec) : _root_.Go.OpenSpec := { _root_.Go.OpenSpec.ofChange s with cond := some uptoSmall }

/-- 'cayleylaw.HomAutos', WHERE WHAT IT READS IS OF BULK AT MOST 1048576: true; the input reads as it did. -/
def homAutosUptoRow : OpenClaim := { program := "ytboadfahlflmhaadoor", sum := "60476f79399b5cae5a8b5ebecc796090d915658036d1ab20b27cd06be0570933", func := "cayley/cayleylaw.HomAutos", spec := "homAutos", unfollowed := true, recurses := true, named := ["math/bits.deBruijn64tab"], apart := false, laid := [("math/bits.deBruijn64tab", laid_math_bits_deBruijn64tab)], narrowed := true }
def HomAutosUptoSaid : Prop := homAutosUptoRow.holds Tryd.pinned (OpenSpec.upto homAutosSpec)

/-- 'cayleylaw.HomIso', WHERE WHAT IT READS IS OF BULK AT MOST 1048576: true; the input reads as it did. -/
def homIsoUptoRow : OpenClaim := { program := "ytboadfahlflmhaadoor", sum := "60476f79399b5cae5a8b5ebecc796090d915658036d1ab20b27cd06be0570933", func := "cayley/cayleylaw.HomIso", spec := "homIso", unfollowed := true, recurses := true, named := ["math/bits.deBruijn64tab"], apart := false, laid := [("math/bits.deBruijn64tab", laid_math_bits_deBruijn64tab)], narrowed := true }
def HomIsoUptoSaid : Prop := homIsoUptoRow.holds Tryd.pinned (OpenSpec.upto homIsoSpec)

/-- 'cayleylaw.HomInner', WHERE WHAT IT READS IS OF BULK AT MOST 1048576: true; the input reads as it did. -/
def homInnerUptoRow : OpenClaim := { program := "ytboadfahlflmhaadoor", sum := "60476f79399b5cae5a8b5ebecc796090d915658036d1ab20b27cd06be0570933", func := "cayley/cayleylaw.HomInner", spec := "homInner", unfollowed := true, recurses := true, named := ["math/bits.deBruijn64tab"], apart := false, laid := [("math/bits.deBruijn64tab", laid_math_bits_deBruijn64tab)], narrowed := true }
def HomInnerUptoSaid : Prop := homInnerUptoRow.holds Tryd.pinned (OpenSpec.upto homInnerSpec)

/-- 'cayleylaw.HomCyclic', WHERE WHAT IT READS IS OF BULK AT MOST 1048576: true; the input reads as it did. -/
def homCyclicUptoRow : OpenClaim := { program := "ytboadfahlflmhaadoor", sum := "60476f79399b5cae5a8b5ebecc796090d915658036d1ab20b27cd06be0570933", func := "cayley/cayleylaw.HomCyclic", spec := "homCyclic", unfollowed := true, recurses := true, named := ["math/bits.deBruijn64tab"], apart := false, laid := [("math/bits.deBruijn64tab", laid_math_bits_deBruijn64tab)], narrowed := true }
def HomCyclicUptoSaid : Prop := homCyclicUptoRow.holds Tryd.pinned (OpenSpec.upto homCyclicSpec)

/-- 'cayleylaw.QuotFirst', WHERE WHAT IT READS IS OF BULK AT MOST 1048576: true; the input reads as it did. -/
def quotFirstUptoRow : OpenClaim := { program := "ytboadfahlflmhaadoor", sum := "60476f79399b5cae5a8b5ebecc796090d915658036d1ab20b27cd06be0570933", func := "cayley/cayleylaw.QuotFirst", spec := "quotFirst", unfollowed := true, recurses := true, named := ["math/bits.deBruijn64tab"], apart := false, laid := [("math/bits.deBruijn64tab", laid_math_bits_deBruijn64tab)], narrowed := true }
def QuotFirstUptoSaid : Prop := quotFirstUptoRow.holds Tryd.pinned (OpenSpec.upto quotFirstSpec)

/-- 'cayleylaw.QuotSecond', WHERE WHAT IT READS IS OF BULK AT MOST 1048576: true; the input reads as it did. -/
def quotSecondUptoRow : OpenClaim := { program := "ytboadfahlflmhaadoor", sum := "60476f79399b5cae5a8b5ebecc796090d915658036d1ab20b27cd06be0570933", func := "cayley/cayleylaw.QuotSecond", spec := "quotSecond", unfollowed := true, recurses := true, named := ["math/bits.deBruijn64tab"], apart := false, laid := [("math/bits.deBruijn64tab", laid_math_bits_deBruijn64tab)], narrowed := true }
def QuotSecondUptoSaid : Prop := quotSecondUptoRow.holds Tryd.pinned (OpenSpec.upto quotSecondSpec)

/-- 'cayleylaw.QuotThird', WHERE WHAT IT READS IS OF BULK AT MOST 1048576: true; the input reads as it did. -/
def quotThirdUptoRow : OpenClaim := { program := "ytboadfahlflmhaadoor", sum := "60476f79399b5cae5a8b5ebecc796090d915658036d1ab20b27cd06be0570933", func := "cayley/cayleylaw.QuotThird", spec := "quotThird", unfollowed := true, recurses := true, named := ["math/bits.deBruijn64tab"], apart := false, laid := [("math/bits.deBruijn64tab", laid_math_bits_deBruijn64tab)], narrowed := true }
def QuotThirdUptoSaid : Prop := quotThirdUptoRow.holds Tryd.pinned (OpenSpec.upto quotThirdSpec)

/-- 'cayleylaw.ProdSemiParts', WHERE WHAT IT READS IS OF BULK AT MOST 1048576: true; the input reads as it did. -/
def prodSemiPartsUptoRow : OpenClaim := { program := "ytboadfahlflmhaadoor", sum := "60476f79399b5cae5a8b5ebecc796090d915658036d1ab20b27cd06be0570933", func := "cayley/cayleylaw.ProdSemiParts", spec := "prodSemiParts", unfollowed := true, recurses := true, named := ["math/bits.deBruijn64tab"], apart := false, laid := [("math/bits.deBruijn64tab", laid_math_bits_deBruijn64tab)], narrowed := true }
def ProdSemiPartsUptoSaid : Prop := prodSemiPartsUptoRow.holds Tryd.pinned (OpenSpec.upto prodSemiPartsSpec)

/-- 'cayleylaw.ProdSplit', WHERE WHAT IT READS IS OF BULK AT MOST 1048576: true; the input reads as it did. -/
def prodSplitUptoRow : OpenClaim := { program := "ytboadfahlflmhaadoor", sum := "60476f79399b5cae5a8b5ebecc796090d915658036d1ab20b27cd06be0570933", func := "cayley/cayleylaw.ProdSplit", spec := "prodSplit", unfollowed := true, recurses := true, named := ["math/bits.deBruijn64tab"], apart := false, laid := [("math/bits.deBruijn64tab", laid_math_bits_deBruijn64tab)], narrowed := true }
def ProdSplitUptoSaid : Prop := prodSplitUptoRow.holds Tryd.pinned (OpenSpec.upto prodSplitSpec)

/-- 'cayleylaw.ProdKrull', WHERE WHAT IT READS IS OF BULK AT MOST 1048576: true; the input reads as it did. -/
def prodKrullUptoRow : OpenClaim := { program := "ytboadfahlflmhaadoor", sum := "60476f79399b5cae5a8b5ebecc796090d915658036d1ab20b27cd06be0570933", func := "cayley/cayleylaw.ProdKrull", spec := "prodKrull", unfollowed := true, recurses := true, named := ["math/bits.deBruijn64tab"], apart := false, laid := [("math/bits.deBruijn64tab", laid_math_bits_deBruijn64tab)], narrowed := true }
def ProdKrullUptoSaid : Prop := prodKrullUptoRow.holds Tryd.pinned (OpenSpec.upto prodKrullSpec)

end Rows
end Go.Proofs.YtboadfahlflmhaaDoor
