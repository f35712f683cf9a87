/-
  No cell of these rows narrows 'for every input' (looked for: loops, veiled, ifaces, maps, wideKeys, modest, calm, conditions, laid).
  DERIVED. THE GIVEN ROWS OF THIS SEAT. 9 by the template 'for every input the law returns true; each argument reads behind the call as it read before'; 0 by the template 'total and deterministic' (their statements: YtmkebnaedgdeaaaTotals.lean).
  GIVEN WITH THE SEED: the statements are not yours to turn. If you find one false, say at which input.
  Laid BY PROGRAM, IN A SANDBOX (cutbox-rows.mjs): the forced cells as the released guide's own fill.sh prints them over the translation 1e54d55181659f5f… (all of the seat's roots in one cut). By AI agents, Wed Nov 11 2026. No macro, syntax, notation, axiom, sorry.
-/
import Derived.Test.YtmkebnaedgdeaaaChecked
import GoSem.Claim
import GoSem.ClaimJoined
import GoSem.ClaimMapViews
import Derived.JoinedTies
import Derived.KernelRfl
namespace Go.Proofs.Ytmkebnaedgdeaaa
/- THE CELL 'sum', in the pinned program and in every row, IS THE sha256 OF THE DUMP (.gsa) THAT YtmkebnaedgdeaaaProg.lean LOADS. Nothing in Lean hashes anything: it is a label: what it is worth is what the hold of that sum in a sandbox is worth. -/
noncomputable def Try.pinned : Pinned := { name := "ytmkebnaedgdeaaa", sum := "1e54d55181659f5f36926dba30be0ee33033d5a0f56b69a6836b3b7114066713", checked := Try.checked }
namespace Rows
def none {H : Type} : Left H := { results := [], args := [] }

/-- 'cayleylaw.TableFrobenius': WHATEVER THE INPUT: true; the input reads as it did. -/
def tableFrobeniusSpec : ChangeSpec := { name := "tableFrobenius", fn := fun _ => fun
  | [d1, d2] => { results := [.lit (.bool true)], args := [d1, d2] }
  | _ => none }
def tableFrobeniusRow : OpenClaim := { program := "ytmkebnaedgdeaaa", sum := "1e54d55181659f5f36926dba30be0ee33033d5a0f56b69a6836b3b7114066713", func := "cayley/cayleylaw.TableFrobenius", spec := "tableFrobenius", unfollowed := true, recurses := true, apart := false }
def TableFrobeniusSaid : Prop := tableFrobeniusRow.holds Try.pinned (OpenSpec.ofChange tableFrobeniusSpec)

/-- ITS FALSE NEIGHBOUR: 'it returns false'. Refute it at one input. -/
def tableFrobeniusWrong : ChangeSpec := { name := "tableFrobenius", fn := fun _ => fun
  | [d1, d2] => { results := [.lit (.bool false)], args := [d1, d2] }
  | _ => none }
def TableFrobeniusWrongFalsely : Prop := tableFrobeniusRow.holds Try.pinned (OpenSpec.ofChange tableFrobeniusWrong)

/-- 'cayleylaw.TableProducts': WHATEVER THE INPUT: true; the input reads as it did. -/
def tableProductsSpec : ChangeSpec := { name := "tableProducts", fn := fun _ => fun
  | [d1, d2] => { results := [.lit (.bool true)], args := [d1, d2] }
  | _ => none }
def tableProductsRow : OpenClaim := { program := "ytmkebnaedgdeaaa", sum := "1e54d55181659f5f36926dba30be0ee33033d5a0f56b69a6836b3b7114066713", func := "cayley/cayleylaw.TableProducts", spec := "tableProducts", unfollowed := true, recurses := true, apart := false }
def TableProductsSaid : Prop := tableProductsRow.holds Try.pinned (OpenSpec.ofChange tableProductsSpec)

/-- ITS FALSE NEIGHBOUR: 'it returns false'. Refute it at one input. -/
def tableProductsWrong : ChangeSpec := { name := "tableProducts", fn := fun _ => fun
  | [d1, d2] => { results := [.lit (.bool false)], args := [d1, d2] }
  | _ => none }
def TableProductsWrongFalsely : Prop := tableProductsRow.holds Try.pinned (OpenSpec.ofChange tableProductsWrong)

/-- 'cayleylaw.TableMakes': WHATEVER THE INPUT: true; the input reads as it did. -/
def tableMakesSpec : ChangeSpec := { name := "tableMakes", fn := fun _ => fun
  | [d] => { results := [.lit (.bool true)], args := [d] }
  | _ => none }
def tableMakesRow : OpenClaim := { program := "ytmkebnaedgdeaaa", sum := "1e54d55181659f5f36926dba30be0ee33033d5a0f56b69a6836b3b7114066713", func := "cayley/cayleylaw.TableMakes", spec := "tableMakes", unfollowed := true, recurses := true, apart := false }
def TableMakesSaid : Prop := tableMakesRow.holds Try.pinned (OpenSpec.ofChange tableMakesSpec)

/-- ITS FALSE NEIGHBOUR: 'it returns false'. Refute it at one input. -/
def tableMakesWrong : ChangeSpec := { name := "tableMakes", fn := fun _ => fun
  | [d] => { results := [.lit (.bool false)], args := [d] }
  | _ => none }
def TableMakesWrongFalsely : Prop := tableMakesRow.holds Try.pinned (OpenSpec.ofChange tableMakesWrong)

/-- 'cayleylaw.TableSocks': WHATEVER THE INPUT: true; the input reads as it did. -/
def tableSocksSpec : ChangeSpec := { name := "tableSocks", fn := fun _ => fun
  | [d1, d2, d3] => { results := [.lit (.bool true)], args := [d1, d2, d3] }
  | _ => none }
def tableSocksRow : OpenClaim := { program := "ytmkebnaedgdeaaa", sum := "1e54d55181659f5f36926dba30be0ee33033d5a0f56b69a6836b3b7114066713", func := "cayley/cayleylaw.TableSocks", spec := "tableSocks", unfollowed := true, recurses := true, apart := false }
def TableSocksSaid : Prop := tableSocksRow.holds Try.pinned (OpenSpec.ofChange tableSocksSpec)

/-- ITS FALSE NEIGHBOUR: 'it returns false'. Refute it at one input. -/
def tableSocksWrong : ChangeSpec := { name := "tableSocks", fn := fun _ => fun
  | [d1, d2, d3] => { results := [.lit (.bool false)], args := [d1, d2, d3] }
  | _ => none }
def TableSocksWrongFalsely : Prop := tableSocksRow.holds Try.pinned (OpenSpec.ofChange tableSocksWrong)

/-- 'cayleylaw.TableFactors': WHATEVER THE INPUT: true; the input reads as it did. -/
def tableFactorsSpec : ChangeSpec := { name := "tableFactors", fn := fun _ => fun
  | [d1, d2] => { results := [.lit (.bool true)], args := [d1, d2] }
  | _ => none }
def tableFactorsRow : OpenClaim := { program := "ytmkebnaedgdeaaa", sum := "1e54d55181659f5f36926dba30be0ee33033d5a0f56b69a6836b3b7114066713", func := "cayley/cayleylaw.TableFactors", spec := "tableFactors", unfollowed := true, recurses := true, apart := false }
def TableFactorsSaid : Prop := tableFactorsRow.holds Try.pinned (OpenSpec.ofChange tableFactorsSpec)

/-- ITS FALSE NEIGHBOUR: 'it returns false'. Refute it at one input. -/
def tableFactorsWrong : ChangeSpec := { name := "tableFactors", fn := fun _ => fun
  | [d1, d2] => { results := [.lit (.bool false)], args := [d1, d2] }
  | _ => none }
def TableFactorsWrongFalsely : Prop := tableFactorsRow.holds Try.pinned (OpenSpec.ofChange tableFactorsWrong)

/-- 'cayleylaw.TablePowers': WHATEVER THE INPUT: true; the input reads as it did. -/
def tablePowersSpec : ChangeSpec := { name := "tablePowers", fn := fun _ => fun
  | [d1, d2, d3, d4] => { results := [.lit (.bool true)], args := [d1, d2, d3, d4] }
  | _ => none }
def tablePowersRow : OpenClaim := { program := "ytmkebnaedgdeaaa", sum := "1e54d55181659f5f36926dba30be0ee33033d5a0f56b69a6836b3b7114066713", func := "cayley/cayleylaw.TablePowers", spec := "tablePowers", unfollowed := true, recurses := true, apart := false }
def TablePowersSaid : Prop := tablePowersRow.holds Try.pinned (OpenSpec.ofChange tablePowersSpec)

/-- ITS FALSE NEIGHBOUR: 'it returns false'. Refute it at one input. -/
def tablePowersWrong : ChangeSpec := { name := "tablePowers", fn := fun _ => fun
  | [d1, d2, d3, d4] => { results := [.lit (.bool false)], args := [d1, d2, d3, d4] }
  | _ => none }
def TablePowersWrongFalsely : Prop := tablePowersRow.holds Try.pinned (OpenSpec.ofChange tablePowersWrong)

/-- 'cayleylaw.TableChecks': WHATEVER THE INPUT: true; the input reads as it did. -/
def tableChecksSpec : ChangeSpec := { name := "tableChecks", fn := fun _ => fun
  | [d1, d2] => { results := [.lit (.bool true)], args := [d1, d2] }
  | _ => none }
def tableChecksRow : OpenClaim := { program := "ytmkebnaedgdeaaa", sum := "1e54d55181659f5f36926dba30be0ee33033d5a0f56b69a6836b3b7114066713", func := "cayley/cayleylaw.TableChecks", spec := "tableChecks", unfollowed := true, recurses := true, apart := false }
def TableChecksSaid : Prop := tableChecksRow.holds Try.pinned (OpenSpec.ofChange tableChecksSpec)

/-- ITS FALSE NEIGHBOUR: 'it returns false'. Refute it at one input. -/
def tableChecksWrong : ChangeSpec := { name := "tableChecks", fn := fun _ => fun
  | [d1, d2] => { results := [.lit (.bool false)], args := [d1, d2] }
  | _ => none }
def TableChecksWrongFalsely : Prop := tableChecksRow.holds Try.pinned (OpenSpec.ofChange tableChecksWrong)

/-- 'cayleylaw.TableOrders': WHATEVER THE INPUT: true; the input reads as it did. -/
def tableOrdersSpec : ChangeSpec := { name := "tableOrders", fn := fun _ => fun
  | [d1, d2, d3] => { results := [.lit (.bool true)], args := [d1, d2, d3] }
  | _ => none }
def tableOrdersRow : OpenClaim := { program := "ytmkebnaedgdeaaa", sum := "1e54d55181659f5f36926dba30be0ee33033d5a0f56b69a6836b3b7114066713", func := "cayley/cayleylaw.TableOrders", spec := "tableOrders", unfollowed := true, recurses := true, apart := false }
def TableOrdersSaid : Prop := tableOrdersRow.holds Try.pinned (OpenSpec.ofChange tableOrdersSpec)

/-- ITS FALSE NEIGHBOUR: 'it returns false'. Refute it at one input. -/
def tableOrdersWrong : ChangeSpec := { name := "tableOrders", fn := fun _ => fun
  | [d1, d2, d3] => { results := [.lit (.bool false)], args := [d1, d2, d3] }
  | _ => none }
def TableOrdersWrongFalsely : Prop := tableOrdersRow.holds Try.pinned (OpenSpec.ofChange tableOrdersWrong)

/-- 'cayleylaw.TableCayley': WHATEVER THE INPUT: true; the input reads as it did. -/
def tableCayleySpec : ChangeSpec := { name := "tableCayley", fn := fun _ => fun
  | [d] => { results := [.lit (.bool true)], args := [d] }
  | _ => none }
def tableCayleyRow : OpenClaim := { program := "ytmkebnaedgdeaaa", sum := "1e54d55181659f5f36926dba30be0ee33033d5a0f56b69a6836b3b7114066713", func := "cayley/cayleylaw.TableCayley", spec := "tableCayley", unfollowed := true, recurses := true, apart := false }
def TableCayleySaid : Prop := tableCayleyRow.holds Try.pinned (OpenSpec.ofChange tableCayleySpec)

/-- ITS FALSE NEIGHBOUR: 'it returns false'. Refute it at one input. -/
def tableCayleyWrong : ChangeSpec := { name := "tableCayley", fn := fun _ => fun
  | [d] => { results := [.lit (.bool false)], args := [d] }
  | _ => none }
def TableCayleyWrongFalsely : Prop := tableCayleyRow.holds Try.pinned (OpenSpec.ofChange tableCayleyWrong)

/- THE SECOND FORM. 'bulk': how many values and letters a reading holds, each counted each time it is reached (what is shared counts as often as it is met; a slice's spare places count too). A statement '..UptoSaid' is the law's where the arguments, and the package variables that the reading takes, are together of bulk at most 1048576: NARROWER than '..Said'. Prove '..Said' where nothing that the law and all that it calls make is longer than what came in: it says more and counts as full. Else prove '..UptoSaid'. A law counts once. -/
mutual
def uptoBulk {H : Type} : DataW H → Nat
  | .lit (.string bytes) => bytes.length + 1
  | .lit _ => 1
  | .nil => 1
  | .ptr d => uptoBulk d + 1
  | .slice elems spare => uptoBulkAll elems + uptoBulkAll spare + 1
  | .agg parts => uptoBulkAll parts + 1
  | .iface _ d => uptoBulk d + 1
  | .map entries => uptoBulkEntries entries + 1
  | .held _ => 1
def uptoBulkAll {H : Type} : List (DataW H) → Nat
  | [] => 0
  | d :: r => uptoBulk d + uptoBulkAll r
def uptoBulkEntries {H : Type} : List (Lit × DataW H) → Nat
  | [] => 0
  | x :: r => uptoBulkEntry x + uptoBulkEntries r
def uptoBulkEntry {H : Type} : Lit × DataW H → Nat
  | (.string bytes, d) => bytes.length + uptoBulk d + 1
  | (_, d) => uptoBulk d + 1
 end
def uptoSmall : (H : Type) → List (DataW H) → Bool := fun _ ds => decide (uptoBulkAll ds ≤ 1048576)
def OpenSpec.upto (s : _root_.Go.ChangeSpec) : _root_.Go.OpenSpec := { _root_.Go.OpenSpec.ofChange s with cond := some uptoSmall }

/-- 'cayleylaw.TableFrobenius', WHERE WHAT IT READS IS OF BULK AT MOST 1048576: true; the input reads as it did. -/
def tableFrobeniusUptoRow : OpenClaim := { program := "ytmkebnaedgdeaaa", sum := "1e54d55181659f5f36926dba30be0ee33033d5a0f56b69a6836b3b7114066713", func := "cayley/cayleylaw.TableFrobenius", spec := "tableFrobenius", unfollowed := true, recurses := true, apart := false, narrowed := true }
def TableFrobeniusUptoSaid : Prop := tableFrobeniusUptoRow.holds Try.pinned (OpenSpec.upto tableFrobeniusSpec)

/-- 'cayleylaw.TableProducts', WHERE WHAT IT READS IS OF BULK AT MOST 1048576: true; the input reads as it did. -/
def tableProductsUptoRow : OpenClaim := { program := "ytmkebnaedgdeaaa", sum := "1e54d55181659f5f36926dba30be0ee33033d5a0f56b69a6836b3b7114066713", func := "cayley/cayleylaw.TableProducts", spec := "tableProducts", unfollowed := true, recurses := true, apart := false, narrowed := true }
def TableProductsUptoSaid : Prop := tableProductsUptoRow.holds Try.pinned (OpenSpec.upto tableProductsSpec)

/-- 'cayleylaw.TableMakes', WHERE WHAT IT READS IS OF BULK AT MOST 1048576: true; the input reads as it did. -/
def tableMakesUptoRow : OpenClaim := { program := "ytmkebnaedgdeaaa", sum := "1e54d55181659f5f36926dba30be0ee33033d5a0f56b69a6836b3b7114066713", func := "cayley/cayleylaw.TableMakes", spec := "tableMakes", unfollowed := true, recurses := true, apart := false, narrowed := true }
def TableMakesUptoSaid : Prop := tableMakesUptoRow.holds Try.pinned (OpenSpec.upto tableMakesSpec)

/-- 'cayleylaw.TableSocks', WHERE WHAT IT READS IS OF BULK AT MOST 1048576: true; the input reads as it did. -/
def tableSocksUptoRow : OpenClaim := { program := "ytmkebnaedgdeaaa", sum := "1e54d55181659f5f36926dba30be0ee33033d5a0f56b69a6836b3b7114066713", func := "cayley/cayleylaw.TableSocks", spec := "tableSocks", unfollowed := true, recurses := true, apart := false, narrowed := true }
def TableSocksUptoSaid : Prop := tableSocksUptoRow.holds Try.pinned (OpenSpec.upto tableSocksSpec)

/-- 'cayleylaw.TableFactors', WHERE WHAT IT READS IS OF BULK AT MOST 1048576: true; the input reads as it did. -/
def tableFactorsUptoRow : OpenClaim := { program := "ytmkebnaedgdeaaa", sum := "1e54d55181659f5f36926dba30be0ee33033d5a0f56b69a6836b3b7114066713", func := "cayley/cayleylaw.TableFactors", spec := "tableFactors", unfollowed := true, recurses := true, apart := false, narrowed := true }
def TableFactorsUptoSaid : Prop := tableFactorsUptoRow.holds Try.pinned (OpenSpec.upto tableFactorsSpec)

/-- 'cayleylaw.TablePowers', WHERE WHAT IT READS IS OF BULK AT MOST 1048576: true; the input reads as it did. -/
def tablePowersUptoRow : OpenClaim := { program := "ytmkebnaedgdeaaa", sum := "1e54d55181659f5f36926dba30be0ee33033d5a0f56b69a6836b3b7114066713", func := "cayley/cayleylaw.TablePowers", spec := "tablePowers", unfollowed := true, recurses := true, apart := false, narrowed := true }
def TablePowersUptoSaid : Prop := tablePowersUptoRow.holds Try.pinned (OpenSpec.upto tablePowersSpec)

/-- 'cayleylaw.TableChecks', WHERE WHAT IT READS IS OF BULK AT MOST 1048576: true; the input reads as it did. -/
def tableChecksUptoRow : OpenClaim := { program := "ytmkebnaedgdeaaa", sum := "1e54d55181659f5f36926dba30be0ee33033d5a0f56b69a6836b3b7114066713", func := "cayley/cayleylaw.TableChecks", spec := "tableChecks", unfollowed := true, recurses := true, apart := false, narrowed := true }
def TableChecksUptoSaid : Prop := tableChecksUptoRow.holds Try.pinned (OpenSpec.upto tableChecksSpec)

/-- 'cayleylaw.TableOrders', WHERE WHAT IT READS IS OF BULK AT MOST 1048576: true; the input reads as it did. -/
def tableOrdersUptoRow : OpenClaim := { program := "ytmkebnaedgdeaaa", sum := "1e54d55181659f5f36926dba30be0ee33033d5a0f56b69a6836b3b7114066713", func := "cayley/cayleylaw.TableOrders", spec := "tableOrders", unfollowed := true, recurses := true, apart := false, narrowed := true }
def TableOrdersUptoSaid : Prop := tableOrdersUptoRow.holds Try.pinned (OpenSpec.upto tableOrdersSpec)

/-- 'cayleylaw.TableCayley', WHERE WHAT IT READS IS OF BULK AT MOST 1048576: true; the input reads as it did. -/
def tableCayleyUptoRow : OpenClaim := { program := "ytmkebnaedgdeaaa", sum := "1e54d55181659f5f36926dba30be0ee33033d5a0f56b69a6836b3b7114066713", func := "cayley/cayleylaw.TableCayley", spec := "tableCayley", unfollowed := true, recurses := true, apart := false, narrowed := true }
def TableCayleyUptoSaid : Prop := tableCayleyUptoRow.holds Try.pinned (OpenSpec.upto tableCayleySpec)

end Rows
end Go.Proofs.Ytmkebnaedgdeaaa
