/-
  Walks: dihedral groups, dicyclic ones, products; the example of the document. Conditions: none.
-/
import Derived.Test.YtgnhcdpjmfoklaaDoorT7
set_option linter.all false
namespace Go.Proofs.YtgnhcdpjmfoklaaDoor
open Go.Pv

theorem t2n (n : Nat) : (2 : Int) * (n : Int) = ((2 * n : Nat) : Int) := by omega

/-! ### The example of the document -/

theorem dic2_GT : GT (2 * (2 * 2) : Nat) (tbl (fun a b => (dic 2 a b : Nat)) (2 * (2 * 2))) 8 0 := by
  have hM : tbl (fun a b => (dic 2 a b : Nat)) (2 * (2 * 2)) = [0, 1, 2, 3, 4, 5, 6, 7, 1, 2, 3, 0, 5, 6, 7, 4, 2, 3, 0, 1, 6, 7, 4, 5, 3, 0, 1, 2, 7, 4, 5, 6, 4, 7, 6, 5, 2, 1, 0, 3, 5, 4, 7, 6, 3, 2, 1, 0, 6, 5, 4, 7, 0, 3, 2, 1, 7, 6, 5, 4, 1, 0, 3, 2] := by decide +kernel
  rw [hM]
  generalize hm : [0, 1, 2, 3, 4, 5, 6, 7, 1, 2, 3, 0, 5, 6, 7, 4, 2, 3, 0, 1, 6, 7, 4, 5, 3, 0, 1, 2, 7, 4, 5, 6, 4, 7, 6, 5, 2, 1, 0, 3, 5, 4, 7, 6, 3, 2, 1, 0, 6, 5, 4, 7, 0, 3, 2, 1, 7, 6, 5, 4, 1, 0, 3, (2 : Int)] = m
  have h1 : ∀ i, i < 8 * 8 → 0 ≤ m.getD i 0 ∧ m.getD i 0 < 8 := by subst hm; decide +kernel
  have h2 : ∀ a, a < 8 → ∀ b, b < 8 → op m 8 a b < 8 := by subst hm; decide +kernel
  have h3 : ∀ a, a < 8 → op m 8 0 a = a ∧ op m 8 a 0 = a := by subst hm; decide +kernel
  have h4 : ∀ a, a < 8 → ∀ b, b < 8 → ∀ c, c < 8 → op m 8 (op m 8 a b) c = op m 8 a (op m 8 b c) := by subst hm; decide +kernel
  have h5 : ∀ a, a < 8 → ∃ b, b < 8 ∧ op m 8 a b = 0 ∧ op m 8 b a = 0 := by subst hm; decide +kernel
  refine ⟨rfl, ⟨by omega, by omega, by subst hm; rfl, h1⟩, ⟨by omega, fun a b ha hb => h2 a ha b hb, by omega, fun a ha => (h3 a ha).1, fun a ha => (h3 a ha).2, fun a b c ha hb hc => h4 a ha b hb c hc, h5⟩⟩

theorem dic2_ord : ordl (tbl (fun a b => (dic 2 a b : Nat)) (2 * (2 * 2))) 8 0 = [1, 4, 2, 4, 4, 4, 4, 4] := by decide +kernel

theorem dic2_ord' : ordl (tbl (fun a b => (dic 2 a b : Nat)) 8) 8 0 = [1, 4, 2, 4, 4, 4, 4, 4] := dic2_ord

end Go.Proofs.YtgnhcdpjmfoklaaDoor
