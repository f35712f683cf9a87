/-
  Walks: the law SubProducts. Conditions: none.
-/
import Derived.Test.YtjikchbmkodgfaaDoorS6
import Derived.Test.YtjikchbmkodgfaaDoorG13
set_option linter.all false
namespace Go.Proofs.YtjikchbmkodgfaaDoor
open Go.Pv

theorem thl_mem_len (n : Nat) (p : Nat → Bool) : (thl n p).length = (mem n p).length := thl_len n p
theorem two0 (a b : Int) : (a = 0 ∧ b = 0) ∨ (a = 0 ∧ ¬ b = 0) ∨ ¬ a = 0 := by omega
/-- In one of two. -/
def orB (p q : Nat → Bool) (a : Nat) : Bool := p a || q a
theorem three0 (a b c : Int) : (a = 0 ∧ b = 0 ∧ c = 0) ∨ (a = 0 ∧ b = 0 ∧ ¬ c = 0) ∨ (a = 0 ∧ ¬ b = 0) ∨ ¬ a = 0 := by omega
theorem sf_two {N : Int} {m l : List Int} {n e : Nat} (h : GT N m n e) (hf : (sf N m l).1 = 0) : l = thl n (tst l) ∧ sf N m l = (0, 0) := by
  obtain ⟨n', e', h', hN, h1, h2⟩ := sf_ok hf
  have : n' = n := by have := h.1; omega
  subst this
  exact ⟨h1, h2⟩
theorem made_any (N : Int) (m l : List Int) (hm : m.length ≤ 1000000000000000) (hl : l.length ≤ 1000000000000000) : ∃ r : List Int, FnC Tryd.prog 27 [gp N m, .list (il l)] (.tup [.list (il r), fl (sf N m l)]) := by
  by_cases hf : (sf N m l).1 = 0
  · obtain ⟨n, e, h, rfl, h1, h2⟩ := sf_ok hf
    obtain ⟨q, hq⟩ := gen_ex n (op m n) e (tst l)
    refine ⟨thl n q, ?_⟩
    rw [h2, h1]
    exact made_ok h (tst l) q hq
  · exact ⟨[], made_no N m l hm hl hf⟩

end Go.Proofs.YtjikchbmkodgfaaDoor
