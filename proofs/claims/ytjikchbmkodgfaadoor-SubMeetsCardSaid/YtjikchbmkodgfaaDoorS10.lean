/-
  Cosets: right, left and double, of the program and of the document. Conditions: none.
-/
import Derived.Test.YtjikchbmkodgfaaDoorS9
import Derived.Test.YtjikchbmkodgfaaDoorT13
import Derived.Test.YtjikchbmkodgfaaDoorS8
import Derived.Test.YtjikchbmkodgfaaDoorG19
set_option linter.all false
namespace Go.Proofs.YtjikchbmkodgfaaDoor
open Go.Pv

/-! ### Gathered -/

/-! ### Products of a set, a thing and a set -/

def pdr (f : Nat → Nat → Nat) (x a : Nat) (lm : List Int) : List Int := lm.map fun y => ((f (f x a) y.toNat : Nat) : Int)
def pdl (f : Nat → Nat → Nat) (a : Nat) (l lm : List Int) : List Int := l.flatMap fun x => pdr f x.toNat a lm
theorem pdl_succ (f : Nat → Nat → Nat) (a : Nat) {l : List Int} (lm : List Int) {i : Nat} (hi : i < l.length) : pdl f a (l.take (i + 1)) lm = pdl f a (l.take i) lm ++ pdr f (l.getD i 0).toNat a lm := by
  unfold pdl
  rw [List.take_succ_eq_append_getElem hi, List.flatMap_append]
  congr 1
  have : l[i] = l.getD i 0 := by simp [List.getD, List.getElem?_eq_getElem hi]
  rw [this]; simp
theorem pdr_succ (f : Nat → Nat → Nat) (x a : Nat) {lm : List Int} {j : Nat} (hj : j < lm.length) : pdr f x a (lm.take (j + 1)) = pdr f x a (lm.take j) ++ [((f (f x a) (lm.getD j 0).toNat : Nat) : Int)] := by
  unfold pdr
  rw [List.take_succ_eq_append_getElem hj, List.map_append]
  have : lm[j] = lm.getD j 0 := by simp [List.getD, List.getElem?_eq_getElem hj]
  rw [this]; rfl
theorem mem_pdl {n a : Nat} {f : Nat → Nat → Nat} {p q : Nat → Bool} {z : Int} : z ∈ pdl f a (thl n p) (thl n q) ↔ ∃ x y, x < n ∧ y < n ∧ p x = true ∧ q y = true ∧ z = ((f (f x a) y : Nat) : Int) := by
  unfold pdl pdr
  rw [List.mem_flatMap]
  constructor
  · rintro ⟨u, hu, hz⟩
    obtain ⟨v, hv, rfl⟩ := List.mem_map.1 hz
    obtain ⟨x, x1, x2, rfl⟩ := mem_thl.1 hu
    obtain ⟨y, y1, y2, rfl⟩ := mem_thl.1 hv
    exact ⟨x, y, x1, y1, x2, y2, by simp⟩
  · rintro ⟨x, y, x1, y1, x2, y2, rfl⟩
    exact ⟨_, (mem_thl_n x1).2 x2, List.mem_map.2 ⟨_, (mem_thl_n y1).2 y2, by simp⟩⟩
theorem msk_pdl {n e a : Nat} {f : Nat → Nat → Nat} (G : Grp n f e) (p q : Nat → Bool) (ha : a < n) : msk (pdl f a (thl n p) (thl n q)) = bo n (dco n f p q a) := by
  refine Nat.eq_of_testBit_eq fun i => ?_
  rw [msk_bit, bo_bit, Bool.eq_iff_iff, decide_eq_true_eq, Bool.and_eq_true, decide_eq_true_eq, dco_iff]
  constructor
  · rintro ⟨z, hz, rfl⟩
    obtain ⟨x, y, x1, y1, x2, y2, rfl⟩ := mem_pdl.1 hz
    exact ⟨by simpa using G.cl _ _ (G.cl _ _ x1 ha) y1, x, y, x1, y1, x2, y2, by simp⟩
  · rintro ⟨_, x, y, x1, y1, x2, y2, rfl⟩
    exact ⟨_, mem_pdl.2 ⟨x, y, x1, y1, x2, y2, rfl⟩, by simp⟩

/-! ### As the document has them -/

/-! ### An example of the document -/

def cy4 : List Int := [0, 1, 2, 3, 1, 2, 3, 0, 2, 3, 0, 1, 3, 0, 1, 2]
theorem cy4_gt : GT (4 : Nat) cy4 4 0 := by
  have hg : (gf 4 cy4).1 = 0 := by decide +kernel
  obtain ⟨n, e, h, _⟩ := gf_ok hg
  obtain rfl : n = 4 := by have := h.1; omega
  have h1 := h.eI
  have h2 : eI cy4 4 = 0 := by decide +kernel
  have : e = 0 := by omega
  subst this
  exact h
def ev4 (x : Nat) : Bool := x == 0 || x == 2
theorem ev4_thl : thl 4 ev4 = [0, 2] := by decide +kernel
theorem ev4_sub : Sub 4 (op cy4 4) 0 ev4 := by
  refine sub_of cy4_gt.2.2 (by decide) fun a b ha hb h1 h2 => ?_
  have key : ∀ a, a < 4 → ∀ b, b < 4 → ev4 a = true → ev4 b = true → ev4 (op cy4 4 a b) = true := by decide +kernel
  exact key a ha b hb h1 h2
end Go.Proofs.YtjikchbmkodgfaaDoor
