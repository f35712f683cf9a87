/-
  Walks: the program's words of groups: things, powers, orders. Conditions: none.
-/
import Derived.Test.YthdmioeddgednaaT5
set_option linter.all false
namespace Go.Proofs.Ythdmioeddgednaa
open Go.Pv

theorem ix_row {n e : Nat} {m : List Int} (h : GT n m n e) {a : Nat} (ha : a < n) : ix (row m n a) (e : Nat) = (iv n (op m n) e a : Nat) := by
  have G := h.2.2
  have T := h.2.1
  obtain ⟨i1, i2, i3, i4⟩ := G.iv_spec ha
  unfold ix
  rw [fst_some (a := iv n (op m n) e a) (by rw [row_len T ha]; exact i1) (decide_eq_true (by rw [row_get T ha i1, i2])) fun j hj => decide_eq_false fun hj2 => ?_]
  rw [row_get T ha (by omega)] at hj2
  have := i4 j (by omega) (.inl (by omega))
  omega

/-! ### With their faults -/

theorem tf_one {n e a : Nat} {m : List Int} (h : GT n m n e) (ha : a < n) : tf n m [(a : Int)] = (0, 0) := by
  refine tf_ok (by rw [gf_of h]) fun j hj => ?_
  have : j = 0 := by simp at hj; exact hj
  subst this
  intro h
  simp at h
  omega
theorem pw_half {n e : Nat} {f : Nat → Nat → Nat} (G : Grp n f e) {x out : Nat} (hx : x < n) (ho : out < n) (k : Nat) :
    (k % 2 = 1 → f (f out x) (pw f e (f x x) (k / 2)) = f out (pw f e x k)) ∧ (¬ k % 2 = 1 → f out (pw f e (f x x) (k / 2)) = f out (pw f e x k)) := by
  have h2 : f x x = pw f e x 2 := by
    show f x x = f (f e x) x
    rw [G.one_l x hx]
  have hp : pw f e (f x x) (k / 2) = pw f e x (2 * (k / 2)) := by rw [h2, G.pw_mul hx]
  have hd := Nat.div_add_mod k 2
  constructor
  · intro hk
    rw [hp, G.assoc _ _ _ ho hx (G.pw_lt hx _), ← G.pw_succ' hx]
    congr 2; omega
  · intro hk
    rw [hp]
    congr 2; omega

theorem tm2 (i : Nat) : Int.tmod (i : Int) 2 = ((i % 2 : Nat) : Int) := rfl
theorem td2 (i : Nat) : Int.tdiv (i : Int) 2 = ((i / 2 : Nat) : Int) := rfl

/-- A row by a rule. -/
def rg (g : Nat → Int) (i : Nat) : List Int := (List.range i).map g
theorem rg_succ (g : Nat → Int) (i : Nat) : rg g (i + 1) = rg g i ++ [g i] := by simp [rg, List.range_succ]
theorem rg_len (g : Nat → Int) (i : Nat) : (rg g i).length = i := by simp [rg]
theorem rg_get (g : Nat → Int) {n i : Nat} (h : i < n) : (rg g n).getD i 0 = g i := by
  simp [rg, List.getD, List.getElem?_range h]

def ordl (m : List Int) (n e : Nat) : List Int := rg (fun a => ((ord n (op m n) e a : Nat) : Int)) n

def abel' (m : List Int) (n : Nat) : Prop := ∀ a, a < n → ∀ b, b < a → op m n a b = op m n b a
theorem abel_iff (m : List Int) (n : Nat) : abel' m n ↔ abel m n := by
  constructor
  · intro h a ha b hb
    rcases Nat.lt_trichotomy a b with h1 | h1 | h1
    · exact (h b hb a h1).symm
    · rw [h1]
    · exact h a ha b h1
  · exact fun h a ha b hb => h a ha b (by omega)

end Go.Proofs.Ythdmioeddgednaa
