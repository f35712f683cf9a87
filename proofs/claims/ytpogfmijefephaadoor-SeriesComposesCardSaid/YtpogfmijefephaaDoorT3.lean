/-
  Walks: the document's words of groups: things, orders, powers. Conditions: none.
-/
import Derived.Test.YtpogfmijefephaaDoorG2
set_option linter.all false
namespace Go.Proofs.YtpogfmijefephaaDoor
open Go.Pv

/-! ### Things -/

def okT (N : Int) (l : List Int) (i : Nat) : Prop := ¬ (l.getD i 0 < 0 ∨ l.getD i 0 ≥ N)
instance (N : Int) (l : List Int) (i : Nat) : Decidable (okT N l i) := by unfold okT; infer_instance

/-- The fault of a group and things of it. -/
def tf (N : Int) (m l : List Int) : Int × Int :=
  if ¬ (gf N m).1 = 0 then gf N m
  else match fst' (fun i => decide (¬ okT N l i)) l.length with
    | some i => (3, (i : Int) + 1)
    | none => (0, 0)

theorem gf_zero {N : Int} {m : List Int} (h : (gf N m).1 = 0) : gf N m = (0, 0) := by
  obtain ⟨n, e, hg, _⟩ := gf_ok h
  exact gf_of hg
theorem tf_gf {N : Int} {m l : List Int} (h : ¬ (gf N m).1 = 0) : tf N m l = gf N m := by unfold tf; rw [if_pos h]
theorem tf_at {N : Int} {m l : List Int} {i : Nat} (h : (gf N m).1 = 0) (hi : i < l.length) (hn : ¬ okT N l i) (hj : ∀ j, j < i → okT N l j) : tf N m l = (3, (i : Int) + 1) := by
  have h1 : fst' (fun i => decide (¬ okT N l i)) l.length = some i := fst_some hi (decide_eq_true hn) fun j h => decide_eq_false fun h' => h' (hj j h)
  unfold tf; rw [if_neg (by simpa using h), h1]
theorem tf_ok {N : Int} {m l : List Int} (h : (gf N m).1 = 0) (hj : ∀ j, j < l.length → okT N l j) : tf N m l = (0, 0) := by
  have h1 : fst' (fun i => decide (¬ okT N l i)) l.length = none := fst_none fun j h => decide_eq_false fun h' => h' (hj j h)
  unfold tf; rw [if_neg (by simpa using h), h1]
theorem tf_zero {N : Int} {m l : List Int} (h : (tf N m l).1 = 0) : (gf N m).1 = 0 ∧ (∀ j, j < l.length → okT N l j) ∧ tf N m l = (0, 0) := by
  by_cases h1 : (gf N m).1 = 0
  · refine ⟨h1, ?_⟩
    cases h2 : fst' (fun i => decide (¬ okT N l i)) l.length with
    | some i => unfold tf at h; rw [if_neg (by simpa using h1), h2] at h; simp at h
    | none =>
      have : ∀ j, j < l.length → okT N l j := fun j hj => Classical.not_not.1 (of_decide_eq_false (fst_spec0 h2 j hj))
      exact ⟨this, tf_ok h1 this⟩
  · rw [tf_gf h1] at h; exact absurd h h1

/-! ### Orders, powers -/

theorem emod_adj {n o : Int} (ho : 0 < o) : (if n.tmod o < 0 then n.tmod o + o else n.tmod o) = n % o := by
  have h1 := Int.emod_nonneg n (show o ≠ 0 by omega)
  have h2 := Int.emod_lt_of_pos n ho
  rw [Int.tmod_eq_emod]
  by_cases h : 0 ≤ n ∨ o ∣ n
  · rw [if_pos h]; split <;> omega
  · rw [if_neg h]; split <;> omega

def abel (m : List Int) (n : Nat) : Prop := ∀ a, a < n → ∀ b, b < n → op m n a b = op m n b a
instance (m : List Int) (n : Nat) : Decidable (abel m n) := by unfold abel; infer_instance

end Go.Proofs.YtpogfmijefephaaDoor
