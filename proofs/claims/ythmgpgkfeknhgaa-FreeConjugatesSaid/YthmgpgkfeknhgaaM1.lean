/-
  Words and their reduced form: plain laws, with no program in sight. Conditions: none.
-/
import Derived.Test.YthmgpgkfeknhgaaW5
set_option linter.all false
namespace Go.Proofs.Ythmgpgkfeknhgaa
open Go.Pv

/-- No two neighbours cancel. -/
def Red (o : List Int) : Prop := ∀ i, i + 1 < o.length → o.getD i 0 ≠ -(o.getD (i + 1) 0)

theorem getD_take {o : List Int} {n i : Nat} (h : i < n) : (o.take n).getD i 0 = o.getD i 0 := by
  simp [List.getD, List.getElem?_take, h]
theorem getD_app1 {a b : List Int} {i : Nat} (h : i < a.length) : (a ++ b).getD i 0 = a.getD i 0 := by
  simp [List.getD, List.getElem?_append_left h]
theorem getD_app2 {a b : List Int} {i : Nat} (h : a.length ≤ i) : (a ++ b).getD i 0 = b.getD (i - a.length) 0 := by
  simp [List.getD, List.getElem?_append_right h]
theorem getD_drop (o : List Int) (n i : Nat) : (o.drop n).getD i 0 = o.getD (n + i) 0 := by
  simp [List.getD, List.getElem?_drop]

theorem Red.take {o : List Int} (h : Red o) (n : Nat) : Red (o.take n) := by
  intro i hi
  rw [List.length_take] at hi
  rw [getD_take (by omega), getD_take (by omega)]
  exact h i (by omega)

theorem red_push {o : List Int} {x : Int} (h : Red o) : Red (push o x) := by
  unfold push
  split
  · exact h.take _
  · rename_i hn
    intro i hi
    simp only [List.length_append, List.length_cons, List.length_nil] at hi
    by_cases hl : i + 1 < o.length
    · rw [getD_app1 (by omega), getD_app1 hl]; exact h i hl
    · have e : i = o.length - 1 := by omega
      rw [getD_app1 (by omega), getD_app2 (by omega), e]
      intro hc
      apply hn
      refine ⟨by omega, ?_⟩
      rw [hc]
      have : o.length - 1 + 1 - o.length = 0 := by omega
      rw [this]; rfl

theorem red_short (w : List Int) : Red (short w) := by
  have : ∀ (w o : List Int), Red o → Red (w.foldl push o) := by
    intro w
    induction w with
    | nil => intro o h; exact h
    | cons x r ih => intro o h; exact ih _ (red_push h)
  exact this w [] (fun i hi => by simp at hi)

theorem take_last {o : List Int} (h : 0 < o.length) : o.take (o.length - 1) ++ [o.getD (o.length - 1) 0] = o := by
  have : o.length - 1 < o.length := by omega
  have e := List.take_succ_eq_append_getElem this
  rw [show o.length - 1 + 1 = o.length by omega, List.take_length] at e
  simp [List.getD, List.getElem?_eq_getElem this, ← e]

theorem push_cancel {o : List Int} (x : Int) (h : Red o) : push (push o x) (-x) = o := by
  by_cases hc : 0 < o.length ∧ o.getD (o.length - 1) 0 = -x
  · have e1 : push o x = o.take (o.length - 1) := by rw [push, if_pos hc]
    rw [e1]
    have hl : (o.take (o.length - 1)).length = o.length - 1 := by simp
    rw [push, hl, if_neg ?_]
    · have := take_last hc.1
      rw [hc.2] at this; exact this
    · rintro ⟨h1, h2⟩
      rw [getD_take (by omega), Int.neg_neg] at h2
      have := h (o.length - 1 - 1) (by omega)
      rw [show o.length - 1 - 1 + 1 = o.length - 1 by omega, hc.2, h2] at this
      simp at this
  · have e1 : push o x = o ++ [x] := by rw [push, if_neg hc]
    rw [e1, push, if_pos]
    · simp
    · simp [List.getD]

theorem short_app (a b : List Int) : short (a ++ b) = b.foldl push (short a) := by simp [short, List.foldl_append]

theorem short_cancel (a r : List Int) (x : Int) : short (a ++ x :: -x :: r) = short (a ++ r) := by
  rw [short_app, short_app]
  simp only [List.foldl_cons]
  rw [push_cancel x (red_short a)]

theorem short_red {w : List Int} (h : Red w) : short w = w := by
  have key : ∀ n, n ≤ w.length → short (w.take n) = w.take n := by
    intro n
    induction n with
    | zero => intro _; rfl
    | succ n ih =>
      intro hn
      rw [short_snoc w n hn, ih (by omega), push, if_neg ?_]
      · rw [List.take_succ_eq_append_getElem hn]
        simp [List.getD, List.getElem?_eq_getElem hn]
      · rintro ⟨h1, h2⟩
        rw [List.length_take, Nat.min_eq_left (by omega)] at h1 h2
        rw [getD_take (by omega)] at h2
        have := h (n - 1) (by omega)
        rw [show n - 1 + 1 = n by omega] at this
        exact this h2
  have := key w.length (Nat.le_refl _)
  rwa [List.take_length] at this

theorem short_short (w : List Int) : short (short w) = short w := short_red (red_short w)

theorem splice {w : List Int} {i : Nat} (h : i + 1 < w.length) : w = w.take i ++ w.getD i 0 :: w.getD (i + 1) 0 :: w.drop (i + 2) := by
  have h0 : i < w.length := by omega
  have e1 := List.drop_eq_getElem_cons h0
  have e2 := List.drop_eq_getElem_cons h
  have := List.take_append_drop i w
  rw [e1, e2] at this
  simp [List.getD, List.getElem?_eq_getElem h0, List.getElem?_eq_getElem h, this]

end Go.Proofs.Ythmgpgkfeknhgaa
