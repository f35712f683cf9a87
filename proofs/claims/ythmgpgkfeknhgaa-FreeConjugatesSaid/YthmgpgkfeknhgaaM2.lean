/-
  Words as a group: plain laws, with no program in sight. Conditions: none.
-/
import Derived.Test.YthmgpgkfeknhgaaW9
set_option linter.all false
namespace Go.Proofs.Ythmgpgkfeknhgaa
open Go.Pv

def Ok (w : List Int) : Prop := ∀ x ∈ w, x ≠ 0 ∧ -26 ≤ x ∧ x ≤ 26

theorem Ok.sm {w : List Int} (h : Ok w) : Sm w := fun x hx => (h x hx).2
theorem chk_ok : ∀ (w : List Int) (i : Nat), (chk i w).1 = 0 → Ok w
  | [], _, _ => fun x hx => by simp at hx
  | x :: r, i, h => by
    unfold chk at h
    split at h
    · simp at h
    · rename_i hn
      intro y hy
      rcases List.mem_cons.1 hy with rfl | hy
      · omega
      · exact chk_ok r (i + 1) h y hy
theorem check_ok {w : List Int} (h : (check w).1 = 0) : Ok w ∧ w.length ≤ 2000 := by
  unfold check at h
  split at h
  · simp at h
  · exact ⟨chk_ok w 0 h, by omega⟩
theorem ok_chk : ∀ (w : List Int) (i : Nat), Ok w → chk i w = (0, 0)
  | [], _, _ => rfl
  | x :: r, i, h => by
    have h0 := h x (by simp)
    rw [chk, if_neg (by omega)]
    exact ok_chk r (i + 1) fun y hy => h y (by simp [hy])
theorem ok_check {w : List Int} (h : Ok w) (hl : w.length ≤ 2000) : check w = (0, 0) := by
  rw [check, if_neg (by omega)]
  exact ok_chk w 0 h
theorem ok_allS : ∀ {ls : List (List Int)}, (∀ w ∈ ls, Ok w ∧ w.length ≤ 2000) → allS ls = (0, 0)
  | [], _ => rfl
  | w :: r, h => by
    have h0 := h w (by simp)
    rw [allS, ok_check h0.1 h0.2, if_neg (by simp)]
    exact ok_allS fun v hv => h v (by simp [hv])
theorem allS_ok : ∀ {ls : List (List Int)}, (allS ls).1 = 0 → ∀ w ∈ ls, Ok w ∧ w.length ≤ 2000
  | [], _, w, hw => by simp at hw
  | v :: r, h, w, hw => by
    unfold allS at h
    split at h
    · rename_i hn; exact absurd h hn
    · rename_i hn
      rcases List.mem_cons.1 hw with rfl | hw
      · exact check_ok (by simpa using hn)
      · exact allS_ok h w hw
theorem Ok.app {v w : List Int} (hv : Ok v) (hw : Ok w) : Ok (v ++ w) := by
  intro x hx
  rcases List.mem_append.1 hx with h | h
  · exact hv x h
  · exact hw x h
theorem short_sub : ∀ (w : List Int), ∀ x ∈ short w, x ∈ w := by
  have : ∀ (w o : List Int), ∀ x ∈ w.foldl push o, x ∈ o ∨ x ∈ w := by
    intro w
    induction w with
    | nil => intro o x hx; exact .inl hx
    | cons y r ih =>
      intro o x hx
      rcases ih (push o y) x hx with h | h
      · unfold push at h
        split at h
        · exact .inl (List.mem_of_mem_take h)
        · rcases List.mem_append.1 h with h | h
          · exact .inl h
          · exact .inr (by simp at h; simp [h])
      · exact .inr (by simp [h])
  intro w x hx
  rcases this w [] x hx with h | h
  · simp at h
  · exact h
theorem Ok.short {w : List Int} (h : Ok w) : Ok (short w) := fun x hx => h x (short_sub w x hx)
theorem Ok.back {w : List Int} (h : Ok w) : Ok (back w) := by
  intro x hx
  obtain ⟨y, hy, rfl⟩ := List.mem_map.1 hx
  have := h y (List.mem_reverse.1 hy)
  omega

theorem short_left (x y : List Int) : short (short x ++ y) = short (x ++ y) := by
  rw [short_app, short_app, short_short]

theorem foldl_short {o : List Int} (ho : Red o) : ∀ y : List Int, (short y).foldl push o = y.foldl push o := by
  have key : ∀ n (y : List Int), y.length = n → (short y).foldl push o = y.foldl push o := by
    intro n
    induction n with
    | zero => intro y hy; rw [List.eq_nil_of_length_eq_zero hy]; rfl
    | succ n ih =>
      intro y hy
      have hne : y ≠ [] := by intro h; subst h; simp at hy
      obtain ⟨y', z, rfl⟩ : ∃ y' z, y = y' ++ [z] := ⟨y.dropLast, y.getLast hne, (List.dropLast_concat_getLast hne).symm⟩
      have ih' := ih y' (by simpa using hy)
      have e : short (y' ++ [z]) = push (short y') z := by rw [short_app]; rfl
      rw [e, List.foldl_append, ← ih']
      simp only [List.foldl_cons, List.foldl_nil]
      have hr := red_short y'
      generalize short y' = s at *
      by_cases hc : 0 < s.length ∧ s.getD (s.length - 1) 0 = -z
      · have h1 : push s z = s.take (s.length - 1) := by rw [push, if_pos hc]
        have h2 := take_last hc.1
        rw [hc.2] at h2
        rw [h1]
        generalize s.take (s.length - 1) = s' at *
        rw [← h2, List.foldl_append]
        simp only [List.foldl_cons, List.foldl_nil]
        have hred : ∀ (l o : List Int), Red o → Red (l.foldl push o) := by
          intro l
          induction l with
          | nil => intro o h; exact h
          | cons a b ih => intro o h; exact ih _ (red_push h)
        have := push_cancel (-z) (hred s' o ho)
        rw [Int.neg_neg] at this
        exact this.symm
      · have h1 : push s z = s ++ [z] := by rw [push, if_neg hc]
        rw [h1, List.foldl_append]
        rfl
  exact fun y => key y.length y rfl

theorem short_right (x y : List Int) : short (x ++ short y) = short (x ++ y) := by
  rw [short_app, short_app, foldl_short (red_short x)]
theorem short_mid (p m q : List Int) : short (p ++ short m ++ q) = short (p ++ m ++ q) := by
  rw [← short_left, short_right, short_left]

theorem back_cons (x : Int) (r : List Int) : back (x :: r) = back r ++ [-x] := by simp [back]
theorem back_app (a b : List Int) : back (a ++ b) = back b ++ back a := by simp [back]
theorem back_back (a : List Int) : back (back a) = a := by simp [back, List.map_reverse, Function.comp_def]
theorem back_len (a : List Int) : (back a).length = a.length := by simp [back]

theorem short_inv (a : List Int) : short (a ++ back a) = [] := by
  induction a with
  | nil => rfl
  | cons x r ih =>
    rw [back_cons]
    have e : x :: r ++ (back r ++ [-x]) = [x] ++ (r ++ back r) ++ [-x] := by simp
    rw [e, ← short_mid, ih]
    have := short_cancel [] [] x
    simpa [short] using this
theorem short_inv' (a : List Int) : short (back a ++ a) = [] := by
  have := short_inv (back a)
  rwa [back_back] at this

theorem short_back (x : List Int) : short (back (short x)) = short (back x) := by
  have h1 : short (back x ++ x ++ back (short x)) = short (back (short x)) := by
    have := short_left (back x ++ x) (back (short x))
    rw [short_inv'] at this
    exact this.symm
  have h2 : short (back x ++ x ++ back (short x)) = short (back x) := by
    have e : short (back x ++ (short x ++ back (short x))) = short (back x ++ x ++ back (short x)) := by
      rw [← List.append_assoc, short_mid]
    rw [← e, ← short_right, short_inv, List.append_nil]
  rw [← h1, h2]

end Go.Proofs.Ythmgpgkfeknhgaa
