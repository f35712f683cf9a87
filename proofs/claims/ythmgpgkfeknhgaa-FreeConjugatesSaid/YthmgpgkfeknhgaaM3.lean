/-
  Rows that repeat: plain laws, with no program in sight. Conditions: none.
-/
import Derived.Test.YthmgpgkfeknhgaaM2
import Derived.Test.YthmgpgkfeknhgaaW9
set_option linter.all false
namespace Go.Proofs.Ythmgpgkfeknhgaa
open Go.Pv

theorem core_lt {s : List Int} (h : Red s) : ∀ k, 2 * k < s.length → 2 * coreN s k < s.length := by
  intro k
  induction hm : s.length - k using Nat.strongRecOn generalizing k with
  | _ n ih =>
    intro hk
    unfold coreN
    split
    · rename_i hc
      refine ih (s.length - (k + 1)) (by omega) (k + 1) rfl ?_
      by_cases e : 2 * (k + 1) < s.length
      · exact e
      · have e2 : s.length - 1 - k = k + 1 := by omega
        have := h k (by omega)
        rw [e2] at hc
        exact absurd hc.2 this
    · exact hk

theorem cut_ne {s : List Int} (h : Red s) (hs : s ≠ []) : cut s (coreN s 0) ≠ [] := by
  have := core_lt h 0 (List.length_pos_iff.2 hs)
  intro e
  have := congrArg List.length e
  rw [cut_len] at this
  simp at this
  omega

theorem red_drop {o : List Int} (h : Red o) (n : Nat) : Red (o.drop n) := by
  intro i hi
  rw [List.length_drop] at hi
  rw [getD_drop, getD_drop]
  exact h (n + i) (by omega)
theorem red_cut {o : List Int} (h : Red o) (k : Nat) : Red (cut o k) := (red_drop h k).take _

theorem push_len_eq {o : List Int} {x : Int} (h : (push o x).length = o.length + 1) : push o x = o ++ [x] := by
  unfold push at h ⊢
  split at h
  · simp at h
  · rename_i hn; rw [if_neg hn]

theorem short_len_eq : ∀ (x : List Int), (short x).length = x.length → short x = x := by
  have key : ∀ n, ∀ x : List Int, x.length = n → (short x).length = x.length → short x = x := by
    intro n
    induction n with
    | zero => intro x hx _; rw [List.eq_nil_of_length_eq_zero hx]; rfl
    | succ n ih =>
      intro y hy hl
      have hne : y ≠ [] := by intro h; subst h; simp at hy
      obtain ⟨y', z, rfl⟩ : ∃ y' z, y = y' ++ [z] := ⟨y.dropLast, y.getLast hne, (List.dropLast_concat_getLast hne).symm⟩
      have e : short (y' ++ [z]) = push (short y') z := by rw [short_app]; rfl
      rw [e] at hl ⊢
      have h1 := push_len (short y') z
      have h2 := short_len y'
      simp only [List.length_append, List.length_cons, List.length_nil] at hl hy
      have h3 := ih y' (by omega) (by omega)
      rw [h3] at hl ⊢
      exact push_len_eq hl
  exact fun x => key x.length x rfl

theorem rep_succ' (n : Nat) (w : List Int) : rep (n + 1) w = w ++ rep n w := by
  simp [rep, List.replicate_succ]

theorem rep_of_shift : ∀ (q : Nat) (c : List Int) (i : Nat), c.length = q * i → c.drop i = c.take (c.length - i) → c = rep q (c.take i) := by
  intro q
  induction q with
  | zero => intro c i hl _; rw [Nat.zero_mul] at hl; rw [List.eq_nil_of_length_eq_zero hl]; rfl
  | succ q ih =>
    intro c i hl hd
    rw [Nat.add_mul, Nat.one_mul] at hl
    have hi : i ≤ c.length := by omega
    by_cases hq : q = 0
    · subst hq
      have : c.take i = c := List.take_of_length_le (by omega)
      rw [this]; simp [rep]
    · have hge : i ≤ q * i := Nat.le_mul_of_pos_left i (Nat.pos_of_ne_zero hq)
      have e1 : (c.take (c.length - i)).take i = c.take i := by rw [List.take_take]; congr 1; omega
      have h := ih (c.take (c.length - i)) i (by rw [List.length_take]; omega) (by
        rw [← hd]
        rw [List.length_drop]
        rw [hd, List.drop_take, hd, List.take_take])
      rw [e1, ← hd] at h
      rw [rep_succ']
      conv => lhs; rw [← List.take_append_drop i c]
      rw [← h]

theorem shift_of_rep {q i : Nat} {u : List Int} (hq : 0 < q) (hu : u.length = i) : (rep q u).drop i = (rep q u).take ((rep q u).length - i) := by
  obtain ⟨n, rfl⟩ : ∃ n, q = n + 1 := ⟨q - 1, by omega⟩
  have h1 : (rep (n + 1) u).drop i = rep n u := by rw [rep_succ', ← hu]; simp
  rw [h1, rep_succ]
  simp [hu]

/-- The law's test for a root, and the program's, are one. -/
theorem root_test {c : List Int} (hc : Red c) {i : Nat} (hi : 1 ≤ i) (hil : i ≤ c.length) (hm : c.length % i = 0) :
    short (rep (c.length / i) (c.take i)) = c ↔ c.drop i = c.take (c.length - i) := by
  have hlen : c.length = c.length / i * i := by
    have := Nat.div_add_mod c.length i
    rw [hm, Nat.mul_comm] at this; omega
  have hq : 0 < c.length / i := Nat.div_pos hil hi
  have hu : (c.take i).length = i := by simp; omega
  constructor
  · intro h
    have h1 : (rep (c.length / i) (c.take i)).length = c.length := by rw [rep_len, hu, ← hlen]
    have h2 := short_len_eq (rep (c.length / i) (c.take i)) (by rw [h, h1])
    rw [h] at h2
    have := shift_of_rep hq hu
    rw [← h2] at this
    exact this
  · intro h
    rw [← rep_of_shift _ c i hlen h, short_red hc]

end Go.Proofs.Ythmgpgkfeknhgaa
