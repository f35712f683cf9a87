/-
  Cores and powers: plain laws, with no program in sight. Conditions: none.
-/
import Derived.Test.YthmgpgkfeknhgaaM3
set_option linter.all false
namespace Go.Proofs.Ythmgpgkfeknhgaa
open Go.Pv

theorem coreN_spec (s : List Int) : ∀ k j, k ≤ j → j < coreN s k → s.getD j 0 = -(s.getD (s.length - 1 - j) 0) := by
  intro k
  induction hm : s.length - k using Nat.strongRecOn generalizing k with
  | _ n ih =>
    intro j hj hl
    unfold coreN at hl
    split at hl
    · rename_i hc
      by_cases e : j = k
      · subst e; exact hc.2
      · exact ih (s.length - (k + 1)) (by omega) (k + 1) rfl j (by omega) hl
    · omega

theorem ext_getD {a b : List Int} (hl : a.length = b.length) (h : ∀ i, i < a.length → a.getD i 0 = b.getD i 0) : a = b := by
  apply List.ext_getElem hl
  intro i h1 h2
  have := h i h1
  simpa [List.getD, List.getElem?_eq_getElem h1, List.getElem?_eq_getElem h2] using this

theorem back_getD {a : List Int} {i : Nat} (h : i < a.length) : (back a).getD i 0 = -(a.getD (a.length - 1 - i) 0) := by
  have h2 : a.length - 1 - i < a.length := by omega
  simp only [back, List.getD, List.getElem?_map, List.getElem?_reverse h, List.getElem?_eq_getElem h2, Option.map_some, Option.getD_some]

theorem core_split (s : List Int) : s = s.take (coreN s 0) ++ cut s (coreN s 0) ++ back (s.take (coreN s 0)) := by
  have h1 := coreN_le s 0 (by omega)
  have h2 := coreN_spec s 0
  generalize coreN s 0 = k at *
  have hk : (s.take k).length = k := by simp; omega
  have e : s.drop (s.length - k) = back (s.take k) := by
    apply ext_getD (by simp [back]; omega)
    intro i hi
    rw [List.length_drop] at hi
    rw [getD_drop, back_getD (by omega), hk, getD_take (by omega), h2 (k - 1 - i) (by omega) (by omega), Int.neg_neg]
    congr 1
    omega
  rw [← e]
  unfold cut
  conv => lhs; rw [← List.take_append_drop k s]
  rw [List.append_assoc]
  congr 1
  conv => lhs; rw [← List.take_append_drop (s.length - k - k) (s.drop k)]
  rw [List.drop_drop]
  congr 2
  omega

theorem short_pow (u p : List Int) : ∀ n, short (rep n (u ++ p ++ back u)) = short (u ++ rep n p ++ back u)
  | 0 => by
    have := short_inv u
    simp only [rep, List.replicate_zero, List.flatten_nil, List.append_nil]
    rw [this]; rfl
  | n + 1 => by
    rw [rep_succ, ← short_left, short_pow u p n, short_left, rep_succ]
    have e1 : u ++ rep n p ++ back u ++ (u ++ p ++ back u) = (u ++ rep n p) ++ (back u ++ u) ++ (p ++ back u) := by simp
    rw [e1, ← short_mid, short_inv']
    congr 1
    simp

theorem rep_short (x : List Int) : ∀ n, short (rep n (short x)) = short (rep n x)
  | 0 => rfl
  | n + 1 => by
    rw [rep_succ, rep_succ, ← short_left, rep_short x n, short_left, short_right]

end Go.Proofs.Ythmgpgkfeknhgaa
