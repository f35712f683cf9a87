/-
  The law on conjugates: plain laws, with no program in sight. Conditions: none.
-/
import Derived.Test.YthmgpgkfeknhgaaM7
set_option linter.all false
namespace Go.Proofs.Ythmgpgkfeknhgaa
open Go.Pv

/-- A core that is the other's, turned round. -/
def HasR (c d : List Int) : Prop := (c = [] ∧ d = []) ∨ ∃ j, j < c.length ∧ c.length = d.length ∧ c.drop j ++ c.take j = d

theorem conjN_none {c d : List Int} : ∀ i, (∀ j, i ≤ j → j < max 1 c.length → c.drop j ++ c.take j ≠ d) → conjN c d i = none := by
  intro i
  induction hm : max 1 c.length - i using Nat.strongRecOn generalizing i with
  | _ n ih =>
    intro h
    rw [conjN.eq_def]
    by_cases hi : i < max 1 c.length
    · rw [if_pos hi, if_neg (h i (Nat.le_refl _) hi)]
      exact ih (max 1 c.length - (i + 1)) (by omega) (i + 1) rfl fun j hj => h j (by omega)
    · rw [if_neg hi]
theorem conjN_some {c d : List Int} : ∀ i, (∃ j, i ≤ j ∧ j < max 1 c.length ∧ c.drop j ++ c.take j = d) → ∃ j, j < max 1 c.length ∧ c.drop j ++ c.take j = d ∧ conjN c d i = some j := by
  intro i
  induction hm : max 1 c.length - i using Nat.strongRecOn generalizing i with
  | _ n ih =>
    rintro ⟨j, h1, h2, h3⟩
    rw [conjN.eq_def, if_pos (by omega)]
    by_cases he : c.drop i ++ c.take i = d
    · rw [if_pos he]; exact ⟨i, by omega, he, rfl⟩
    · rw [if_neg he]
      have hne : i ≠ j := by intro e; subst e; exact he h3
      exact ih (max 1 c.length - (i + 1)) (by omega) (i + 1) rfl ⟨j, by omega, h2, h3⟩

theorem conjP_no {a c b d : List Int} (h : ¬ HasR c d) : conjP a c b d = ([], (6, 0)) := by
  unfold conjP
  by_cases hl : c.length = d.length
  · rw [if_pos hl, conjN_none 0]
    intro j _ hj he
    refine h ?_
    by_cases hc : c = []
    · subst hc
      left
      exact ⟨rfl, List.eq_nil_of_length_eq_zero (by simpa using hl.symm)⟩
    · have := List.length_pos_iff.2 hc
      exact .inr ⟨j, by omega, hl, he⟩
  · rw [if_neg hl]
theorem conjP_yes {a c b d : List Int} (h : HasR c d) : ∃ i, i ≤ c.length ∧ c.drop i ++ c.take i = d ∧ conjP a c b d = (short (a ++ c.take i ++ back b), (0, 0)) := by
  have hl : c.length = d.length := by
    rcases h with ⟨h1, h2⟩ | ⟨j, _, h1, _⟩
    · rw [h1, h2]
    · exact h1
  have hex : ∃ j, 0 ≤ j ∧ j < max 1 c.length ∧ c.drop j ++ c.take j = d := by
    rcases h with ⟨h1, h2⟩ | ⟨j, h1, _, h2⟩
    · subst h1; subst h2; exact ⟨0, Nat.le_refl _, by simp, rfl⟩
    · exact ⟨j, Nat.zero_le _, by omega, h2⟩
  obtain ⟨i, h1, h2, h3⟩ := conjN_some 0 hex
  by_cases hc : c.length = 0
  · refine ⟨i, ?_, h2, ?_⟩
    · have : i < 1 := by rw [hc] at h1; simpa using h1
      omega
    · unfold conjP; rw [if_pos hl, h3]
  · exact ⟨i, by omega, h2, by unfold conjP; rw [if_pos hl, h3]⟩

theorem conj_back (y q : List Int) : short (back (short y) ++ q ++ short y) = short (back y ++ q ++ y) := by
  rw [short_right, List.append_assoc, ← short_left, short_back, short_left, ← List.append_assoc]

/-- FREE CONJUGATES. -/
theorem conj_law {v w : List Int} (hv : (check v).1 = 0) (hw : (check w).1 = 0) (h : HasR (cut (short v) (coreN (short v) 0)) (cut (short w) (coreN (short w) 0))) :
    ∃ x, conjS v w = (x, (0, 0)) ∧ Ok x ∧ x.length ≤ 6000 ∧ short x = x ∧ short (back x ++ v ++ x) = short w := by
  obtain ⟨ov, lv⟩ := check_ok hv
  obtain ⟨ow, lw⟩ := check_ok hw
  have e1 := core_split (short v)
  have e2 := core_split (short w)
  have l1 := short_len v
  have l2 := short_len w
  have o1 : Ok (short v) := ov.short
  have o2 : Ok (short w) := ow.short
  obtain ⟨i, hi, h2, h3⟩ := conjP_yes (a := (short v).take (coreN (short v) 0)) (b := (short w).take (coreN (short w) 0)) h
  have hS : conjS v w = conjP ((short v).take (coreN (short v) 0)) (cut (short v) (coreN (short v) 0)) ((short w).take (coreN (short w) 0)) (cut (short w) (coreN (short w) 0)) := by
    unfold conjS
    have : allS [v, w] = (0, 0) := by
      apply ok_allS
      intro z hz
      simp only [List.mem_cons, List.not_mem_nil, or_false] at hz
      rcases hz with rfl | rfl
      · exact ⟨ov, lv⟩
      · exact ⟨ow, lw⟩
    rw [this, if_neg (by simp)]
  rw [hS, h3]
  generalize (short v).take (coreN (short v) 0) = a at *
  generalize cut (short v) (coreN (short v) 0) = c at *
  generalize (short w).take (coreN (short w) 0) = b at *
  generalize cut (short w) (coreN (short w) 0) = d at *
  have hlen : (a ++ c.take i ++ back b).length ≤ 4000 := by
    have g1 := congrArg List.length e1
    have g2 := congrArg List.length e2
    simp only [List.length_append, back_len, List.length_take] at g1 g2 ⊢
    omega
  have hok : Ok (a ++ c.take i ++ back b) := by
    rw [e1] at o1
    rw [e2] at o2
    have ha : Ok a := fun y hy => o1 y (by simp [hy])
    have hc : Ok (c.take i) := fun y hy => o1 y (by simp [List.mem_of_mem_take hy])
    have hb : Ok b := fun y hy => o2 y (by simp [hy])
    exact (ha.app hc).app hb.back
  refine ⟨_, rfl, hok.short, by have := short_len (a ++ c.take i ++ back b); omega, short_short _, ?_⟩
  rw [conj_back, ← short_mid, e1, back_app, back_app, back_back]
  have hc : c = c.take i ++ c.drop i := (List.take_append_drop i c).symm
  have e3 : b ++ (back (c.take i) ++ back a) ++ (a ++ c ++ back a) ++ (a ++ c.take i ++ back b) = (b ++ back (c.take i)) ++ (back a ++ a) ++ (c ++ (back a ++ a) ++ (c.take i ++ back b)) := by simp
  rw [e3, ← short_mid, short_inv', List.append_nil]
  have e4 : b ++ back (c.take i) ++ (c ++ (back a ++ a) ++ (c.take i ++ back b)) = (b ++ back (c.take i) ++ c) ++ (back a ++ a) ++ (c.take i ++ back b) := by simp
  rw [e4, ← short_mid, short_inv', List.append_nil]
  have e5 : b ++ back (c.take i) ++ c ++ (c.take i ++ back b) = b ++ (back (c.take i) ++ c.take i) ++ (c.drop i ++ c.take i ++ back b) := by
    simp only [List.append_assoc]
    rw [← List.append_assoc (c.take i) (c.drop i), List.take_append_drop]
  rw [e5, ← short_mid, short_inv', List.append_nil, h2, ← List.append_assoc, ← e2, short_short]

theorem conj_no {v w : List Int} (hv : (check v).1 = 0) (hw : (check w).1 = 0) (h : ¬ HasR (cut (short v) (coreN (short v) 0)) (cut (short w) (coreN (short w) 0))) : conjS v w = ([], (6, 0)) := by
  obtain ⟨ov, lv⟩ := check_ok hv
  obtain ⟨ow, lw⟩ := check_ok hw
  unfold conjS
  have : allS [v, w] = (0, 0) := by
    apply ok_allS
    intro z hz
    simp only [List.mem_cons, List.not_mem_nil, or_false] at hz
    rcases hz with rfl | rfl
    · exact ⟨ov, lv⟩
    · exact ⟨ow, lw⟩
  rw [this, if_neg (by simp), conjP_no h]

end Go.Proofs.Ythmgpgkfeknhgaa
