
/-
  Tables without fault are groups: plain laws, with no program in sight. Conditions: none.
-/
import Derived.Test.YtjikchbmkodgfaaDoorT2
set_option linter.all false
namespace Go.Proofs.YtjikchbmkodgfaaDoor
open Go.Pv

theorem isE_unique {m : List Int} {n a b : Nat} (ha : a < n) (hb : b < n) (h1 : isE m n a) (h2 : isE m n b) : a = b := by
  have e1 := (h1 b hb).1
  have e2 := (h2 a ha).2
  omega

theorem eI_cases (m : List Int) (n : Nat) : (eI m n = -1 ∧ ∀ a, a < n → ¬ isE m n a) ∨ ∃ e, e < n ∧ isE m n e ∧ eI m n = (e : Nat) := by
  unfold eI
  cases h : fst' (fun a => decide (isE m n a)) n with
  | none => exact .inl ⟨rfl, fun a ha => of_decide_eq_false (fst_spec0 h a ha)⟩
  | some e =>
    obtain ⟨h1, h2, _⟩ := fst_spec h
    exact .inr ⟨e, h1, of_decide_eq_true h2, rfl⟩
theorem eI_of {m : List Int} {n e : Nat} (he : e < n) (h : isE m n e) : eI m n = (e : Nat) := by
  rcases eI_cases m n with ⟨_, h2⟩ | ⟨e', h1, h2, h3⟩
  · exact absurd h (h2 e he)
  · rw [h3, isE_unique he h1 h h2]

theorem iI_cases (m : List Int) (n a : Nat) : (iI m n a = -1 ∧ ∀ b, b < n → ¬ (((op m n a b : Nat) : Int) = eI m n ∧ ((op m n b a : Nat) : Int) = eI m n)) ∨
    ∃ b, b < n ∧ ((op m n a b : Nat) : Int) = eI m n ∧ ((op m n b a : Nat) : Int) = eI m n ∧ iI m n a = (b : Nat) := by
  unfold iI
  cases h : fst' (fun b => decide (((op m n a b : Nat) : Int) = eI m n ∧ ((op m n b a : Nat) : Int) = eI m n)) n with
  | none => exact .inl ⟨rfl, fun b hb => of_decide_eq_false (fst_spec0 h b hb)⟩
  | some b =>
    obtain ⟨h1, h2, _⟩ := fst_spec h
    have h2 := of_decide_eq_true h2
    exact .inr ⟨b, h1, h2.1, h2.2, rfl⟩

/-- A row of numbers is a group's table. -/
def GT (N : Int) (m : List Int) (n e : Nat) : Prop := N = (n : Int) ∧ Tab n m ∧ Grp n (op m n) e

theorem gf_ok {N : Int} {m : List Int} (h : (gf N m).1 = 0) : ∃ n e, GT N m n e ∧ eI m n = (e : Nat) := by
  unfold gf at h
  by_cases h1 : N < 1 ∨ N > 60
  · rw [if_pos h1] at h; simp at h
  rw [if_neg h1] at h
  obtain ⟨n, rfl⟩ := Int.eq_ofNat_of_zero_le (show 0 ≤ N by omega)
  have hsq := sq_int n
  by_cases h2 : (m.length : Int) = (n : Int) * n
  · rw [if_neg (by simpa using h2)] at h
    cases h3 : fst' (bad n m) m.length with
    | some i => rw [h3] at h; simp at h
    | none =>
      rw [h3] at h
      have hl : m.length = n * n := by omega
      have T : Tab n m := by
        refine ⟨by omega, by omega, hl, fun j hj => ?_⟩
        have := of_decide_eq_false (fst_spec0 h3 j (by omega))
        omega
      simp only [Int.toNat_natCast] at h
      unfold gf2 at h
      by_cases h4 : eI m n < 0
      · rw [if_pos h4] at h; simp at h
      rw [if_neg h4] at h
      rcases eI_cases m n with ⟨h5, _⟩ | ⟨e, he, hE, heq⟩
      · omega
      cases h6 : fst' (fun a => decide (¬ asc m n a)) n with
      | some a => rw [h6] at h; simp at h
      | none =>
        rw [h6] at h
        simp only at h
        have hasc : ∀ a, a < n → asc m n a := fun a ha => by
          have := of_decide_eq_false (fst_spec0 h6 a ha)
          exact Classical.not_not.1 this
        cases h7 : fst' (fun a => decide (iI m n a < 0)) n with
        | some a => rw [h7] at h; simp at h
        | none =>
          have hinv : ∀ a, a < n → ¬ iI m n a < 0 := fun a ha => of_decide_eq_false (fst_spec0 h7 a ha)
          refine ⟨n, e, ⟨rfl, T, ⟨by omega, fun a b ha hb => T.lt ha hb, he, fun a ha => (hE a ha).1, fun a ha => (hE a ha).2, fun a b c ha hb hc => hasc a ha b hb c hc, fun a ha => ?_⟩⟩, heq⟩
          rcases iI_cases m n a with ⟨h8, _⟩ | ⟨b, hb, h8, h9, _⟩
          · have := hinv a ha; omega
          · exact ⟨b, hb, by omega, by omega⟩
  · rw [if_pos h2] at h; simp at h

theorem GT.one {N : Int} {m : List Int} {n e : Nat} (h : GT N m n e) : isE m n e := fun b hb => ⟨h.2.2.one_l b hb, h.2.2.one_r b hb⟩
theorem GT.eI {N : Int} {m : List Int} {n e : Nat} (h : GT N m n e) : eI m n = (e : Nat) := eI_of h.2.2.el h.one
theorem GT.iI {N : Int} {m : List Int} {n e a : Nat} (h : GT N m n e) (ha : a < n) : iI m n a = (iv n (op m n) e a : Nat) := by
  have G := h.2.2
  rcases iI_cases m n a with ⟨_, h2⟩ | ⟨b, hb, h8, h9, h10⟩
  · exact absurd ⟨by rw [h.eI, G.mul_iv ha], by rw [h.eI, G.iv_mul ha]⟩ (h2 _ (G.iv_lt ha))
  · rw [h10]
    rw [h.eI] at h8
    rw [G.iv_unique ha hb (.inl (by omega))]

theorem gf_of {N : Int} {m : List Int} {n e : Nat} (h : GT N m n e) : gf N m = (0, 0) := by
  obtain ⟨rfl, T, G⟩ := h
  have h' : GT n m n e := ⟨rfl, T, G⟩
  rw [gf_tab T, gf2_0 (by rw [h'.eI]; omega) (fun a ha b hb c hc => G.assoc a b c ha hb hc) fun a ha => by rw [h'.iI ha]; omega]

/-- In what is finite, who has an inverse at the right has it at the left too. -/
theorem right_inv {n : Nat} {f : Nat → Nat → Nat} {e : Nat} (hcl : ∀ a b, a < n → b < n → f a b < n) (he : e < n) (hl : ∀ a, a < n → f e a = a) (hr : ∀ a, a < n → f a e = a)
    (has : ∀ a b c, a < n → b < n → c < n → f (f a b) c = f a (f b c)) {a b : Nat} (ha : a < n) (hb : b < n) (h : f a b = e) : f b a = e := by
  obtain ⟨c, hc, h1⟩ := inj_onto (f := f b) (fun i hi => hcl b i hb hi) (fun i j hi hj hij => by
    have h2 : f a (f b i) = f a (f b j) := by rw [hij]
    rwa [← has a b i ha hb hi, ← has a b j ha hb hj, h, hl i hi, hl j hj] at h2) he
  have : a = c := by
    have h2 := has a b c ha hb hc
    rw [h, h1, hl c hc, hr a ha] at h2
    exact h2.symm
  rw [this]; exact h1

end Go.Proofs.YtjikchbmkodgfaaDoor
