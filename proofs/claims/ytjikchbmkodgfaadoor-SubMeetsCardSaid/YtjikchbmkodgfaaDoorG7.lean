
/-
  Plain law, FROBENIUS' THEOREM, its first part: things whose orders have a power of p come by generators of cyclic subgroups. Conditions: none.
-/
import Derived.Test.YtjikchbmkodgfaaDoorG6
set_option linter.all false
namespace Go.Proofs.YtjikchbmkodgfaaDoor
open Go.Pv

/-- CLASSES whose sizes have a divisor: it divides the whole. -/
theorem classesD {α : Type} {k : Nat} {r : α → α → Bool} : ∀ (n : Nat) (l : List α), l.length = n → l.Nodup → (∀ x ∈ l, r x x = true) → (∀ x ∈ l, ∀ y ∈ l, r x y = true → r y x = true) →
    (∀ x ∈ l, ∀ y ∈ l, ∀ z ∈ l, r x y = true → r y z = true → r x z = true) → (∀ x ∈ l, k ∣ (l.filter (r x)).length) → k ∣ l.length := by
  intro n
  induction n using Nat.strongRecOn with
  | _ n ih =>
    intro l hn hnd hr hs ht hk
    cases l with
    | nil => exact ⟨0, rfl⟩
    | cons a t =>
      have hsplit : (a :: t).length = ((a :: t).filter (r a)).length + ((a :: t).filter (fun x => !r a x)).length := by
        have := List.length_eq_countP_add_countP (r a) (l := a :: t)
        simp only [List.countP_eq_length_filter] at this
        rw [this]
        congr 3
        funext x
        cases r a x <;> simp
      have hka := hk a (by simp)
      have hmem : ∀ x, x ∈ (a :: t).filter (fun x => !r a x) ↔ x ∈ a :: t ∧ r a x = false := by
        intro x; rw [List.mem_filter]; simp
      have hpos : 0 < ((a :: t).filter (r a)).length := by
        apply List.length_pos_of_mem (a := a)
        rw [List.mem_filter]
        exact ⟨by simp, hr a (by simp)⟩
      have hrec := ih ((a :: t).filter (fun x => !r a x)).length (by omega) _ rfl (hnd.filter _) (fun x hx => hr x ((hmem x).1 hx).1)
        (fun x hx y hy => hs x ((hmem x).1 hx).1 y ((hmem y).1 hy).1)
        (fun x hx y hy z hz => ht x ((hmem x).1 hx).1 y ((hmem y).1 hy).1 z ((hmem z).1 hz).1)
        (fun x hx => by
          obtain ⟨hx1, hx2⟩ := (hmem x).1 hx
          have hf : ((a :: t).filter (fun x => !r a x)).filter (r x) = (a :: t).filter (r x) := by
            rw [List.filter_filter]
            apply List.filter_congr
            intro y hy
            cases hxy : r x y
            · simp
            · have : r a y = false := by
                cases hay : r a y
                · rfl
                · have h1 := hs x hx1 y hy hxy
                  have := ht a (by simp) y hy x hx1 hay h1
                  rw [hx2] at this; cases this
              simp [this]
          rw [hf]; exact hk x hx1)
      rw [hsplit]
      exact Nat.dvd_add hka hrec

/-- What comes again after m comes P times as often in m P. -/
theorem count_per {m : Nat} {c : Nat → Bool} (h : ∀ j, c (m + j) = c j) : ∀ P, ((List.range (m * P)).filter c).length = P * ((List.range m).filter c).length
  | 0 => by simp
  | P + 1 => by
    rw [show m * (P + 1) = m + m * P by rw [Nat.mul_succ]; omega, List.range_add, List.filter_append, List.length_append, List.filter_map, List.length_map]
    have : (c ∘ fun x => m + x) = c := funext h
    rw [this, count_per h P, Nat.succ_mul]; omega

section
variable {n : Nat} {f : Nat → Nat → Nat} {e : Nat}

theorem Grp.ord_cop (G : Grp n f e) {a j : Nat} (ha : a < n) : ord n f e (pw f e a j) = ord n f e a ↔ Nat.gcd j (ord n f e a) = 1 := by
  have ho := G.ord_pos ha
  constructor
  · intro h
    have hd : Nat.gcd j (ord n f e a) ∣ ord n f e a := Nat.gcd_dvd_right _ _
    have hj : Nat.gcd j (ord n f e a) ∣ j := Nat.gcd_dvd_left _ _
    obtain ⟨t, ht⟩ := hd
    obtain ⟨u, hu⟩ := hj
    have h1 : pw f e (pw f e a j) t = e := by
      rw [← G.pw_mul ha, G.pw_eq_one ha]
      refine ⟨u, ?_⟩
      calc j * t = (Nat.gcd j (ord n f e a) * u) * t := by rw [← hu]
        _ = (Nat.gcd j (ord n f e a) * t) * u := by rw [Nat.mul_assoc, Nat.mul_comm u t, Nat.mul_assoc]
        _ = ord n f e a * u := by rw [← ht]
    have h2 := (G.pw_eq_one (G.pw_lt ha j) t).1 h1
    rw [h] at h2
    have htp : 0 < t := by
      rcases Nat.eq_zero_or_pos t with h0 | h0
      · rw [h0, Nat.mul_zero] at ht; omega
      · exact h0
    have h3 := Nat.le_of_dvd htp h2
    have h4 : 0 < Nat.gcd j (ord n f e a) := Nat.gcd_pos_of_pos_right _ ho
    rcases Nat.lt_or_ge 1 (Nat.gcd j (ord n f e a)) with h5 | h5
    · have : 2 * t ≤ Nat.gcd j (ord n f e a) * t := Nat.mul_le_mul_right _ h5
      omega
    · omega
  · intro h
    refine G.ord_eq (G.pw_lt ha j) fun i => ?_
    rw [← G.pw_mul ha, G.pw_eq_one ha]
    constructor
    · intro h1
      exact Nat.Coprime.dvd_of_dvd_mul_left (Nat.Coprime.symm h) h1
    · intro h1
      exact Nat.dvd_trans h1 (Nat.dvd_mul_left _ _)

/-- What is a power of the same order has it as a power. -/
theorem Grp.gen_symm (G : Grp n f e) {x j : Nat} (hx : x < n) (h : ord n f e (pw f e x j) = ord n f e x) : ∃ i, i < n ∧ x = pw f e (pw f e x j) i := by
  have ho := G.ord_pos hx
  have hon := (G.ord_spec hx).2.1
  have hpm : ∀ i, pw f e (pw f e x j) i = pw f e x (j * i % ord n f e x) := by
    intro i; rw [G.pw_mod hx, G.pw_mul hx]
  obtain ⟨i, hi, he⟩ := inj_onto (n := ord n f e x) (f := fun i => j * i % ord n f e x) (fun i _ => Nat.mod_lt _ ho) (fun i i' hi hi' he => by
    have he' : j * i % ord n f e x = j * i' % ord n f e x := he
    have : pw f e (pw f e x j) i = pw f e (pw f e x j) i' := by rw [hpm, hpm, he']
    exact G.pw_inj (G.pw_lt hx j) (by rw [h]; exact hi) (by rw [h]; exact hi') this) (Nat.mod_lt 1 ho)
  refine ⟨i, by omega, ?_⟩
  have he' : j * i % ord n f e x = 1 % ord n f e x := he
  rw [hpm, he', G.pw_mod hx, G.pw_one hx]

/-- PART ONE: things whose order is of a kind that p^(k+1) divides come p^k at a time. -/
theorem Grp.frob1 (G : Grp n f e) {p k : Nat} {c : Nat → Bool} (hc : ∀ o, c o = true → p ^ (k + 1) ∣ o) :
    p ^ k ∣ ((List.range n).filter (fun x => c (ord n f e x))).length := by
  refine classesD (r := fun x y => decide (ord n f e y = ord n f e x ∧ ∃ j, j < n ∧ y = pw f e x j)) _ _ rfl (List.nodup_range.filter _) ?_ ?_ ?_ ?_
  · intro x hx
    have x1 : x < n := by simpa using (List.mem_filter.1 hx).1
    simp only [decide_eq_true_eq]
    refine ⟨trivial, 1 % ord n f e x, ?_, ?_⟩
    · have := Nat.mod_lt 1 (G.ord_pos x1); have := (G.ord_spec x1).2.1; omega
    · rw [G.pw_mod x1, G.pw_one x1]
  · intro x hx y hy h
    have x1 : x < n := by simpa using (List.mem_filter.1 hx).1
    simp only [decide_eq_true_eq] at h ⊢
    obtain ⟨h1, j, hj, rfl⟩ := h
    exact ⟨h1.symm, G.gen_symm x1 h1⟩
  · intro x hx y hy z hz h h'
    have x1 : x < n := by simpa using (List.mem_filter.1 hx).1
    simp only [decide_eq_true_eq] at h h' ⊢
    obtain ⟨h1, j, hj, rfl⟩ := h
    obtain ⟨h2, i, hi, rfl⟩ := h'
    refine ⟨h2.trans h1, j * i % ord n f e x, ?_, ?_⟩
    · have := Nat.mod_lt (j * i) (G.ord_pos x1); have := (G.ord_spec x1).2.1; omega
    · rw [G.pw_mod x1, G.pw_mul x1]
  · intro x hx
    have x1 : x < n := by simpa using (List.mem_filter.1 hx).1
    have x2 : c (ord n f e x) = true := by simpa using (List.mem_filter.1 hx).2
    obtain ⟨m', hm'⟩ := hc _ x2
    have ho := G.ord_pos x1
    have hon := (G.ord_spec x1).2.1
    have hom : ord n f e x = p * m' * p ^ k := by
      rw [hm', Nat.pow_succ, Nat.mul_assoc, Nat.mul_comm]
    have hcp : ∀ j, Nat.gcd j (ord n f e x) = 1 ↔ Nat.gcd j (p * m') = 1 := by
      intro j
      constructor
      · intro h
        have h' : Nat.Coprime j (ord n f e x) := h
        rw [hom] at h'
        exact Nat.Coprime.coprime_mul_right_right h'
      · intro h
        have h' : Nat.Coprime j (p * m') := h
        have hp : Nat.Coprime j p := Nat.Coprime.coprime_mul_right_right h'
        have : Nat.Coprime j (p * m' * p ^ k) := Nat.Coprime.mul_right h' (Nat.Coprime.pow_right _ hp)
        rw [hom]; exact this
    have hcl : (((List.range n).filter (fun x => c (ord n f e x))).filter (fun y => decide (ord n f e y = ord n f e x ∧ ∃ j, j < n ∧ y = pw f e x j))).length
        = (((List.range (ord n f e x)).filter (fun j => decide (Nat.gcd j (p * m') = 1))).map (pw f e x)).length := by
      refine same_len ((List.nodup_range.filter _).filter _) (nodup_map (List.nodup_range.filter _) fun i hi j hj he => ?_) fun y => ?_
      · exact G.pw_inj x1 (by simpa using (List.mem_filter.1 hi).1) (by simpa using (List.mem_filter.1 hj).1) he
      · simp only [List.mem_filter, List.mem_map, List.mem_range, decide_eq_true_eq]
        constructor
        · rintro ⟨⟨y1, y2⟩, y3, j, hj, rfl⟩
          refine ⟨j % ord n f e x, ⟨Nat.mod_lt _ ho, ?_⟩, G.pw_mod x1 j⟩
          rw [← hcp, ← G.ord_cop x1, G.pw_mod x1]; exact y3
        · rintro ⟨j, ⟨j1, j2⟩, rfl⟩
          have h3 := (G.ord_cop x1).2 ((hcp j).2 j2)
          exact ⟨⟨G.pw_lt x1 j, by rw [h3]; exact x2⟩, h3, j, by omega, rfl⟩
    rw [hcl, List.length_map, hom, count_per (fun j => decide_eq_decide.2 (by rw [show Nat.gcd (p * m' + j) (p * m') = Nat.gcd j (p * m') by simp]))]
    exact Nat.dvd_mul_right _ _
end
end Go.Proofs.YtjikchbmkodgfaaDoor
