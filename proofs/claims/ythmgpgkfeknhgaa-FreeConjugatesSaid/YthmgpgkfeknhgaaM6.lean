/-
  Roots of words, and words that commute: plain laws, with no program in sight. Conditions: none.
-/
import Derived.Test.YthmgpgkfeknhgaaM5
set_option linter.all false
namespace Go.Proofs.Ythmgpgkfeknhgaa
open Go.Pv

/-- The program's test of a step. -/
def Stp (c : List Int) (i : Nat) : Prop := c.length % i = 0 ∧ c.drop i = c.take (c.length - i)

theorem rootN_min (c : List Int) (hc : c ≠ []) : ∀ i, 1 ≤ i → i ≤ c.length → i ≤ rootN c i ∧ rootN c i ≤ c.length ∧ Stp c (rootN c i) ∧ ∀ j, i ≤ j → j < rootN c i → ¬ Stp c j := by
  intro i
  induction hm : c.length - i using Nat.strongRecOn generalizing i with
  | _ n ih =>
    intro h1 h2
    unfold rootN
    by_cases ht : c.length % i = 0 ∧ c.drop i = c.take (c.length - i)
    · rw [if_pos ht]
      exact ⟨Nat.le_refl _, h2, ht, fun j a b => by omega⟩
    · rw [if_neg ht]
      by_cases hl : i < c.length
      · rw [if_pos hl]
        obtain ⟨a, b, d, e⟩ := ih (c.length - (i + 1)) (by omega) (i + 1) rfl (by omega) (by omega)
        refine ⟨by omega, b, d, fun j hj hj2 => ?_⟩
        by_cases hji : j = i
        · subst hji; exact ht
        · exact e j (by omega) hj2
      · exfalso
        have : i = c.length := by omega
        subst this
        exact ht (by simp)

theorem rootN_eq {c : List Int} {d : Nat} (hc : c ≠ []) (h1 : 1 ≤ d) (hd : Stp c d) (hmin : ∀ j, 1 ≤ j → j < d → ¬ Stp c j) : rootN c 1 = d := by
  have hp := List.length_pos_iff.2 hc
  obtain ⟨a, b, e, f⟩ := rootN_min c hc 1 (Nat.le_refl _) hp
  rcases Nat.lt_trichotomy (rootN c 1) d with h | h | h
  · exact absurd e (hmin _ a h)
  · exact h
  · exact absurd hd (f d h1 h)

theorem Stp.rep {c : List Int} {d : Nat} (h : Stp c d) : c = rep (c.length / d) (c.take d) := by
  refine rep_of_shift _ c d ?_ h.2
  have := Nat.div_add_mod c.length d
  rw [h.1, Nat.mul_comm] at this; omega

theorem Stp.per {c : List Int} {d : Nat} (h : Stp c d) (hd : 1 ≤ d) (hl : d ≤ c.length) : Per c d := by
  have hr := h.rep
  have hlen : c.length = c.length / d * d := by
    have := Nat.div_add_mod c.length d
    rw [h.1, Nat.mul_comm] at this; omega
  have ht : (c.take d).length = d := by simp; omega
  have hg : ∀ i, i < c.length → c.getD i 0 = (c.take d).getD (i % d) 0 := by
    intro i hi
    have := rep_get (c.take d) (by omega) (c.length / d) i (by rw [ht, ← hlen]; exact hi)
    rw [← hr, ht] at this
    exact this
  intro i hi
  rw [hg _ (Nat.mod_lt _ (by omega)), hg i hi, Nat.mod_mod_of_dvd _ (Nat.dvd_of_mod_eq_zero h.1), Nat.add_mod_right]

theorem Per.stp {c : List Int} {d : Nat} (h : Per c d) (hd : d ∣ c.length) : Stp c d := by
  refine ⟨Nat.mod_eq_zero_of_dvd hd, ?_⟩
  apply ext_getD (by simp)
  intro i hi
  rw [List.length_drop] at hi
  rw [getD_drop, getD_take (by omega)]
  have := h i (by omega)
  rwa [Nat.mod_eq_of_lt (by omega), Nat.add_comm] at this

/-- A period of the part, that divides it, is one of the whole. -/
theorem per_rep {p : List Int} {g n : Nat} (hp : 0 < p.length) (h : Per p g) : Per (rep n p) g := by
  intro i hi
  rw [rep_len] at hi ⊢
  have hpos : 0 < n * p.length := by omega
  rw [rep_get p hp n _ (Nat.mod_lt _ hpos), rep_get p hp n i hi, Nat.mod_mod_of_dvd _ (Nat.dvd_mul_left _ _)]
  exact h.any hp i
theorem rep_per {p : List Int} {g n : Nat} (hn : 1 ≤ n) (hp : 0 < p.length) (h : Per (rep n p) g) : Per p g := by
  intro i hi
  have hle : p.length ≤ n * p.length := Nat.le_mul_of_pos_left _ hn
  have := h i (by rw [rep_len]; omega)
  rw [rep_len] at this
  rw [rep_get p hp n _ (Nat.mod_lt _ (by omega)), rep_get p hp n i (by omega), Nat.mod_mod_of_dvd _ (Nat.dvd_mul_left _ _), Nat.mod_eq_of_lt hi] at this
  exact this

theorem rootN_rep {p : List Int} {n : Nat} (hn : 1 ≤ n) (hp : p ≠ []) (hpr : Prim p) : rootN (rep n p) 1 = p.length := by
  have h0 := List.length_pos_iff.2 hp
  refine rootN_eq (rep_ends hp hn).1 h0 ((per_rep h0 (Per.len p)).stp (by rw [rep_len]; exact Nat.dvd_mul_left _ _)) fun j hj hjl hs => ?_
  have hle : p.length ≤ n * p.length := Nat.le_mul_of_pos_left _ hn
  have := hpr j (rep_per hn h0 (hs.per hj (by rw [rep_len]; omega)))
  have := Nat.le_of_dvd hj this
  omega

/-- The least part of a core is none of a shorter one's powers. -/
theorem prim_root {c : List Int} (hc : c ≠ []) : Prim (c.take (rootN c 1)) ∧ 1 ≤ rootN c 1 ∧ rootN c 1 ≤ c.length ∧ 1 ≤ c.length / rootN c 1 ∧ c = rep (c.length / rootN c 1) (c.take (rootN c 1)) := by
  obtain ⟨a, b, e, f⟩ := rootN_min c hc 1 (Nat.le_refl _) (List.length_pos_iff.2 hc)
  have hq : 1 ≤ c.length / rootN c 1 := Nat.div_pos b a
  refine ⟨?_, a, b, hq, e.rep⟩
  intro d hd
  have ht : (c.take (rootN c 1)).length = rootN c 1 := by simp; omega
  have hg := Per.gcd (by rw [ht]; omega) _ _ hd (Per.len (c.take (rootN c 1)))
  rw [ht] at hg ⊢
  have hgd : Nat.gcd d (rootN c 1) ∣ rootN c 1 := Nat.gcd_dvd_right _ _
  have hg1 : 1 ≤ Nat.gcd d (rootN c 1) := Nat.gcd_pos_of_pos_right _ a
  have hgl := Nat.le_of_dvd a hgd
  have hw := per_rep (n := c.length / rootN c 1) (by rw [ht]; omega) hg
  rw [← e.rep] at hw
  have hs := hw.stp (Nat.dvd_trans hgd (Nat.dvd_of_mod_eq_zero e.1))
  by_cases hlt : Nat.gcd d (rootN c 1) < rootN c 1
  · exact absurd hs (f _ hg1 hlt)
  · have : Nat.gcd d (rootN c 1) = rootN c 1 := by omega
    rw [← this]; exact Nat.gcd_dvd_left _ _

theorem coreN_stop (s : List Int) : ∀ k, ¬ (2 * coreN s k + 1 < s.length ∧ s.getD (coreN s k) 0 = -(s.getD (s.length - 1 - coreN s k) 0)) := by
  intro k
  induction hm : s.length - k using Nat.strongRecOn generalizing k with
  | _ n ih =>
    by_cases hc : 2 * k + 1 < s.length ∧ s.getD k 0 = -(s.getD (s.length - 1 - k) 0)
    · rw [coreN.eq_def s k, if_pos hc]
      exact ih (s.length - (k + 1)) (by omega) (k + 1) rfl
    · rw [coreN.eq_def s k, if_neg hc]; exact hc

theorem Ok.get {w : List Int} (h : Ok w) {i : Nat} (hi : i < w.length) : w.getD i 0 ≠ 0 := by
  have := h (w.getD i 0) (by simp [List.getD, List.getElem?_eq_getElem hi])
  exact this.1

theorem cyc_cut {s : List Int} (hr : Red s) (hs : s ≠ []) (ho : Ok s) : Cyc (cut s (coreN s 0)) := by
  have hne := cut_ne hr hs
  have hl := core_lt hr 0 (List.length_pos_iff.2 hs)
  have hst := coreN_stop s 0
  have hcl := cut_len (c := s) (k := coreN s 0)
  generalize coreN s 0 = k at *
  refine .mk' hne (red_cut hr k) ?_
  rw [hcl, cut_get (by omega), cut_get (by omega), Nat.add_zero]
  by_cases h1 : s.length - k - k = 1
  · rw [h1, Nat.sub_self, Nat.add_zero]
    have := ho.get (show k < s.length by omega)
    omega
  · intro e
    refine hst ⟨by omega, ?_⟩
    rw [show k + (s.length - k - k - 1) = s.length - 1 - k by omega] at e
    omega

/-- The core of what is written as a conjugate. -/
theorem core_of {u q : List Int} (hq : Cyc q) : coreN (u ++ q ++ back u) 0 = u.length ∧ cut (u ++ q ++ back u) u.length = q := by
  have hlen : (u ++ q ++ back u).length = u.length + q.length + u.length := by simp [back_len]; omega
  have h0 := hq.pos
  constructor
  · have key : ∀ n k, k ≤ u.length → n = u.length - k → coreN (u ++ q ++ back u) k = u.length := by
      intro n
      induction n with
      | zero =>
        intro k hk hn
        have : k = u.length := by omega
        subst this
        rw [coreN.eq_def, if_neg]
        intro ⟨h1, h2⟩
        rw [hlen] at h1 h2
        rw [List.append_assoc, getD_app2 (Nat.le_refl _), Nat.sub_self, getD_app1 h0, getD_app2 (by omega), getD_app1 (by omega), show u.length + q.length + u.length - 1 - u.length - u.length = q.length - 1 by omega] at h2
        exact hq.ends (by omega)
      | succ n ih =>
        intro k hk hn
        rw [coreN.eq_def, if_pos]
        · exact ih (k + 1) (by omega) (by omega)
        · refine ⟨by rw [hlen]; omega, ?_⟩
          rw [hlen, List.append_assoc, getD_app1 (by omega), ← List.append_assoc, getD_app2 (by simp; omega), back_getD (by simp; omega), Int.neg_neg]
          congr 1
          simp
          omega
    exact key _ 0 (Nat.zero_le _) rfl
  · unfold cut
    rw [hlen, List.append_assoc, List.drop_left' rfl, show u.length + q.length + u.length - u.length - u.length = q.length by omega, List.take_left' rfl]

/-- THE ROOT of what is a power's conjugate. -/
theorem root_of {w y p : List Int} {n : Nat} (hw : (check w).1 = 0) (hn : 1 ≤ n) (hy : Red y) (hc : Cyc p) (hp : Prim p) (he : short w = short (y ++ rep n p ++ back y)) :
    rootS w = (short (y ++ p ++ back y), ((n : Nat) : Int), (0, 0)) := by
  obtain ⟨y1, p1, g1, g2, g3, g4⟩ := conj_form _ y p rfl hy hc hp
  have e1 := g4 n hn
  have e2 := g4 1 (Nat.le_refl _)
  rw [rep_one, rep_one] at e2
  rw [e1] at he
  obtain ⟨c1, c2⟩ := core_of (u := y1) (g1.rr' hn)
  have h0 := g1.pos
  rw [rootS, if_neg (by simp [hw]), he, c1, c2, if_neg (rep_ends g1.1 hn).1, rootN_rep hn g1.1 g2, rep_len, Nat.mul_div_cancel _ h0, e2]
  have ht : (rep n p1).take p1.length = p1 := by
    obtain ⟨m, rfl⟩ : ∃ m, n = m + 1 := ⟨n - 1, by omega⟩
    rw [rep_succ', List.take_left' rfl]
  have hu : (y1 ++ rep n p1 ++ back y1).take y1.length = y1 := by rw [List.append_assoc, List.take_left' rfl]
  have hs : short (y1 ++ p1 ++ back y1) = y1 ++ p1 ++ back y1 := by rw [← e2, short_short]
  rw [ht, hu, hs]

/-- Every word that is not the one is a power's conjugate. -/
theorem form_of {w : List Int} (ho : Ok w) (hs : short w ≠ []) : ∃ u p n, 1 ≤ n ∧ Red u ∧ Cyc p ∧ Prim p ∧ short w = u ++ rep n p ++ back u := by
  have hr := red_short w
  have hc := cyc_cut hr hs ho.short
  obtain ⟨a, b, _, d, e⟩ := prim_root hc.1
  have hsp := core_split (short w)
  generalize cut (short w) (coreN (short w) 0) = c at *
  refine ⟨(short w).take (coreN (short w) 0), c.take (rootN c 1), c.length / rootN c 1, d, hr.take _, ?_, a, ?_⟩
  · have hcr : Red (c.take (rootN c 1)) := hc.red.take _
    have hne : c.take (rootN c 1) ≠ [] := by
      intro h
      have h0 := congrArg List.length h
      have := hc.pos
      simp at h0
      rcases h0 with h0 | h0
      · omega
      · exact hc.1 h0
    refine .mk' hne hcr ?_
    have h3 := rep_ends hne d
    rw [← e] at h3
    rw [← h3.2.1, ← h3.2.2]
    exact hc.ends
  · rw [← e]; exact hsp

/-- How two reduced words join. -/
theorem join_form : ∀ (n : Nat) (a b : List Int), a.length = n → Red a → Red b → ∃ s t r, a = s ++ back t ∧ b = t ++ r ∧ short (a ++ b) = s ++ r := by
  intro n
  induction n with
  | zero =>
    intro a b ha _ hb
    rw [List.eq_nil_of_length_eq_zero ha]
    exact ⟨[], [], b, rfl, rfl, short_red hb⟩
  | succ n ih =>
    intro a b ha hr hb
    have hne : a ≠ [] := by intro h; subst h; simp at ha
    obtain ⟨a', z, rfl⟩ : ∃ a' z, a = a' ++ [z] := ⟨a.dropLast, a.getLast hne, (List.dropLast_concat_getLast hne).symm⟩
    by_cases h1 : b ≠ [] ∧ b.getD 0 0 = -z
    · obtain ⟨x, b', rfl⟩ : ∃ x b', b = x :: b' := by
        cases b with
        | nil => exact absurd rfl h1.1
        | cons x b' => exact ⟨x, b', rfl⟩
      have hx : x = -z := by simpa using h1.2
      subst hx
      obtain ⟨s, t, r, e1, e2, e3⟩ := ih a' b' (by simpa using ha) (red_left hr) (red_right (a := [-z]) hb)
      refine ⟨s, -z :: t, r, ?_, by rw [e2]; rfl, ?_⟩
      · rw [e1, back_cons, Int.neg_neg, List.append_assoc]
      · rw [List.append_assoc, List.singleton_append, short_cancel, e3]
    · refine ⟨a' ++ [z], [], b, by simp [back], rfl, short_red (red_app hr hb fun _ hb0 => ?_)⟩
      rw [getD_app2 (by simp), show (a' ++ [z]).length - 1 - a'.length = 0 by simp]
      intro e
      refine h1 ⟨hb0, ?_⟩
      simp at e
      simp only [List.getD] at e ⊢
      omega

/-- What is the same at both sides may be struck. -/
theorem comm_pow {w p : List Int} (h : short (w ++ p) = short (p ++ w)) : ∀ n, short (w ++ rep n p) = short (rep n p ++ w)
  | 0 => by simp [rep_zero]
  | n + 1 => by
    have e1 : short (w ++ rep (n + 1) p) = short (short (w ++ rep n p) ++ p) := by rw [short_left, rep_succ, List.append_assoc]
    rw [e1, comm_pow h n, short_left, List.append_assoc, ← short_right, h, short_right, rep_succ]
    simp

/-- WHO COMMUTES with a power of such a word is one of its powers. -/
theorem comm_form {w p : List Int} {k : Nat} (hk : 1 ≤ k) (hw : Red w) (hc : Cyc p) (hp : Prim p) (h : short (w ++ rep k p) = short (rep k p ++ w)) :
    ∃ m, short w = short (rep m p) ∨ short w = short (back (rep m p)) := by
  have h0 := hc.pos
  have hbig : short (w ++ rep (k * (2 * w.length + 1)) p) = short (rep (k * (2 * w.length + 1)) p ++ w) := by
    rw [rep_mul]; exact comm_pow h _
  have hN : 2 * w.length + 1 ≤ k * (2 * w.length + 1) := Nat.le_mul_of_pos_left _ hk
  generalize k * (2 * w.length + 1) = N at hbig hN
  have hql : (rep N p).length = N * p.length := rep_len N p
  have hq1 : (2 * w.length + 1) * p.length ≤ N * p.length := Nat.mul_le_mul_right _ hN
  have hq2 : (2 * w.length + 1) * p.length = p.length * w.length + w.length * p.length + p.length := by
    rw [Nat.add_mul, Nat.one_mul, Nat.mul_comm 2, Nat.mul_assoc, Nat.mul_comm 2, ← Nat.mul_assoc, Nat.mul_comm (w.length * p.length), Nat.two_mul, Nat.mul_comm p.length]
  have hq3 : w.length ≤ w.length * p.length := Nat.le_mul_of_pos_right _ h0
  have hq4 : w.length ≤ p.length * w.length := Nat.le_mul_of_pos_left _ h0
  have hget := fun i hi => rep_get p h0 N i hi
  generalize hL : N * p.length = L at hql hq1 hget
  obtain ⟨s, t, r, e1, e2, e3⟩ := join_form _ w (rep N p) rfl hw (hc.rr N)
  obtain ⟨s2, t2, r2, f1, f2, f3⟩ := join_form _ (rep N p) w rfl (hc.rr N) hw
  rw [e3, f3] at hbig
  have l1 := congrArg List.length e1
  have l2 := congrArg List.length e2
  have l3 := congrArg List.length f1
  have l4 := congrArg List.length f2
  simp only [List.length_append, back_len] at l1 l2 l3 l4
  rw [hql] at l2 l3
  -- where the join is as the periodic row
  have hA : ∀ i, i < L - w.length → (s ++ r).getD i 0 = p.getD (i % p.length) 0 := by
    intro i hi
    rw [hbig, getD_app1 (by omega), ← hget i (by omega)]
    rw [f1, getD_app1 (by omega)]
  have hs : ∀ i, i < s.length → s.getD i 0 = p.getD (i % p.length) 0 := by
    intro i hi
    rw [← hA i (by omega), getD_app1 hi]
  have ht : ∀ i, i < t.length → t.getD i 0 = p.getD (i % p.length) 0 := by
    intro i hi
    rw [← hget i (by omega), e2, getD_app1 hi]
  have hper : Per p ((p.length - 1) * s.length + t.length) := by
    intro j hj
    have hps : p.length * s.length = (p.length - 1) * s.length + s.length := by
      obtain ⟨n, hn⟩ : ∃ n, p.length = n + 1 := ⟨p.length - 1, by omega⟩
      rw [hn, Nat.add_sub_cancel, Nat.add_mul, Nat.one_mul]
    have hle : p.length * s.length ≤ p.length * w.length := Nat.mul_le_mul_left _ (by omega)
    have h1 := hA (j + p.length * s.length) (by omega)
    rw [Nat.add_mul_mod_self_left, Nat.mod_eq_of_lt hj, getD_app2 (by omega)] at h1
    rw [← h1]
    have h2 := hget (t.length + (j + p.length * s.length - s.length)) (by omega)
    rw [e2, getD_app2 (by omega), Nat.add_sub_cancel_left] at h2
    rw [h2]
    congr 2
    omega
  have hdiv := hp _ hper
  -- both are beginnings of the periodic row
  have ext : ∀ (a b : List Int) (m : Nat), (∀ i, i < a.length → a.getD i 0 = p.getD (i % p.length) 0) → (∀ i, i < b.length → b.getD i 0 = p.getD (i % p.length) 0) → a.length = b.length + p.length * m → a = rep m p ++ b := by
    intro a b m ha hb hl
    apply ext_getD (by rw [List.length_append, rep_len, Nat.mul_comm m]; omega)
    intro i hi
    rw [ha i hi]
    by_cases him : i < m * p.length
    · rw [getD_app1 (by rw [rep_len]; exact him), rep_get p h0 m i him]
    · rw [Nat.mul_comm] at him
      rw [getD_app2 (by rw [rep_len, Nat.mul_comm]; omega), rep_len, Nat.mul_comm m, hb _ (by omega)]
      congr 1
      have : i = (i - p.length * m) + p.length * m := by omega
      conv => lhs; rw [this, Nat.add_mul_mod_self_left]
  have hps : p.length * s.length = (p.length - 1) * s.length + s.length := by
    obtain ⟨n, hn⟩ : ∃ n, p.length = n + 1 := ⟨p.length - 1, by omega⟩
    rw [hn, Nat.add_sub_cancel, Nat.add_mul, Nat.one_mul]
  rcases Nat.le_total t.length s.length with hle | hle
  · have hd2 : p.length ∣ s.length - t.length := by
      have : s.length - t.length = p.length * s.length - ((p.length - 1) * s.length + t.length) := by omega
      rw [this]
      exact Nat.dvd_sub (Nat.dvd_mul_right _ _) hdiv
    obtain ⟨m, hm⟩ := hd2
    refine ⟨m, .inl ?_⟩
    rw [e1, ext s t m hs ht (by omega), List.append_assoc, ← short_right, short_inv, List.append_nil]
  · have hd2 : p.length ∣ t.length - s.length := by
      have : t.length - s.length = ((p.length - 1) * s.length + t.length) - p.length * s.length := by omega
      rw [this]
      exact Nat.dvd_sub hdiv (Nat.dvd_mul_right _ _)
    obtain ⟨m, hm⟩ := hd2
    refine ⟨m, .inr ?_⟩
    rw [e1, ext t s m ht hs (by omega), back_app, ← List.append_assoc, ← short_left, short_inv, List.nil_append]

end Go.Proofs.Ythmgpgkfeknhgaa
