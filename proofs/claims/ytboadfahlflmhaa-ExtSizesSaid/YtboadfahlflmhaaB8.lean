/-
  Texts of this proof, one behind the other: what each says stands at its head. Conditions: none.
-/
import Derived.Test.YtboadfahlflmhaaB7
import Derived.Test.YtboadfahlflmhaaB4
import Derived.Test.YtboadfahlflmhaaB6
import Derived.Test.YtboadfahlflmhaaB5

/-
  How many homomorphisms there are into a ring of a prime number of things. Conditions: none.
-/
set_option linter.all false
namespace Go.Proofs.Ytboadfahlflmhaa
open Go.Pv

/-! ### Makers are few -/

theorem mkS_few {n e : Nat} {m : List Int} (G : Grp n (op m n) e) : ∀ i, i ≤ n → ∃ q : Nat → Bool, (∀ a, a < n → (q a = true ↔ Gen n (op m n) e (tst (mkS n m e i)) a)) ∧ 2 ^ (mkS n m e i).length ≤ (mem n q).length
  | 0, _ => by
    obtain ⟨q, hq⟩ := gen_ex n (op m n) e (tst (mkS n m e 0))
    refine ⟨q, hq, ?_⟩
    have : e ∈ mem n q := mem_mem.2 ⟨G.el, (gen_sub G hq).one⟩
    have := List.length_pos_of_mem this
    simp [mkS]; omega
  | i + 1, hi => by
    obtain ⟨q, hq, hl⟩ := mkS_few G i (by omega)
    by_cases h : Gen n (op m n) e (tst (mkS n m e i)) (n - 1 - i)
    · have e1 : mkS n m e (i + 1) = mkS n m e i := by rw [mkS, if_pos h]
      rw [e1]; exact ⟨q, hq, hl⟩
    · have e1 : mkS n m e (i + 1) = mkS n m e i ++ [((n - 1 - i : Nat) : Int)] := by rw [mkS, if_neg h]
      obtain ⟨q2, hq2⟩ := gen_ex n (op m n) e (tst (mkS n m e (i + 1)))
      refine ⟨q2, hq2, ?_⟩
      have S1 := gen_sub G hq
      have S2 := gen_sub G hq2
      have hmono : ∀ a, a < n → q a = true → q2 a = true := fun a ha h1 => (hq2 a ha).2 (Gen.mono (fun b _ hb => mkS_mono hb) ((hq a ha).1 h1))
      have hd : (mem n q).length ∣ (mem n q2).length := S1.dvd G fun a b ha hb h1 h2 => S2.mul a b ha hb h1 (hmono b hb h2)
      have hlt : (mem n q).length < (mem n q2).length := by
        have hx : n - 1 - i ∈ mem n q2 := mem_mem.2 ⟨by omega, (hq2 _ (by omega)).2 (Gen.mem G (by omega) (by unfold tst; rw [e1]; simp))⟩
        have hnx : n - 1 - i ∉ mem n q := fun hh => h ((hq _ (by omega)).1 (mem_mem.1 hh).2)
        have hsub : ∀ y ∈ mem n q, y ∈ mem n q2 := fun y hy => by
          obtain ⟨y1, y2⟩ := mem_mem.1 hy
          exact mem_mem.2 ⟨y1, hmono y y1 y2⟩
        unfold mem at *
        have h1 : List.filter q (List.filter q2 (List.range n)) = List.filter q (List.range n) := by
          rw [List.filter_filter]
          refine List.filter_congr fun y hy => ?_
          cases hqy : q y with
          | false => rfl
          | true => rw [hmono y (List.mem_range.1 hy) hqy]; rfl
        rw [← h1]
        refine List.length_filter_lt_length_iff_exists.2 ⟨_, hx, fun hh => hnx ?_⟩
        rw [List.mem_filter]
        exact ⟨(List.mem_filter.1 hx).1, hh⟩
      obtain ⟨c, hc⟩ := hd
      have hc2 : 2 ≤ c := by
        rcases Nat.lt_or_ge c 2 with h1 | h1
        · have : (mem n q).length * c ≤ (mem n q).length * 1 := Nat.mul_le_mul_left _ (by omega)
          omega
        · exact h1
      have : (mem n q).length * 2 ≤ (mem n q).length * c := Nat.mul_le_mul_left _ hc2
      rw [e1, List.length_append, List.length_singleton, Nat.pow_succ]
      omega
theorem mkS_le {n e : Nat} {m : List Int} (G : Grp n (op m n) e) (hn : n ≤ 12) : (mkS n m e n).length ≤ 3 := by
  obtain ⟨q, _, h⟩ := mkS_few (m := m) G n (Nat.le_refl _)
  have h2 : (mem n q).length ≤ n := nodup_lt (List.nodup_range.filter _) fun x hx => (mem_mem.1 hx).1
  refine Classical.byContradiction fun hc => ?_
  have : 2 ^ 4 ≤ 2 ^ (mkS n m e n).length := Nat.pow_le_pow_right (by omega) (by omega)
  omega

theorem hsq_len {n e N d : Nat} {f g : Nat → Nat → Nat} {L : List Nat} : ∀ (r t : List Nat), (hsq n f e N g d L r t).length ≤ N ^ r.length
  | [], t => by
    unfold hsq hlf
    split <;> simp
  | x :: r, t => by
    unfold hsq
    rw [List.length_flatMap]
    have h1 : ∀ (l : List Nat), ((l.filter fun y => decide (ord n f e x % ord N g d y = 0)).map fun y => (hsq n f e N g d L r (t ++ [y])).length).sum ≤ l.length * N ^ r.length := by
      intro l
      induction l with
      | nil => simp
      | cons y l ih =>
        have h2 := hsq_len (n := n) (e := e) (N := N) (d := d) (f := f) (g := g) (L := L) r (t ++ [y])
        rw [List.filter_cons]
        split
        · rw [List.map_cons, List.sum_cons, List.length_cons, Nat.add_mul]; omega
        · rw [List.length_cons, Nat.add_mul]; omega
    have := h1 (List.range N)
    rw [List.length_range] at this
    rw [List.length_cons, Nat.pow_succ, Nat.mul_comm]; exact this

/-! ### What goes to nothing -/

section
variable {n e p : Nat} {m : List Int}
def Ker (n : Nat) (m : List Int) (p : Nat) (c : Nat → Int) : Prop := ∀ t, t < n * n → (p : Int) ∣ dB n m c t
def newB (n : Nat) (m : List Int) (p k : Nat) : Bool := (addL p (spK n m p k) (dl n m p (un1 n k))).2

/-- A vector that goes to nothing, with 1 at its end. -/
def WK (n : Nat) (m : List Int) (p k : Nat) (w : Nat → Int) : Prop := w k = 1 ∧ (∀ a, k < a → w a = 0) ∧ Ker n m p w

theorem dl_dl1 (T : Tab n m) {k : Nat} (hk : k < n) {t : Nat} (ht : t < n * n) : (p : Int) ∣ (dl n m p (un1 n k)).getD t 0 - dB n m (dl1 k) t := by
  rw [dl_get ht, dB_congr T (c := fun a => (un1 n k).getD a 0) (d := dl1 k) (fun a ha => by rw [un1_get hk ha]; rfl) ht]
  exact dvd_emod_sub _ _

theorem new_iff (hp : pr p) (T : Tab n m) {k : Nat} (hk : k < n) : newB n m p k = false ↔ ∃ w, WK n m p k w := by
  have h1 := (addL_spec hp (spK_ech hp m k) (dl_len n m p (un1 n k))).2.1
  unfold newB
  rw [h1, spK_sp hp T k (by omega)]
  constructor
  · rintro ⟨c, c1, c2⟩
    refine ⟨fun a => 1 * dl1 k a + (-1) * c a, ?_, fun a ha => ?_, fun t ht => ?_⟩
    · show 1 * dl1 k k + (-1) * c k = 1
      rw [c1 k (Nat.le_refl _)]; simp [dl1]
    · show 1 * dl1 k a + (-1) * c a = 0
      rw [c1 a (by omega)]; simp [dl1]; omega
    · rw [dB_lin]
      have e : 1 * dB n m (dl1 k) t + -1 * dB n m c t = ((dl n m p (un1 n k)).getD t 0 - dB n m c t) - ((dl n m p (un1 n k)).getD t 0 - dB n m (dl1 k) t) := by omega
      rw [e]
      exact Int.dvd_sub (c2 t ht) (dl_dl1 T hk ht)
  · rintro ⟨w, w1, w2, w3⟩
    refine ⟨fun a => 1 * dl1 k a + (-1) * w a, fun a ha => ?_, fun t ht => ?_⟩
    · by_cases h : a = k
      · subst h; simp [dl1, w1]
      · simp [dl1, h, w2 a (by omega)]
    · rw [dB_lin]
      have e : (dl n m p (un1 n k)).getD t 0 - (1 * dB n m (dl1 k) t + -1 * dB n m w t) = ((dl n m p (un1 n k)).getD t 0 - dB n m (dl1 k) t) + dB n m w t := by omega
      rw [e]
      exact Int.dvd_add (dl_dl1 T hk ht) (w3 t ht)

theorem spK_len (hp : pr p) (k : Nat) : (spK n m p (k + 1)).length = (spK n m p k).length + if newB n m p k then 1 else 0 :=
  (addL_spec hp (spK_ech hp m k) (dl_len n m p (un1 n k))).2.2.2

def comb (p : Nat) (w : Nat → Int) (v : List Int) (x : Nat) : List Int := ((List.range v.length).map fun a => (v.getD a 0 + x * w a) % (p : Int)) ++ [(x : Int)]
theorem comb_len (p : Nat) (w : Nat → Int) (v : List Int) (x : Nat) : (comb p w v x).length = v.length + 1 := by simp [comb]
theorem comb_get {w : Nat → Int} {v : List Int} {x a : Nat} (ha : a < v.length) : (comb p w v x).getD a 0 = (v.getD a 0 + x * w a) % (p : Int) := by
  simp [comb, List.getD, List.getElem?_append, ha]
theorem comb_end {w : Nat → Int} {v : List Int} {x : Nat} : (comb p w v x).getD v.length 0 = (x : Int) := by
  simp [comb, List.getD, List.getElem?_append]

open Classical in
/-- All vectors of k numbers that go to nothing. -/
noncomputable def KL (n : Nat) (m : List Int) (p : Nat) : Nat → List (List Int)
  | 0 => [[]]
  | k + 1 => if h : ∃ w, WK n m p k w then (KL n m p k).flatMap fun v => (List.range p).map (comb p (Classical.choose h) v) else (KL n m p k).map fun v => v ++ [0]

theorem Ker_congr (T : Tab n m) {c d : Nat → Int} (h : ∀ a, a < n → (p : Int) ∣ c a - d a) (hk : Ker n m p d) : Ker n m p c := fun t ht => by
  have hn := T.pos
  have h1 : t / n < n := (Nat.div_lt_iff_lt_mul (by omega)).2 ht
  have h2 : t % n < n := Nat.mod_lt _ (by omega)
  have h3 := T.lt h1 h2
  have := Int.dvd_add (Int.dvd_sub (Int.dvd_add (h _ h1) (h _ h2)) (h _ h3)) (hk t ht)
  simp only [dB] at this ⊢
  rwa [show c (t / n) - d (t / n) + (c (t % n) - d (t % n)) - (c (op m n (t / n) (t % n)) - d (op m n (t / n) (t % n))) + (d (t / n) + d (t % n) - d (op m n (t / n) (t % n))) = c (t / n) + c (t % n) - c (op m n (t / n) (t % n)) by omega] at this

theorem Ker_lin {c d : Nat → Int} (h1 : Ker n m p c) (h2 : Ker n m p d) (a b : Int) : Ker n m p fun k => a * c k + b * d k := fun t ht => by
  rw [dB_lin]
  exact Int.dvd_add (Int.dvd_mul_of_dvd_right (h1 t ht)) (Int.dvd_mul_of_dvd_right (h2 t ht))

theorem snoc_of {v : List Int} {k : Nat} (h : v.length = k + 1) : ∃ u x, v = u ++ [x] ∧ u.length = k := by
  refine ⟨v.take k, v.getD k 0, List.ext_getElem (by simp [h]) fun a a1 a2 => ?_, by simp [h]⟩
  rw [List.getElem_append]
  split
  · rw [List.getElem_take]
  · rename_i hh
    have e : a = k := by simp at hh; omega
    subst e
    simp [List.getD, a1]
theorem snoc_get {u : List Int} {x : Int} {a : Nat} : (u ++ [x]).getD a 0 = if a < u.length then u.getD a 0 else if a = u.length then x else 0 := by
  simp only [List.getD, List.getElem?_append]
  by_cases h : a < u.length
  · simp [h]
  · rw [if_neg h, if_neg h]
    by_cases h2 : a = u.length
    · subst h2; simp
    · rw [if_neg h2]
      have : ([x] : List Int)[a - u.length]? = none := List.getElem?_eq_none (by simp; omega)
      rw [this]; rfl

theorem KL_mem (hp : pr p) (T : Tab n m) : ∀ k, k ≤ n → ∀ v, v ∈ KL n m p k ↔ v.length = k ∧ rng p v ∧ Ker n m p fun a => v.getD a 0
  | 0, _, v => by
    simp only [KL, List.mem_singleton]
    constructor
    · rintro rfl
      exact ⟨rfl, fun t ht => absurd ht (Nat.not_lt_zero _), fun t ht => by simp [dB]⟩
    · exact fun h => List.eq_nil_of_length_eq_zero h.1
  | k + 1, hk, v => by
    have hp2 := hp.le
    have ih := KL_mem hp T k (by omega)
    by_cases h : ∃ w, WK n m p k w
    · obtain ⟨w1, w2, w3⟩ := Classical.choose_spec h
      rw [KL, dif_pos h]
      generalize Classical.choose h = w at w1 w2 w3
      simp only [List.mem_flatMap, List.mem_map, List.mem_range]
      constructor
      · rintro ⟨u, hu, x, hx, rfl⟩
        obtain ⟨u1, u2, u3⟩ := (ih u).1 hu
        refine ⟨by rw [comb_len, u1], fun t ht => ?_, ?_⟩
        · rw [comb_len] at ht
          by_cases h1 : t < u.length
          · rw [comb_get h1]; exact emod_rng (by omega) _
          · obtain rfl : t = u.length := by omega
            rw [comb_end]; omega
        · refine Ker_congr T (fun a ha => ?_) (Ker_lin u3 w3 1 x)
          by_cases h1 : a < u.length
          · rw [comb_get h1, Int.one_mul]; exact dvd_emod_sub _ _
          · by_cases h2 : a = u.length
            · subst h2
              rw [comb_end, u1, w1, ← u1]; simp
            · have e1 : (comb p w u x).getD a 0 = 0 := by simp [List.getD, List.getElem?_eq_none (show (comb p w u x).length ≤ a by rw [comb_len]; omega)]
              have e2 : u.getD a 0 = 0 := by simp [List.getD, List.getElem?_eq_none (show u.length ≤ a by omega)]
              rw [e1, e2, w2 a (by omega)]; simp
      · rintro ⟨h1, h2, h3⟩
        obtain ⟨u, x, rfl, hu⟩ := snoc_of h1
        have hx := h2 k (by omega)
        rw [snoc_get, if_neg (by omega), if_pos hu.symm] at hx
        obtain ⟨y, rfl⟩ := Int.eq_ofNat_of_zero_le hx.1
        refine ⟨(List.range k).map fun a => (u.getD a 0 + (-(y : Int)) * w a) % (p : Int), ?_, y, by omega, ?_⟩
        · rw [ih]
          have lg : ∀ a, a < k → ((List.range k).map fun a => (u.getD a 0 + (-(y : Int)) * w a) % (p : Int)).getD a 0 = (u.getD a 0 + (-(y : Int)) * w a) % (p : Int) := fun a ha => by simp [List.getD, ha]
          refine ⟨by simp, fun t ht => ?_, ?_⟩
          · rw [lg t (by simpa using ht)]; exact emod_rng (by omega) _
          · refine Ker_congr T (fun a ha => ?_) (Ker_lin h3 w3 1 (-(y : Int)))
            by_cases h4 : a < k
            · rw [lg a h4, snoc_get, if_pos (by omega), Int.one_mul]; exact dvd_emod_sub _ _
            · rw [snoc_get, if_neg (by omega)]
              have e1 : ((List.range k).map fun a => (u.getD a 0 + (-(y : Int)) * w a) % (p : Int)).getD a 0 = 0 := by
                rw [List.getD_eq_getElem?_getD, List.getElem?_eq_none (by simp; omega)]; rfl
              rw [e1]
              by_cases h5 : a = u.length
              · rw [if_pos h5, h5, hu, w1, show (0 : Int) - (1 * (y : Int) + -(y : Int) * 1) = 0 by omega]; exact Int.dvd_zero _
              · rw [if_neg h5, w2 a (by omega)]; simp
        · refine List.ext_getElem (by simp [comb, hu]) fun a a1 a2 => ?_
          have hcl : a < k + 1 := by simp [hu] at a2; omega
          have e1 := comb_len p w ((List.range k).map fun a => (u.getD a 0 + (-(y : Int)) * w a) % (p : Int)) y
          rw [List.length_map, List.length_range] at e1
          have q1 : (comb p w ((List.range k).map fun a => (u.getD a 0 + (-(y : Int)) * w a) % (p : Int)) y).getD a 0 = (u ++ [(y : Int)]).getD a 0 := by
            by_cases h4 : a < k
            · rw [comb_get (by simpa using h4), snoc_get, if_pos (by omega)]
              have lg : ((List.range k).map fun a => (u.getD a 0 + (-(y : Int)) * w a) % (p : Int)).getD a 0 = (u.getD a 0 + (-(y : Int)) * w a) % (p : Int) := by simp [List.getD, h4]
              rw [lg, Int.emod_add_emod, show u.getD a 0 + -(y : Int) * w a + y * w a = u.getD a 0 by rw [Int.neg_mul]; omega]
              have := h2 a (by omega)
              rw [snoc_get, if_pos (by omega)] at this
              exact Int.emod_eq_of_lt this.1 this.2
            · obtain rfl : a = k := by omega
              have hl0 : ((List.range a).map fun b => (u.getD b 0 + (-(y : Int)) * w b) % (p : Int)).length = a := by simp
              have := comb_end (p := p) (w := w) (v := (List.range a).map fun b => (u.getD b 0 + (-(y : Int)) * w b) % (p : Int)) (x := y)
              rw [hl0] at this
              rw [this, snoc_get, if_neg (by omega), if_pos hu.symm]
          rw [List.getD_eq_getElem?_getD, List.getElem?_eq_getElem a1, List.getD_eq_getElem?_getD, List.getElem?_eq_getElem a2] at q1
          exact q1
    · rw [KL, dif_neg h]
      simp only [List.mem_map]
      constructor
      · rintro ⟨u, hu, rfl⟩
        obtain ⟨u1, u2, u3⟩ := (ih u).1 hu
        refine ⟨by simp [u1], fun t ht => ?_, ?_⟩
        · rw [snoc_get]
          split
          · rename_i h1; exact u2 t h1
          · split <;> omega
        · refine Ker_congr T (fun a _ => ?_) u3
          rw [snoc_get]
          split
          · simp
          · rename_i h1
            have e2 : u.getD a 0 = 0 := by simp [List.getD, List.getElem?_eq_none (show u.length ≤ a by omega)]
            rw [e2]; split <;> simp
      · rintro ⟨h1, h2, h3⟩
        obtain ⟨u, x, rfl, hu⟩ := snoc_of h1
        have hx := h2 k (by omega)
        rw [snoc_get, if_neg (by omega), if_pos hu.symm] at hx
        have hx0 : x = 0 := by
          refine Classical.byContradiction fun hx0 => h ?_
          obtain ⟨c, hc⟩ := inv_nz hp (x := x) (fun hm => hx0 (by rw [Int.emod_eq_of_lt hx.1 hx.2] at hm; exact hm))
          refine ⟨fun a => if a = k then 1 else c * (u ++ [x]).getD a 0, by simp, fun a ha => ?_, ?_⟩
          · show (if a = k then (1 : Int) else c * (u ++ [x]).getD a 0) = 0
            rw [if_neg (by omega), snoc_get, if_neg (by omega), if_neg (by omega), Int.mul_zero]
          · refine Ker_congr T (fun a ha => ?_) (Ker_lin h3 h3 c 0)
            show (p : Int) ∣ (if a = k then (1 : Int) else c * (u ++ [x]).getD a 0) - (c * (u ++ [x]).getD a 0 + 0 * (u ++ [x]).getD a 0)
            split
            · rename_i e
              rw [e, snoc_get, if_neg (by omega), if_pos hu.symm]
              have := Int.dvd_neg.2 hc
              rwa [show -(c * x - 1) = 1 - (c * x + 0 * x) by omega] at this
            · rw [show c * (u ++ [x]).getD a 0 - (c * (u ++ [x]).getD a 0 + 0 * (u ++ [x]).getD a 0) = 0 by omega]; exact Int.dvd_zero _
        subst hx0
        refine ⟨u, (ih u).2 ⟨hu, fun t ht => ?_, ?_⟩, rfl⟩
        · have := h2 t (by simp; omega)
          rwa [snoc_get, if_pos ht] at this
        · refine Ker_congr T (fun a _ => ?_) h3
          rw [snoc_get]
          split
          · simp
          · rename_i h1
            have e2 : u.getD a 0 = 0 := by simp [List.getD, List.getElem?_eq_none (show u.length ≤ a by omega)]
            rw [e2]; split <;> simp

theorem KL_nodup (hp : pr p) (T : Tab n m) : ∀ k, k ≤ n → (KL n m p k).Nodup
  | 0, _ => by simp [KL]
  | k + 1, hk => by
    have hp2 := hp.le
    have ih := KL_nodup hp T k (by omega)
    have hm := KL_mem hp T k (by omega)
    by_cases h : ∃ w, WK n m p k w
    · rw [KL, dif_pos h]
      generalize Classical.choose h = w
      have inj : ∀ u ∈ KL n m p k, ∀ v ∈ KL n m p k, ∀ x y : Nat, comb p w u x = comb p w v y → u = v ∧ x = y := by
        intro u hu v hv x y he
        obtain ⟨u1, u2, _⟩ := (hm u).1 hu
        obtain ⟨v1, v2, _⟩ := (hm v).1 hv
        have h1 : (comb p w u x).getD k 0 = (comb p w v y).getD k 0 := by rw [he]
        have h2 := comb_end (p := p) (w := w) (v := u) (x := x)
        have h3 := comb_end (p := p) (w := w) (v := v) (x := y)
        rw [u1] at h2
        rw [v1] at h3
        rw [h2, h3] at h1
        have hxy : x = y := by omega
        subst hxy
        refine ⟨List.ext_getElem (by omega) fun a a1 a2 => ?_, rfl⟩
        have h4 : (comb p w u x).getD a 0 = (comb p w v x).getD a 0 := by rw [he]
        rw [comb_get a1, comb_get a2] at h4
        have h5 : (p : Int) ∣ u.getD a 0 - v.getD a 0 := by
          have := Int.dvd_of_emod_eq_zero (Int.emod_eq_emod_iff_emod_sub_eq_zero.1 h4)
          rwa [show u.getD a 0 + x * w a - (v.getD a 0 + x * w a) = u.getD a 0 - v.getD a 0 by omega] at this
        have b1 := u2 a a1
        have b2 := v2 a a2
        have h6 : u.getD a 0 = v.getD a 0 := by
          obtain ⟨q, hq⟩ := h5
          have : q = 0 := by
            rcases Int.lt_trichotomy q 0 with h | h | h
            · have : (p : Int) * q ≤ (p : Int) * (-1) := Int.mul_le_mul_of_nonneg_left (by omega) (by omega)
              omega
            · exact h
            · have : (p : Int) * 1 ≤ (p : Int) * q := Int.mul_le_mul_of_nonneg_left (by omega) (by omega)
              omega
          rw [this] at hq; omega
        simpa [List.getD, a1, a2] using h6
      have gen : ∀ l : List (List Int), l.Nodup → (∀ v ∈ l, v ∈ KL n m p k) → (l.flatMap fun v => (List.range p).map (comb p w v)).Nodup := by
        intro l
        induction l with
        | nil => intro _ _; simp
        | cons v l ihl =>
          intro hn hs
          rw [List.nodup_cons] at hn
          rw [List.flatMap_cons, List.nodup_append]
          refine ⟨nodup_map List.nodup_range fun x _ y _ he => (inj v (hs v (by simp)) v (hs v (by simp)) x y he).2, ihl hn.2 fun u hu => hs u (by simp [hu]), fun a ha b hb hab => ?_⟩
          subst hab
          obtain ⟨x, _, rfl⟩ := List.mem_map.1 ha
          obtain ⟨u, hu, hb⟩ := List.mem_flatMap.1 hb
          obtain ⟨y, _, he⟩ := List.mem_map.1 hb
          have := (inj v (hs v (by simp)) u (hs u (by simp [hu])) x y he.symm).1
          exact hn.1 (this ▸ hu)
      exact gen _ ih fun v hv => hv
    · rw [KL, dif_neg h]
      exact nodup_map ih fun u _ v _ he => List.append_cancel_right he

theorem KL_len (hp : pr p) (T : Tab n m) : ∀ k, k ≤ n → (KL n m p k).length * p ^ (spK n m p k).length = p ^ k
  | 0, _ => by simp [KL, spK]
  | k + 1, hk => by
    have ih := KL_len hp T k (by omega)
    have hs := spK_len (n := n) (m := m) hp k
    have hi := new_iff (m := m) hp T (show k < n by omega)
    by_cases h : ∃ w, WK n m p k w
    · rw [hi.2 h] at hs
      rw [KL, dif_pos h, hs, List.length_flatMap]
      generalize Classical.choose h = w
      have gen : ∀ l : List (List Int), (l.map fun v => ((List.range p).map (comb p w v)).length).sum = l.length * p := by
        intro l
        induction l with
        | nil => simp
        | cons v l ih => rw [List.map_cons, List.sum_cons, ih]; simp [Nat.add_mul]; omega
      rw [gen]
      simp only [Bool.false_eq_true, if_false, Nat.add_zero]
      rw [Nat.pow_succ, ← ih, Nat.mul_right_comm]
    · have hb : newB n m p k = true := by
        cases hb : newB n m p k with
        | true => rfl
        | false => exact absurd (hi.1 hb) h
      rw [hb] at hs
      rw [KL, dif_neg h, hs]
      simp only [if_true, List.length_map]
      rw [Nat.pow_succ, Nat.pow_succ, ← ih, Nat.mul_assoc]

theorem spK_le {n p : Nat} {m : List Int} (hp : pr p) : ∀ k, (spK n m p k).length ≤ k
  | 0 => by simp [spK]
  | k + 1 => by
    have := spK_len (n := n) (m := m) hp k
    have h2 := spK_le (n := n) (m := m) hp k
    split at this <;> omega
theorem KL_pow (hp : pr p) (T : Tab n m) : (KL n m p n).length = p ^ (n - (spK n m p n).length) := by
  have h := KL_len hp T n (Nat.le_refl _)
  have hl := spK_le (n := n) (m := m) hp n
  have hp2 := hp.le
  have hpos : 0 < p ^ (spK n m p n).length := Nat.pow_pos (by omega)
  refine Nat.eq_of_mul_eq_mul_right hpos ?_
  rw [h, ← Nat.pow_add]
  congr 1; omega

theorem ring_op {p a b : Nat} (ha : a < p) (hb : b < p) : op (tbl (fun a b => (((a + b) % p : Nat) : Int)) p) p a b = (a + b) % p := by
  unfold op
  rw [tbl_get _ ha hb]; exact Int.toNat_natCast _

/-- Homomorphisms are what goes to nothing. -/
theorem hom_ker (h : GT n m n e) (hp : pr p) (w : List Int) : (∃ φ, Hmo n (op m n) p (op (tbl (fun a b => (((a + b) % p : Nat) : Int)) p) p) φ ∧ w = tbm n φ) ↔ w ∈ KL n m p n := by
  have T := h.2.1
  have hpos := T.pos
  have hp2 := hp.le
  rw [KL_mem hp T n (Nat.le_refl _)]
  constructor
  · rintro ⟨φ, hφ, rfl⟩
    refine ⟨tbm_len _ _, fun t ht => ?_, fun t ht => ?_⟩
    · rw [tbm_len] at ht
      rw [tbm_get ht]
      have := hφ.lt t ht
      omega
    · have h1 : t / n < n := (Nat.div_lt_iff_lt_mul (by omega)).2 ht
      have h2 : t % n < n := Nat.mod_lt _ (by omega)
      have h3 := T.lt h1 h2
      simp only [dB]
      rw [tbm_get h1, tbm_get h2, tbm_get h3, hφ.mul _ _ h1 h2, ring_op (hφ.lt _ h1) (hφ.lt _ h2)]
      have := Int.dvd_neg.2 (dvd_emod_sub p ((φ (t / n) : Int) + (φ (t % n) : Int)))
      rw [Int.neg_sub] at this
      rw [Int.natCast_emod, Int.natCast_add]
      exact this
  · rintro ⟨h1, h2, h3⟩
    have hnn : ∀ a, a < n → w.getD a 0 = ((w.getD a 0).toNat : Int) := fun a ha => by have := h2 a (by omega); omega
    refine ⟨fun a => (w.getD a 0).toNat, ⟨fun a ha => by have := h2 a (by omega); omega, fun a b ha hb => ?_⟩, ?_⟩
    · have r1 := h2 a (by omega)
      have r2 := h2 b (by omega)
      have hab := T.lt ha hb
      have r3 := h2 _ (show op m n a b < w.length by omega)
      rw [ring_op (by omega) (by omega)]
      have := h3 (a * n + b) (at_lt ha hb)
      simp only [dB] at this
      rw [(dm_at hb).1, (dm_at hb).2] at this
      have e1 : ((w.getD a 0 + w.getD b 0) % (p : Int)) = w.getD (op m n a b) 0 := by
        have e2 := Int.emod_eq_emod_iff_emod_sub_eq_zero.2 (Int.emod_eq_zero_of_dvd this)
        rw [e2]; exact Int.emod_eq_of_lt r3.1 r3.2
      have q1 := hnn a ha
      have q2 := hnn b hb
      have q3 := hnn _ hab
      have : ((((w.getD a 0).toNat + (w.getD b 0).toNat) % p : Nat) : Int) = ((w.getD (op m n a b) 0).toNat : Int) := by
        rw [Int.natCast_emod, Int.natCast_add, ← q1, ← q2, ← q3]; exact e1
      omega
    · refine List.ext_getElem (by rw [tbm_len, h1]) fun a a1 a2 => ?_
      have := hnn a (by omega)
      simp only [List.getD, List.getElem?_eq_getElem a1, Option.getD_some] at this
      simp [tbm, List.getD, a1]
      omega

/-- SO MANY HOMOMORPHISMS. -/
theorem homs_pow (h : GT n m n e) (hp : pr p) {d : Nat} (h' : GT p (tbl (fun a b => (((a + b) % p : Nat) : Int)) p) p d) : (hmW n m e p (tbl (fun a b => (((a + b) % p : Nat) : Int)) p) d).length = p ^ (n - (spK n m p n).length) := by
  rw [← KL_pow hp h.2.1]
  exact same_len (hmW_nodup h h') (KL_nodup hp h.2.1 n (Nat.le_refl _)) fun w => by rw [hmW_mem h h']; exact hom_ker h hp w

theorem homs_few (h : GT n m n e) (hn : n ≤ 12) (hp : pr p) {d : Nat} {M : List Int} (h' : GT p M p d) : (hmW n m e p M d).length ≤ 343 := by
  rw [(rfW_perm h h').length_eq]
  refine Nat.le_trans (hsq_len _ _) ?_
  rw [tn_len]
  have h1 := mkS_le (m := m) h.2.2 hn
  refine Nat.le_trans (Nat.pow_le_pow_left hp.le.2 _) ?_
  exact Nat.le_trans (Nat.pow_le_pow_right (by omega) h1) (by decide)
end
end Go.Proofs.Ytboadfahlflmhaa

/-
  Rows of rows, of the call's own, as many as one likes. Conditions: none; a library text.
-/
set_option linter.all false
namespace Go.Pv
open Go.RowKit

def tl (M : List (List Int)) : Heap := M.map fun v => .own (ol v)
def fr (M : List (List Int)) : Heap := M.map fun v => .fro (il v)
def rwf (N a c : Nat) : List AV := (List.range' a c).map fun q => .sl (q + 3) 0 N
def rws (N c : Nat) : List AV := rwf N 0 c

theorem tl_length (M : List (List Int)) : (tl M).length = M.length := by simp [tl]
theorem rws_length (N c : Nat) : (rws N c).length = c := by simp [rws, rwf]
theorem rws_snoc (N c : Nat) : rws N c ++ [.sl (c + 3) 0 N] = rws N (c + 1) := by
  simp [rws, rwf, List.range'_concat]
theorem hget_eq : ∀ (H : Heap) (k : Nat), hget H k = H.getD k .dead
  | [], k => by simp [hget]
  | b :: r, 0 => by simp [hget]
  | b :: r, k + 1 => by rw [hget, hget_eq r k]; simp
theorem hset_eq : ∀ (H : Heap) (k : Nat) (b : Blk), hset H k b = H.set k b
  | [], k, b => by simp [hset]
  | x :: r, 0, b => by simp [hset]
  | x :: r, k + 1, b => by rw [hset, hset_eq r k]; simp

theorem hget_tl {M : List (List Int)} {i : Nat} (h : i < M.length) : hget (tl M) i = .own (ol (M.getD i [])) := by
  rw [hget_eq]
  simp [tl, List.getD, List.getElem?_map, List.getElem?_eq_getElem h]
theorem hset_tl (M : List (List Int)) (i : Nat) (v : List Int) : hset (tl M) i (.own (ol v)) = tl (M.set i v) := by
  rw [hset_eq]
  simp [tl, List.map_set]
theorem hget_snoc (A : Heap) (x : Blk) : hget (A ++ [x]) A.length = x := by
  rw [hget_app2 (Nat.le_refl _), Nat.sub_self]; rfl
theorem rws_take (N c : Nat) : (rws N c).take c = rws N c := List.take_of_length_le (by rw [rws_length]; exact Nat.le_refl _)
theorem rws_ok (N c : Nat) : (rws N c).all cellOk = true := by
  simp [rws, rwf, cellOk]
theorem tl_snoc (M : List (List Int)) (v : List Int) : tl M ++ [.own (ol v)] = tl (M ++ [v]) := by simp [tl]

/-- A literal of one row of the call's own. -/
theorem build1_does {P : Program} {T : TypeId → Option TI} {s : St} (hT : ∀ t ti, T t = some ti → tiOf P t = some ti) {o : Oper} {t : TypeId} {x : Operand} (ho : o.op = .buildSlice t 1 #[(0, x)]) {ti te : TI} (ht : T t = some ti) {e : TypeId} (hk : ti.kind = .slice e) (hte : T e = some te) (hsz : te.size = 1)
    {k lo len : Nat} (hx : s.ev x = .sl k lo len) : DoesW P o s (.sl s.H.length 0 1) (s.H ++ [.own [.sl k lo len]]) := by
  intro C m a w K Q R hK
  have hv := R.ev x
  rw [hx] at hv
  generalize hev : a.eval x = v at hv
  have hcs : v.cells = #[v] := by
    cases hv with
    | sl _ _ _ _ hk hs =>
      rcases hs with ⟨_, ad, rfl⟩ | ⟨l, cap, _, rfl, _⟩ <;> rfl
  have hu := ti_slice (hT _ _ ht) hk
  obtain ⟨i, d, z, h1, h2, h3, h4, h5, h6, h7, h8⟩ := tiOf_parts (hT _ _ hte)
  have hfill : ∀ cs : Array Value, cs.size = 1 → Instr.fill (fun i => some (i * te.size, te.size)) cs [(0, v)] = some #[v] := by
    intro cs hc
    obtain ⟨y, rfl⟩ : ∃ y, cs = #[y] := by
      match cs, hc with
      | ⟨[y]⟩, _ => exact ⟨y, rfl⟩
    simp [Instr.fill, hcs, hsz]
  have hss := ti_size (hT _ _ hte) w
  have hb : Below w.heap.size w (w.alloc (.cells #[v] e)) := below_alloc _
  have hrun : (execOp a.eval o).run P w = .ok (.value (.slice (some ⟨w.heap.size, 0, none⟩) 1 1)) (w.alloc (.cells #[v] e)) := by
    have hne : ¬ (1 * te.size > 2 ^ 24) := by omega
    have hz : ¬ (1 * te.size = 0) := by omega
    have hf := hfill ((Array.range (1 * te.size)).map (z.cells[· % z.cells.size]!)) (by simp [hsz])
    have hpt : ((#[(0, x)] : Array (Nat × Operand)).map fun q => (q.1, a.eval q.2)).toList = [(0, v)] := by simp [hev]
    simp only [execOp, ho, Instr.buildSlice, Sem.run_bind, run_underlying hu, Result.andThen_ok, hss, Sem.run_ite, hne, if_false, hz, zeroValue, typeInfo, run_program, h1, h3, Sem.run_pure, newRow]
    simp only [hpt, hf, Sem.run_bind, run_newObj, Result.andThen_ok, Sem.run_pure]
    rfl
  have hrel := R.newBlk hb (cur := #[v]) (e := e) (heap_alloc_new w _) (by simp [maxLen]) (c := [.sl k lo len]) (by simp) (fun j hj => by
    simp only [List.length_cons, List.length_nil, Nat.zero_add, Nat.lt_one_iff] at hj
    subst hj
    exact hv)
  refine opR_of_wp (by first | rfl | (rw [ho]; rfl)) ?_
  unfold Oper.wp
  rw [hrun]
  refine hK _ _ _ hrel (.sl _ _ _ _ (by simp) <| .inr ⟨⟨w.heap.size, 0, 1⟩, 1, by simp [mput], by simp, Nat.le_refl _, by simp⟩)

section
variable {P : Program} {c : Code} {Q : Exit → St → Prop}

theorem leH_tl {π : List Nat} {H : Heap} : ∀ (M : List (List Int)) (ks : List Nat), ks.length = M.length → (∀ i, i < M.length → hget H (ks.getD i 0) = .own (ol (M.getD i []))) → LeH π H ks (tl M)
  | [], [], _, _ => trivial
  | [], k :: ks, h, _ => by simp at h
  | v :: M, [], h, _ => by simp at h
  | v :: M, k :: ks, h, hg => by
    refine ⟨?_, leH_tl M ks (by simpa using h) fun i hi => ?_⟩
    · have := hg 0 (by simp)
      simp only [List.getD_cons_zero] at this
      simp only [LeB, this]
      refine ⟨?_, ?_⟩
      · rw [List.take_of_length_le (Nat.le_refl _)]
        simp [ol, Go.Pv.ren, ren1]
      · simp [ol, scA, sc1]
    · have := hg (i + 1) (by simp; omega)
      simpa using this

theorem le_rows {S s : St} {κ N : Nat} {G O : List PV} {M : List (List Int)} {q : Nat} (hq : M.length = q) (hn : S.n = s.n) (hS : S.H = .own (opl G) :: .own (opl O) :: .own (rws N q) :: tl M)
    (hκ : κ ≠ 0 ∧ κ ≠ 1 ∧ (κ = 2 ∨ q + 3 ≤ κ)) (h0 : hget s.H 0 = .own (opl G)) (h1 : hget s.H 1 = .own (opl O)) (h2 : hget s.H κ = .own (rws N q))
    (h3 : ∀ i, i < q → hget s.H (i + 3) = .own (ol (M.getD i []))) (hsl : LeS (0 :: 1 :: κ :: List.range' 3 q) S.sl s) : Le (0 :: 1 :: κ :: List.range' 3 q) S s := by
  subst hq
  refine ⟨hn, ?_, ?_, hsl⟩
  · refine List.nodup_cons.2 ⟨?_, List.nodup_cons.2 ⟨?_, List.nodup_cons.2 ⟨?_, List.nodup_range'⟩⟩⟩
    · simp only [List.mem_cons, List.mem_range'_1]; omega
    · simp only [List.mem_cons, List.mem_range'_1]; omega
    · simp only [List.mem_cons, List.mem_range'_1]; omega
  · rw [hS]
    have pur : ∀ (l : List PV), (opl l).map (Go.Pv.ren (0 :: 1 :: κ :: List.range' 3 M.length)) = (opl l).take (opl l).length ∧ (opl l).all (scA (0 :: 1 :: κ :: List.range' 3 M.length).length) = true := fun l => by
      rw [opl_ren, List.take_of_length_le (Nat.le_refl _)]
      exact ⟨rfl, opl_sc _ _⟩
    refine ⟨?_, ?_, ?_, ?_⟩
    · simp only [LeB, h0]; exact pur G
    · simp only [LeB, h1]; exact pur O
    · simp only [LeB, h2]
      refine ⟨?_, ?_⟩
      · rw [List.take_of_length_le (Nat.le_refl _)]
        refine List.ext_getElem (by simp) fun i hi1 hi2 => ?_
        have hi : i < M.length := by simpa [rws_length] using hi2
        simp [rws, rwf, Go.Pv.ren, ren1, List.getD, List.getElem?_range' hi, Nat.add_comm]
      · rw [List.all_eq_true]
        intro x hx
        simp only [rws, rwf, List.mem_map, List.mem_range'] at hx
        obtain ⟨q, ⟨j, hj, rfl⟩, rfl⟩ := hx
        simp [scA, sc1]
        omega
    · refine leH_tl M _ (by simp) fun i hi => ?_
      have : (List.range' 3 M.length).getD i 0 = i + 3 := by simp [List.getD, List.getElem?_range' hi, Nat.add_comm]
      rw [this]
      exact h3 i hi
end
end Go.Pv

/-
  Rows of rows that are the caller's: the state before and behind a round has the same blocks. Conditions: none; a library text.
-/
set_option linter.all false
namespace Go.Pv
open Go.RowKit

/-- Rows of N numbers each, that lie in the blocks behind. -/
def rwo (d N q : Nat) : List AV := (List.range q).map fun i => .sl (i + d) 0 N
theorem rwo_len (d N q : Nat) : (rwo d N q).length = q := by simp [rwo]
theorem rwo_get {d N q a : Nat} (h : a < q) (x : AV) : (rwo d N q).getD a x = .sl (a + d) 0 N := by
  simp [rwo, List.getD, List.getElem?_map, List.getElem?_range h]
theorem hget_tlX {M : List (List Int)} {X : Heap} {i : Nat} (h : i < M.length) : hget (tl M ++ X) i = .own (ol (M.getD i [])) := by
  rw [hget_app1 (by rw [tl_length]; exact h), hget_tl h]
theorem hset_tlX {M : List (List Int)} {X : Heap} {i : Nat} (h : i < M.length) (v : List Int) : hset (tl M ++ X) i (.own (ol v)) = tl (M.set i v) ++ X := by
  rw [hset_eq, List.set_append_left _ _ (by rw [tl_length]; exact h), ← hset_eq, hset_tl]

theorem ren1_id {L : Nat} {x : AV} (h : sc1 L x = true) : ren1 (List.range L) x = x := by
  have hg : ∀ k, k < L → (List.range L).getD k 0 = k := fun k hk => by simp [List.getD, List.getElem?_range hk]
  cases x <;> simp only [sc1, decide_eq_true_eq] at h <;> first | rfl | (simp only [ren1, hg _ h])
theorem ren_id {L : Nat} {x : AV} (h : scA L x = true) : Go.Pv.ren (List.range L) x = x := by
  have hg : ∀ k, k < L → (List.range L).getD k 0 = k := fun k hk => by simp [List.getD, List.getElem?_range hk]
  have hm : ∀ l : List AV, l.all (sc1 L) = true → l.map (ren1 (List.range L)) = l := fun l hl => by
    have := List.map_congr_left (f := ren1 (List.range L)) (g := id) fun x hx => ren1_id ((List.all_eq_true.1 hl) x hx)
    rw [this, List.map_id]
  cases x with
  | agg l => simp only [Go.Pv.ren]; rw [hm l h]
  | tup l => simp only [Go.Pv.ren]; rw [hm l h]
  | cl f l => simp only [Go.Pv.ren]; rw [hm l h]
  | yv k l vs =>
    simp only [scA, Bool.and_eq_true, decide_eq_true_eq] at h
    simp only [Go.Pv.ren]; rw [hm l h.2, hg _ h.1]
  | _ => simp only [Go.Pv.ren]; exact ren1_id (by simpa only [scA] using h)

/-- Blocks that name no others. -/
def hsc (L : Nat) : Blk → Bool
  | .own c => c.all (scA L)
  | .anc _ j => decide (j < L)
  | _ => true
theorem leH_same {L : Nat} {H : Heap} (hs : ∀ b ∈ H, hsc L b = true) : ∀ (H1 : Heap) (a : Nat), (∀ i, i < H1.length → hget H (a + i) = hget H1 i) → (∀ b ∈ H1, b ∈ H) → a + H1.length ≤ L → LeH (List.range L) H (List.range' a H1.length) H1
  | [], a, _, _, _ => trivial
  | b :: r, a, h, hm, hl => by
    rw [List.length_cons] at hl ⊢
    rw [List.range'_succ]
    refine ⟨?_, leH_same hs r (a + 1) (fun i hi => ?_) (fun x hx => hm x (by simp [hx])) (by omega)⟩
    · have h0 := h 0 (by simp)
      simp only [hget, Nat.add_zero] at h0
      have hb := hs b (hm b (by simp))
      cases b with
      | own c =>
        simp only [LeB, h0, List.length_range]
        refine ⟨?_, hb⟩
        rw [List.take_of_length_le (Nat.le_refl _)]
        have := List.map_congr_left (f := Go.Pv.ren (List.range L)) (g := id) fun x hx => ren_id ((List.all_eq_true.1 hb) x hx)
        rw [this, List.map_id]
      | anc i j =>
        simp only [hsc, decide_eq_true_eq] at hb
        simp only [LeB, h0, List.length_range]
        refine ⟨?_, hb⟩
        simp [List.getD, List.getElem?_range hb]
      | dead => trivial
      | _ => simp only [LeB, h0]
    · have := h (i + 1) (by simp; omega)
      rw [show a + 1 + i = a + (i + 1) by omega, this]; rfl

theorem LeS_same {L : Nat} {s : St} : ∀ {l : List (Nat × AV)}, (∀ p ∈ l, s.get p.1 = p.2 ∧ scA L p.2 = true) → LeS (List.range L) l s
  | [], _ => trivial
  | (t, x) :: r, h => by
    obtain ⟨h1, h2⟩ := h (t, x) (by simp)
    refine ⟨by rw [ren_id h2]; exact h1, by rw [List.length_range]; exact h2, LeS_same fun p hp => h p (by simp [hp])⟩

theorem le_same {S s : St} (hn : S.n = s.n) (hH : S.H = s.H) (hs : ∀ b ∈ s.H, hsc s.H.length b = true) (hsl : ∀ p ∈ S.sl, s.get p.1 = p.2 ∧ scA s.H.length p.2 = true) : Le (List.range s.H.length) S s := by
  refine ⟨hn, List.nodup_range, ?_, LeS_same hsl⟩
  rw [hH]
  have := leH_same hs s.H 0 (fun i _ => by rw [Nat.zero_add]) (fun b hb => hb) (by omega)
  rwa [← List.range_eq_range'] at this

theorem tl_hsc (L : Nat) (M : List (List Int)) : ∀ b ∈ tl M, hsc L b = true := fun b hb => by
  obtain ⟨v, _, rfl⟩ := List.mem_map.1 hb
  exact ol_sc _ _
theorem rwo_sc {d N q L : Nat} (h : q + d ≤ L) : (rwo d N q).all (scA L) = true := by
  rw [List.all_eq_true]
  intro x hx
  obtain ⟨i, hi, rfl⟩ := List.mem_map.1 hx
  have := List.mem_range.1 hi
  simp [scA, sc1]; omega
theorem ancs_hsc {L k n : Nat} (h : k + n ≤ L) : ∀ b ∈ ancs k n, hsc L b = true := fun b hb => by
  obtain ⟨j, hj⟩ := List.getElem?_of_mem hb
  obtain ⟨h1, rfl⟩ := ancs_get _ _ _ _ hj
  simp [hsc]; omega

end Go.Pv

/-
  Walks: the reference's rank. Conditions: none.
-/
set_option linter.all false
namespace Go.Proofs.Ytboadfahlflmhaa
open Go.Pv

def bnd (M : List (List Int)) : Prop := ∀ v ∈ M, ∀ j, 0 ≤ v.getD j 0 ∧ v.getD j 0 ≤ 100
/-- One round. -/
def rkS (p k : Nat) (M : List (List Int)) : List (List Int) := match piv p (M.getD k []) with
  | none => M
  | some c => elI p (M.getD k []) c M k
def rkA (p k : Nat) (M : List (List Int)) : Nat := match piv p (M.getD k []) with
  | none => 0
  | some _ => 1
theorem rkR_step (p k : Nat) (M : List (List Int)) : rkR p (k + 1) M = ((rkR p k (rkS p k M)).1 + rkA p k M, (rkR p k (rkS p k M)).2) := by
  rw [rkR, rkS, rkA]
  cases piv p (M.getD k []) <;> simp

theorem elI_snoc {p : Nat} {r : List Int} {c : Nat} {M : List (List Int)} {i : Nat} (hi : i < M.length) : elI p r c M (i + 1) = (elI p r c M i).set i (if ¬ (M.getD i []).getD c 0 % (p : Int) = 0 then elR p r c (M.getD i []) else M.getD i []) := by
  refine List.ext_getElem (by simp [elI_len]) fun t h1 h2 => ?_
  have ht : t < M.length := by simpa [elI_len] using h1
  have e1 := elI_get (p := p) (r := r) (c := c) (i := i + 1) ht
  have e2 := elI_get (p := p) (r := r) (c := c) (i := i) ht
  rw [List.getD_eq_getElem?_getD, List.getElem?_eq_getElem h1, Option.getD_some] at e1
  rw [List.getD_eq_getElem?_getD, List.getElem?_eq_getElem (by rw [elI_len]; exact ht), Option.getD_some] at e2
  rw [e1, List.getElem_set]
  by_cases h : i = t
  · subst h
    rw [if_pos rfl]
    by_cases hz : ¬ (M.getD i []).getD c 0 % (p : Int) = 0
    · rw [if_pos ⟨by omega, hz⟩, if_pos hz]
    · rw [if_neg (fun hh => hz hh.2), if_neg hz]
  · rw [if_neg h, e2]
    by_cases hz : t < i ∧ ¬ (M.getD t []).getD c 0 % (p : Int) = 0
    · rw [if_pos ⟨by omega, hz.2⟩, if_pos hz]
    · rw [if_neg (fun hh => hz ⟨by omega, hh.2⟩), if_neg hz]

theorem bnd_get {M : List (List Int)} (h : bnd M) (i j : Nat) : 0 ≤ (M.getD i []).getD j 0 ∧ (M.getD i []).getD j 0 ≤ 100 := by
  by_cases hi : i < M.length
  · exact h _ (by simp [List.getD, List.getElem?_eq_getElem hi]) j
  · simp [List.getD, List.getElem?_eq_none (show M.length ≤ i by omega)]
theorem updR_bnd {f : Nat → Int} {i j : Nat} {u : List Int} (hf : ∀ t, 0 ≤ f t ∧ f t ≤ 100) (hu : ∀ t, 0 ≤ u.getD t 0 ∧ u.getD t 0 ≤ 100) (t : Nat) : 0 ≤ (updR f i j u).getD t 0 ∧ (updR f i j u).getD t 0 ≤ 100 := by
  by_cases ht : t < u.length
  · rw [updR_get ht]
    split
    · exact hf t
    · exact hu t
  · simp [List.getD, List.getElem?_eq_none (show (updR f i j u).length ≤ t by rw [updR_len]; omega)]
theorem bnd_set {M : List (List Int)} (h : bnd M) (i : Nat) {v : List Int} (hv : ∀ t, 0 ≤ v.getD t 0 ∧ v.getD t 0 ≤ 100) : bnd (M.set i v) := fun u hu => by
  rcases List.mem_or_eq_of_mem_set hu with h1 | rfl
  · exact h u h1
  · exact hv
theorem elI_bnd {p : Nat} (hp : pr p) {r : List Int} {c : Nat} {M : List (List Int)} (h : bnd M) : ∀ i, i ≤ M.length → bnd (elI p r c M i)
  | 0, _ => by rw [elI_zero]; exact h
  | i + 1, hi => by
    rw [elI_snoc (by omega)]
    refine bnd_set (elI_bnd hp h i (by omega)) i ?_
    split
    · have hp2 := hp.le
      refine updR_bnd (fun t => ?_) (bnd_get h i)
      have := emod_rng (p := p) (by omega) ((M.getD i []).getD t 0 * r.getD c 0 - (M.getD i []).getD c 0 * r.getD t 0)
      omega
    · exact bnd_get h i

theorem mul1e4 {a x : Int} (h1 : 0 ≤ a) (h2 : a ≤ 100) (h3 : 0 ≤ x) (h4 : x ≤ 100) : 0 ≤ a * x ∧ a * x ≤ 10000 :=
  ⟨Int.mul_nonneg h1 h3, Int.le_trans (Int.mul_le_mul h2 h4 h3 (by omega)) (by omega)⟩

set_option maxHeartbeats 4000000 in
set_option maxRecDepth 20000 in
theorem rankMod_c {p N q : Nat} (hp : pr p) (hN : N ≤ 1000) (hq : q ≤ 100000) (M : List (List Int)) (hM : M.length = q) (hr : ∀ v ∈ M, v.length = N) (hb : bnd M) :
    FnM Try.prog 12 [.p (.int .i64 p), .sl 0 0 q] (.own (rwo 1 N q) :: tl M) (.p (.int .i64 ((rkR p q M).1 : Nat))) (.own (rwo 1 N q) :: tl (rkR p q M).2) := by
  have hp2 := hp.le
  have hb' : ∀ {M1 : List (List Int)}, (∀ v ∈ M1, v.length = N) → ∀ i, i < M1.length → (M1.getD i []).length = N := fun {M1} h i hi => h _ (by simp [List.getD, List.getElem?_eq_getElem hi])
  refine fnm_of tab_ok Try.func12 rfl (by kernel_rfl) (by rw [Try.ntmps12]; exact Nat.le_add_left 2 _) ?_; rw [Try.ntmps12]; simp only [ancs, entA, List.length_cons, List.length_nil, List.cons_append, List.nil_append, Nat.reduceAdd, Nat.zero_add]
  have hXs : ∀ b ∈ (.anc 0 0 :: ancs 1 (tl M).length : Heap), hsc (1 + q + (1 + q)) b = true := fun b hb => by
    rcases List.mem_cons.1 hb with rfl | hb
    · simp [hsc]; omega
    · exact ancs_hsc (by rw [tl_length, hM]; omega) b hb
  have hXl : (.anc 0 0 :: ancs 1 (tl M).length : Heap).length = 1 + q := by simp [ancs_length, tl_length, hM]; omega
  generalize (.anc 0 0 :: ancs 1 (tl M).length : Heap) = X at hXs hXl ⊢
  have hHl : ∀ M1 : List (List Int), M1.length = q → (.own (rwo 1 N q) :: (tl M1 ++ X) : Heap).length = 1 + q + (1 + q) := fun M1 h1 => by
    rw [List.length_cons, List.length_append, tl_length, h1, hXl]; omega
  have hHs : ∀ M1 : List (List Int), M1.length = q → ∀ b ∈ (.own (rwo 1 N q) :: (tl M1 ++ X) : Heap), hsc (.own (rwo 1 N q) :: (tl M1 ++ X) : Heap).length b = true := fun M1 h1 b hb => by
    rw [hHl M1 h1]
    rcases List.mem_cons.1 hb with rfl | hb
    · exact rwo_sc (by omega)
    · rcases List.mem_append.1 hb with hb | hb
      · exact tl_hsc _ _ b hb
      · exact hXs b hb
  refine qm ?_
  refine hk_region fun K hK => runs_eval tab_ok ?_
  simp only [ev0, evA, evB, evP, fl, gp, tab, simprocAttr, reduceCtorEq, reduceIte]
  refine fin_run trivial (hK _ ?_) <;> clear hK <;> clear K
  refine qa (qm ?_)
  refine hk_region fun K hK => runs_eval tab_ok ?_
  simp only [ev0, evA, evB, evP, fl, gp, tab, simprocAttr, reduceCtorEq, reduceIte]
  refine fin_run trivial (hK _ ?_) <;> clear hK <;> clear K
  refine qa (qm (ql ?_))
  refine hk_loop (ι := Nat × List (List Int) × Nat) (fun x => ⟨101, [(0, .p (.int .i64 p)), (1, .sl 0 0 x.1), (5, .p (.int .i64 (x.2.2 : Nat)))], .own (rwo 1 N q) :: (tl x.2.1 ++ X)⟩) (fun x => x.1 ≤ q ∧ x.2.1.length = q ∧ (∀ v ∈ x.2.1, v.length = N) ∧ bnd x.2.1 ∧ (rkR p q M).1 = (rkR p x.1 x.2.1).1 + x.2.2 ∧ (rkR p q M).2 = (rkR p x.1 x.2.1).2 ∧ x.1 + x.2.2 ≤ q) (fun x => x.1) (q, M, 0) ⟨Nat.le_refl _, hM, hr, hb, rfl, rfl, by simp⟩ (List.range (.own (rwo 1 N q) :: (tl M ++ X) : Heap).length) (le_same rfl rfl (hHs M hM) (by
    rw [hHl M hM]
    simp [St.get, lk, scA, sc1]; omega)) fun x hx => ?_
  obtain ⟨k, M1, a⟩ := x
  obtain ⟨x1, x2, x3, x4, x5, x6, x7⟩ := hx
  simp only at x1 x2 x3 x4 x5 x6 x7
  refine qm (qm ?_)
  refine hk_region fun K hK => runs_eval tab_ok ?_
  simp only [ev0, evA, evB, evP, fl, gp, tab, simprocAttr, reduceCtorEq, reduceIte]
  refine fin_run trivial (hK _ ?_) <;> clear hK <;> clear K
  refine qa ?_
  refine hk_cond rfl (fun hC1 => ?_) (fun hC1 => ?_)
  · (try simp only [nhs] at hC1)
    obtain ⟨k', rfl⟩ : ∃ k', k = k' + 1 := ⟨k - 1, by omega⟩
    have ej : ((k' + 1 : Nat) : Int) - 1 = ((k' : Nat) : Int) := by omega
    have hkq : k' < q := by omega
    obtain ⟨r, hr0⟩ : ∃ r, M1.getD k' [] = r := ⟨_, rfl⟩
    have hrl : r.length = N := by rw [← hr0]; exact hb' x3 k' (by omega)
    have hrb : ∀ j, 0 ≤ r.getD j 0 ∧ r.getD j 0 ≤ 100 := fun j => by rw [← hr0]; exact bnd_get x4 k' j
    have hgk : hget (tl M1 ++ X) k' = .own (ol r) := by rw [hget_tlX (by omega), hr0]
    refine qh (qa (ql (qm ?_)))
    refine hk_region fun K hK => runs_eval tab_ok ?_
    simp only [ev0, evA, evB, evP, fl, gp, tab, simprocAttr, reduceCtorEq, reduceIte, ej, rwo_len, rwo_get hkq]
    refine fin_run ?_ (hK _ ?_) <;> clear hK <;> clear K
    · exact ⟨⟨by simp only [In64]; omega, by omega, by omega⟩, hkq⟩
    refine qa (qm ?_)
    refine hk_region fun K hK => runs_eval tab_ok ?_
    simp only [ev0, evA, evB, evP, fl, gp, tab, simprocAttr, reduceCtorEq, reduceIte, ej]
    refine fin_run ?_ (hK _ ?_) <;> clear hK <;> clear K
    · (first | exact trivial | omega | (simp only [In64] at *; omega) | (simp [In64] at *; omega) | (simp_all; done) | skip)
    refine qa (qm ?_)
    refine hk_region fun K hK => runs_eval tab_ok ?_
    simp only [ev0, evA, evB, evP, fl, gp, tab, simprocAttr, reduceCtorEq, reduceIte]
    refine fin_run trivial (hK _ ?_) <;> clear hK <;> clear K
    refine qa (qm (ql ?_))
    refine hk_loop (ι := Nat) (fun c => ⟨101, [(0, .p (.int .i64 p)), (1, .sl 0 0 k'), (5, .p (.int .i64 a)), (6, .sl (k' + 1) 0 N), (7, .p (.int .i64 c))], .own (rwo 1 N q) :: (tl M1 ++ X)⟩) (fun c => c ≤ N ∧ ∀ j, j < c → r.getD j 0 % (p : Int) = 0) (fun c => N - c) 0 ⟨Nat.zero_le _, fun j hj => absurd hj (Nat.not_lt_zero _)⟩ (List.range (.own (rwo 1 N q) :: (tl M1 ++ X) : Heap).length) (le_same rfl rfl (hHs M1 x2) (by
      rw [hHl M1 x2]
      simp [St.get, lk, scA, sc1]; omega)) fun c hc => ?_
    obtain ⟨c1, c2⟩ := hc
    have hrc := hrb c
    have htm : Int.tmod (r.getD c 0) p = r.getD c 0 % p := Int.tmod_eq_emod_of_nonneg hrc.1
    refine qm (qm ?_)
    rcases Nat.lt_or_ge c N with hcN | hcN
    · refine hk_region fun K hK => runs_eval tab_ok ?_
      simp only [ev0, evA, evB, evP, fl, gp, tab, simprocAttr, reduceCtorEq, reduceIte, decide_eq_true (show (c : Int) < (N : Int) by omega), hgk, ol_get (show c < r.length by omega), htm]
      refine fin_run ?_ (hK _ ?_) <;> clear hK <;> clear K
      · (first | exact trivial | omega | (simp only [In64] at *; omega) | (simp [In64] at *; omega) | (simp_all; done) | skip)
      refine qa ?_
      refine hk_cond rfl (fun hC2 => ?_) (fun hC2 => ?_)
      · (try simp only [nhs] at hC2)
        have hz : r.getD c 0 % (p : Int) = 0 := by simpa using hC2
        refine qh (qa (ql ?_))
        refine hk_region fun K hK => runs_eval tab_ok ?_
        simp only [ev0, evA, evB, evP, fl, gp, tab, simprocAttr, reduceCtorEq, reduceIte]
        refine fin_run ?_ (hK _ ?_) <;> clear hK <;> clear K
        · (first | exact trivial | omega | (simp only [In64] at *; omega) | (simp [In64] at *; omega) | (simp_all; done) | skip)
        refine qd (qa ?_)
        refine ⟨c + 1, List.range (.own (rwo 1 N q) :: (tl M1 ++ X) : Heap).length, ⟨by omega, fun j hj => ?_⟩, by omega, le_same rfl rfl (hHs M1 x2) (by
          rw [hHl M1 x2]
          simp [St.get, lk, scA, sc1]; omega)⟩
        by_cases e : j = c
        · rw [e]; exact hz
        · exact c2 j (by omega)
      · (try simp only [nhs] at hC2)
        refine qj (qc (qc (qf (qa (qm (qm ?_))))))
        refine hk_region fun K hK => runs_eval tab_ok ?_
        simp only [ev0, evA, evB, evP, fl, gp, tab, simprocAttr, reduceCtorEq, reduceIte]
        refine fin_run trivial (hK _ ?_) <;> clear hK <;> clear K
        refine qa ?_
        refine hk_cond rfl (fun hC3 => ?_) (fun hC3 => ?_)
        · (try simp only [nhs] at hC3)
          omega
        · (try simp only [nhs] at hC3)
          have hpv : piv p r = some c := fst_some (by omega) (by simpa using hC2) fun j hj => by simpa using c2 j hj
          have hS : rkS p k' M1 = elI p r c M1 k' := by unfold rkS; rw [hr0, hpv]
          have hA : rkA p k' M1 = 1 := by unfold rkA; rw [hr0, hpv]
          rw [rkR_step, hS, hA] at x5 x6
          refine qh (qa (qm ?_))
          refine hk_region fun K hK => runs_eval tab_ok ?_
          simp only [ev0, evA, evB, evP, fl, gp, tab, simprocAttr, reduceCtorEq, reduceIte]
          refine fin_run ?_ (hK _ ?_) <;> clear hK <;> clear K
          · (first | exact trivial | omega | (simp only [In64] at *; omega) | (simp [In64] at *; omega) | (simp_all; done) | skip)
          refine qa (qm ?_)
          refine hk_region fun K hK => runs_eval tab_ok ?_
          simp only [ev0, evA, evB, evP, fl, gp, tab, simprocAttr, reduceCtorEq, reduceIte]
          refine fin_run trivial (hK _ ?_) <;> clear hK <;> clear K
          refine qa (ql ?_)
          refine hk_loop (ι := Nat) (fun i => ⟨101, [(0, .p (.int .i64 p)), (1, .sl 0 0 k'), (5, .p (.int .i64 ((a + 1 : Nat) : Int))), (6, .sl (k' + 1) 0 N), (7, .p (.int .i64 c)), (8, .p (.int .i64 i))], .own (rwo 1 N q) :: (tl (elI p r c M1 i) ++ X)⟩) (fun i => i ≤ k') (fun i => k' - i) 0 (Nat.zero_le _) (List.range (.own (rwo 1 N q) :: (tl M1 ++ X) : Heap).length) (le_same rfl (by rw [elI_zero]) (hHs M1 x2) (by
            rw [hHl M1 x2]
            simp [St.get, lk, scA, sc1]; omega)) fun i hi => ?_
          have l2 := elI_len p r c M1 i
          have l3 : (elI p r c M1 i).length = q := by omega
          refine qm (qm ?_)
          refine hk_region fun K hK => runs_eval tab_ok ?_
          simp only [ev0, evA, evB, evP, fl, gp, tab, simprocAttr, reduceCtorEq, reduceIte]
          refine fin_run trivial (hK _ ?_) <;> clear hK <;> clear K
          refine qa ?_
          refine hk_cond rfl (fun hC4 => ?_) (fun hC4 => ?_)
          · (try simp only [nhs] at hC4)
            have hik : i < k' := by omega
            obtain ⟨v, hv0⟩ : ∃ v, M1.getD i [] = v := ⟨_, rfl⟩
            have hvl : v.length = N := by rw [← hv0]; exact hb' x3 i (by omega)
            have hvb : ∀ j, 0 ≤ v.getD j 0 ∧ v.getD j 0 ≤ 100 := fun j => by rw [← hv0]; exact bnd_get x4 i j
            have hei : (elI p r c M1 i).getD i [] = v := by rw [elI_get (by omega), if_neg (fun h => by omega), hv0]
            have hek : (elI p r c M1 i).getD k' [] = r := by rw [elI_get (by omega), if_neg (fun h => by omega), hr0]
            have hgi : hget (tl (elI p r c M1 i) ++ X) i = .own (ol v) := by rw [hget_tlX (by omega), hei]
            have htm2 : Int.tmod (v.getD c 0) p = v.getD c 0 % p := Int.tmod_eq_emod_of_nonneg (hvb c).1
            have hsn := elI_snoc (p := p) (r := r) (c := c) (show i < M1.length by omega)
            rw [hv0] at hsn
            refine qh (qa (qm (ql (qm ?_))))
            refine hk_region fun K hK => runs_eval tab_ok ?_
            simp only [ev0, evA, evB, evP, fl, gp, tab, simprocAttr, reduceCtorEq, reduceIte, rwo_len, rwo_get (show i < q by omega), hgi, ol_get (show c < v.length by omega)]
            refine fin_run ?_ (hK _ ?_) <;> clear hK <;> clear K
            · exact ⟨⟨⟨⟨by omega, by omega⟩, by omega⟩, by omega, by omega⟩, by omega⟩
            refine qa (qm (qm ?_))
            refine hk_region fun K hK => runs_eval tab_ok ?_
            simp only [ev0, evA, evB, evP, fl, gp, tab, simprocAttr, reduceCtorEq, reduceIte, htm2]
            refine fin_run ?_ (hK _ ?_) <;> clear hK <;> clear K
            · (first | exact trivial | omega | (simp only [In64] at *; omega) | (simp [In64] at *; omega) | (simp_all; done) | skip)
            refine qa ?_
            refine hk_cond rfl (fun hC5 => ?_) (fun hC5 => ?_)
            · (try simp only [nhs] at hC5)
              have hz : v.getD c 0 % (p : Int) = 0 := by simpa using hC5
              rw [if_neg (fun h => h hz)] at hsn
              have hst : (elI p r c M1 i).set i v = elI p r c M1 i := by
                refine List.ext_getElem (by simp) fun t h1 h2 => ?_
                rw [List.getElem_set]
                split
                · rename_i e
                  subst e
                  rw [List.getD_eq_getElem?_getD, List.getElem?_eq_getElem h2] at hei
                  exact hei.symm
                · rfl
              refine qj (qc (qf (qa ?_)))
              refine hk_region fun K hK => runs_eval tab_ok ?_
              simp only [ev0, evA, evB, evP, fl, gp, tab, simprocAttr, reduceCtorEq, reduceIte]
              refine fin_run ?_ (hK _ ?_) <;> clear hK <;> clear K
              · (first | exact trivial | omega | (simp only [In64] at *; omega) | (simp [In64] at *; omega) | (simp_all; done) | skip)
              refine qa ?_
              refine ⟨i + 1, List.range (.own (rwo 1 N q) :: (tl (elI p r c M1 i) ++ X) : Heap).length, by omega, by omega, le_same rfl (by rw [hsn, hst]) (hHs _ l3) (by
                rw [hHl _ l3]
                simp [St.get, lk, scA, sc1]; omega)⟩
            · (try simp only [nhs] at hC5)
              refine qh (qa (qm ?_))
              refine hk_region fun K hK => runs_eval tab_ok ?_
              simp only [ev0, evA, evB, evP, fl, gp, tab, simprocAttr, reduceCtorEq, reduceIte]
              refine fin_run trivial (hK _ ?_) <;> clear hK <;> clear K
              refine qa (ql ?_)
              have hz : ¬ v.getD c 0 % (p : Int) = 0 := by simpa using hC5
              rw [if_pos hz] at hsn
              obtain ⟨F, hF⟩ : ∃ F : Nat → Int, F = fun t => (v.getD t 0 * r.getD c 0 - v.getD c 0 * r.getD t 0) % (p : Int) := ⟨_, rfl⟩
              have hst : (elI p r c M1 i).set i v = elI p r c M1 i := by
                refine List.ext_getElem (by simp) fun t h1 h2 => ?_
                rw [List.getElem_set]
                split
                · rename_i e
                  subst e
                  rw [List.getD_eq_getElem?_getD, List.getElem?_eq_getElem h2] at hei
                  exact hei.symm
                · rfl
              refine hk_loop (ι := Nat) (fun j => ⟨101, [(0, .p (.int .i64 p)), (1, .sl 0 0 k'), (5, .p (.int .i64 ((a + 1 : Nat) : Int))), (6, .sl (k' + 1) 0 N), (7, .p (.int .i64 c)), (8, .p (.int .i64 i)), (9, .p (.int .i64 (v.getD c 0))), (10, .p (.int .i64 j))], .own (rwo 1 N q) :: (tl ((elI p r c M1 i).set i (updR F 0 j v)) ++ X)⟩) (fun j => j ≤ N) (fun j => N - j) 0 (Nat.zero_le _) (List.range (.own (rwo 1 N q) :: (tl (elI p r c M1 i) ++ X) : Heap).length) (le_same rfl (by rw [updR_start, hst]) (hHs _ l3) (by
                rw [hHl _ l3]
                simp [St.get, lk, scA, sc1]; omega)) fun j hj => ?_
              have ul : (updR F 0 j v).length = N := by rw [updR_len, hvl]
              obtain ⟨u, hu⟩ : ∃ u, updR F 0 j v = u := ⟨_, rfl⟩
              rw [hu] at ul ⊢
              obtain ⟨M2, hM2⟩ : ∃ M2, (elI p r c M1 i).set i u = M2 := ⟨_, rfl⟩
              have l4 : M2.length = q := by rw [← hM2, List.length_set, l3]
              have g1 : M2.getD i [] = u := by rw [← hM2]; simp [List.getD, l3, show i < q by omega]
              have g2 : M2.getD k' [] = r := by
                rw [← hM2, List.getD_eq_getElem?_getD, List.getElem?_set_ne (show i ≠ k' by omega), ← List.getD_eq_getElem?_getD, hek]
              rw [hM2]
              have G1 : hget (tl M2 ++ X) i = .own (ol u) := by rw [hget_tlX (by omega), g1]
              have G2 : hget (tl M2 ++ X) k' = .own (ol r) := by rw [hget_tlX (by omega), g2]
              refine qm (qm ?_)
              refine hk_region fun K hK => runs_eval tab_ok ?_
              simp only [ev0, evA, evB, evP, fl, gp, tab, simprocAttr, reduceCtorEq, reduceIte]
              refine fin_run trivial (hK _ ?_) <;> clear hK <;> clear K
              refine qa ?_
              refine hk_cond rfl (fun hC6 => ?_) (fun hC6 => ?_)
              · (try simp only [nhs] at hC6)
                have hjN : j < N := by omega
                have huj : u.getD j 0 = v.getD j 0 := by rw [← hu, updR_get (by omega), if_neg (by omega)]
                have hrj := hrb j
                have hrc := hrb c
                have hvj := hvb j
                have hvc := hvb c
                have m1 := mul1e4 hvj.1 hvj.2 hrc.1 hrc.2
                have m2 := mul1e4 hvc.1 hvc.2 hrj.1 hrj.2
                have G3 : ∀ w, hset (tl M2 ++ X) i (.own (ol w)) = tl (M2.set i w) ++ X := fun w => hset_tlX (by omega) w
                have ht1 := Int.lt_tmod_of_pos (v.getD j 0 * r.getD c 0 - v.getD c 0 * r.getD j 0) (show (0 : Int) < p by omega)
                have ht2 := Int.tmod_lt_of_pos (v.getD j 0 * r.getD c 0 - v.getD c 0 * r.getD j 0) (show (0 : Int) < p by omega)
                have hs : u.set j ((v.getD j 0 * r.getD c 0 - v.getD c 0 * r.getD j 0) % (p : Int)) = updR F 0 (j + 1) v := by
                  rw [← hu]
                  have := updR_set (f := F) (i := 0) (Nat.zero_le j) (show j < v.length by omega)
                  rw [← this, hF]
                refine qh (qa (qm (ql ?_)))
                refine hk_draw mixed (by kernel_rfl) fun K hK => runs_eval tab_ok ?_
                simp only [ev0, evA, evB, evP, fl, gp, tab, simprocAttr, reduceCtorEq, reduceIte, rwo_len, rwo_get (show i < q by omega), G1, G2, G3, ol_get (show j < u.length by omega), ol_get (show c < r.length by omega), ol_get (show j < r.length by omega), huj, tmod2 (show 0 < p by omega), ol_set, hs]
                refine fin_run ?_ (hK _ ?_) <;> clear hK <;> clear K
                · simp only [In64]; omega
                refine qd (qa ?_)
                refine hk_region fun K hK => runs_eval tab_ok ?_
                simp only [ev0, evA, evB, evP, fl, gp, tab, simprocAttr, reduceCtorEq, reduceIte]
                refine fin_run ?_ (hK _ ?_) <;> clear hK <;> clear K
                · (first | exact trivial | omega | (simp only [In64] at *; omega) | (simp [In64] at *; omega) | (simp_all; done) | skip)
                refine qa ?_
                refine ⟨j + 1, List.range (.own (rwo 1 N q) :: (tl (M2.set i (updR F 0 (j + 1) v)) ++ X) : Heap).length, by omega, by omega, le_same rfl (by rw [← hM2, List.set_set]) (hHs _ (by rw [List.length_set, l4])) (by
                  rw [hHl _ (by rw [List.length_set, l4])]
                  simp [St.get, lk, scA, sc1]; omega)⟩
              · (try simp only [nhs] at hC6)
                refine qj (qc (qc (qf (qd (qa ?_)))))
                refine hk_region fun K hK => runs_eval tab_ok ?_
                simp only [ev0, evA, evB, evP, fl, gp, tab, simprocAttr, reduceCtorEq, reduceIte]
                refine fin_run ?_ (hK _ ?_) <;> clear hK <;> clear K
                · (first | exact trivial | omega | (simp only [In64] at *; omega) | (simp [In64] at *; omega) | (simp_all; done) | skip)
                refine qa ?_
                have hjN : j = N := by omega
                have hue : u = elR p r c v := by rw [← hu, hF, elR, hvl, hjN]
                refine ⟨i + 1, List.range (.own (rwo 1 N q) :: (tl M2 ++ X) : Heap).length, by omega, by omega, le_same rfl (by rw [hsn, ← hM2, hue]) (hHs _ l4) (by
                  rw [hHl _ l4]
                  simp [St.get, lk, scA, sc1]; omega)⟩
          · (try simp only [nhs] at hC4)
            refine qj (qc (qc (qf (qd (qa ?_)))))
            have hik : i = k' := by omega
            subst hik
            refine ⟨(i, elI p r c M1 i, a + 1), List.range (.own (rwo 1 N q) :: (tl (elI p r c M1 i) ++ X) : Heap).length, ⟨by omega, l3, elI_row x3, elI_bnd hp x4 i (by omega), by simp only; omega, x6, by simp only; omega⟩, by simp only; omega, le_same rfl rfl (hHs _ l3) (by
              rw [hHl _ l3]
              simp [St.get, lk, scA, sc1]; omega)⟩
    · refine hk_region fun K hK => runs_eval tab_ok ?_
      simp only [ev0, evA, evB, evP, fl, gp, tab, simprocAttr, reduceCtorEq, reduceIte, decide_eq_false (show ¬ (c : Int) < (N : Int) by omega)]
      refine fin_run trivial (hK _ ?_) <;> clear hK <;> clear K
      refine qa ?_
      refine hk_cond rfl (fun hC2 => ?_) (fun hC2 => ?_)
      · cases hC2
      · refine qj (qc (qc (qf (qa (qm (qm ?_))))))
        refine hk_region fun K hK => runs_eval tab_ok ?_
        simp only [ev0, evA, evB, evP, fl, gp, tab, simprocAttr, reduceCtorEq, reduceIte]
        refine fin_run trivial (hK _ ?_) <;> clear hK <;> clear K
        refine qa ?_
        refine hk_cond rfl (fun hC3 => ?_) (fun hC3 => ?_)
        · (try simp only [nhs] at hC3)
          have hcn : c = r.length := by omega
          have hpv : piv p r = none := fst_none fun j hj => by simpa using c2 j (by omega)
          have hS : rkS p k' M1 = M1 := by unfold rkS; rw [hr0, hpv]
          have hA : rkA p k' M1 = 0 := by unfold rkA; rw [hr0, hpv]
          rw [rkR_step, hS, hA] at x5 x6
          refine qj (qc (qf (qa ?_)))
          refine ⟨(k', M1, a), List.range (.own (rwo 1 N q) :: (tl M1 ++ X) : Heap).length, ⟨by omega, x2, x3, x4, by simpa using x5, x6, by simp only; omega⟩, by simp only; omega, le_same rfl rfl (hHs M1 x2) (by
            rw [hHl M1 x2]
            simp [St.get, lk, scA, sc1]; omega)⟩
        · (try simp only [nhs] at hC3)
          omega
  · (try simp only [nhs] at hC1)
    refine qj (qc (qc (qf (qa (qm ?_)))))
    refine hk_region fun K hK => runs_eval tab_ok ?_
    simp only [ev0, evA, evB, evP, fl, gp, tab, simprocAttr, reduceCtorEq, reduceIte]
    refine fin_run trivial (hK _ ?_) <;> clear hK <;> clear K
    refine qa (qk ?_)
    simp only [Try.results12, PostG, endG, rvsA, rvA, mkTup, ev0, evA, evB, evP, fl, gp, tab, simprocAttr, reduceCtorEq, reduceIte]
    have hk0 : k = 0 := by omega
    subst hk0
    have e1 : (rkR p q M).1 = a := by rw [x5]; simp [rkR]
    have e2 : (rkR p q M).2 = M1 := by rw [x6]; rfl
    rw [e1, e2]
    refine ⟨List.range (.own (rwo 1 N q) :: (tl M1 ++ X) : Heap).length, rfl, rfl, le_same rfl rfl (hHs _ x2) (by simp)⟩
end Go.Proofs.Ytboadfahlflmhaa

/-
  A call that writes what is the caller's own, in a region that draws its order. Conditions: none; a library text.
-/
set_option linter.all false
namespace Go.Pv
open Go.RowKit

theorem LeH_congr {π : List Nat} {H H2 : Heap} : ∀ {ks : List Nat} {H1 : Heap}, (∀ k ∈ ks, hget H2 k = hget H k) → LeH π H ks H1 → LeH π H2 ks H1
  | [], [], _, _ => trivial
  | [], _ :: _, _, h => h.elim
  | _ :: _, [], _, h => h.elim
  | k :: ks, b :: r, he, h => by
    refine ⟨?_, LeH_congr (fun j hj => he j (by simp [hj])) h.2⟩
    have h1 := h.1
    have e := he k (by simp)
    cases b <;> simp only [LeB, e] at h1 ⊢ <;> exact h1

/-- Arguments that are pure or name blocks. -/
def argN1 (ks : List Nat) (x a : AV) : Prop :=
  match a with
  | .p pv => x = .p pv
  | a => x = Go.Pv.ren ks a ∧ scA ks.length a = true
def argsN (ks : List Nat) : List AV → List AV → Prop
  | x :: xs, a :: avs => argN1 ks x a ∧ argsN ks xs avs
  | [], [] => True
  | _, _ => False
theorem argsN_M {H : Heap} {ks : List Nat} : ∀ {X avs : List AV}, argsN ks X avs → argsM H ks X avs
  | [], [], _ => trivial
  | [], _ :: _, h => h.elim
  | _ :: _, [], h => h.elim
  | x :: xs, a :: avs, h => by
    refine ⟨?_, argsN_M h.2⟩
    have h1 := h.1
    cases a with
    | p pv =>
      simp only [argN1] at h1
      subst h1
      simp only [argM1, peekG, peekS, and_self]
    | _ => simp only [argN1] at h1; simp only [argM1]; exact h1

theorem putM_zip : ∀ (ks : List Nat) (bs H : Heap), ks.Nodup → ks.length = bs.length → putM H ks bs = setL H (ks.zip bs)
  | [], [], H, _, _ => by simp [putM, setL]
  | [], _ :: _, H, _, h => by simp at h
  | _ :: _, [], H, _, h => by simp at h
  | k :: ks, b :: bs, H, hn, hl => by
    rw [List.nodup_cons] at hn
    simp only [putM, List.zip_cons_cons, setL]
    rw [putM_zip ks bs _ hn.2 (by simpa using hl)]
    have hno : ((ks.zip bs).any fun p => p.1 == k) = false := by
      rw [List.any_eq_false]
      intro p hp e
      have e : p.1 = k := by simpa using e
      exact hn.1 (e ▸ (List.of_mem_zip hp).1)
    refine hget_ext (by rw [setL_length, hset_length, hset_length, setL_length]) fun j => ?_
    rw [setL_hget, hset_length, hset_hget, hset_hget, setL_length, setL_hget]
    by_cases h : j = k
    · subst h
      rw [hno, if_neg (fun hh => by cases hh.1)]
      by_cases h2 : j < H.length
      · rw [if_pos ⟨rfl, h2⟩, if_pos ⟨rfl, h2⟩]
      · rw [if_neg (fun hh => h2 hh.2), if_neg (fun hh => h2 hh.2), if_neg (fun hh => by cases hh.1)]
    · rw [if_neg (show ¬ (j = k ∧ k < H.length) from fun hh => h hh.1), if_neg (show ¬ (j = k ∧ k < H.length) from fun hh => h hh.1)]

section
variable {P : Program} {s : St}

theorem runs2_callM {all : Array Oper} {rest : List Oper} {K : St → List I2 → Prop} {acc : List I2} {dst : Option Tmp} {ty : TypeId} {pos : String} {aft : Array Edge} {gd : Option (Nat × Bool)} {fo : Operand} {args : Array Operand} {ts : Array TypeId} {g : FuncId} {avs : List AV} {H0 H1 : Heap} {r : AV} (ks : List Nat)
    (hc : FnM P g avs H0 r H1) (hlen : ks.length = H1.length) {cap : List PV} (hfo : s.ev fo = .p (.fn g cap)) (hg : guardA all s { dst := dst, op := .call { callee := .value fo, args := args, argTypes := ts }, type := ty, pos := pos, after := aft, guard := gd } = some true)
    (hargs : argsN ks (args.toList.map s.ev ++ cap.map .p) avs) (hle : LeH ks s.H ks H0) (hnd : ks.Nodup) (hks : ∀ k ∈ ks, k < s.H.length) (hsc : scM r H0 H1 = true) (hd : dstOk s dst)
    (h : Runs2 P all rest K (({ s with H := setL s.H (ks.zip (H1.map (Blk.ren ks))) } : St).put dst (Go.Pv.ren ks r)) (acc ++ [⟨.ms (ks.zip (H1.map (Blk.ren ks))), Go.Pv.ren ks r, .dead, false⟩])) :
    Runs2 P all ({ dst := dst, op := .call { callee := .value fo, args := args, argTypes := ts }, type := ty, pos := pos, after := aft, guard := gd } :: rest) K s acc := by
  obtain ⟨s', xs, hr, hK⟩ := h
  have hz : ∀ p ∈ ks.zip (H1.map (Blk.ren ks)), p.1 ∈ ks ∧ p.2 ∈ H1.map (Blk.ren ks) := fun p hp => List.of_mem_zip hp
  refine ⟨s', ⟨.ms (ks.zip (H1.map (Blk.ren ks))), Go.Pv.ren ks r, .dead, false⟩ :: xs, .op hg (dstOk_spec hd) ⟨⟨fun p hp => hks _ (hz p hp).1, fun p hp i j e => ?_⟩, ?_⟩ (fun h => by cases h) hr, by rw [List.append_assoc] at hK; exact hK⟩
  · obtain ⟨b, hb, e2⟩ := List.mem_map.1 (hz p hp).2
    unfold scM at hsc
    simp only [Bool.and_eq_true] at hsc
    have := (List.all_eq_true.1 hsc.1.1.1.2) b hb
    rw [e] at e2
    cases b <;> simp [Blk.ren] at e2 this
  · intro s2 hn ha hH
    simp only [Agree, Op.operands, Call.operands] at ha
    have h1 : s2.ev fo = .p (.fn g cap) := (ha fo (by simp)).trans hfo
    have h2 : args.toList.map s2.ev = args.toList.map s.ev := List.map_congr_left fun x hx => ha x (by simp; right; simpa using hx)
    have hHl : ∀ k ∈ ks, k < s2.H.length ∧ hget s2.H k = hget s.H k := fun k hk => by
      obtain ⟨i, hi, e⟩ := List.getElem_of_mem hk
      have hi2 : i < (ks.zip (H1.map (Blk.ren ks))).length := by simp; omega
      have := hH _ (List.getElem_mem hi2)
      rwa [List.getElem_zip, e] at this
    have hle2 := LeH_congr (fun k hk => (hHl k hk).2) hle
    have hdo := call_doesM (P := P) (s := s2) (o := { dst := dst, op := .call { callee := .value fo, args := args, argTypes := ts }, type := ty, pos := pos, after := aft, guard := gd }) rfl h1 hc (ks := ks) (by rw [h2]; exact argsN_M hargs) hle2 hnd (List.all_eq_true.2 fun k hk => by simpa using (hHl k hk).1) hsc
    have e0 : H1.length - ks.length = 0 := by omega
    rw [e0] at hdo
    simp only [List.range'_zero, List.append_nil] at hdo
    rw [putM_zip ks _ _ hnd (by simp [hlen])] at hdo
    exact hdo
end
end Go.Pv

/-
  The reference's equations, and their rank. Conditions: none.
-/
set_option linter.all false
namespace Go.Pv
open Go.RowKit
theorem hget_snocT {M : List (List Int)} {q : Nat} {x : Blk} (h : M.length = q) : hget (tl M ++ [x]) q = x := by
  have := hget_snoc (tl M) x
  rwa [tl_length, h] at this
theorem hset_snocT {M : List (List Int)} {q : Nat} {x y : Blk} (h : M.length = q) : hset (tl M ++ [x]) q y = tl M ++ [y] := by
  rw [hset_eq, List.set_append_right _ _ (by rw [tl_length]; omega), tl_length, h, Nat.sub_self]; rfl
theorem hget_snocT2 {M : List (List Int)} {q : Nat} {x y : Blk} (h : M.length = q) : hget (tl M ++ [x] ++ [y]) (q + 1) = y := by
  have : q + 1 = (tl M ++ [x]).length := by simp [tl_length, h]
  rw [this]; exact hget_snoc _ _
theorem hget_snocT3 {M : List (List Int)} {q : Nat} {x y z : Blk} (h : M.length = q) : hget (tl M ++ [x] ++ [y] ++ [z]) (q + 2) = z := by
  have : q + 2 = (tl M ++ [x] ++ [y]).length := by simp [tl_length, h]
  rw [this]; exact hget_snoc _ _
theorem hget_snocT4 {M : List (List Int)} {q i : Nat} (h : M.length = q) (hi : i < q + 1) (v : List Int) (y z : Blk) : hget (tl M ++ [.own (ol v)] ++ [y] ++ [z]) i = .own (ol ((M ++ [v]).getD i [])) := by
  rw [tl_snoc, hget_app1 (by rw [List.length_append, tl_length]; simp; omega), hget_app1 (by rw [tl_length]; simp; omega), hget_tl (by simp; omega)]
/-- Rows that are lent, with their table. -/
theorem leH_lend {H : Heap} {N q : Nat} {M : List (List Int)} (hM : M.length = q) (h0 : hget H 2 = .own (rws N q)) (h1 : ∀ i, i < q → hget H (i + 3) = .own (ol (M.getD i []))) : LeH (2 :: List.range' 3 q) H (2 :: List.range' 3 q) (.own (rwo 1 N q) :: tl M) := by
  subst hM
  refine ⟨?_, leH_tl M _ (by simp) fun i hi => ?_⟩
  · simp only [LeB, h0]
    refine ⟨?_, rwo_sc (by simp <;> omega)⟩
    rw [List.take_of_length_le (by rw [rws_length, rwo_len]; exact Nat.le_refl _)]
    refine List.ext_getElem (by simp [rws_length, rwo_len]) fun i hi1 hi2 => ?_
    have hi : i < M.length := by simpa [rws_length] using hi2
    simp [rwo, rws, rwf, Go.Pv.ren, ren1, List.getD, List.getElem?_range' hi, Nat.add_comm]
  · have : (List.range' 3 M.length).getD i 0 = i + 3 := by simp [List.getD, List.getElem?_range' hi, Nat.add_comm]
    rw [this]
    exact h1 i hi
theorem mpKeep_tl : ∀ {M M' : List (List Int)}, M.length ≤ M'.length → mpKeep (tl M) (tl M') = true
  | [], M', _ => by cases M' <;> simp [tl, mpKeep]
  | v :: M, [], h => by simp at h
  | v :: M, w :: M', h => by
    have := mpKeep_tl (M := M) (M' := M') (by simpa using h)
    simpa [tl, mpKeep] using this
theorem scM_rows {N q : Nat} {M M' : List (List Int)} {v : PV} (h : M.length = q) (h' : M'.length = q) : scM (.p v) (.own (rwo 1 N q) :: tl M) (.own (rwo 1 N q) :: tl M') = true := by
  unfold scM
  simp only [Bool.and_eq_true]
  refine ⟨⟨⟨⟨rfl, ?_⟩, ?_⟩, ?_⟩, ?_⟩
  · rw [List.all_cons, Bool.and_eq_true]
    refine ⟨rwo_sc (by simp [tl_length, h']), ?_⟩
    rw [List.all_eq_true]
    intro b hb
    obtain ⟨w, _, rfl⟩ := List.mem_map.1 hb
    exact ol_sc _ _
  · simp [tl_length, h, h']
  · simp only [mpKeep]; exact mpKeep_tl (by omega)
  · rw [List.all_eq_true]
    intro b hb
    rcases List.mem_cons.1 hb with rfl | hb
    · rfl
    · obtain ⟨w, _, rfl⟩ := List.mem_map.1 hb
      rfl
end Go.Pv
namespace Go.Proofs.Ytboadfahlflmhaa
open Go.Pv

theorem rkR_len (p : Nat) : ∀ (k : Nat) (M : List (List Int)), (rkR p k M).2.length = M.length
  | 0, M => rfl
  | k + 1, M => by
    rw [rkR]
    split
    · exact rkR_len p k M
    · rw [rkR_len p k]; exact elI_len _ _ _ _ _
section
variable {n p : Nat} {m : List Int}
/-- The reference's row of an equation. -/
def eqQ (n : Nat) (m : List Int) (p a b c : Nat) : List Int :=
  inc (a * n + b) ((p : Int) - 1) (inc (op m n a b * n + c) ((p : Int) - 1) (inc (a * n + op m n b c) 1 (inc (b * n + c) 1 (List.replicate (n * n) 0))))
theorem eqQ_len (a b c : Nat) : (eqQ n m p a b c).length = n * n := by simp [eqQ, inc_len]
theorem eqQ_get {a b c t : Nat} (ht : t < n * n) : (eqQ n m p a b c).getD t 0 = (if t = b * n + c then 1 else 0) + (if t = a * n + op m n b c then 1 else 0) + (if t = op m n a b * n + c then ((p : Int) - 1) else 0) + (if t = a * n + b then ((p : Int) - 1) else 0) := by
  unfold eqQ
  rw [inc_get (by simp [inc_len]; exact ht), inc_get (by simp [inc_len]; exact ht), inc_get (by simp [inc_len]; exact ht), inc_get (by simpa using ht)]
  simp [List.getD, ht]
def EM (n : Nat) (m : List Int) (p k : Nat) : List (List Int) := (List.range k).map fun t => eqQ n m p (t / (n * n)) (t / n % n) (t % n)
theorem EM_len (k : Nat) : (EM n m p k).length = k := by simp [EM]
theorem EM_succ (k : Nat) : EM n m p (k + 1) = EM n m p k ++ [eqQ n m p (k / (n * n)) (k / n % n) (k % n)] := by simp [EM, List.range_succ]
theorem EM_get {k t : Nat} (ht : t < k) : (EM n m p k).getD t [] = eqQ n m p (t / (n * n)) (t / n % n) (t % n) := by
  simp [EM, List.getD, List.getElem?_map, List.getElem?_range ht]
theorem EM_row (k : Nat) : ∀ v ∈ EM n m p k, v.length = n * n := fun v hv => by
  obtain ⟨t, _, rfl⟩ := List.mem_map.1 hv
  exact eqQ_len _ _ _

theorem eq_same {a b c t : Nat} (ht : t < n * n) : (p : Int) ∣ (eqQ n m p a b c).getD t 0 - (eqR n m a b c).getD t 0 := by
  rw [eqQ_get ht, eqR_get ht]
  have h1 : ∀ P : Prop, [Decidable P] → (p : Int) ∣ (if P then ((p : Int) - 1) else 0) - (if P then -1 else 0) := fun P _ => by
    by_cases h : P
    · rw [if_pos h, if_pos h]; exact ⟨1, by omega⟩
    · rw [if_neg h, if_neg h]; exact Int.dvd_zero _
  obtain ⟨u, hu⟩ := h1 (t = op m n a b * n + c)
  obtain ⟨v, hv⟩ := h1 (t = a * n + b)
  generalize (if t = b * n + c then (1 : Int) else 0) = A
  generalize (if t = a * n + op m n b c then (1 : Int) else 0) = B
  generalize (if t = op m n a b * n + c then ((p : Int) - 1) else 0) = C at hu ⊢
  generalize (if t = op m n a b * n + c then (-1 : Int) else 0) = D at hu ⊢
  generalize (if t = a * n + b then ((p : Int) - 1) else 0) = E at hv ⊢
  generalize (if t = a * n + b then (-1 : Int) else 0) = F at hv ⊢
  exact ⟨u + v, by rw [Int.mul_add]; omega⟩

theorem EM_sp (hp : pr p) {K : Nat} : ∀ k, k ≤ K → ∀ x, Sp p (n * n) (eqK n m p k) x ↔ SpM p (n * n) (EM n m p K) k x
  | 0, _, x => ⟨fun ⟨c, hc⟩ => fun j hj => by simpa [eqK, lsum] using hc j hj, fun h => Sp.zero h⟩
  | k + 1, hk, x => by
    have h3 := (addL_spec hp (eqK_ech hp m k) (eqR_len n m (k / (n * n)) (k / n % n) (k % n))).2.2.1 x
    show Sp p (n * n) (addL p (eqK n m p k) (eqR n m (k / (n * n)) (k / n % n) (k % n))).1 x ↔ _
    rw [h3]
    refine exists_congr fun t => ?_
    rw [EM_sp hp (K := K) k (by omega)]
    have e : ∀ j, j < n * n → (p : Int) ∣ t * (eqQ n m p (k / (n * n)) (k / n % n) (k % n)).getD j 0 - t * (eqR n m (k / (n * n)) (k / n % n) (k % n)).getD j 0 := fun j hj => by
      rw [← Int.mul_sub]; exact Int.dvd_mul_of_dvd_right (eq_same hj)
    rw [EM_get (by omega)]
    exact ⟨fun h => h.congr fun j hj => by
        have := Int.dvd_neg.2 (e j hj)
        rwa [show -(t * (eqQ n m p (k / (n * n)) (k / n % n) (k % n)).getD j 0 - t * (eqR n m (k / (n * n)) (k / n % n) (k % n)).getD j 0) = x j - t * (eqQ n m p (k / (n * n)) (k / n % n) (k % n)).getD j 0 - (x j - t * (eqR n m (k / (n * n)) (k / n % n) (k % n)).getD j 0) by omega] at this,
      fun h => h.congr fun j hj => by
        have := e j hj
        rwa [show t * (eqQ n m p (k / (n * n)) (k / n % n) (k % n)).getD j 0 - t * (eqR n m (k / (n * n)) (k / n % n) (k % n)).getD j 0 = x j - t * (eqR n m (k / (n * n)) (k / n % n) (k % n)).getD j 0 - (x j - t * (eqQ n m p (k / (n * n)) (k / n % n) (k % n)).getD j 0) by omega] at this⟩

/-- The reference's rank is the program's. -/
theorem EM_rank (hp : pr p) (K : Nat) : (rkR p K (EM n m p K)).1 = (eqK n m p K).length := by
  rw [rkR_rank hp K _ (EM_row K) (by rw [EM_len]; exact Nat.le_refl _)]
  obtain ⟨g1, g2⟩ := adK_ech hp (EM_row (n := n) (m := m) (p := p) K) K (by rw [EM_len]; exact Nat.le_refl _)
  exact Ech.same hp g1 (eqK_ech hp m K) fun x => by rw [g2 x, EM_sp hp K (Nat.le_refl _) x]
end
end Go.Proofs.Ytboadfahlflmhaa

/-
  Walks: extensions: the document's words. Conditions: none.
-/
set_option linter.all false
namespace Go.Proofs.Ytboadfahlflmhaa
open Go.Pv

theorem extFault_c (N : Int) (m : List Int) (p : Int) (hm : m.length ≤ 1000000000000000) : FnC Try.prog 7 [gp N m, .int .i64 p] (fl (xf N m p)) := by
  refine fnc_of tab_ok Try.func7 rfl (by kernel_rfl) (by rw [Try.ntmps7]; exact Nat.le_add_left 2 _) ?_; rw [Try.ntmps7]
  refine qm ?_
  refine hk_region fun K hK => runs_eval tab_ok ?_
  simp only [ev0, evA, evB, evP, fl, gp, tab, simprocAttr, reduceCtorEq, reduceIte]
  refine fin_run ?_ (hK _ ?_) <;> clear hK <;> clear K
  · (first | exact trivial | omega | (simp only [In64] at *; omega) | (simp [In64] at *; omega) | (simp_all; done) | skip)
  refine qa (qm ?_)
  refine hk_region fun K hK => runs_eval tab_ok ?_
  simp only [ev0, evA, evB, evP, fl, gp, tab, simprocAttr, reduceCtorEq, reduceIte]
  refine fin_stop trivial (runs_call (gf_c N m hm) rfl rfl rfl (by simp only [dstOk, Nat.reduceLT]) (by repeat (first | exact trivial | constructor)) (runs_eval tab_ok ?_))
  simp only [ev0, evA, evB, evP, fl, gp, tab, simprocAttr, reduceCtorEq, reduceIte]
  refine fin_run ?_ (hK _ ?_) <;> clear hK <;> clear K
  · (first | exact trivial | omega | (simp only [In64] at *; omega) | (simp [In64] at *; omega) | (simp_all; done) | skip)
  refine qa (qm (qm ?_))
  by_cases g2a : (gf N m).1 = 0
  · refine hk_region fun K hK => runs_eval tab_ok ?_
    simp only [ev0, evA, evB, evP, fl, gp, tab, simprocAttr, reduceCtorEq, reduceIte, decide_eq_true g2a]
    refine fin_run ?_ (hK _ ?_) <;> clear hK <;> clear K
    · (first | exact trivial | omega | (simp only [In64] at *; omega) | (simp [In64] at *; omega) | (simp_all; done) | skip)
    refine qa ?_
    refine hk_cond rfl (fun hC1 => ?_) (fun hC1 => ?_)
    · (try simp only [nhs] at hC1)
      refine hk_region fun K hK => runs_eval tab_ok ?_
      simp only [ev0, evA, evB, evP, fl, gp, tab, simprocAttr, reduceCtorEq, reduceIte]
      refine fin_stop trivial (runs_call (f_c 2 0) rfl rfl rfl (by simp only [dstOk, Nat.reduceLT]) (by repeat (first | exact trivial | constructor)) (runs_eval tab_ok ?_))
      simp only [ev0, evA, evB, evP, fl, gp, tab, simprocAttr, reduceCtorEq, reduceIte]
      refine fin_run ?_ (hK _ ?_) <;> clear hK <;> clear K
      · (first | exact trivial | omega | (simp only [In64] at *; omega) | (simp [In64] at *; omega) | (simp_all; done) | skip)
      refine qa (qm (qm ?_))
      refine hk_region fun K hK => runs_eval tab_ok ?_
      simp only [ev0, evA, evB, evP, fl, gp, tab, simprocAttr, reduceCtorEq, reduceIte]
      refine fin_run ?_ (hK _ ?_) <;> clear hK <;> clear K
      · (first | exact trivial | omega | (simp only [In64] at *; omega) | (simp [In64] at *; omega) | (simp_all; done) | skip)
      refine qa ?_
      refine hk_cond rfl (fun hC2 => ?_) (fun hC2 => ?_)
      · cases hC2
      · refine qh (qa (qm ?_))
        refine hk_region fun K hK => runs_eval tab_ok ?_
        simp only [ev0, evA, evB, evP, fl, gp, tab, simprocAttr, reduceCtorEq, reduceIte]
        refine fin_run ?_ (hK _ ?_) <;> clear hK <;> clear K
        · (first | exact trivial | omega | (simp only [In64] at *; omega) | (simp [In64] at *; omega) | (simp_all; done) | skip)
        refine qa (qk ?_)
        simp only [Try.results7, enA, ev0, evA, evB, evP, fl, gp, tab, simprocAttr, reduceCtorEq, reduceIte]
        have hz := @gf_zero N m
        simp only [xf]
        first | (simp_all; done) | (simp_all; rw [if_neg (by omega)]; exact ⟨rfl, rfl⟩)
    · (try simp only [nhs] at hC1)
      refine qh (qa (qm (qm ?_)))
      by_cases g4b : p = 2
      · refine hk_region fun K hK => runs_eval tab_ok ?_
        simp only [ev0, evA, evB, evP, fl, gp, tab, simprocAttr, reduceCtorEq, reduceIte, g2a, decide_eq_true g4b]
        refine fin_run ?_ (hK _ ?_) <;> clear hK <;> clear K
        · (first | exact trivial | omega | (simp only [In64] at *; omega) | (simp [In64] at *; omega) | (simp_all; done) | skip)
        refine qa ?_
        refine hk_cond rfl (fun hC2 => ?_) (fun hC2 => ?_)
        · cases hC2
        · refine qh (qa (qm ?_))
          refine hk_region fun K hK => runs_eval tab_ok ?_
          simp only [ev0, evA, evB, evP, fl, gp, tab, simprocAttr, reduceCtorEq, reduceIte]
          refine fin_run ?_ (hK _ ?_) <;> clear hK <;> clear K
          · (first | exact trivial | omega | (simp only [In64] at *; omega) | (simp [In64] at *; omega) | (simp_all; done) | skip)
          refine qa (qk ?_)
          simp only [Try.results7, enA, ev0, evA, evB, evP, fl, gp, tab, simprocAttr, reduceCtorEq, reduceIte]
          have hz := @gf_zero N m
          simp only [xf]
          first | (simp_all; done) | (simp_all; rw [if_neg (by omega)]; exact ⟨rfl, rfl⟩)
      · by_cases g4c : p = 3
        · refine hk_region fun K hK => runs_eval tab_ok ?_
          simp only [ev0, evA, evB, evP, fl, gp, tab, simprocAttr, reduceCtorEq, reduceIte, g2a, decide_eq_false g4b, decide_eq_true g4c]
          refine fin_run ?_ (hK _ ?_) <;> clear hK <;> clear K
          · (first | exact trivial | omega | (simp only [In64] at *; omega) | (simp [In64] at *; omega) | (simp_all; done) | skip)
          refine qa ?_
          refine hk_cond rfl (fun hC2 => ?_) (fun hC2 => ?_)
          · cases hC2
          · refine qh (qa (qm ?_))
            refine hk_region fun K hK => runs_eval tab_ok ?_
            simp only [ev0, evA, evB, evP, fl, gp, tab, simprocAttr, reduceCtorEq, reduceIte]
            refine fin_run ?_ (hK _ ?_) <;> clear hK <;> clear K
            · (first | exact trivial | omega | (simp only [In64] at *; omega) | (simp [In64] at *; omega) | (simp_all; done) | skip)
            refine qa (qk ?_)
            simp only [Try.results7, enA, ev0, evA, evB, evP, fl, gp, tab, simprocAttr, reduceCtorEq, reduceIte]
            have hz := @gf_zero N m
            simp only [xf]
            first | (simp_all; done) | (simp_all; rw [if_neg (by omega)]; exact ⟨rfl, rfl⟩)
        · by_cases g4d : p = 5
          · refine hk_region fun K hK => runs_eval tab_ok ?_
            simp only [ev0, evA, evB, evP, fl, gp, tab, simprocAttr, reduceCtorEq, reduceIte, g2a, decide_eq_false g4b, decide_eq_false g4c, decide_eq_true g4d]
            refine fin_run ?_ (hK _ ?_) <;> clear hK <;> clear K
            · (first | exact trivial | omega | (simp only [In64] at *; omega) | (simp [In64] at *; omega) | (simp_all; done) | skip)
            refine qa ?_
            refine hk_cond rfl (fun hC2 => ?_) (fun hC2 => ?_)
            · cases hC2
            · refine qh (qa (qm ?_))
              refine hk_region fun K hK => runs_eval tab_ok ?_
              simp only [ev0, evA, evB, evP, fl, gp, tab, simprocAttr, reduceCtorEq, reduceIte]
              refine fin_run ?_ (hK _ ?_) <;> clear hK <;> clear K
              · (first | exact trivial | omega | (simp only [In64] at *; omega) | (simp [In64] at *; omega) | (simp_all; done) | skip)
              refine qa (qk ?_)
              simp only [Try.results7, enA, ev0, evA, evB, evP, fl, gp, tab, simprocAttr, reduceCtorEq, reduceIte]
              have hz := @gf_zero N m
              simp only [xf]
              first | (simp_all; done) | (simp_all; rw [if_neg (by omega)]; exact ⟨rfl, rfl⟩)
          · refine hk_region fun K hK => runs_eval tab_ok ?_
            simp only [ev0, evA, evB, evP, fl, gp, tab, simprocAttr, reduceCtorEq, reduceIte, g2a, decide_eq_false g4b, decide_eq_false g4c, decide_eq_false g4d]
            refine fin_run ?_ (hK _ ?_) <;> clear hK <;> clear K
            · (first | exact trivial | omega | (simp only [In64] at *; omega) | (simp [In64] at *; omega) | (simp_all; done) | skip)
            refine qa ?_
            refine hk_cond rfl (fun hC2 => ?_) (fun hC2 => ?_)
            · (try simp only [nhs] at hC2)
              refine hk_region fun K hK => runs_eval tab_ok ?_
              simp only [ev0, evA, evB, evP, fl, gp, tab, simprocAttr, reduceCtorEq, reduceIte]
              refine fin_stop trivial (runs_call (f_c 3 1) rfl rfl rfl (by simp only [dstOk, Nat.reduceLT]) (by repeat (first | exact trivial | constructor)) (runs_eval tab_ok ?_))
              simp only [ev0, evA, evB, evP, fl, gp, tab, simprocAttr, reduceCtorEq, reduceIte]
              refine fin_run ?_ (hK _ ?_) <;> clear hK <;> clear K
              · (first | exact trivial | omega | (simp only [In64] at *; omega) | (simp [In64] at *; omega) | (simp_all; done) | skip)
              refine qa (qm ?_)
              refine hk_region fun K hK => runs_eval tab_ok ?_
              simp only [ev0, evA, evB, evP, fl, gp, tab, simprocAttr, reduceCtorEq, reduceIte]
              refine fin_run ?_ (hK _ ?_) <;> clear hK <;> clear K
              · (first | exact trivial | omega | (simp only [In64] at *; omega) | (simp [In64] at *; omega) | (simp_all; done) | skip)
              refine qa (qk ?_)
              simp only [Try.results7, enA, ev0, evA, evB, evP, fl, gp, tab, simprocAttr, reduceCtorEq, reduceIte]
              have hz := @gf_zero N m
              simp only [xf]
              first | (simp_all; done) | (simp_all; rw [if_neg (by omega)]; exact ⟨rfl, rfl⟩)
            · (try simp only [nhs] at hC2)
              refine qh (qa (qm ?_))
              refine hk_region fun K hK => runs_eval tab_ok ?_
              simp only [ev0, evA, evB, evP, fl, gp, tab, simprocAttr, reduceCtorEq, reduceIte]
              refine fin_run ?_ (hK _ ?_) <;> clear hK <;> clear K
              · (first | exact trivial | omega | (simp only [In64] at *; omega) | (simp [In64] at *; omega) | (simp_all; done) | skip)
              refine qa (qk ?_)
              simp only [Try.results7, enA, ev0, evA, evB, evP, fl, gp, tab, simprocAttr, reduceCtorEq, reduceIte]
              have hz := @gf_zero N m
              simp only [xf]
              first | (simp_all; done) | (simp_all; rw [if_neg (by omega)]; exact ⟨rfl, rfl⟩)
  · refine hk_region fun K hK => runs_eval tab_ok ?_
    simp only [ev0, evA, evB, evP, fl, gp, tab, simprocAttr, reduceCtorEq, reduceIte, decide_eq_false g2a]
    refine fin_run ?_ (hK _ ?_) <;> clear hK <;> clear K
    · (first | exact trivial | omega | (simp only [In64] at *; omega) | (simp [In64] at *; omega) | (simp_all; done) | skip)
    refine qa ?_
    refine hk_cond rfl (fun hC1 => ?_) (fun hC1 => ?_)
    · cases hC1
    · refine qh (qa (qm (qm ?_)))
      refine hk_region fun K hK => runs_eval tab_ok ?_
      simp only [ev0, evA, evB, evP, fl, gp, tab, simprocAttr, reduceCtorEq, reduceIte, g2a]
      refine fin_run ?_ (hK _ ?_) <;> clear hK <;> clear K
      · (first | exact trivial | omega | (simp only [In64] at *; omega) | (simp [In64] at *; omega) | (simp_all; done) | skip)
      refine qa ?_
      refine hk_cond rfl (fun hC2 => ?_) (fun hC2 => ?_)
      · cases hC2
      · refine qh (qa (qm ?_))
        refine hk_region fun K hK => runs_eval tab_ok ?_
        simp only [ev0, evA, evB, evP, fl, gp, tab, simprocAttr, reduceCtorEq, reduceIte]
        refine fin_run ?_ (hK _ ?_) <;> clear hK <;> clear K
        · (first | exact trivial | omega | (simp only [In64] at *; omega) | (simp [In64] at *; omega) | (simp_all; done) | skip)
        refine qa (qk ?_)
        simp only [Try.results7, enA, ev0, evA, evB, evP, fl, gp, tab, simprocAttr, reduceCtorEq, reduceIte]
        have hz := @gf_zero N m
        simp only [xf]
        first | (simp_all; done) | (simp_all; rw [if_neg (by omega)]; exact ⟨rfl, rfl⟩)

/-! ### The document's cocycles -/

/-! ### The document's bounds -/

end Go.Proofs.Ytboadfahlflmhaa

/-
  Walks: dihedral groups, dicyclic ones, products; the example of the document. Conditions: none.
-/
set_option linter.all false
namespace Go.Proofs.Ytboadfahlflmhaa
open Go.Pv

/-! ### The example of the document -/

end Go.Proofs.Ytboadfahlflmhaa

/-
  Walks: products of groups. Conditions: none.
-/
set_option linter.all false
namespace Go.Proofs.Ytboadfahlflmhaa
open Go.Pv

/-! ### Products -/

end Go.Proofs.Ytboadfahlflmhaa

/-
  Orders of inverses and products: plain laws, with no program in sight. Conditions: none.
-/
set_option linter.all false
namespace Go.Proofs.Ytboadfahlflmhaa
open Go.Pv

section
variable {n : Nat} {f : Nat → Nat → Nat} {e : Nat}

end

/-! ### Things, out of their fault -/

end Go.Proofs.Ytboadfahlflmhaa

/-
  Products of groups: plain laws, with no program in sight. Conditions: none.
-/
set_option linter.all false
namespace Go.Proofs.Ytboadfahlflmhaa
open Go.Pv

theorem Grp.congr {n : Nat} {f f' : Nat → Nat → Nat} {e : Nat} (G : Grp n f e) (h : ∀ a b, a < n → b < n → f' a b = f a b) : Grp n f' e := by
  refine ⟨G.pos, fun a b ha hb => by rw [h a b ha hb]; exact G.cl a b ha hb, G.el, fun a ha => by rw [h e a G.el ha]; exact G.one_l a ha, fun a ha => by rw [h a e ha G.el]; exact G.one_r a ha, fun a b c ha hb hc => ?_, fun a ha => ?_⟩
  · rw [h a b ha hb, h _ c (G.cl a b ha hb) hc, h b c hb hc, h a _ ha (G.cl b c hb hc)]
    exact G.assoc a b c ha hb hc
  · obtain ⟨b, hb, h1, h2⟩ := G.inv a ha
    exact ⟨b, hb, by rw [h a b ha hb]; exact h1, by rw [h b a hb ha]; exact h2⟩
theorem tbl_op (g : Nat → Nat → Nat) {n a b : Nat} (ha : a < n) (hb : b < n) : op (tbl (fun a b => (g a b : Nat)) n) n a b = g a b := by
  unfold op
  rw [tbl_get _ ha hb]; rfl
theorem tbl_GT {n e : Nat} {g : Nat → Nat → Nat} (hn : n ≤ 60) (G : Grp n g e) : GT n (tbl (fun a b => (g a b : Nat)) n) n e := by
  refine ⟨rfl, ⟨G.pos, hn, tbl_len _ _, fun i hi => ?_⟩, G.congr fun a b ha hb => tbl_op g ha hb⟩
  have h1 : i / n < n := Nat.div_lt_of_lt_mul hi
  have h2 : i % n < n := Nat.mod_lt _ G.pos
  have h3 : i / n * n + i % n = i := by rw [Nat.mul_comm]; exact Nat.div_add_mod i n
  have := tbl_get (fun a b => ((g a b : Nat) : Int)) h1 h2
  rw [h3] at this
  rw [this]
  have := G.cl _ _ h1 h2
  omega

section
variable {n n' e e' : Nat} {f f' : Nat → Nat → Nat}

end

end Go.Proofs.Ytboadfahlflmhaa

/-
  Plain law: cyclic, dihedral and dicyclic tables are groups; what is told of them. Conditions: none.
-/
set_option linter.all false
namespace Go.Proofs.Ytboadfahlflmhaa
open Go.Pv

theorem cyc_grp {n : Nat} (hn : 1 ≤ n) : Grp n (cyc n) 0 where
  pos := hn
  cl a b _ _ := Nat.mod_lt _ hn
  el := hn
  one_l a ha := by simp only [cyc, Nat.zero_add]; exact Nat.mod_eq_of_lt ha
  one_r a ha := by simp only [cyc, Nat.add_zero]; exact Nat.mod_eq_of_lt ha
  assoc a b c _ _ _ := by simp only [cyc, Nat.mod_add_mod, Nat.add_mod_mod, Nat.add_assoc]
  inv a ha := ⟨(n - a) % n, Nat.mod_lt _ hn, by simp only [cyc, Nat.add_mod_mod]; rw [Nat.add_sub_cancel' (by omega), Nat.mod_self], by simp only [cyc, Nat.mod_add_mod]; rw [Nat.sub_add_cancel (by omega), Nat.mod_self]⟩

/-- Two rows of q things. -/
def gx (q c i s j t : Nat) : Nat := (i + (if s + t = 2 then c else 0) + (if s = 1 then q - j else j)) % q
def gen (q c a b : Nat) : Nat := gx q c (a % q) (a / q) (b % q) (b / q) + (a / q + b / q) % 2 * q

/-! ### The three tables -/

theorem cyc_GT {n : Nat} (h1 : 1 ≤ n) (h2 : n ≤ 60) : GT n (tbl (fun a b => (cyc n a b : Nat)) n) n 0 := tbl_GT h2 (cyc_grp h1)
/-! ### The dihedral group moves the corners -/

/-! ### The dicyclic group -/

section
variable {n : Nat} (h1 : 1 ≤ n) (h2 : n ≤ 15)
include h1
include h2
end
end Go.Proofs.Ytboadfahlflmhaa

/-
  The law of sizes: by the ranks of equations; homomorphisms are counted. Conditions: none.
-/
set_option linter.all false
namespace Go.Proofs.Ytboadfahlflmhaa
open Go.Pv

set_option maxHeartbeats 4000000 in
theorem sizes_1 (N : Int) (m : List Int) (p : Int) (hm : m.length ≤ 17592186043904) (hx : ¬ (xf N m p).1 = 0) : FnC Try.prog 3 [gp N m, .int .i64 p] (.bool true) := by
  refine fnc_of tab_ok Try.func3 rfl (by kernel_rfl) (by rw [Try.ntmps3]; exact Nat.le_add_left 2 _) ?_; rw [Try.ntmps3]
  refine qm ?_
  refine hk_region fun K hK => runs_eval tab_ok ?_
  simp only [ev0, evA, evB, evP, fl, gp, tab, simprocAttr, reduceCtorEq, reduceIte]
  refine fin_run ?_ (hK _ ?_) <;> clear hK <;> clear K
  · (first | exact trivial | omega | (simp only [In64] at *; omega) | (simp [In64] at *; omega) | (simp_all; done) | skip)
  refine qa (qm ?_)
  refine hk_region fun K hK => runs_eval tab_ok ?_
  simp only [ev0, evA, evB, evP, fl, gp, tab, simprocAttr, reduceCtorEq, reduceIte]
  refine fin_stop trivial (runs_call (ownGroup_c N m hm) rfl rfl rfl (by simp only [dstOk, Nat.reduceLT]) (by repeat (first | exact trivial | constructor)) (runs_eval tab_ok ?_))
  simp only [ev0, evA, evB, evP, fl, gp, tab, simprocAttr, reduceCtorEq, reduceIte]
  refine fin_stop trivial (runs_call (sizes_no N m p (by omega) hx) rfl rfl rfl (by simp only [dstOk, Nat.reduceLT]) (by repeat (first | exact trivial | constructor)) (runs_eval tab_ok ?_))
  simp only [ev0, evA, evB, evP, fl, gp, tab, simprocAttr, reduceCtorEq, reduceIte]
  refine fin_run ?_ (hK _ ?_) <;> clear hK <;> clear K
  · (first | exact trivial | omega | (simp only [In64] at *; omega) | (simp [In64] at *; omega) | (simp_all; done) | skip)
  refine qa (qm ?_)
  refine hk_region fun K hK => runs_eval tab_ok ?_
  simp only [ev0, evA, evB, evP, fl, gp, tab, simprocAttr, reduceCtorEq, reduceIte]
  refine fin_stop trivial (runs_call (extFault_c N m p (by omega)) rfl rfl rfl (by simp only [dstOk, Nat.reduceLT]) (by repeat (first | exact trivial | constructor)) (runs_eval tab_ok ?_))
  simp only [ev0, evA, evB, evP, fl, gp, tab, simprocAttr, reduceCtorEq, reduceIte]
  refine fin_run ?_ (hK _ ?_) <;> clear hK <;> clear K
  · (first | exact trivial | omega | (simp only [In64] at *; omega) | (simp [In64] at *; omega) | (simp_all; done) | skip)
  refine qa (qm (qm ?_))
  refine hk_region fun K hK => runs_eval tab_ok ?_
  simp only [ev0, evA, evB, evP, fl, gp, tab, simprocAttr, reduceCtorEq, reduceIte, beq_self_eq_true, Bool.and_self, Bool.not_true]
  refine fin_stop trivial (runs_call (begun_x) rfl rfl rfl (by simp only [dstOk, Nat.reduceLT]) (by repeat (first | exact trivial | constructor)) (runs_eval tab_ok ?_))
  simp only [ev0, evA, evB, evP, fl, gp, tab, simprocAttr, reduceCtorEq, reduceIte, beq_self_eq_true, Bool.and_self, Bool.not_true]
  refine fin_run ?_ (hK _ ?_) <;> clear hK <;> clear K
  · (first | exact trivial | omega | (simp only [In64] at *; omega) | (simp [In64] at *; omega) | (simp_all; done) | skip)
  refine qa ?_
  refine hk_cond rfl (fun hC1 => ?_) (fun hC1 => ?_)
  · cases hC1
  · (try simp only [nhs] at hC1)
    refine qh (qa (qm (qm ?_)))
    refine hk_region fun K hK => runs_eval tab_ok ?_
    simp only [ev0, evA, evB, evP, fl, gp, tab, simprocAttr, reduceCtorEq, reduceIte]
    refine fin_run ?_ (hK _ ?_) <;> clear hK <;> clear K
    · (first | exact trivial | omega | (simp only [In64] at *; omega) | (simp [In64] at *; omega) | (simp_all; done) | skip)
    refine qa ?_
    refine hk_cond rfl (fun hC2 => ?_) (fun hC2 => ?_)
    · (try simp only [nhs] at hC2)
      refine qm ?_
      refine hk_region fun K hK => runs_eval tab_ok ?_
      simp only [ev0, evA, evB, evP, fl, gp, tab, simprocAttr, reduceCtorEq, reduceIte]
      refine fin_stop ?_ (runs_op (arrEq3_does tab_ok rfl rfl rfl rfl rfl rfl rfl rfl (by kernel_rfl)) rfl (by simp only [dstOk, Nat.reduceLT]) (runs_eval tab_ok ?_))
      · (first | exact trivial | omega | (simp only [In64] at *; omega) | (simp [In64] at *; omega) | (simp_all; done) | skip)
      simp only [ev0, evA, evB, evP, fl, gp, tab, simprocAttr, reduceCtorEq, reduceIte]
      refine fin_run ?_ (hK _ ?_) <;> clear hK <;> clear K
      · (first | exact trivial | omega | (simp only [In64] at *; omega) | (simp [In64] at *; omega) | (simp_all; done) | skip)
      refine qa (qk (qb ?_))
      simp only [Try.results3, enA, ev0, evA, evB, evP, fl, gp, tab, simprocAttr, reduceCtorEq, reduceIte]
      all_goals ((first | exact rfl | exact ⟨rfl, rfl⟩ | exact ⟨rfl, rfl, rfl⟩ | exact ⟨trivial, rfl⟩ | exact ⟨Nat.le_refl _, rfl⟩ | trivial | (simp; done)))
    · (try simp only [nhs] at hC2)
      exact absurd hC2 hx
theorem pow_div {p d k : Nat} (hp : 2 ≤ p) (h : k < d) : p ^ (d - k) / p = p ^ (d - (k + 1)) ∧ 1 < p ^ (d - k) := by
  obtain ⟨r, hr⟩ : ∃ r, d - k = r + 1 := ⟨d - k - 1, by omega⟩
  rw [hr, show d - (k + 1) = r by omega, Nat.pow_succ, Nat.mul_div_cancel _ (by omega)]
  refine ⟨rfl, ?_⟩
  have : 0 < p ^ r := Nat.pow_pos (by omega)
  have := Nat.mul_le_mul this hp
  omega
section
variable {n e p : Nat} {m : List Int}

set_option maxHeartbeats 8000000 in
set_option maxRecDepth 20000 in
theorem sizes_2 (h : GT n m n e) (hn : n ≤ 12) (hp : pr p) : FnC Try.prog 3 [gp n m, .int .i64 p] (.bool true) := by
  have T := h.2.1
  have hml := T.len
  have hsq : n * n ≤ 144 := Nat.mul_le_mul hn hn
  have hp2 := hp.le
  have h' : GT p (tbl (fun a b => (((a + b) % p : Nat) : Int)) p) p 0 := cyc_GT (by omega) (by omega)
  have hpw := homs_pow h hp h'
  have hfw := homs_few h hn hp h'
  have hho := homs_c 100000 (by omega) h h'
  have hW := srtL_perm (hmW n m e p (tbl (fun a b => (((a + b) % p : Nat) : Int)) p) 0)
  rw [if_pos (by omega), decide_eq_true (by omega)] at hho
  generalize srtL (hmW n m e p (tbl (fun a b => (((a + b) % p : Nat) : Int)) p) 0) = W at hho hW
  have hWl : W.length = p ^ (n - (spK n m p n).length) := by rw [← hW.length_eq, hpw]
  have hWf : W.length ≤ 343 := by rw [← hW.length_eq]; exact hfw
  have hsl := spK_le (n := n) (m := m) hp n
  obtain ⟨d, hd⟩ : ∃ d, n - (spK n m p n).length = d := ⟨_, rfl⟩
  rw [hd] at hWl
  have hB : szB n m p = (n : Int) - d := by unfold szB; omega
  have hsz := sizes_ok h hn hp
  rw [hB, show (n : Int) - ((n : Int) - d) = d by omega] at hsz
  have hpk : ∀ k, p ^ (d - k) ≤ 343 := fun k => Nat.le_trans (Nat.pow_le_pow_right (by omega) (by omega)) (hWl ▸ hWf)
  have hz0 : 0 ≤ szZ n m p := by
    have hE := eqK_ech hp m (n * n * n) (n := n)
    have := nodup_lt hE.keys (n := n * n) fun x hx => by
      obtain ⟨e, he, rfl⟩ := List.mem_map.1 hx
      exact hE.lt e he
    rw [List.length_map] at this
    unfold szZ
    omega
  have hz1 : szZ n m p ≤ 144 := by unfold szZ; omega
  have c0 : (n : Int) * (n : Int) = ((n * n : Nat) : Int) := (Int.natCast_mul n n).symm
  have hpos := T.pos
  refine fnc_of tab_ok Try.func3 rfl (by kernel_rfl) (by rw [Try.ntmps3]; exact Nat.le_add_left 2 _) ?_; rw [Try.ntmps3]
  refine qm ?_
  refine hk_region fun K hK => runs_eval tab_ok ?_
  simp only [ev0, evA, evB, evP, fl, gp, tab, simprocAttr, reduceCtorEq, reduceIte]
  refine fin_run ?_ (hK _ ?_) <;> clear hK <;> clear K
  · (first | exact trivial | omega | (simp only [In64] at *; omega) | (simp [In64] at *; omega) | (simp_all; done) | skip)
  refine qa (qm ?_)
  refine hk_region fun K hK => runs_eval tab_ok ?_
  simp only [ev0, evA, evB, evP, fl, gp, tab, simprocAttr, reduceCtorEq, reduceIte]
  refine fin_stop trivial (runs_call (ownGroup_c n m (by omega)) rfl rfl rfl (by simp only [dstOk, Nat.reduceLT]) (by repeat (first | exact trivial | constructor)) (runs_eval tab_ok ?_))
  simp only [ev0, evA, evB, evP, fl, gp, tab, simprocAttr, reduceCtorEq, reduceIte]
  refine fin_stop trivial (runs_call (hsz) rfl rfl rfl (by simp only [dstOk, Nat.reduceLT]) (by repeat (first | exact trivial | constructor)) (runs_eval tab_ok ?_))
  simp only [ev0, evA, evB, evP, fl, gp, tab, simprocAttr, reduceCtorEq, reduceIte]
  refine fin_run ?_ (hK _ ?_) <;> clear hK <;> clear K
  · (first | exact trivial | omega | (simp only [In64] at *; omega) | (simp [In64] at *; omega) | (simp_all; done) | skip)
  refine qa (qm ?_)
  refine hk_region fun K hK => runs_eval tab_ok ?_
  simp only [ev0, evA, evB, evP, fl, gp, tab, simprocAttr, reduceCtorEq, reduceIte, xf_of h hn hp]
  refine fin_stop trivial (runs_call (extFault_c n m p (by omega)) rfl rfl rfl (by simp only [dstOk, Nat.reduceLT]) (by repeat (first | exact trivial | constructor)) (runs_eval tab_ok ?_))
  simp only [ev0, evA, evB, evP, fl, gp, tab, simprocAttr, reduceCtorEq, reduceIte, xf_of h hn hp]
  refine fin_run ?_ (hK _ ?_) <;> clear hK <;> clear K
  · (first | exact trivial | omega | (simp only [In64] at *; omega) | (simp [In64] at *; omega) | (simp_all; done) | skip)
  refine qa (qm (qm ?_))
  refine hk_region fun K hK => runs_eval tab_ok ?_
  simp only [ev0, evA, evB, evP, fl, gp, tab, simprocAttr, reduceCtorEq, reduceIte, beq_self_eq_true, Bool.and_self, Bool.not_true]
  refine fin_stop trivial (runs_call (begun_x) rfl rfl rfl (by simp only [dstOk, Nat.reduceLT]) (by repeat (first | exact trivial | constructor)) (runs_eval tab_ok ?_))
  simp only [ev0, evA, evB, evP, fl, gp, tab, simprocAttr, reduceCtorEq, reduceIte, beq_self_eq_true, Bool.and_self, Bool.not_true]
  refine fin_run ?_ (hK _ ?_) <;> clear hK <;> clear K
  · (first | exact trivial | omega | (simp only [In64] at *; omega) | (simp [In64] at *; omega) | (simp_all; done) | skip)
  refine qa ?_
  refine hk_cond rfl (fun hC1 => ?_) (fun hC1 => ?_)
  · cases hC1
  · (try simp only [nhs] at hC1)
    refine qh (qa (qm (qm ?_)))
    refine hk_region fun K hK => runs_eval tab_ok ?_
    simp only [ev0, evA, evB, evP, fl, gp, tab, simprocAttr, reduceCtorEq, reduceIte]
    refine fin_run ?_ (hK _ ?_) <;> clear hK <;> clear K
    · (first | exact trivial | omega | (simp only [In64] at *; omega) | (simp [In64] at *; omega) | (simp_all; done) | skip)
    refine qa ?_
    refine hk_cond rfl (fun hC2 => ?_) (fun hC2 => ?_)
    · cases hC2
    · (try simp only [nhs] at hC2)
      refine qh (qa (qm ?_))
      refine hk_draw mixed (by kernel_rfl) fun K hK => runs_eval tab_ok ?_
      simp only [ev0, evA, evB, evP, fl, gp, tab, simprocAttr, reduceCtorEq, reduceIte]
      refine fin_stop trivial (runs_call (ringOf_c p (by omega) (by omega)) rfl rfl rfl (by simp only [dstOk, Nat.reduceLT]) (by repeat (first | exact trivial | constructor)) (runs_eval tab_ok ?_))
      simp only [ev0, evA, evB, evP, fl, gp, tab, simprocAttr, reduceCtorEq, reduceIte]
      refine fin_stop trivial (runs_call (hho) rfl rfl rfl (by simp only [dstOk, Nat.reduceLT]) (by repeat (first | exact trivial | constructor)) (runs_eval tab_ok ?_))
      simp only [ev0, evA, evB, evP, fl, gp, tab, simprocAttr, reduceCtorEq, reduceIte]
      refine fin_run ?_ (hK _ ?_) <;> clear hK <;> clear K
      · (first | exact trivial | omega | (simp only [In64] at *; omega) | (simp [In64] at *; omega) | (simp_all; done) | skip)
      refine qa (qm ?_)
      refine hk_region fun K hK => runs_eval tab_ok ?_
      simp only [ev0, evA, evB, evP, fl, gp, tab, simprocAttr, reduceCtorEq, reduceIte]
      refine fin_run trivial (hK _ ?_) <;> clear hK <;> clear K
      refine qa (qm (qm ?_))
      refine hk_region fun K hK => runs_eval tab_ok ?_
      simp only [ev0, evA, evB, evP, fl, gp, tab, simprocAttr, reduceCtorEq, reduceIte, ll_length, hWl]
      refine fin_run trivial (hK _ ?_) <;> clear hK <;> clear K
      refine qa (ql ?_)
      refine hk_loop (ι := Nat) (fun k => ⟨196, [(1, .p (.int .i64 p)), (2, .ptr 0 0), (5, .ptr 1 0), (9, .p (.bool true)), (10, .p (.int .i64 k)), (11, .p (.int .i64 ((p ^ (d - k) : Nat) : Int)))], [.own [.p (.int .i64 n), .p (.list (il m))], .own [.p (.int .i64 d), .p (.int .i64 (szZ n m p)), .p (.int .i64 (szZ n m p - ((n : Int) - d)))]]⟩) (fun k => k ≤ d) (fun k => d - k) 0 (Nat.zero_le _) [0, 1] (by simp only [leq, leA, ev0, evA, evB, evP, fl, gp, tab, simprocAttr, reduceCtorEq, reduceIte] <;> trace_state) fun k hk => ?_
      have hpk1 := hpk k
      refine qm (qm ?_)
      refine hk_region fun K hK => runs_eval tab_ok ?_
      simp only [ev0, evA, evB, evP, fl, gp, tab, simprocAttr, reduceCtorEq, reduceIte]
      refine fin_run trivial (hK _ ?_) <;> clear hK <;> clear K
      refine qa ?_
      refine hk_cond rfl (fun hC3 => ?_) (fun hC3 => ?_)
      · (try simp only [nhs] at hC3)
        have hkd : k < d := by
          refine Classical.byContradiction fun hc => ?_
          rw [show d - k = 0 by omega] at hC3
          simp at hC3
        have hpd := pow_div (p := p) (by omega) hkd
        have hpk2 := hpk (k + 1)
        refine qh (qa (qm (ql ?_)))
        refine hk_region fun K hK => runs_eval tab_ok ?_
        simp only [ev0, evA, evB, evP, fl, gp, tab, simprocAttr, reduceCtorEq, reduceIte]
        refine fin_run ?_ (hK _ ?_) <;> clear hK <;> clear K
        · (first | exact trivial | omega | (simp only [In64] at *; omega) | (simp [In64] at *; omega) | (simp_all; done) | skip)
        refine qd (qa ?_)
        refine hk_region fun K hK => runs_eval tab_ok ?_
        simp only [ev0, evA, evB, evP, fl, gp, tab, simprocAttr, reduceCtorEq, reduceIte, hpd.1]
        refine fin_run ?_ (hK _ ?_) <;> clear hK <;> clear K
        · exact ⟨by omega, by simp only [In64]; omega⟩
        refine qa ?_
        refine ⟨k + 1, [0, 1], by omega, by omega, ?_⟩
        simp only [leq, leA, ev0, evA, evB, evP, fl, gp, tab, simprocAttr, reduceCtorEq, reduceIte] <;> first | trivial | omega
      · (try simp only [nhs] at hC3)
        have hkd : k = d := by
          refine Classical.byContradiction fun hc => hC3 ?_
          have := (pow_div (p := p) (by omega) (show k < d by omega)).2
          omega
        subst hkd
        refine qj (qc (qc (qf (qa (qm ?_)))))
        refine hk_region fun K hK => runs_eval tab_ok ?_
        simp only [ev0, evA, evB, evP, fl, gp, tab, simprocAttr, reduceCtorEq, reduceIte]
        refine fin_run ?_ (hK _ ?_) <;> clear hK <;> clear K
        · (first | exact trivial | omega | (simp only [In64] at *; omega) | (simp [In64] at *; omega) | (simp_all; done) | skip)
        refine qa (qm (qm ?_))
        refine hk_region fun K hK => runs_eval tab_ok ?_
        simp only [ev0, evA, evB, evP, fl, gp, tab, simprocAttr, reduceCtorEq, reduceIte, beq_self_eq_true, decide_true, Bool.not_true, Int.sub_self]
        refine fin_run ?_ (hK _ ?_) <;> clear hK <;> clear K
        · simp only [In64]; omega
        refine qa ?_
        refine hk_cond rfl (fun hC4 => ?_) (fun hC4 => ?_)
        · cases hC4
        · (try simp only [nhs] at hC4)
          refine qh (qa (qm (qm ?_)))
          refine hk_region fun K hK => runs_eval tab_ok ?_
          simp only [ev0, evA, evB, evP, fl, gp, tab, simprocAttr, reduceCtorEq, reduceIte]
          refine fin_run trivial (hK _ ?_) <;> clear hK <;> clear K
          refine qa ?_
          refine hk_cond rfl (fun hC5 => ?_) (fun hC5 => ?_)
          · (try simp only [nhs] at hC5)
            refine qm ?_
            refine hk_region fun K hK => runs_eval tab_ok ?_
            simp only [ev0, evA, evB, evP, fl, gp, tab, simprocAttr, reduceCtorEq, reduceIte]
            refine fin_run ?_ (hK _ ?_) <;> clear hK <;> clear K
            · (first | exact trivial | omega | (simp only [In64] at *; omega) | (simp [In64] at *; omega) | (simp_all; done) | skip)
            refine qa (qk (qb ?_))
            simp only [Try.results3, enA, ev0, evA, evB, evP, fl, gp, tab, simprocAttr, reduceCtorEq, reduceIte]
            all_goals (simpa using hz0)
          · (try simp only [nhs] at hC5)
            refine qh (qa (qm ?_))
            refine hk_region fun K hK => runs_eval tab_ok ?_
            simp only [ev0, evA, evB, evP, fl, gp, tab, simprocAttr, reduceCtorEq, reduceIte]
            refine fin_run trivial (hK _ ?_) <;> clear hK <;> clear K
            refine qa (qm (qm ?_))
            refine hk_own0 13 rfl ?_
            refine hk_region fun K hK => runs_eval tab_ok ?_
            simp only [ev0, evA, evB, evP, fl, gp, tab, simprocAttr, reduceCtorEq, reduceIte]
            refine fin_run trivial (hK _ ?_) <;> clear hK <;> clear K
            refine qa (ql ?_)
            refine hk_loop (ι := Nat) (fun a => ⟨196, [(1, .p (.int .i64 p)), (2, .ptr 0 0), (5, .ptr 1 0), (12, .p (.int .i64 n)), (13, .sl 2 0 (a * n * n)), (14, .p (.int .i64 a))], .own [.p (.int .i64 n), .p (.list (il m))] :: .own [.p (.int .i64 k), .p (.int .i64 (szZ n m p)), .p (.int .i64 (szZ n m p - ((n : Int) - k)))] :: .own (rws (n * n) (a * n * n)) :: tl (EM n m p (a * n * n))⟩) (fun a => a ≤ n) (fun a => n - a) 0 (Nat.zero_le _) [0, 1, 2] (by simp only [Nat.zero_mul]; simp only [leq, leA, ev0, evA, evB, evP, fl, gp, tab, simprocAttr, reduceCtorEq, reduceIte] <;> simp [rws, rwf, EM, tl, LeH]) fun a ha => ?_
            refine qm (qm ?_)
            refine hk_region fun K hK => runs_eval tab_ok ?_
            simp only [ev0, evA, evB, evP, fl, gp, tab, simprocAttr, reduceCtorEq, reduceIte]
            refine fin_run trivial (hK _ ?_) <;> clear hK <;> clear K
            refine qa ?_
            refine hk_cond rfl (fun hC6 => ?_) (fun hC6 => ?_)
            · (try simp only [nhs] at hC6)
              have hal : a < n := by omega
              refine qh (qa (qm (ql (qm ?_))))
              refine hk_region fun K hK => runs_eval tab_ok ?_
              simp only [ev0, evA, evB, evP, fl, gp, tab, simprocAttr, reduceCtorEq, reduceIte]
              refine fin_run trivial (hK _ ?_) <;> clear hK <;> clear K
              refine qa (ql ?_)
              refine hk_loop (ι := Nat) (fun b => ⟨196, [(1, .p (.int .i64 p)), (2, .ptr 0 0), (5, .ptr 1 0), (12, .p (.int .i64 n)), (13, .sl 2 0 ((a * n + b) * n)), (14, .p (.int .i64 a)), (15, .p (.int .i64 b))], .own [.p (.int .i64 n), .p (.list (il m))] :: .own [.p (.int .i64 k), .p (.int .i64 (szZ n m p)), .p (.int .i64 (szZ n m p - ((n : Int) - k)))] :: .own (rws (n * n) ((a * n + b) * n)) :: tl (EM n m p ((a * n + b) * n))⟩) (fun b => b ≤ n) (fun b => n - b) 0 (Nat.zero_le _) (0 :: 1 :: 2 :: List.range' 3 (a * n * n)) (by
                rw [Nat.add_zero]
                refine le_rows (N := n * n) (G := [.int .i64 n, .list (il m)]) (O := [.int .i64 k, .int .i64 (szZ n m p), .int .i64 (szZ n m p - ((n : Int) - k))]) (EM_len _) rfl rfl ⟨by omega, by omega, .inl rfl⟩ rfl rfl rfl (fun q hq => ?_) ?_
                · show hget (tl (EM n m p _)) q = _
                  rw [hget_tl (by rw [EM_len]; exact hq)]
                · simp [LeS, St.get, lk, Go.Pv.ren, ren1, scA, sc1]) fun b hb => ?_
              refine qm (qm ?_)
              refine hk_region fun K hK => runs_eval tab_ok ?_
              simp only [ev0, evA, evB, evP, fl, gp, tab, simprocAttr, reduceCtorEq, reduceIte]
              refine fin_run trivial (hK _ ?_) <;> clear hK <;> clear K
              refine qa ?_
              refine hk_cond rfl (fun hC7 => ?_) (fun hC7 => ?_)
              · (try simp only [nhs] at hC7)
                have hbl : b < n := by omega
                refine qh (qa (qm (ql (qm ?_))))
                refine hk_region fun K hK => runs_eval tab_ok ?_
                simp only [ev0, evA, evB, evP, fl, gp, tab, simprocAttr, reduceCtorEq, reduceIte]
                refine fin_run trivial (hK _ ?_) <;> clear hK <;> clear K
                refine qa (ql ?_)
                refine hk_loop (ι := Nat) (fun c => ⟨196, [(1, .p (.int .i64 p)), (2, .ptr 0 0), (5, .ptr 1 0), (12, .p (.int .i64 n)), (13, .sl 2 0 ((a * n + b) * n + c)), (14, .p (.int .i64 a)), (15, .p (.int .i64 b)), (16, .p (.int .i64 c))], .own [.p (.int .i64 n), .p (.list (il m))] :: .own [.p (.int .i64 k), .p (.int .i64 (szZ n m p)), .p (.int .i64 (szZ n m p - ((n : Int) - k)))] :: .own (rws (n * n) ((a * n + b) * n + c)) :: tl (EM n m p ((a * n + b) * n + c))⟩) (fun c => c ≤ n) (fun c => n - c) 0 (Nat.zero_le _) (0 :: 1 :: 2 :: List.range' 3 ((a * n + b) * n)) (by
                  rw [Nat.add_zero]
                  refine le_rows (N := n * n) (G := [.int .i64 n, .list (il m)]) (O := [.int .i64 k, .int .i64 (szZ n m p), .int .i64 (szZ n m p - ((n : Int) - k))]) (EM_len _) rfl rfl ⟨by omega, by omega, .inl rfl⟩ rfl rfl rfl (fun q hq => ?_) ?_
                  · show hget (tl (EM n m p _)) q = _
                    rw [hget_tl (by rw [EM_len]; exact hq)]
                  · simp [LeS, St.get, lk, Go.Pv.ren, ren1, scA, sc1]) fun c hc => ?_
                refine qm (qm ?_)
                refine hk_region fun K hK => runs_eval tab_ok ?_
                simp only [ev0, evA, evB, evP, fl, gp, tab, simprocAttr, reduceCtorEq, reduceIte]
                refine fin_run trivial (hK _ ?_) <;> clear hK <;> clear K
                refine qa ?_
                refine hk_cond rfl (fun hC8 => ?_) (fun hC8 => ?_)
                · (try simp only [nhs] at hC8)
                  have hcl : c < n := by omega
                  have hab := T.lt hal hbl
                  have hbc := T.lt hbl hcl
                  have e1 := at_lt hbl hcl
                  have e2 := at_lt hab hcl
                  have e3 := at_lt hal hbc
                  have e4 := at_lt hal hbl
                  have c1 : (b : Int) * (n : Int) = ((b * n : Nat) : Int) := (Int.natCast_mul b n).symm
                  have c2 : ((op m n a b : Nat) : Int) * (n : Int) = ((op m n a b * n : Nat) : Int) := (Int.natCast_mul _ n).symm
                  have c3 : (a : Int) * (n : Int) = ((a * n : Nat) : Int) := (Int.natCast_mul a n).symm
                  obtain ⟨q, hq⟩ : ∃ q, (a * n + b) * n + c = q := ⟨_, rfl⟩
                  have hql := EM_len (n := n) (m := m) (p := p) q
                  obtain ⟨k1, k2, k3⟩ := eqK_at (a := a) hbl hcl
                  have hq3 : q < 1728 := by
                    have h1 : (a * n + b + 1) * n ≤ n * n * n := Nat.mul_le_mul_right _ e4
                    have h2 : n * n * n ≤ 144 * 12 := Nat.mul_le_mul hsq hn
                    rw [Nat.add_mul] at h1
                    omega
                  rw [hq]
                  refine qh (qa (qm (ql (qm ?_))))
                  refine hk_region fun K hK => runs_eval tab_ok ?_
                  simp only [ev0, evA, evB, evP, fl, gp, tab, simprocAttr, reduceCtorEq, reduceIte, c0, ol_replicate, tl_length, hql]
                  refine fin_run ?_ (hK _ ?_) <;> clear hK <;> clear K
                  · (first | exact trivial | omega | (simp only [In64] at *; omega) | (simp [In64] at *; omega) | (simp_all; done) | skip)
                  refine qa (qm ?_)
                  have hst : ∀ (i : Nat) (d : Int) (u : List Int), u.set i (u.getD i 0 + d) = inc i d u := fun _ _ _ => rfl
                  have hsp : ∀ (i : Nat) (u : List Int), u.set i (u.getD i 0 + (p : Int) - 1) = inc i ((p : Int) - 1) u := fun i u => by unfold inc; rw [Int.add_sub_assoc]
                  generalize hu0 : (List.replicate (n * n) (0 : Int)) = u0
                  have l0 : u0.length = n * n := by rw [← hu0]; simp
                  have z0 : ∀ t, t < n * n → u0.getD t 0 = 0 := fun t ht => by rw [← hu0]; simp [ht]
                  generalize hu1 : inc (b * n + c) 1 u0 = u1
                  have l1' : u1.length = n * n := by rw [← hu1, inc_len, l0]
                  have z1 : ∀ t, t < n * n → 0 ≤ u1.getD t 0 ∧ u1.getD t 0 ≤ 1 := fun t ht => by rw [← hu1, inc_get (by omega), z0 t ht]; split <;> omega
                  generalize hu2 : inc (a * n + op m n b c) 1 u1 = u2
                  have l2' : u2.length = n * n := by rw [← hu2, inc_len, l1']
                  have z2 : ∀ t, t < n * n → 0 ≤ u2.getD t 0 ∧ u2.getD t 0 ≤ 2 := fun t ht => by have := z1 t ht; rw [← hu2, inc_get (by omega)]; split <;> omega
                  generalize hu3 : inc (op m n a b * n + c) ((p : Int) - 1) u2 = u3
                  have l3' : u3.length = n * n := by rw [← hu3, inc_len, l2']
                  have z3 : ∀ t, t < n * n → 0 ≤ u3.getD t 0 ∧ u3.getD t 0 ≤ 8 := fun t ht => by have := z2 t ht; rw [← hu3, inc_get (by omega)]; split <;> omega
                  have hu4 : inc (a * n + b) ((p : Int) - 1) u3 = eqQ n m p a b c := by rw [← hu3, ← hu2, ← hu1, ← hu0]; rfl
                  have y0 := z0 _ e1
                  have y1 := z1 _ e3
                  have y2 := z2 _ e2
                  have y3 := z3 _ e4
                  refine hk_region fun K hK => runs_eval tab_ok ?_
                  simp only [ev0, evA, evB, evP, fl, gp, tab, simprocAttr, reduceCtorEq, reduceIte, at_nat, hget_snocT hql, hset_snocT hql, ol_get (show b * n + c < u0.length by omega), ol_set, hst, hu1]
                  refine fin_run ?_ (hK _ ?_) <;> clear hK <;> clear K
                  · rw [c1]; simp only [In64]; omega
                  refine qa (qm ?_)
                  refine hk_draw mixed (by kernel_rfl) fun K hK => runs_eval tab_ok ?_
                  simp only [ev0, evA, evB, evP, fl, gp, tab, simprocAttr, reduceCtorEq, reduceIte, at_nat, hget_snocT hql, hset_snocT hql, ol_get (show a * n + op m n b c < u1.length by omega), ol_set, hst, hu2]
                  refine fin_stop ?_ (runs_call (m_c T hbl hcl) rfl rfl rfl (by simp only [dstOk, Nat.reduceLT]) (by repeat (first | exact trivial | constructor)) (runs_eval tab_ok ?_))
                  · rw [c3]; simp only [In64]; omega
                  simp only [ev0, evA, evB, evP, fl, gp, tab, simprocAttr, reduceCtorEq, reduceIte, at_nat, hget_snocT hql, hset_snocT hql, ol_get (show a * n + op m n b c < u1.length by omega), ol_set, hst, hu2]
                  refine fin_stop ?_ (runs_call (m_c T hbl hcl) rfl rfl rfl (by simp only [dstOk, Nat.reduceLT]) (by repeat (first | exact trivial | constructor)) (runs_eval tab_ok ?_))
                  · rw [c3]; simp only [In64]; omega
                  simp only [ev0, evA, evB, evP, fl, gp, tab, simprocAttr, reduceCtorEq, reduceIte, at_nat, hget_snocT hql, hset_snocT hql, ol_get (show a * n + op m n b c < u1.length by omega), ol_set, hst, hu2]
                  refine fin_run ?_ (hK _ ?_) <;> clear hK <;> clear K
                  · simp only [In64]; omega
                  refine qa (qm ?_)
                  refine hk_draw mixed (by kernel_rfl) fun K hK => runs_eval tab_ok ?_
                  simp only [ev0, evA, evB, evP, fl, gp, tab, simprocAttr, reduceCtorEq, reduceIte, at_nat, hget_snocT hql, hset_snocT hql, ol_get (show op m n a b * n + c < u2.length by omega), ol_set, hsp, hu3]
                  refine fin_stop trivial (runs_call (m_c T hal hbl) rfl rfl rfl (by simp only [dstOk, Nat.reduceLT]) (by repeat (first | exact trivial | constructor)) (runs_eval tab_ok ?_))
                  simp only [ev0, evA, evB, evP, fl, gp, tab, simprocAttr, reduceCtorEq, reduceIte, at_nat, hget_snocT hql, hset_snocT hql, ol_get (show op m n a b * n + c < u2.length by omega), ol_set, hsp, hu3]
                  refine fin_stop ?_ (runs_call (m_c T hal hbl) rfl rfl rfl (by simp only [dstOk, Nat.reduceLT]) (by repeat (first | exact trivial | constructor)) (runs_eval tab_ok ?_))
                  · rw [c2]; simp only [In64]; omega
                  simp only [ev0, evA, evB, evP, fl, gp, tab, simprocAttr, reduceCtorEq, reduceIte, at_nat, hget_snocT hql, hset_snocT hql, ol_get (show op m n a b * n + c < u2.length by omega), ol_set, hsp, hu3]
                  refine fin_run ?_ (hK _ ?_) <;> clear hK <;> clear K
                  · rw [c2]; simp only [In64]; omega
                  refine qa (qm ?_)
                  refine hk_region fun K hK => runs_eval tab_ok ?_
                  simp only [ev0, evA, evB, evP, fl, gp, tab, simprocAttr, reduceCtorEq, reduceIte, at_nat, hget_snocT hql, hset_snocT hql, ol_get (show a * n + b < u3.length by omega), ol_set, hsp, hu4]
                  refine fin_run ?_ (hK _ ?_) <;> clear hK <;> clear K
                  · rw [c3]; simp only [In64]; omega
                  refine qa ?_
                  refine hk_region fun K hK => runs_eval tab_ok ?_
                  simp only [ev0, evA, evB, evP, fl, gp, tab, simprocAttr, reduceCtorEq, reduceIte, hget_snoc, hget_snocT hql, hget_snocT2 hql, rws_take, tl_length, hql, List.length_append, rws_snoc]
                  refine fin_stop ?_ (runs_op (build1_does tab_ok rfl rfl rfl rfl rfl rfl) rfl (by simp only [dstOk, Nat.reduceLT]) (runs_eval tab_ok ?_))
                  · (first | exact trivial | omega | (simp only [In64] at *; omega) | (simp [In64] at *; omega) | (simp_all; done) | skip)
                  simp only [ev0, evA, evB, evP, fl, gp, tab, simprocAttr, reduceCtorEq, reduceIte, hget_snoc, hget_snocT hql, hget_snocT2 hql, rws_take, tl_length, hql, List.length_append, rws_snoc]
                  refine fin_run ?_ (hK _ ?_) <;> clear hK <;> clear K
                  · exact ⟨rws_ok _ _, by rw [rws_length]; omega, by omega, by omega⟩
                  refine qd (qa ?_)
                  refine hk_region fun K hK => runs_eval tab_ok ?_
                  simp only [ev0, evA, evB, evP, fl, gp, tab, simprocAttr, reduceCtorEq, reduceIte]
                  refine fin_run ?_ (hK _ ?_) <;> clear hK <;> clear K
                  · (first | exact trivial | omega | (simp only [In64] at *; omega) | (simp [In64] at *; omega) | (simp_all; done) | skip)
                  refine qa ?_
                  refine ⟨c + 1, 0 :: 1 :: (q + 5) :: List.range' 3 (q + 1), by omega, by omega, ?_⟩
                  have hqe : eqQ n m p (q / (n * n)) (q / n % n) (q % n) = eqQ n m p a b c := by rw [← hq, k1, k2, k3]
                  rw [show (a * n + b) * n + (c + 1) = q + 1 by omega, EM_succ, hqe]
                  refine le_rows (N := n * n) (G := [.int .i64 n, .list (il m)]) (O := [.int .i64 k, .int .i64 (szZ n m p), .int .i64 (szZ n m p - ((n : Int) - k))]) (by rw [List.length_append, hql]; rfl) rfl rfl ⟨by omega, by omega, .inr (by omega)⟩ rfl rfl (hget_snocT3 hql) (fun i hi => hget_snocT4 hql hi _ _ _) ?_
                  simp [LeS, St.get, lk, Go.Pv.ren, ren1, scA, sc1]
                · (try simp only [nhs] at hC8)
                  refine qj (qc (qc (qf (qd (qa ?_)))))
                  refine hk_region fun K hK => runs_eval tab_ok ?_
                  simp only [ev0, evA, evB, evP, fl, gp, tab, simprocAttr, reduceCtorEq, reduceIte]
                  refine fin_run ?_ (hK _ ?_) <;> clear hK <;> clear K
                  · (first | exact trivial | omega | (simp only [In64] at *; omega) | (simp [In64] at *; omega) | (simp_all; done) | skip)
                  refine qa ?_
                  have hcn : c = n := by omega
                  refine ⟨b + 1, 0 :: 1 :: 2 :: List.range' 3 ((a * n + b) * n + c), by omega, by omega, ?_⟩
                  rw [show (a * n + (b + 1)) * n = (a * n + b) * n + c by rw [hcn, ← Nat.add_assoc, Nat.add_mul _ 1, Nat.one_mul]]
                  refine le_rows (N := n * n) (G := [.int .i64 n, .list (il m)]) (O := [.int .i64 k, .int .i64 (szZ n m p), .int .i64 (szZ n m p - ((n : Int) - k))]) (EM_len _) rfl rfl ⟨by omega, by omega, .inl rfl⟩ rfl rfl rfl (fun q hq => ?_) ?_
                  · show hget (tl (EM n m p _)) q = _
                    rw [hget_tl (by rw [EM_len]; exact hq)]
                  · simp [LeS, St.get, lk, Go.Pv.ren, ren1, scA, sc1]
              · (try simp only [nhs] at hC7)
                refine qj (qc (qc (qf (qd (qa ?_)))))
                refine hk_region fun K hK => runs_eval tab_ok ?_
                simp only [ev0, evA, evB, evP, fl, gp, tab, simprocAttr, reduceCtorEq, reduceIte]
                refine fin_run ?_ (hK _ ?_) <;> clear hK <;> clear K
                · (first | exact trivial | omega | (simp only [In64] at *; omega) | (simp [In64] at *; omega) | (simp_all; done) | skip)
                refine qa ?_
                have hbn : b = n := by omega
                refine ⟨a + 1, 0 :: 1 :: 2 :: List.range' 3 ((a * n + b) * n), by omega, by omega, ?_⟩
                rw [show (a + 1) * n * n = (a * n + b) * n by rw [hbn, Nat.add_mul _ 1, Nat.one_mul]]
                refine le_rows (N := n * n) (G := [.int .i64 n, .list (il m)]) (O := [.int .i64 k, .int .i64 (szZ n m p), .int .i64 (szZ n m p - ((n : Int) - k))]) (EM_len _) rfl rfl ⟨by omega, by omega, .inl rfl⟩ rfl rfl rfl (fun q hq => ?_) ?_
                · show hget (tl (EM n m p _)) q = _
                  rw [hget_tl (by rw [EM_len]; exact hq)]
                · simp [LeS, St.get, lk, Go.Pv.ren, ren1, scA, sc1]
            · (try simp only [nhs] at hC6)
              refine qj (qc (qc (qf (qa (qm ?_)))))
              have han : a = n := by omega
              subst han
              have hrk := EM_rank (n := a) (m := m) hp (a * a * a)
              have hbd : bnd (EM a m p (a * a * a)) := fun v hv j => by
                obtain ⟨t, _, rfl⟩ := List.mem_map.1 hv
                by_cases hj : j < a * a
                · rw [eqQ_get hj]
                  split <;> split <;> split <;> split <;> omega
                · rw [List.getD_eq_getElem?_getD, List.getElem?_eq_none (by rw [eqQ_len]; omega)]; simp
              have ha3 : a * a * a ≤ 1728 := Nat.mul_le_mul hsq hn
              have hrm := rankMod_c hp (N := a * a) (by omega) (by omega) (EM a m p (a * a * a)) (EM_len _) (EM_row _) hbd
              refine hk_freeze 1 rfl rfl ?_
              refine hk_pure 5 rfl (Nat.zero_le _) ?_
              simp only [hset]
              refine hk_draw2 mixed fun K hK => runs2_eval tab_ok ?_
              simp only [evD, ev0, evA, evB, evP, fl, gp, tab, simprocAttr, reduceCtorEq, reduceIte, c0]
              refine fin2_stop ?_ (runs2_callM (2 :: List.range' 3 (a * a * a)) (hrm) ?_ rfl rfl ?_ ?_ ?_ ?_ ?_ (by simp only [dstOk, Nat.reduceLT]) (runs2_eval tab_ok ?_))
              · simp only [In64]; omega
              · simp [tl_length, rkR_len, EM_len]
              · (simp only [argsN, argN1, scA, sc1, ren, ren1, List.map_cons, List.map_nil, List.append_nil, List.cons_append, List.nil_append, enA, ev0, evA, evB, evP, fl, gp, tab, simprocAttr, reduceCtorEq, reduceIte]; try trivial)
              · exact leH_lend (EM_len _) rfl (fun i hi => by
                  show hget (tl _) i = _
                  rw [hget_tl (by rw [EM_len]; exact hi)])
              · refine List.nodup_cons.2 ⟨?_, List.nodup_range'⟩
                simp only [List.mem_range'_1]; omega
              · intro x hx
                simp only [List.mem_cons, List.mem_range'_1] at hx
                simp only [List.length_cons, tl_length, EM_len]
                omega
              · exact scM_rows (EM_len _) (by rw [rkR_len, EM_len])
              simp only [setL, List.zip_cons_cons, List.zip_nil_right, hset, Blk.ren, ren, ren1, List.map_cons, List.map_nil, List.cons_append, List.nil_append, evD, ev0, evA, evB, evP, fl, gp, tab, simprocAttr, reduceCtorEq, reduceIte, hrk, c0]
              refine fin2_run ?_ (hK _ _ (by first | kernel_rfl | rfl) ?_) <;> clear hK <;> clear K
              · have e : ((a * a : Nat) : Int) - ((eqK a m p (a * a * a)).length : Int) = szZ a m p := rfl
                rw [e]; simp only [In64]; omega
              refine qa (qk ?_)
              simp only [Try.results3, enA, ev0, evA, evB, evP, fl, gp, tab, simprocAttr, reduceCtorEq, reduceIte]
              all_goals (exact decide_eq_true rfl)
end
theorem extSizes_c (N : Int) (m : List Int) (p : Int) (hm : m.length ≤ 17592186043904) : FnC Try.prog 3 [gp N m, .int .i64 p] (.bool true) := by
  by_cases hx : (xf N m p).1 = 0
  · obtain ⟨n, e, q, h, hn, rfl, hq, _⟩ := xf_ok hx
    obtain rfl := h.1
    exact sizes_2 h hn hq
  · exact sizes_1 N m p hm hx
end Go.Proofs.Ytboadfahlflmhaa
