
/-
  Plain law: classes of conjugate things: how many; things that commute; groups of a prime's power. Conditions: none.
-/
import Derived.Test.YtjikchbmkodgfaaDoorG14
set_option linter.all false
namespace Go.Proofs.YtjikchbmkodgfaaDoor
open Go.Pv

/-- Counting by weights. -/
theorem sum_filterW {α β : Type} (R : α → β → Bool) (g : β → Nat) (L1 : List α) : ∀ L2 : List β, (L1.map fun a => ((L2.filter (R a)).map g).sum).sum = (L2.map fun b => (L1.filter fun a => R a b).length * g b).sum
  | [] => by induction L1 with
    | nil => rfl
    | cons a t ih => simpa using ih
  | b :: t => by
    have ih := sum_filterW R g L1 t
    have : (L1.map fun a => (((b :: t).filter (R a)).map g).sum).sum = (L1.filter fun a => R a b).length * g b + (L1.map fun a => ((t.filter (R a)).map g).sum).sum := by
      clear ih
      induction L1 with
      | nil => simp
      | cons a u ihu =>
        have h1 : (((b :: t).filter (R a)).map g).sum = (if R a b then g b else 0) + ((t.filter (R a)).map g).sum := by
          rw [List.filter_cons]; cases R a b <;> simp
        have h2 : ((a :: u).filter fun a => R a b).length * g b = (if R a b then g b else 0) + (u.filter fun a => R a b).length * g b := by
          rw [List.filter_cons]
          cases R a b
          · simp
          · simp only [if_true, List.length_cons, Nat.succ_mul]; omega
        rw [List.map_cons, List.sum_cons, ihu, List.map_cons, List.sum_cons, h1, h2]
        omega
    rw [this, ih]; simp

section
variable {n : Nat} {f : Nat → Nat → Nat} {e : Nat}

/-- Classes of what is alike are the same. -/
theorem Eqv.row {r : Nat → Nat → Bool} (h : Eqv n r) {x y : Nat} (hx : x < n) (hy : y < n) (hr : r x y = true) : mem n (r x) = mem n (r y) := by
  unfold mem
  refine List.filter_congr fun z hz => ?_
  have z1 := List.mem_range.1 hz
  rw [Bool.eq_iff_iff]
  exact ⟨fun h1 => h.trans y x z hy hx z1 (h.symm x y hx hy hr) h1, fun h1 => h.trans x y z hx hy z1 hr h1⟩

/-- PAIRS that commute are as many as classes, times things. -/
theorem Grp.pairs (G : Grp n f e) : ((List.range n).map fun a => (mem n (cen f a)).length).sum = (mem n (lead (cjb n f e))).length * n := by
  have E := G.cjb_eqv
  have h1 := sum_filterW (fun x y => cjb n f e x y) (fun a => (mem n (cen f a)).length) (mem n (lead (cjb n f e))) (List.range n)
  have h2 : ((List.range n).map fun b => ((mem n (lead (cjb n f e))).filter fun a => cjb n f e a b).length * (mem n (cen f b)).length) = (List.range n).map fun a => (mem n (cen f a)).length :=
    List.map_congr_left fun b hb => by rw [E.one (List.mem_range.1 hb), Nat.one_mul]
  rw [← h2, ← h1]
  refine sum_const fun x hx => ?_
  obtain ⟨x1, _⟩ := mem_mem.1 hx
  have hc := G.cls_count x1
  have h3 : (((List.range n).filter (cjb n f e x)).map fun a => (mem n (cen f a)).length).sum = ((List.range n).filter (cjb n f e x)).length * (mem n (cen f x)).length := by
    refine sum_const fun a ha => ?_
    obtain ⟨a1, a2⟩ := List.mem_filter.1 ha
    have a1 := List.mem_range.1 a1
    have h4 := G.cls_count a1
    rw [← E.row x1 a1 a2] at h4
    have hp : 0 < (mem n (cjb n f e x)).length := List.length_pos_of_mem (mem_mem.2 ⟨x1, E.refl x x1⟩)
    exact Nat.eq_of_mul_eq_mul_right hp (h4.trans hc.symm)
  rw [h3, Nat.mul_comm]
  exact hc

/-- Does a thing commute with all? -/
def zen (n : Nat) (f : Nat → Nat → Nat) (x : Nat) : Bool := decide (∀ b, b < n → f x b = f b x)
theorem zen_iff {x : Nat} : zen n f x = true ↔ ∀ b, b < n → f x b = f b x := by unfold zen; exact decide_eq_true_iff
theorem Grp.cls_zen (G : Grp n f e) {x : Nat} (hx : x < n) : zen n f x = true ↔ ∀ y, y < n → (cjb n f e x y = true ↔ y = x) := by
  rw [zen_iff]
  constructor
  · intro h y hy
    constructor
    · intro hc
      obtain ⟨a, ha, rfl⟩ := cjb_iff.1 hc
      rw [G.assoc _ x a (G.iv_lt ha) hx ha, h a ha, ← G.assoc _ a x (G.iv_lt ha) ha hx, G.iv_mul ha, G.one_l x hx]
    · rintro rfl; exact G.cjb_eqv.refl y hy
  · intro h b hb
    have ib := G.iv_lt hb
    have h1 := (h _ (G.cl _ _ (G.cl _ _ ib hx) hb)).1 (cjb_iff.2 ⟨b, hb, rfl⟩)
    have h2 : f b (f (f (iv n f e b) x) b) = f b x := by rw [h1]
    rwa [← G.assoc b _ b hb (G.cl _ _ ib hx) hb, ← G.assoc b _ x hb ib hx, G.mul_iv hb, G.one_l x hx] at h2
theorem Grp.ones (G : Grp n f e) : ((mem n (lead (cjb n f e))).filter fun x => decide ((mem n (cjb n f e x)).length = 1)).length = (mem n (zen n f)).length := by
  have E := G.cjb_eqv
  refine same_len ((List.nodup_range.filter _).filter _) (List.nodup_range.filter _) fun x => ?_
  rw [List.mem_filter, mem_mem, mem_mem, decide_eq_true_eq]
  constructor
  · rintro ⟨⟨x1, _⟩, h⟩
    refine ⟨x1, (G.cls_zen x1).2 fun y hy => ⟨fun hc => one_mem x1 (E.refl x x1) h hy hc, ?_⟩⟩
    rintro rfl; exact E.refl y hy
  · rintro ⟨x1, h⟩
    have h1 := (G.cls_zen x1).1 h
    refine ⟨⟨x1, lead_iff.2 ⟨E.refl x x1, fun b hb => ?_⟩⟩, mem_one x1 h1⟩
    cases hv : cjb n f e x b with
    | false => rfl
    | true => have := (h1 b (by omega)).1 hv; omega
theorem Grp.cls_all (G : Grp n f e) : (mem n (lead (cjb n f e))).length = n ↔ ∀ a, a < n → ∀ b, b < n → f a b = f b a := by
  have E := G.cjb_eqv
  rw [mem_all]
  constructor
  · intro h a ha
    refine zen_iff.1 ((G.cls_zen ha).2 fun y hy => ⟨fun hc => (E.lead_eq ha hy (h a ha) (h y hy) hc).symm, ?_⟩)
    rintro rfl; exact E.refl y hy
  · intro h a ha
    refine lead_iff.2 ⟨E.refl a ha, fun b hb => ?_⟩
    cases hv : cjb n f e a b with
    | false => rfl
    | true =>
      have := ((G.cls_zen ha).1 (zen_iff.2 (h a ha)) b (by omega)).1 hv
      omega

/-- In sum, but for multiples of p, the ones. -/
theorem sum_mod {α : Type} {p : Nat} {g : α → Nat} : ∀ {l : List α}, (∀ x ∈ l, g x = 1 ∨ p ∣ g x) → p ≠ 1 → ∃ c, (l.map g).sum = (l.filter fun x => decide (g x = 1)).length + p * c
  | [], _, _ => ⟨0, by simp⟩
  | a :: l, h, hp => by
    obtain ⟨c, hc⟩ := sum_mod (l := l) (fun x hx => h x (by simp [hx])) hp
    rcases h a (by simp) with h1 | ⟨d, h1⟩
    · refine ⟨c, ?_⟩
      rw [List.map_cons, List.sum_cons, hc, List.filter_cons, if_pos (by simpa using h1), List.length_cons, h1]; omega
    · refine ⟨c + d, ?_⟩
      have : ¬ g a = 1 := fun h2 => hp (Nat.dvd_one.1 (h2 ▸ ⟨d, h1⟩))
      rw [List.map_cons, List.sum_cons, hc, List.filter_cons, if_neg (by simpa using this), h1, Nat.mul_add]; omega

/-- A number without whole parts, as the laws ask it. -/
def isPr (p : Nat) : Prop := 2 ≤ p ∧ p ≤ 100 ∧ ∀ d, d < p → 2 ≤ d → ¬ p % d = 0
instance (p : Nat) : Decidable (isPr p) := by unfold isPr; infer_instance
theorem isPr.div {p : Nat} (h : isPr p) {d : Nat} (hd : d ∣ p) : d = 1 ∨ d = p := by
  obtain ⟨h1, _, h3⟩ := h
  have hp := Nat.pos_of_dvd_of_pos hd (by omega)
  have hl := Nat.le_of_dvd (by omega) hd
  by_cases hd1 : d = 1
  · exact .inl hd1
  · by_cases hd2 : d = p
    · exact .inr hd2
    · exact absurd (Nat.mod_eq_zero_of_dvd hd) (h3 d (by omega) (by omega))
theorem isPr.cop {p : Nat} (h : isPr p) {s : Nat} (hs : ¬ p ∣ s) : Nat.gcd p s = 1 := by
  rcases h.div (Nat.gcd_dvd_left p s) with h1 | h1
  · exact h1
  · exact absurd (h1 ▸ Nat.gcd_dvd_right p s) hs
/-- What divides a power of p and is not 1 is a multiple of p. -/
theorem isPr.part {p : Nat} (h : isPr p) {k d : Nat} (hd : d ∣ p ^ k) (h1 : d ≠ 1) : p ∣ d := by
  by_cases hp : p ∣ d
  · exact hp
  · exfalso
    have hc : Nat.Coprime d (p ^ k) := Nat.Coprime.pow_right _ (Nat.Coprime.symm (h.cop hp))
    have : d ∣ Nat.gcd d (p ^ k) := Nat.dvd_gcd (Nat.dvd_refl d) hd
    rw [hc] at this
    exact h1 (Nat.dvd_one.1 this)

/-- A power of a prime of things has a centre that is a multiple of the prime. -/
theorem Grp.pcentre (G : Grp n f e) {p k : Nat} (hp : isPr p) (hn : n = p ^ k) (hd : p ∣ n) : p ∣ (mem n (zen n f)).length := by
  have E := G.cjb_eqv
  have hp2 := hp.1
  obtain ⟨c, hc⟩ := sum_mod (p := p) (g := fun x => (mem n (cjb n f e x)).length) (l := mem n (lead (cjb n f e))) (fun x hx => by
    obtain ⟨x1, _⟩ := mem_mem.1 hx
    by_cases h1 : (mem n (cjb n f e x)).length = 1
    · exact .inl h1
    · refine .inr (hp.part (k := k) ?_ h1)
      rw [← hn]
      exact ⟨(mem n (cen f x)).length, by rw [Nat.mul_comm]; exact (G.cls_count x1).symm⟩) (by omega)
  rw [E.sum, G.ones] at hc
  rw [hc] at hd
  exact (Nat.dvd_add_left (Nat.dvd_mul_right p c)).1 hd
end
end Go.Proofs.YtjikchbmkodgfaaDoor
