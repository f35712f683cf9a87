
/-
  Plain law: classes of an equivalence, by their least things; conjugate things; THE CLASS EQUATION. Conditions: none.
-/
import Derived.Test.YtjikchbmkodgfaaDoorG13
set_option linter.all false
namespace Go.Proofs.YtjikchbmkodgfaaDoor
open Go.Pv

/-- Is a thing the least that it is like? -/
def lead (r : Nat → Nat → Bool) (a : Nat) : Bool := r a a && decide (∀ b, b < a → r a b = false)
theorem lead_iff {r : Nat → Nat → Bool} {a : Nat} : lead r a = true ↔ r a a = true ∧ ∀ b, b < a → r a b = false := by
  unfold lead; rw [Bool.and_eq_true, decide_eq_true_eq]

structure Eqv (n : Nat) (r : Nat → Nat → Bool) : Prop where
  refl : ∀ a, a < n → r a a = true
  symm : ∀ a b, a < n → b < n → r a b = true → r b a = true
  trans : ∀ a b c, a < n → b < n → c < n → r a b = true → r b c = true → r a c = true

/-- The least thing that a thing is like. -/
theorem Eqv.least {n : Nat} {r : Nat → Nat → Bool} (h : Eqv n r) {y : Nat} (hy : y < n) : ∃ x, x < n ∧ lead r x = true ∧ r x y = true := by
  cases hf : fst' (r y) n with
  | none => have := fst_spec0 hf y hy; rw [h.refl y hy] at this; cases this
  | some x =>
    obtain ⟨h1, h2, h3⟩ := fst_spec hf
    refine ⟨x, h1, lead_iff.2 ⟨h.refl x h1, fun b hb => ?_⟩, h.symm y x hy h1 h2⟩
    cases hb2 : r x b with
    | false => rfl
    | true => have := h.trans y x b hy h1 (by omega) h2 hb2; rw [h3 b hb] at this; cases this
theorem Eqv.lead_eq {n : Nat} {r : Nat → Nat → Bool} (h : Eqv n r) {x y : Nat} (hx : x < n) (hy : y < n) (lx : lead r x = true) (ly : lead r y = true) (hr : r x y = true) : x = y := by
  rcases Nat.lt_trichotomy x y with h1 | h1 | h1
  · have := (lead_iff.1 ly).2 x h1; rw [h.symm x y hx hy hr] at this; cases this
  · exact h1
  · have := (lead_iff.1 lx).2 y h1; rw [hr] at this; cases this
/-- Each thing is in one class. -/
theorem Eqv.one {n : Nat} {r : Nat → Nat → Bool} (h : Eqv n r) {y : Nat} (hy : y < n) : ((mem n (lead r)).filter fun x => r x y).length = 1 := by
  obtain ⟨x, x1, x2, x3⟩ := h.least hy
  have : ((mem n (lead r)).filter fun x => r x y).length = [x].length := same_len ((List.nodup_range.filter _).filter _) (by simp) fun z => by
    rw [List.mem_filter, mem_mem, List.mem_singleton]
    constructor
    · rintro ⟨⟨z1, z2⟩, z3⟩
      exact h.lead_eq z1 x1 z2 x2 (h.trans z y x z1 hy x1 z3 (h.symm x y x1 hy x3))
    · rintro rfl
      exact ⟨⟨x1, x2⟩, x3⟩
  exact this
/-- All classes together are all things. -/
theorem Eqv.sum {n : Nat} {r : Nat → Nat → Bool} (h : Eqv n r) : ((mem n (lead r)).map fun x => (mem n (r x)).length).sum = n := by
  have h1 := sum_filter (fun x y => r x y) (mem n (lead r)) (List.range n)
  have h2 : ((List.range n).map fun y => ((mem n (lead r)).filter fun x => r x y).length).sum = (List.range n).length * 1 := sum_const fun y hy => h.one (List.mem_range.1 hy)
  rw [List.length_range, Nat.mul_one] at h2
  exact h1.trans h2

theorem filter_one' {l : List Nat} (h : l.Nodup) {a : Nat} (ha : a ∈ l) : (l.filter fun w => decide (a = w)).length = 1 := by
  have : (l.filter fun w => decide (a = w)).length = [a].length := same_len (h.filter _) (by simp) fun x => by
    rw [List.mem_filter, decide_eq_true_eq, List.mem_singleton]
    constructor
    · rintro ⟨_, h⟩; exact h.symm
    · rintro rfl; exact ⟨ha, rfl⟩
  exact this

section
variable {n : Nat} {f : Nat → Nat → Nat} {e : Nat}
/-- Is y conjugate to x? -/
def cjb (n : Nat) (f : Nat → Nat → Nat) (e x y : Nat) : Bool := decide (∃ a, a < n ∧ f (f (iv n f e a) x) a = y)
theorem cjb_iff {x y : Nat} : cjb n f e x y = true ↔ ∃ a, a < n ∧ f (f (iv n f e a) x) a = y := by unfold cjb; exact decide_eq_true_iff
theorem Grp.cjr_mul (G : Grp n f e) {x a b : Nat} (hx : x < n) (ha : a < n) (hb : b < n) : f (f (iv n f e b) (f (f (iv n f e a) x) a)) b = f (f (iv n f e (f a b)) x) (f a b) := by
  have ia := G.iv_lt ha
  have ib := G.iv_lt hb
  have h1 := G.cl _ _ ia hx
  rw [G.iv_prod ha hb, ← G.assoc _ (f (iv n f e a) x) a ib h1 ha, G.assoc (f (iv n f e b) (f (iv n f e a) x)) a b (G.cl _ _ ib h1) ha hb, ← G.assoc _ _ x ib ia hx]
theorem Grp.cjb_eqv (G : Grp n f e) : Eqv n (cjb n f e) where
  refl a ha := cjb_iff.2 ⟨e, G.el, by rw [G.iv_one, G.one_l a ha, G.one_r a ha]⟩
  symm a b ha hb h := by
    obtain ⟨c, hc, rfl⟩ := cjb_iff.1 h
    refine cjb_iff.2 ⟨iv n f e c, G.iv_lt hc, ?_⟩
    rw [G.cjr_mul ha hc (G.iv_lt hc), G.mul_iv hc, G.iv_one, G.one_l a ha, G.one_r a ha]
  trans a b c ha hb hc h1 h2 := by
    obtain ⟨x, hx, rfl⟩ := cjb_iff.1 h1
    obtain ⟨y, hy, rfl⟩ := cjb_iff.1 h2
    exact cjb_iff.2 ⟨f x y, G.cl _ _ hx hy, (G.cjr_mul ha hx hy).symm⟩
/-- So many things in a class, as cosets of what commutes with one. -/
theorem Grp.cls_count (G : Grp n f e) {x : Nat} (hx : x < n) : (mem n (cen f x)).length * (mem n (cjb n f e x)).length = n := by
  have hl : ∀ a, a < n → f (f (iv n f e a) x) a < n := fun a ha => G.cl _ _ (G.cl _ _ (G.iv_lt ha) hx) ha
  have := dbl (fun a y => decide (f (f (iv n f e a) x) a = y)) (L1 := List.range n) (L2 := mem n (cjb n f e x)) (c1 := 1) (c2 := (mem n (cen f x)).length) (fun a ha => ?_) fun y hy => ?_
  · rw [List.length_range, Nat.mul_one] at this
    rw [Nat.mul_comm]; exact this.symm
  · have a1 := List.mem_range.1 ha
    exact filter_one' (List.nodup_range.filter _) (mem_mem.2 ⟨hl a a1, cjb_iff.2 ⟨a, a1, rfl⟩⟩)
  · obtain ⟨y1, y2⟩ := mem_mem.1 hy
    obtain ⟨a0, a1, rfl⟩ := cjb_iff.1 y2
    rw [← List.length_map (f := fun c => f c a0) (as := mem n (cen f x))]
    refine same_len (List.nodup_range.filter _) (nodup_map (List.nodup_range.filter _) fun u hu v hv he => G.cancel_r a1 (mem_mem.1 hu).1 (mem_mem.1 hv).1 he) fun b => ?_
    rw [List.mem_filter, List.mem_range, decide_eq_true_eq, List.mem_map]
    have key : ∀ b, b < n → (f (f (iv n f e b) x) b = f (f (iv n f e a0) x) a0 ↔ f (f b (iv n f e a0)) x = f x (f b (iv n f e a0))) := by
      intro b hb
      have ib := G.iv_lt hb
      have ia := G.iv_lt a1
      have hbi := G.cl _ _ hb ia
      constructor
      · intro h
        have h1 : f b (f (f (iv n f e b) x) b) = f b (f (f (iv n f e a0) x) a0) := by rw [h]
        rw [← G.assoc b _ b hb (G.cl _ _ ib hx) hb, ← G.assoc b _ x hb ib hx, G.mul_iv hb, G.one_l x hx, ← G.assoc b _ a0 hb (G.cl _ _ ia hx) a1, ← G.assoc b _ x hb ia hx] at h1
        have h2 : f (f x b) (iv n f e a0) = f (f (f (f b (iv n f e a0)) x) a0) (iv n f e a0) := by rw [h1]
        rw [G.assoc _ a0 _ (G.cl _ _ hbi hx) a1 ia, G.mul_iv a1, G.one_r _ (G.cl _ _ hbi hx), G.assoc x b _ hx hb ia] at h2
        exact h2.symm
      · intro h
        refine G.cancel_l hb (G.cl _ _ (G.cl _ _ ib hx) hb) (G.cl _ _ (G.cl _ _ ia hx) a1) ?_
        rw [← G.assoc b _ b hb (G.cl _ _ ib hx) hb, ← G.assoc b _ x hb ib hx, G.mul_iv hb, G.one_l x hx, ← G.assoc b _ a0 hb (G.cl _ _ ia hx) a1, ← G.assoc b _ x hb ia hx, h, G.assoc x _ a0 hx hbi a1, G.assoc b _ a0 hb ia a1, G.iv_mul a1, G.one_r b hb]
    constructor
    · rintro ⟨b1, b2⟩
      refine ⟨f b (iv n f e a0), mem_mem.2 ⟨G.cl _ _ b1 (G.iv_lt a1), cen_iff.2 ((key b b1).1 b2)⟩, ?_⟩
      show f (f b (iv n f e a0)) a0 = b
      rw [G.assoc b _ a0 b1 (G.iv_lt a1) a1, G.iv_mul a1, G.one_r b b1]
    · rintro ⟨c, hc, rfl⟩
      obtain ⟨c1, c2⟩ := mem_mem.1 hc
      rw [cen_iff] at c2
      have hca := G.cl _ _ c1 a1
      refine ⟨hca, (key _ hca).2 ?_⟩
      rw [G.assoc c a0 _ c1 a1 (G.iv_lt a1), G.mul_iv a1, G.one_r c c1]
      exact c2
end
end Go.Proofs.YtjikchbmkodgfaaDoor
