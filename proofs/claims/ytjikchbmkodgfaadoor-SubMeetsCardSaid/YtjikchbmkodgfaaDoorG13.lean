
/-
  Plain law: products of two subgroups; THE PRODUCT FORMULA; DEDEKIND's law; commutators. Conditions: none.
-/
import Derived.Test.YtjikchbmkodgfaaDoorG12
import Derived.Test.YtjikchbmkodgfaaDoorG8
set_option linter.all false
namespace Go.Proofs.YtjikchbmkodgfaaDoor
open Go.Pv

section
variable {n : Nat} {f : Nat → Nat → Nat} {e : Nat}

/-- What is a thing of the first times a thing of the second. -/
def pr2 (n : Nat) (f : Nat → Nat → Nat) (e : Nat) (a b : Nat → Bool) (x : Nat) : Bool := decide (∃ i, i < n ∧ a i = true ∧ b (f (iv n f e i) x) = true)
theorem pr2_iff {a b : Nat → Bool} {x : Nat} : pr2 n f e a b x = true ↔ ∃ i, i < n ∧ a i = true ∧ b (f (iv n f e i) x) = true := by unfold pr2; exact decide_eq_true_iff

theorem Sub.and {a b : Nat → Bool} (ha : Sub n f e a) (hb : Sub n f e b) : Sub n f e fun x => a x && b x where
  one := by simp [ha.one, hb.one]
  mul x y hx hy h1 h2 := by
    rw [Bool.and_eq_true] at *
    exact ⟨ha.mul x y hx hy h1.1 h2.1, hb.mul x y hx hy h1.2 h2.2⟩
  inv x hx h := by
    rw [Bool.and_eq_true] at *
    exact ⟨ha.inv x hx h.1, hb.inv x hx h.2⟩

/-- THE PRODUCT FORMULA. -/
theorem Grp.prod_count (G : Grp n f e) {a b : Nat → Bool} (ha : Sub n f e a) (hb : Sub n f e b) : (mem n (pr2 n f e a b)).length * (mem n fun x => a x && b x).length = (mem n a).length * (mem n b).length := by
  refine dbl (fun x i => b (f (iv n f e i) x)) (fun x hx => ?_) fun i hi => ?_
  · obtain ⟨x1, x2⟩ := mem_mem.1 hx
    obtain ⟨i0, i1, i2, i3⟩ := pr2_iff.1 x2
    have ii := G.iv_lt i1
    rw [← List.length_map (f := fun c => f i0 c) (as := mem n fun x => a x && b x)]
    refine same_len ((List.nodup_range.filter _).filter _) (nodup_map (List.nodup_range.filter _) fun u hu v hv he => G.cancel_l i1 (mem_mem.1 hu).1 (mem_mem.1 hv).1 he) fun y => ?_
    rw [List.mem_filter, mem_mem, List.mem_map]
    constructor
    · rintro ⟨⟨y1, y2⟩, y3⟩
      have iy := G.iv_lt y1
      refine ⟨f (iv n f e i0) y, mem_mem.2 ⟨G.cl _ _ ii y1, ?_⟩, by rw [← G.assoc _ _ _ i1 ii y1, G.mul_iv i1, G.one_l y y1]⟩
      rw [Bool.and_eq_true]
      refine ⟨ha.mul _ _ ii y1 (ha.inv _ i1 i2) y2, ?_⟩
      have h1 := hb.mul _ _ (G.cl _ _ ii x1) (G.iv_lt (G.cl _ _ iy x1)) i3 (hb.inv _ (G.cl _ _ iy x1) y3)
      rw [G.iv_prod iy x1, G.iv_iv y1, G.assoc _ _ _ ii x1 (G.cl _ _ (G.iv_lt x1) y1), ← G.assoc x _ y x1 (G.iv_lt x1) y1, G.mul_iv x1, G.one_l y y1] at h1
      exact h1
    · rintro ⟨c, hc, rfl⟩
      obtain ⟨c1, c2⟩ := mem_mem.1 hc
      rw [Bool.and_eq_true] at c2
      refine ⟨⟨G.cl _ _ i1 c1, ha.mul _ _ i1 c1 i2 c2.1⟩, ?_⟩
      rw [G.iv_prod i1 c1, G.assoc _ _ _ (G.iv_lt c1) ii x1]
      exact hb.mul _ _ (G.iv_lt c1) (G.cl _ _ ii x1) (hb.inv _ c1 c2.2) i3
  · obtain ⟨i1, i2⟩ := mem_mem.1 hi
    have ii := G.iv_lt i1
    rw [← List.length_map (f := fun c => f i c) (as := mem n b)]
    refine same_len ((List.nodup_range.filter _).filter _) (nodup_map (List.nodup_range.filter _) fun u hu v hv he => G.cancel_l i1 (mem_mem.1 hu).1 (mem_mem.1 hv).1 he) fun y => ?_
    rw [List.mem_filter, mem_mem, List.mem_map]
    constructor
    · rintro ⟨⟨y1, y2⟩, y3⟩
      exact ⟨f (iv n f e i) y, mem_mem.2 ⟨G.cl _ _ ii y1, y3⟩, by rw [← G.assoc _ _ _ i1 ii y1, G.mul_iv i1, G.one_l y y1]⟩
    · rintro ⟨c, hc, rfl⟩
      obtain ⟨c1, c2⟩ := mem_mem.1 hc
      have h2 : b (f (iv n f e i) (f i c)) = true := by rw [← G.assoc _ _ _ ii i1 c1, G.iv_mul i1, G.one_l c c1]; exact c2
      exact ⟨⟨G.cl _ _ i1 c1, pr2_iff.2 ⟨i, i1, i2, h2⟩⟩, h2⟩

/-- DEDEKIND's law. -/
theorem Grp.dedekind (G : Grp n f e) {a b c : Nat → Bool} (hc : Sub n f e c) (hac : ∀ x, x < n → a x = true → c x = true) {x : Nat} (hx : x < n) : pr2 n f e a (fun y => b y && c y) x = (pr2 n f e a b x && c x) := by
  rw [Bool.eq_iff_iff, Bool.and_eq_true, pr2_iff, pr2_iff]
  constructor
  · rintro ⟨i, i1, i2, i3⟩
    rw [Bool.and_eq_true] at i3
    refine ⟨⟨i, i1, i2, i3.1⟩, ?_⟩
    have h := hc.mul _ _ i1 (G.cl _ _ (G.iv_lt i1) hx) (hac i i1 i2) i3.2
    rwa [← G.assoc _ _ _ i1 (G.iv_lt i1) hx, G.mul_iv i1, G.one_l x hx] at h
  · rintro ⟨⟨i, i1, i2, i3⟩, hcx⟩
    refine ⟨i, i1, i2, ?_⟩
    rw [Bool.and_eq_true]
    exact ⟨i3, hc.mul _ _ (G.iv_lt i1) hx (hc.inv _ i1 (hac i i1 i2)) hcx⟩

/-- A set of one thing has one place. -/
theorem mem_one {p : Nat → Bool} (he : e < n) (h : ∀ a, a < n → (p a = true ↔ a = e)) : (mem n p).length = 1 := by
  have : (mem n p).length = [e].length := same_len (List.nodup_range.filter _) (by simp) fun x => by
    rw [mem_mem, List.mem_singleton]
    constructor
    · rintro ⟨h1, h2⟩; exact (h x h1).1 h2
    · rintro rfl; exact ⟨he, (h x he).2 rfl⟩
  exact this
theorem one_mem {p : Nat → Bool} (he : e < n) (hp : p e = true) (h : (mem n p).length = 1) {a : Nat} (ha : a < n) (hpa : p a = true) : a = e := by
  obtain ⟨x, hx⟩ := List.length_eq_one_iff.1 h
  have h1 : a ∈ mem n p := mem_mem.2 ⟨ha, hpa⟩
  have h2 : e ∈ mem n p := mem_mem.2 ⟨he, hp⟩
  rw [hx, List.mem_singleton] at h1 h2
  rw [h1, h2]
theorem mem_all {p : Nat → Bool} : (mem n p).length = n ↔ ∀ a, a < n → p a = true := by
  constructor
  · intro h a ha
    have h1 : (mem n p).length = (List.range n).length := by rw [h, List.length_range]
    have h2 := List.length_filter_eq_length_iff.1 h1
    exact h2 a (List.mem_range.2 ha)
  · intro h
    have : mem n p = List.range n := List.filter_eq_self.2 fun a ha => h a (List.mem_range.1 ha)
    rw [this, List.length_range]
end
end Go.Proofs.YtjikchbmkodgfaaDoor
