
/-
  Cosets: right, left and double; how many, how great. Conditions: none.
-/
import Derived.Test.YtjikchbmkodgfaaDoorG18
set_option linter.all false
namespace Go.Proofs.YtjikchbmkodgfaaDoor
open Go.Pv

/-- The one alone. -/
def onp (e x : Nat) : Bool := decide (x = e)
/-- Is b = x a y for some x of p, y of q? -/
def dco (n : Nat) (f : Nat → Nat → Nat) (p q : Nat → Bool) (a b : Nat) : Bool := decide (∃ x, x < n ∧ p x = true ∧ ∃ y, y < n ∧ q y = true ∧ f (f x a) y = b)

theorem mem_bij {n : Nat} {P Q : Nat → Bool} (g : Nat → Nat) (h1 : ∀ x, x < n → P x = true → g x < n ∧ Q (g x) = true) (hi : ∀ x y, x < n → y < n → P x = true → P y = true → g x = g y → x = y) (h2 : ∀ y, y < n → Q y = true → ∃ x, x < n ∧ P x = true ∧ g x = y) : (mem n P).length = (mem n Q).length := by
  rw [← List.length_map (f := g) (as := mem n P)]
  refine same_len (nodup_map (List.nodup_range.filter _) fun x hx y hy he => hi x y (mem_mem.1 hx).1 (mem_mem.1 hy).1 (mem_mem.1 hx).2 (mem_mem.1 hy).2 he) (List.nodup_range.filter _) fun y => ?_
  rw [List.mem_map, mem_mem]
  constructor
  · rintro ⟨x, hx, rfl⟩
    exact h1 x (mem_mem.1 hx).1 (mem_mem.1 hx).2
  · rintro ⟨y1, y2⟩
    obtain ⟨x, x1, x2, x3⟩ := h2 y y1 y2
    exact ⟨x, mem_mem.2 ⟨x1, x2⟩, x3⟩
theorem mem_congr {n : Nat} {P Q : Nat → Bool} (h : ∀ a, a < n → P a = Q a) : mem n P = mem n Q := List.filter_congr fun a ha => h a (List.mem_range.1 ha)

section
variable {n : Nat} {f : Nat → Nat → Nat} {e : Nat} {p q : Nat → Bool}
theorem dco_iff {a b : Nat} : dco n f p q a b = true ↔ ∃ x y, x < n ∧ y < n ∧ p x = true ∧ q y = true ∧ f (f x a) y = b := by
  unfold dco; rw [decide_eq_true_iff]
  exact ⟨fun ⟨x, h1, h2, y, h3, h4, h5⟩ => ⟨x, y, h1, h3, h2, h4, h5⟩, fun ⟨x, y, h1, h3, h2, h4, h5⟩ => ⟨x, h1, h2, y, h3, h4, h5⟩⟩
theorem onp_iff {x : Nat} : onp e x = true ↔ x = e := by unfold onp; exact decide_eq_true_iff
theorem Grp.onp_sub (G : Grp n f e) : Sub n f e (onp e) :=
  sub_of G (onp_iff.2 rfl) fun a b ha hb h1 h2 => by
    rw [onp_iff] at *; subst h1; subst h2; exact G.one_l _ ha

/-- x (y z) w -/
theorem Grp.four (G : Grp n f e) {x y z w : Nat} (hx : x < n) (hy : y < n) (hz : z < n) (hw : w < n) : f (f x (f (f y z) w)) e = f (f (f x y) z) w := by
  have h1 := G.cl _ _ hy hz
  rw [G.one_r _ (G.cl _ _ hx (G.cl _ _ h1 hw)), ← G.assoc _ _ _ hx h1 hw, ← G.assoc _ _ _ hx hy hz]
theorem Grp.dco_eqv (G : Grp n f e) (hp : Sub n f e p) (hq : Sub n f e q) : Eqv n (dco n f p q) where
  refl a ha := dco_iff.2 ⟨e, e, G.el, G.el, hp.one, hq.one, by rw [G.one_l a ha, G.one_r a ha]⟩
  symm a b ha hb h := by
    obtain ⟨x, y, x1, y1, x2, y2, rfl⟩ := dco_iff.1 h
    have ix := G.iv_lt x1
    have iy := G.iv_lt y1
    have hxa := G.cl _ _ x1 ha
    refine dco_iff.2 ⟨iv n f e x, iv n f e y, ix, iy, hp.inv x x1 x2, hq.inv y y1 y2, ?_⟩
    rw [← G.assoc _ _ y ix hxa y1, ← G.assoc _ x a ix x1 ha, G.iv_mul x1, G.one_l a ha, G.assoc a y _ ha y1 iy, G.mul_iv y1, G.one_r a ha]
  trans a b c ha hb hc h1 h2 := by
    obtain ⟨x, y, x1, y1, x2, y2, rfl⟩ := dco_iff.1 h1
    obtain ⟨u, v, u1, v1, u2, v2, rfl⟩ := dco_iff.1 h2
    have hxa := G.cl _ _ x1 ha
    refine dco_iff.2 ⟨f u x, f y v, G.cl _ _ u1 x1, G.cl _ _ y1 v1, hp.mul _ _ u1 x1 u2 x2, hq.mul _ _ y1 v1 y2 v2, ?_⟩
    rw [G.assoc u x a u1 x1 ha, ← G.assoc _ y v (G.cl _ _ u1 hxa) y1 v1, G.assoc u (f x a) y u1 hxa y1]
/-- Right and left ones. -/
theorem Grp.rco_iff (G : Grp n f e) {a b : Nat} (ha : a < n) (hb : b < n) : dco n f p (onp e) a b = p (f b (iv n f e a)) := by
  rw [Bool.eq_iff_iff, dco_iff]
  constructor
  · rintro ⟨x, y, x1, y1, x2, y2, rfl⟩
    rw [onp_iff.1 y2, G.one_r _ (G.cl _ _ x1 ha), G.assoc x a _ x1 ha (G.iv_lt ha), G.mul_iv ha, G.one_r x x1]; exact x2
  · intro h
    refine ⟨f b (iv n f e a), e, G.cl _ _ hb (G.iv_lt ha), G.el, h, onp_iff.2 rfl, ?_⟩
    rw [G.assoc b _ a hb (G.iv_lt ha) ha, G.iv_mul ha, G.one_r b hb, G.one_r b hb]
theorem Grp.lco_iff (G : Grp n f e) {a b : Nat} (ha : a < n) (hb : b < n) : dco n f (onp e) q a b = q (f (iv n f e a) b) := by
  rw [Bool.eq_iff_iff, dco_iff]
  constructor
  · rintro ⟨x, y, x1, y1, x2, y2, rfl⟩
    rw [onp_iff.1 x2, G.one_l a ha, ← G.assoc _ a y (G.iv_lt ha) ha y1, G.iv_mul ha, G.one_l y y1]; exact y2
  · intro h
    refine ⟨e, f (iv n f e a) b, G.el, G.cl _ _ (G.iv_lt ha) hb, onp_iff.2 rfl, h, ?_⟩
    rw [G.one_l a ha, ← G.assoc a _ b ha (G.iv_lt ha) hb, G.mul_iv ha, G.one_l b hb]
/-- Double ones, as the document has them. -/
theorem Grp.dco_ref (G : Grp n f e) {a b : Nat} (ha : a < n) (hb : b < n) : dco n f p q a b = true ↔ ∃ x, x < n ∧ p x = true ∧ q (f (iv n f e (f x a)) b) = true := by
  rw [dco_iff]
  constructor
  · rintro ⟨x, y, x1, y1, x2, y2, rfl⟩
    have h := G.cl _ _ x1 ha
    exact ⟨x, x1, x2, by rw [← G.assoc _ _ y (G.iv_lt h) h y1, G.iv_mul h, G.one_l y y1]; exact y2⟩
  · rintro ⟨x, x1, x2, h⟩
    have h1 := G.cl _ _ x1 ha
    exact ⟨x, _, x1, G.cl _ _ (G.iv_lt h1) hb, x2, h, by rw [← G.assoc _ _ b h1 (G.iv_lt h1) hb, G.mul_iv h1, G.one_l b hb]⟩

/-- As many things in each. -/
theorem Grp.rco_len (G : Grp n f e) {a : Nat} (ha : a < n) : (mem n (dco n f p (onp e) a)).length = (mem n p).length := by
  refine (mem_bij (fun x => f x a) (fun x hx h => ⟨G.cl _ _ hx ha, dco_iff.2 ⟨x, e, hx, G.el, h, onp_iff.2 rfl, G.one_r _ (G.cl _ _ hx ha)⟩⟩) (fun x y hx hy _ _ h => G.cancel_r ha hx hy h) fun y hy h => ?_).symm
  obtain ⟨x, z, x1, z1, x2, z2, rfl⟩ := dco_iff.1 h
  exact ⟨x, x1, x2, by rw [onp_iff.1 z2, G.one_r _ (G.cl _ _ x1 ha)]⟩
theorem Grp.lco_len (G : Grp n f e) {a : Nat} (ha : a < n) : (mem n (dco n f (onp e) q a)).length = (mem n q).length := by
  refine (mem_bij (fun x => f a x) (fun x hx h => ⟨G.cl _ _ ha hx, dco_iff.2 ⟨e, x, G.el, hx, onp_iff.2 rfl, h, by rw [G.one_l a ha]⟩⟩) (fun x y hx hy _ _ h => G.cancel_l ha hx hy h) fun y hy h => ?_).symm
  obtain ⟨x, z, x1, z1, x2, z2, rfl⟩ := dco_iff.1 h
  exact ⟨z, z1, z2, by rw [onp_iff.1 x2, G.one_l a ha]⟩
theorem sum_same {α : Type} {g : α → Nat} {k : Nat} : ∀ {l : List α}, (∀ x ∈ l, g x = k) → (l.map g).sum = l.length * k
  | [], _ => by simp
  | a :: l, h => by
    rw [List.map_cons, List.sum_cons, sum_same (l := l) fun x hx => h x (by simp [hx]), h a (by simp), List.length_cons, Nat.add_mul, Nat.one_mul, Nat.add_comm]
theorem Grp.rco_num (G : Grp n f e) (hp : Sub n f e p) : (mem n (lead (dco n f p (onp e)))).length * (mem n p).length = n := by
  have h := (G.dco_eqv hp G.onp_sub).sum
  rwa [sum_same fun x hx => G.rco_len (mem_mem.1 hx).1] at h
theorem Grp.lco_num (G : Grp n f e) (hp : Sub n f e p) : (mem n (lead (dco n f (onp e) p))).length * (mem n p).length = n := by
  have h := (G.dco_eqv G.onp_sub hp).sum
  rwa [sum_same fun x hx => G.lco_len (mem_mem.1 hx).1] at h
theorem Sub.pos (hp : Sub n f e p) (he : e < n) : 0 < (mem n p).length := List.length_pos_of_mem (mem_mem.2 ⟨he, hp.one⟩)
theorem Grp.rl_num (G : Grp n f e) (hp : Sub n f e p) : (mem n (lead (dco n f p (onp e)))).length = (mem n (lead (dco n f (onp e) p))).length := by
  have h1 := G.rco_num hp
  have h2 := G.lco_num hp
  exact Nat.eq_of_mul_eq_mul_right (hp.pos G.el) (h1.trans h2.symm)

/-- A subgroup, conjugated. -/
theorem Grp.shf_sub (G : Grp n f e) (hp : Sub n f e p) {a : Nat} (ha : a < n) : Sub n f e (shf n f e p a) :=
  sub_of G (shf_iff.2 ⟨e, G.el, hp.one, G.cjr_one ha⟩) fun x y hx hy h1 h2 => by
    obtain ⟨u, u1, u2, rfl⟩ := shf_iff.1 h1
    obtain ⟨v, v1, v2, rfl⟩ := shf_iff.1 h2
    exact shf_iff.2 ⟨f u v, G.cl _ _ u1 v1, hp.mul _ _ u1 v1 u2 v2, G.cjr_hom u1 v1 ha⟩
theorem Grp.shf_len (G : Grp n f e) {a : Nat} (ha : a < n) : (mem n (shf n f e p a)).length = (mem n p).length := by
  refine (mem_bij (fun x => cjr n f e x a) (fun x hx h => ⟨G.cjr_lt hx ha, shf_iff.2 ⟨x, hx, h, rfl⟩⟩) (fun x y hx hy _ _ h => ?_) fun y hy h => ?_).symm
  · have := congrArg (fun z => cjr n f e z (iv n f e a)) h
    simp only [G.cjr_iv hx ha, G.cjr_iv hy ha] at this
    exact this
  · obtain ⟨x, x1, x2, x3⟩ := shf_iff.1 h
    exact ⟨x, x1, x2, x3⟩
/-- FROBENIUS: how many things a double coset has. -/
theorem Grp.dco_count (G : Grp n f e) (hp : Sub n f e p) (hq : Sub n f e q) {a : Nat} (ha : a < n) : (mem n (dco n f p q a)).length * (mem n fun x => shf n f e p a x && q x).length = (mem n p).length * (mem n q).length := by
  have h := G.prod_count (G.shf_sub hp ha) hq
  rw [G.shf_len ha] at h
  rw [← h]
  congr 1
  have ia := G.iv_lt ha
  refine mem_bij (fun x => f (iv n f e a) x) (fun x hx h => ⟨G.cl _ _ ia hx, ?_⟩) (fun x y hx hy _ _ h => G.cancel_l ia hx hy h) fun y hy h => ?_
  · obtain ⟨u, v, u1, v1, u2, v2, rfl⟩ := dco_iff.1 h
    have hua := G.cl _ _ u1 ha
    have hc := G.cjr_lt u1 ha
    refine pr2_iff.2 ⟨cjr n f e u a, hc, shf_iff.2 ⟨u, u1, u2, rfl⟩, ?_⟩
    have : f (iv n f e a) (f (f u a) v) = f (cjr n f e u a) v := by
      unfold cjr
      rw [← G.assoc _ (f u a) v ia hua v1, ← G.assoc _ u a ia u1 ha]
    rw [this, ← G.assoc _ _ v (G.iv_lt hc) hc v1, G.iv_mul hc, G.one_l v v1]; exact v2
  · obtain ⟨i, i1, i2, i3⟩ := pr2_iff.1 h
    obtain ⟨u, u1, u2, rfl⟩ := shf_iff.1 i2
    refine ⟨f a y, G.cl _ _ ha hy, dco_iff.2 ⟨u, _, u1, G.cl _ _ (G.iv_lt i1) hy, u2, i3, ?_⟩, ?_⟩
    · have hua := G.cl _ _ u1 ha
      have : f u a = f a (cjr n f e u a) := by
        unfold cjr
        rw [← G.assoc a _ a ha (G.cl _ _ ia u1) ha, ← G.assoc a _ u ha ia u1, G.mul_iv ha, G.one_l u u1]
      rw [this, G.assoc a _ _ ha i1 (G.cl _ _ (G.iv_lt i1) hy), ← G.assoc _ _ y i1 (G.iv_lt i1) hy, G.mul_iv i1, G.one_l y hy]
    · show f (iv n f e a) (f a y) = y
      rw [← G.assoc _ a y ia ha hy, G.iv_mul ha, G.one_l y hy]

/-! ### Towers -/

/-- Classes in a set that has whole classes. -/
theorem Eqv.part {r : Nat → Nat → Bool} (h : Eqv n r) {K : Nat → Bool} (hK : ∀ x y, x < n → y < n → r x y = true → K x = true → K y = true) : ((mem n fun x => lead r x && K x).map fun x => (mem n (r x)).length).sum = (mem n K).length := by
  have h1 := sum_filter (fun x y => r x y) (mem n fun x => lead r x && K x) (List.range n)
  have h2 : ∀ y, y ∈ List.range n → ((mem n fun x => lead r x && K x).filter fun x => r x y).length = if K y = true then 1 else 0 := fun y hy => by
    have y1 := List.mem_range.1 hy
    by_cases hk : K y = true
    · rw [if_pos hk, ← h.one y1]
      congr 1
      unfold mem
      rw [List.filter_filter, List.filter_filter]
      refine List.filter_congr fun x hx => ?_
      have x1 := List.mem_range.1 hx
      cases hr : r x y with
      | false => simp
      | true => rw [hK y x y1 x1 (h.symm x y x1 y1 hr) hk]; simp
    · rw [if_neg hk, List.length_eq_zero_iff, List.filter_eq_nil_iff]
      intro x hx hr
      obtain ⟨x1, x2⟩ := mem_mem.1 hx
      rw [Bool.and_eq_true] at x2
      exact hk (hK x y x1 y1 hr x2.2)
  have h3 : ((List.range n).map fun y => ((mem n fun x => lead r x && K x).filter fun x => r x y).length).sum = (mem n K).length := by
    rw [List.map_congr_left h2]
    unfold mem
    generalize List.range n = L
    induction L with
    | nil => rfl
    | cons a L ih => rw [List.map_cons, List.sum_cons, ih, List.filter_cons]; by_cases hk : K a = true <;> simp [hk, Nat.add_comm]
  exact h1.trans h3
theorem Grp.rco_in (G : Grp n f e) (hq : Sub n f e q) (hpq : ∀ x, x < n → p x = true → q x = true) {x y : Nat} (hx : x < n) (hy : y < n) (h : dco n f p (onp e) x y = true) (hk : q x = true) : q y = true := by
  obtain ⟨u, v, u1, v1, u2, v2, rfl⟩ := dco_iff.1 h
  rw [onp_iff.1 v2, G.one_r _ (G.cl _ _ u1 hx)]
  exact hq.mul _ _ u1 hx (hpq u u1 u2) hk
/-- Of a subgroup in a subgroup the numbers of cosets multiply. -/
theorem Grp.tower (G : Grp n f e) (hp : Sub n f e p) (hq : Sub n f e q) (hpq : ∀ x, x < n → p x = true → q x = true) : (mem n fun x => lead (dco n f p (onp e)) x && q x).length * (mem n (lead (dco n f q (onp e)))).length = (mem n (lead (dco n f p (onp e)))).length := by
  have h1 := (G.dco_eqv hp G.onp_sub).part (K := q) fun x y hx hy h hk => G.rco_in hq hpq hx hy h hk
  rw [sum_same (k := (mem n p).length) fun x hx => G.rco_len (mem_mem.1 hx).1] at h1
  have h2 := G.rco_num hq
  have h3 := G.rco_num hp
  refine Nat.eq_of_mul_eq_mul_right (hp.pos G.el) ?_
  rw [h3, Nat.mul_right_comm, h1, Nat.mul_comm, h2]

/-! ### Sides -/

/-- Inverses of a right coset's things are a left one. -/
theorem Grp.inv_side (G : Grp n f e) (hp : Sub n f e p) {a x : Nat} (ha : a < n) (hx : x < n) : dco n f p (onp e) a (iv n f e x) = dco n f (onp e) p (iv n f e a) x := by
  have ia := G.iv_lt ha
  have ix := G.iv_lt hx
  rw [G.rco_iff ha ix, G.lco_iff ia hx, G.iv_iv ha, ← G.iv_prod ha hx, Bool.eq_iff_iff]
  have h := G.cl _ _ ha hx
  refine ⟨fun h1 => ?_, fun h1 => hp.inv _ h h1⟩
  have := hp.inv _ (G.iv_lt h) h1
  rwa [G.iv_iv h] at this
theorem Grp.nml_sides (G : Grp n f e) : Nml n f e p ↔ ∀ a b, a < n → b < n → dco n f p (onp e) a b = dco n f (onp e) p a b := by
  constructor
  · intro h a b ha hb
    have ia := G.iv_lt ha
    rw [G.rco_iff ha hb, G.lco_iff ha hb, Bool.eq_iff_iff]
    constructor
    · intro h1
      have := h a ha _ (G.cl _ _ hb ia) h1
      unfold cjr at this
      rwa [← G.assoc _ b _ ia hb ia, G.assoc _ _ a (G.cl _ _ ia hb) ia ha, G.iv_mul ha, G.one_r _ (G.cl _ _ ia hb)] at this
    · intro h1
      have := h _ ia _ (G.cl _ _ ia hb) h1
      unfold cjr at this
      rwa [G.iv_iv ha, ← G.assoc a _ b ha ia hb, G.mul_iv ha, G.one_l b hb] at this
  · intro h a ha x hx hpx
    have hxa := G.cl _ _ hx ha
    have h1 := h a (f x a) ha hxa
    rw [G.rco_iff ha hxa, G.lco_iff ha hxa, G.assoc x a _ hx ha (G.iv_lt ha), G.mul_iv ha, G.one_r x hx, hpx, ← G.assoc _ x a (G.iv_lt ha) hx ha] at h1
    exact h1.symm
/-- One of two cosets alone is normal. -/
theorem Grp.two_nml (G : Grp n f e) (hp : Sub n f e p) (h2 : (mem n (lead (dco n f p (onp e)))).length = 2) : Nml n f e p := by
  have E := G.dco_eqv hp G.onp_sub
  have key : ∀ u v, u < n → v < n → p u = false → p v = false → p (f v (iv n f e u)) = true := by
    intro u v hu hv h3 h4
    cases huv : p (f v (iv n f e u)) with
    | true => rfl
    | false =>
      exfalso
      obtain ⟨a, a1, a2, a3⟩ := E.least G.el
      obtain ⟨b, b1, b2, b3⟩ := E.least hu
      obtain ⟨c, c1, c2, c3⟩ := E.least hv
      have r1 : ∀ {s t z : Nat}, s < n → t < n → z < n → dco n f p (onp e) z s = true → dco n f p (onp e) z t = true → dco n f p (onp e) s t = true := fun hs ht hz k1 k2 => E.trans _ _ _ hs hz ht (E.symm _ _ hz hs k1) k2
      have pe : ∀ {s : Nat}, s < n → dco n f p (onp e) e s = p s := fun hs => by rw [G.rco_iff G.el hs, G.iv_one, G.one_r _ hs]
      have hab : a ≠ b := fun he => by subst he; have := r1 G.el hu a1 a3 b3; rw [pe hu, h3] at this; cases this
      have hac : a ≠ c := fun he => by subst he; have := r1 G.el hv a1 a3 c3; rw [pe hv, h4] at this; cases this
      have hbc : b ≠ c := fun he => by subst he; have := r1 hu hv b1 b3 c3; rw [G.rco_iff hu hv, huv] at this; cases this
      have hnd : [a, b, c].Nodup := by simp [hab, hac, hbc]
      have := List.Nodup.length_le_of_subset hnd (l₂ := mem n (lead (dco n f p (onp e)))) fun z hz => by
        simp only [List.mem_cons, List.not_mem_nil, or_false] at hz
        rcases hz with rfl | rfl | rfl
        · exact mem_mem.2 ⟨a1, a2⟩
        · exact mem_mem.2 ⟨b1, b2⟩
        · exact mem_mem.2 ⟨c1, c2⟩
      rw [h2] at this
      simp at this
  intro a ha x hx hpx
  have ia := G.iv_lt ha
  have hc := G.cjr_lt hx ha
  cases hpa : p a with
  | true => exact hp.mul _ _ (G.cl _ _ ia hx) ha (hp.mul _ _ ia hx (hp.inv a ha hpa) hpx) hpa
  | false =>
    cases hy : p (cjr n f e x a) with
    | true => rfl
    | false =>
      exfalso
      have hiy : p (iv n f e (cjr n f e x a)) = false := by
        cases h' : p (iv n f e (cjr n f e x a)) with
        | false => rfl
        | true => have := hp.inv _ (G.iv_lt hc) h'; rw [G.iv_iv hc, hy] at this; cases this
      have h1 := key _ _ (G.iv_lt hc) ha hiy hpa
      rw [G.iv_iv hc] at h1
      have h3 : f a (cjr n f e x a) = f x a := by
        unfold cjr
        rw [← G.assoc a _ a ha (G.cl _ _ ia hx) ha, ← G.assoc a _ x ha ia hx, G.mul_iv ha, G.one_l x hx]
      rw [h3] at h1
      have h4 := hp.mul _ _ (G.iv_lt hx) (G.cl _ _ hx ha) (hp.inv x hx hpx) h1
      rw [← G.assoc _ x a (G.iv_lt hx) hx ha, G.iv_mul hx, G.one_l a ha, hpa] at h4
      cases h4
end
end Go.Proofs.YtjikchbmkodgfaaDoor
