/-
  Texts of this proof, one behind the other: what each says stands at its head. Conditions: none.
-/
import Derived.Test.YtjikchbmkodgfaaDoorB2
import Derived.Test.YtjikchbmkodgfaaDoorProg

/-
  Conjugated subgroups: normalisers, cores, closures. Conditions: none.
-/
set_option linter.all false
namespace Go.Proofs.YtjikchbmkodgfaaDoor
open Go.Pv

/-- x, conjugated by a. -/
def cjr (n : Nat) (f : Nat → Nat → Nat) (e x a : Nat) : Nat := f (f (iv n f e a) x) a
/-- a^-1 b^-1 a b -/
def cmt (n : Nat) (f : Nat → Nat → Nat) (e a b : Nat) : Nat := f (f (iv n f e a) (iv n f e b)) (f a b)
/-- A set, conjugated. -/
def shf (n : Nat) (f : Nat → Nat → Nat) (e : Nat) (p : Nat → Bool) (a y : Nat) : Bool := decide (∃ x, x < n ∧ p x = true ∧ cjr n f e x a = y)
/-- What lets a set stay. -/
def nzr (n : Nat) (f : Nat → Nat → Nat) (e : Nat) (p : Nat → Bool) (a : Nat) : Bool := decide (∀ y, y < n → shf n f e p a y = p y)
/-- The set stays, whatever it is conjugated by. -/
def Nml (n : Nat) (f : Nat → Nat → Nat) (e : Nat) (p : Nat → Bool) : Prop := ∀ a, a < n → ∀ x, x < n → p x = true → p (cjr n f e x a) = true
def crp (n : Nat) (f : Nat → Nat → Nat) (e : Nat) (p : Nat → Bool) (y : Nat) : Bool := decide (∀ a, a < n → p (cjr n f e y a) = true)
def cup (n : Nat) (f : Nat → Nat → Nat) (e : Nat) (p : Nat → Bool) (y : Nat) : Bool := decide (∃ x, x < n ∧ p x = true ∧ ∃ a, a < n ∧ cjr n f e x a = y)

section
variable {n : Nat} {f : Nat → Nat → Nat} {e : Nat}
theorem shf_iff {p : Nat → Bool} {a y : Nat} : shf n f e p a y = true ↔ ∃ x, x < n ∧ p x = true ∧ cjr n f e x a = y := by unfold shf; exact decide_eq_true_iff
theorem nzr_iff {p : Nat → Bool} {a : Nat} : nzr n f e p a = true ↔ ∀ y, y < n → shf n f e p a y = p y := by unfold nzr; exact decide_eq_true_iff
theorem crp_iff {p : Nat → Bool} {y : Nat} : crp n f e p y = true ↔ ∀ a, a < n → p (cjr n f e y a) = true := by unfold crp; exact decide_eq_true_iff
theorem Grp.cjr_lt (G : Grp n f e) {x a : Nat} (hx : x < n) (ha : a < n) : cjr n f e x a < n := G.cl _ _ (G.cl _ _ (G.iv_lt ha) hx) ha
theorem Grp.cjr_cjr (G : Grp n f e) {x a b : Nat} (hx : x < n) (ha : a < n) (hb : b < n) : cjr n f e (cjr n f e x a) b = cjr n f e x (f a b) := G.cjr_mul hx ha hb
theorem Grp.cjr_e (G : Grp n f e) {x : Nat} (hx : x < n) : cjr n f e x e = x := by
  unfold cjr; rw [G.iv_one, G.one_l x hx, G.one_r x hx]
theorem Grp.cjr_iv (G : Grp n f e) {x a : Nat} (hx : x < n) (ha : a < n) : cjr n f e (cjr n f e x a) (iv n f e a) = x := by
  rw [G.cjr_cjr hx ha (G.iv_lt ha), G.mul_iv ha, G.cjr_e hx]
theorem Grp.cjr_vi (G : Grp n f e) {x a : Nat} (hx : x < n) (ha : a < n) : cjr n f e (cjr n f e x (iv n f e a)) a = x := by
  rw [G.cjr_cjr hx (G.iv_lt ha) ha, G.iv_mul ha, G.cjr_e hx]
theorem Grp.cjr_hom (G : Grp n f e) {x y a : Nat} (hx : x < n) (hy : y < n) (ha : a < n) : cjr n f e (f x y) a = f (cjr n f e x a) (cjr n f e y a) := by
  have ia := G.iv_lt ha
  have h1 := G.cl _ _ ia hx
  have h2 := G.cl _ _ ia hy
  have h3 := G.cl _ _ h2 ha
  unfold cjr
  rw [G.assoc (f (iv n f e a) x) a _ h1 ha h3, G.assoc (iv n f e a) y a ia hy ha, ← G.assoc a (iv n f e a) (f y a) ha ia (G.cl _ _ hy ha), G.mul_iv ha, G.one_l _ (G.cl _ _ hy ha), ← G.assoc _ y a h1 hy ha, G.assoc _ x y ia hx hy]
theorem Grp.cjr_one (G : Grp n f e) {a : Nat} (ha : a < n) : cjr n f e e a = e := by
  unfold cjr; rw [G.one_r _ (G.iv_lt ha), G.iv_mul ha]
theorem Grp.iv_cjr (G : Grp n f e) {x a : Nat} (hx : x < n) (ha : a < n) : iv n f e (cjr n f e x a) = cjr n f e (iv n f e x) a :=
  (G.iv_unique (G.cjr_lt hx ha) (G.cjr_lt (G.iv_lt hx) ha) (.inl (by rw [← G.cjr_hom hx (G.iv_lt hx) ha, G.mul_iv hx, G.cjr_one ha]))).symm
theorem Grp.cmt_lt (G : Grp n f e) {a b : Nat} (ha : a < n) (hb : b < n) : cmt n f e a b < n := G.cl _ _ (G.cl _ _ (G.iv_lt ha) (G.iv_lt hb)) (G.cl _ _ ha hb)
theorem Grp.cmt_cjr (G : Grp n f e) {x a : Nat} (hx : x < n) (ha : a < n) : cmt n f e x a = f (iv n f e x) (cjr n f e x a) := by
  have ia := G.iv_lt ha
  unfold cmt cjr
  rw [G.assoc _ _ _ (G.iv_lt hx) ia (G.cl _ _ hx ha), G.assoc _ x a ia hx ha]
theorem Grp.cjr_cmt (G : Grp n f e) {x y a : Nat} (hx : x < n) (hy : y < n) (ha : a < n) : cjr n f e (cmt n f e x y) a = cmt n f e (cjr n f e x a) (cjr n f e y a) := by
  have ix := G.iv_lt hx
  have iy := G.iv_lt hy
  unfold cmt
  rw [G.cjr_hom (G.cl _ _ ix iy) (G.cl _ _ hx hy) ha, G.cjr_hom ix iy ha, G.cjr_hom hx hy ha, G.iv_cjr hx ha, G.iv_cjr hy ha]

theorem Grp.cmt_alt (G : Grp n f e) {a b : Nat} (ha : a < n) (hb : b < n) : f (iv n f e a) (cjr n f e a b) = cmt n f e a b := by
  have ia := G.iv_lt ha
  have ib := G.iv_lt hb
  unfold cjr cmt
  rw [G.assoc _ _ _ ia ib (G.cl _ _ ha hb), G.assoc _ a b ib ha hb]
/-- A commutator is the one just where both commute. -/
theorem Grp.cmt_one (G : Grp n f e) {a b : Nat} (ha : a < n) (hb : b < n) : cmt n f e a b = e ↔ f a b = f b a := by
  unfold cmt
  have ia := G.iv_lt ha
  have ib := G.iv_lt hb
  rw [← G.iv_prod hb ha]
  have hba := G.cl _ _ hb ha
  constructor
  · intro h
    refine G.cancel_l (G.iv_lt hba) (G.cl _ _ ha hb) hba ?_
    rw [h, G.iv_mul hba]
  · intro h
    rw [h, G.iv_mul hba]
theorem Grp.shf_back (G : Grp n f e) {p : Nat → Bool} {a y : Nat} (ha : a < n) (hy : y < n) : shf n f e p a y = p (cjr n f e y (iv n f e a)) := by
  rw [Bool.eq_iff_iff, shf_iff]
  constructor
  · rintro ⟨x, x1, x2, rfl⟩; rwa [G.cjr_iv x1 ha]
  · intro h; exact ⟨_, G.cjr_lt hy (G.iv_lt ha), h, G.cjr_vi hy ha⟩
theorem Grp.nml_iff (G : Grp n f e) {p : Nat → Bool} : Nml n f e p ↔ ∀ a, a < n → nzr n f e p a = true := by
  constructor
  · intro h a ha
    rw [nzr_iff]
    intro y hy
    rw [G.shf_back ha hy, Bool.eq_iff_iff]
    refine ⟨fun h1 => ?_, fun h1 => h _ (G.iv_lt ha) y hy h1⟩
    have := h a ha _ (G.cjr_lt hy (G.iv_lt ha)) h1
    rwa [G.cjr_vi hy ha] at this
  · intro h a ha x hx hp
    have h1 := nzr_iff.1 (h a ha) _ (G.cjr_lt hx ha)
    rw [G.shf_back ha (G.cjr_lt hx ha), G.cjr_iv hx ha, hp] at h1
    exact h1.symm
/-- A core, as a set's conjugated sets have it. -/
theorem Grp.crp_back (G : Grp n f e) {p : Nat → Bool} {y : Nat} (hy : y < n) : crp n f e p y = true ↔ p y = true ∧ ∀ a, a < n → shf n f e p a y = true := by
  rw [crp_iff]
  constructor
  · intro h
    refine ⟨by have := h e G.el; rwa [G.cjr_e hy] at this, fun a ha => ?_⟩
    rw [G.shf_back ha hy]; exact h _ (G.iv_lt ha)
  · rintro ⟨_, h⟩ a ha
    have := h _ (G.iv_lt ha)
    rwa [G.shf_back (G.iv_lt ha) hy, G.iv_iv ha] at this
/-- What conjugated things make is normal. -/
theorem Grp.gen_nml (G : Grp n f e) {p q : Nat → Bool} (hp : Nml n f e p) (hq : ∀ a, a < n → (q a = true ↔ Gen n f e p a)) : Nml n f e q := fun a ha x hx h => by
  have key : ∀ y, Gen n f e p y → Gen n f e p (cjr n f e y a) := fun y hy => by
    have h1 : ∀ z, Gen n f e p z → z < n ∧ Gen n f e p (cjr n f e z a) := by
      intro z hz
      refine ⟨hz.lt G, ?_⟩
      refine Gen.least (H := fun z => Gen n f e p (cjr n f e z a)) (by rw [G.cjr_one ha]; exact .one) (fun u v gu hv pv hu => ?_) hz
      rw [G.cjr_hom (gu.lt G) hv ha]
      exact .step _ _ hu (G.cjr_lt hv ha) (hp a ha v hv pv)
    exact (h1 y hy).2
  rw [hq _ (G.cjr_lt hx ha)]
  exact key x ((hq x hx).1 h)
theorem Grp.zen_sub (G : Grp n f e) : Sub n f e (zen n f) :=
  sub_of G (zen_iff.2 fun b hb => by rw [G.one_l b hb, G.one_r b hb]) fun x y hx hy h1 h2 => zen_iff.2 fun b hb => by
    rw [G.assoc x y b hx hy hb, zen_iff.1 h2 b hb, ← G.assoc x b y hx hb hy, zen_iff.1 h1 b hb, G.assoc b x y hb hx hy]
/-- What normalises a subgroup is a subgroup; the subgroup is in it. -/
theorem Grp.nzr_in (G : Grp n f e) {p : Nat → Bool} (hp : Sub n f e p) {a : Nat} (ha : a < n) (h : p a = true) : nzr n f e p a = true := nzr_iff.2 fun y hy => by
  have ia := G.iv_lt ha
  have h1 := hp.inv a ha h
  rw [G.shf_back ha hy, Bool.eq_iff_iff]
  unfold cjr
  rw [G.iv_iv ha]
  constructor
  · intro h2
    have h3 := hp.mul _ _ (G.cl _ _ ia (G.cl _ _ (G.cl _ _ ha hy) ia)) ha (hp.mul _ _ ia (G.cl _ _ (G.cl _ _ ha hy) ia) h1 h2) h
    have : f (f (iv n f e a) (f (f a y) (iv n f e a))) a = y := by
      have := G.cjr_cjr hy ia ha
      unfold cjr at this
      rw [G.iv_iv ha, G.iv_mul ha] at this
      rw [this]; exact G.cjr_e hy
    rwa [this] at h3
  · intro h2
    exact hp.mul _ _ (G.cl _ _ ha hy) ia (hp.mul _ _ ha hy h h2) h1
end
end Go.Proofs.YtjikchbmkodgfaaDoor

/-
  Cosets: right, left and double; how many, how great. Conditions: none.
-/
set_option linter.all false
namespace Go.Proofs.YtjikchbmkodgfaaDoor
open Go.Pv

/-- The one alone. -/
def onp (e x : Nat) : Bool := decide (x = e)
/-- Is b = x a y for some x of p, y of q? -/
def dco (n : Nat) (f : Nat → Nat → Nat) (p q : Nat → Bool) (a b : Nat) : Bool := decide (∃ x, x < n ∧ p x = true ∧ ∃ y, y < n ∧ q y = true ∧ f (f x a) y = b)

theorem mem_bij {n : Nat} {P Q : Nat → Bool} (g : Nat → Nat) (h1 : ∀ x, x < n → P x = true → g x < n ∧ Q (g x) = true) (hi : ∀ x y, x < n → y < n → P x = true → P y = true → g x = g y → x = y) (h2 : ∀ y, y < n → Q y = true → ∃ x, x < n ∧ P x = true ∧ g x = y) : (mem n P).length = (mem n Q).length := by
  rw [← List.length_map (f := g) («as» := mem n P)]
  refine same_len (nodup_map (List.nodup_range.filter _) fun x hx y hy he => hi x y (mem_mem.1 hx).1 (mem_mem.1 hy).1 (mem_mem.1 hx).2 (mem_mem.1 hy).2 he) (List.nodup_range.filter _) fun y => ?_
  rw [List.mem_map, mem_mem]
  constructor
  · rintro ⟨x, hx, rfl⟩
    exact h1 x (mem_mem.1 hx).1 (mem_mem.1 hx).2
  · rintro ⟨y1, y2⟩
    obtain ⟨x, x1, x2, x3⟩ := h2 y y1 y2
    exact ⟨x, mem_mem.2 ⟨x1, x2⟩, x3⟩
theorem mem_congr {n : Nat} {P Q : Nat → Bool} (h : ∀ a, a < n → P a = Q a) : mem n P = mem n Q := List.filter_congr fun a ha => h a (List.mem_range.1 ha)

section
variable {n : Nat} {f : Nat → Nat → Nat} {e : Nat} {p q : Nat → Bool}
theorem dco_iff {a b : Nat} : dco n f p q a b = true ↔ ∃ x y, x < n ∧ y < n ∧ p x = true ∧ q y = true ∧ f (f x a) y = b := by
  unfold dco; rw [decide_eq_true_iff]
  exact ⟨fun ⟨x, h1, h2, y, h3, h4, h5⟩ => ⟨x, y, h1, h3, h2, h4, h5⟩, fun ⟨x, y, h1, h3, h2, h4, h5⟩ => ⟨x, h1, h2, y, h3, h4, h5⟩⟩
theorem onp_iff {x : Nat} : onp e x = true ↔ x = e := by unfold onp; exact decide_eq_true_iff
theorem Grp.onp_sub (G : Grp n f e) : Sub n f e (onp e) :=
  sub_of G (onp_iff.2 rfl) fun a b ha hb h1 h2 => by
    rw [onp_iff] at *; subst h1; subst h2; exact G.one_l _ ha

theorem Grp.dco_eqv (G : Grp n f e) (hp : Sub n f e p) (hq : Sub n f e q) : Eqv n (dco n f p q) where
  refl a ha := dco_iff.2 ⟨e, e, G.el, G.el, hp.one, hq.one, by rw [G.one_l a ha, G.one_r a ha]⟩
  symm a b ha hb h := by
    obtain ⟨x, y, x1, y1, x2, y2, rfl⟩ := dco_iff.1 h
    have ix := G.iv_lt x1
    have iy := G.iv_lt y1
    have hxa := G.cl _ _ x1 ha
    refine dco_iff.2 ⟨iv n f e x, iv n f e y, ix, iy, hp.inv x x1 x2, hq.inv y y1 y2, ?_⟩
    rw [← G.assoc _ _ y ix hxa y1, ← G.assoc _ x a ix x1 ha, G.iv_mul x1, G.one_l a ha, G.assoc a y _ ha y1 iy, G.mul_iv y1, G.one_r a ha]
  trans a b c ha hb hc h1 h2 := by
    obtain ⟨x, y, x1, y1, x2, y2, rfl⟩ := dco_iff.1 h1
    obtain ⟨u, v, u1, v1, u2, v2, rfl⟩ := dco_iff.1 h2
    have hxa := G.cl _ _ x1 ha
    refine dco_iff.2 ⟨f u x, f y v, G.cl _ _ u1 x1, G.cl _ _ y1 v1, hp.mul _ _ u1 x1 u2 x2, hq.mul _ _ y1 v1 y2 v2, ?_⟩
    rw [G.assoc u x a u1 x1 ha, ← G.assoc _ y v (G.cl _ _ u1 hxa) y1 v1, G.assoc u (f x a) y u1 hxa y1]
/-- Right and left ones. -/
theorem Grp.rco_iff (G : Grp n f e) {a b : Nat} (ha : a < n) (hb : b < n) : dco n f p (onp e) a b = p (f b (iv n f e a)) := by
  rw [Bool.eq_iff_iff, dco_iff]
  constructor
  · rintro ⟨x, y, x1, y1, x2, y2, rfl⟩
    rw [onp_iff.1 y2, G.one_r _ (G.cl _ _ x1 ha), G.assoc x a _ x1 ha (G.iv_lt ha), G.mul_iv ha, G.one_r x x1]; exact x2
  · intro h
    refine ⟨f b (iv n f e a), e, G.cl _ _ hb (G.iv_lt ha), G.el, h, onp_iff.2 rfl, ?_⟩
    rw [G.assoc b _ a hb (G.iv_lt ha) ha, G.iv_mul ha, G.one_r b hb, G.one_r b hb]
/-- As many things in each. -/
theorem Grp.rco_len (G : Grp n f e) {a : Nat} (ha : a < n) : (mem n (dco n f p (onp e) a)).length = (mem n p).length := by
  refine (mem_bij (fun x => f x a) (fun x hx h => ⟨G.cl _ _ hx ha, dco_iff.2 ⟨x, e, hx, G.el, h, onp_iff.2 rfl, G.one_r _ (G.cl _ _ hx ha)⟩⟩) (fun x y hx hy _ _ h => G.cancel_r ha hx hy h) fun y hy h => ?_).symm
  obtain ⟨x, z, x1, z1, x2, z2, rfl⟩ := dco_iff.1 h
  exact ⟨x, x1, x2, by rw [onp_iff.1 z2, G.one_r _ (G.cl _ _ x1 ha)]⟩
theorem sum_same {α : Type} {g : α → Nat} {k : Nat} : ∀ {l : List α}, (∀ x ∈ l, g x = k) → (l.map g).sum = l.length * k
  | [], _ => by simp
  | a :: l, h => by
    rw [List.map_cons, List.sum_cons, sum_same (l := l) fun x hx => h x (by simp [hx]), h a (by simp), List.length_cons, Nat.add_mul, Nat.one_mul, Nat.add_comm]
theorem Grp.rco_num (G : Grp n f e) (hp : Sub n f e p) : (mem n (lead (dco n f p (onp e)))).length * (mem n p).length = n := by
  have h := (G.dco_eqv hp G.onp_sub).sum
  rwa [sum_same fun x hx => G.rco_len (mem_mem.1 hx).1] at h
theorem Sub.pos (hp : Sub n f e p) (he : e < n) : 0 < (mem n p).length := List.length_pos_of_mem (mem_mem.2 ⟨he, hp.one⟩)
/-- A subgroup, conjugated. -/
theorem Grp.shf_sub (G : Grp n f e) (hp : Sub n f e p) {a : Nat} (ha : a < n) : Sub n f e (shf n f e p a) :=
  sub_of G (shf_iff.2 ⟨e, G.el, hp.one, G.cjr_one ha⟩) fun x y hx hy h1 h2 => by
    obtain ⟨u, u1, u2, rfl⟩ := shf_iff.1 h1
    obtain ⟨v, v1, v2, rfl⟩ := shf_iff.1 h2
    exact shf_iff.2 ⟨f u v, G.cl _ _ u1 v1, hp.mul _ _ u1 v1 u2 v2, G.cjr_hom u1 v1 ha⟩
theorem Grp.shf_len (G : Grp n f e) {a : Nat} (ha : a < n) : (mem n (shf n f e p a)).length = (mem n p).length := by
  refine (mem_bij (fun x => cjr n f e x a) (fun x hx h => ⟨G.cjr_lt hx ha, shf_iff.2 ⟨x, hx, h, rfl⟩⟩) (fun x y hx hy _ _ h => ?_) fun y hy h => ?_).symm
  · have := congrArg (fun z => cjr n f e z (iv n f e a)) h
    simp only [G.cjr_iv hx ha, G.cjr_iv hy ha] at this
    exact this
  · obtain ⟨x, x1, x2, x3⟩ := shf_iff.1 h
    exact ⟨x, x1, x2, x3⟩
/-- FROBENIUS: how many things a double coset has. -/
theorem Grp.dco_count (G : Grp n f e) (hp : Sub n f e p) (hq : Sub n f e q) {a : Nat} (ha : a < n) : (mem n (dco n f p q a)).length * (mem n fun x => shf n f e p a x && q x).length = (mem n p).length * (mem n q).length := by
  have h := G.prod_count (G.shf_sub hp ha) hq
  rw [G.shf_len ha] at h
  rw [← h]
  congr 1
  have ia := G.iv_lt ha
  refine mem_bij (fun x => f (iv n f e a) x) (fun x hx h => ⟨G.cl _ _ ia hx, ?_⟩) (fun x y hx hy _ _ h => G.cancel_l ia hx hy h) fun y hy h => ?_
  · obtain ⟨u, v, u1, v1, u2, v2, rfl⟩ := dco_iff.1 h
    have hua := G.cl _ _ u1 ha
    have hc := G.cjr_lt u1 ha
    refine pr2_iff.2 ⟨cjr n f e u a, hc, shf_iff.2 ⟨u, u1, u2, rfl⟩, ?_⟩
    have : f (iv n f e a) (f (f u a) v) = f (cjr n f e u a) v := by
      unfold cjr
      rw [← G.assoc _ (f u a) v ia hua v1, ← G.assoc _ u a ia u1 ha]
    rw [this, ← G.assoc _ _ v (G.iv_lt hc) hc v1, G.iv_mul hc, G.one_l v v1]; exact v2
  · obtain ⟨i, i1, i2, i3⟩ := pr2_iff.1 h
    obtain ⟨u, u1, u2, rfl⟩ := shf_iff.1 i2
    refine ⟨f a y, G.cl _ _ ha hy, dco_iff.2 ⟨u, _, u1, G.cl _ _ (G.iv_lt i1) hy, u2, i3, ?_⟩, ?_⟩
    · have hua := G.cl _ _ u1 ha
      have : f u a = f a (cjr n f e u a) := by
        unfold cjr
        rw [← G.assoc a _ a ha (G.cl _ _ ia u1) ha, ← G.assoc a _ u ha ia u1, G.mul_iv ha, G.one_l u u1]
      rw [this, G.assoc a _ _ ha i1 (G.cl _ _ (G.iv_lt i1) hy), ← G.assoc _ _ y i1 (G.iv_lt i1) hy, G.mul_iv i1, G.one_l y hy]
    · show f (iv n f e a) (f a y) = y
      rw [← G.assoc _ a y ia ha hy, G.iv_mul ha, G.one_l y hy]

/-! ### Towers -/

/-- Classes in a set that has whole classes. -/
theorem Eqv.part {r : Nat → Nat → Bool} (h : Eqv n r) {K : Nat → Bool} (hK : ∀ x y, x < n → y < n → r x y = true → K x = true → K y = true) : ((mem n fun x => lead r x && K x).map fun x => (mem n (r x)).length).sum = (mem n K).length := by
  have h1 := sum_filter (fun x y => r x y) (mem n fun x => lead r x && K x) (List.range n)
  have h2 : ∀ y, y ∈ List.range n → ((mem n fun x => lead r x && K x).filter fun x => r x y).length = if K y = true then 1 else 0 := fun y hy => by
    have y1 := List.mem_range.1 hy
    by_cases hk : K y = true
    · rw [if_pos hk, ← h.one y1]
      congr 1
      unfold mem
      rw [List.filter_filter, List.filter_filter]
      refine List.filter_congr fun x hx => ?_
      have x1 := List.mem_range.1 hx
      cases hr : r x y with
      | false => simp
      | true => rw [hK y x y1 x1 (h.symm x y x1 y1 hr) hk]; simp
    · rw [if_neg hk, List.length_eq_zero_iff, List.filter_eq_nil_iff]
      intro x hx hr
      obtain ⟨x1, x2⟩ := mem_mem.1 hx
      rw [Bool.and_eq_true] at x2
      exact hk (hK x y x1 y1 hr x2.2)
  have h3 : ((List.range n).map fun y => ((mem n fun x => lead r x && K x).filter fun x => r x y).length).sum = (mem n K).length := by
    rw [List.map_congr_left h2]
    unfold mem
    generalize List.range n = L
    induction L with
    | nil => rfl
    | cons a L ih => rw [List.map_cons, List.sum_cons, ih, List.filter_cons]; by_cases hk : K a = true <;> simp [hk, Nat.add_comm]
  exact h1.trans h3
/-! ### Sides -/

end
end Go.Proofs.YtjikchbmkodgfaaDoor

/-
  Series of subgroups: commutators of commutators, from all on; what commutes up to the last one, from the one on. Conditions: none.
-/
set_option linter.all false
namespace Go.Proofs.YtjikchbmkodgfaaDoor
open Go.Pv

/-- Commutators of two sets. -/
def dnp (n : Nat) (f : Nat → Nat → Nat) (e : Nat) (p q : Nat → Bool) (x : Nat) : Bool := decide (∃ a, a < n ∧ p a = true ∧ ∃ b, b < n ∧ q b = true ∧ cmt n f e a b = x)
/-- What commutes with all, up to a set. -/
def unx (n : Nat) (f : Nat → Nat → Nat) (e : Nat) (p : Nat → Bool) (a : Nat) : Bool := decide (∀ b, b < n → p (cmt n f e a b) = true)
def itr (nx : (Nat → Bool) → Nat → Bool) (p : Nat → Bool) : Nat → Nat → Bool
  | 0 => p
  | k + 1 => nx (itr nx p k)
/-- A series comes to its end at K. -/
structure Stp (n : Nat) (T : Nat → Nat → Bool) (K : Nat) : Prop where
  eq : ∀ a, a < n → T (K + 1) a = T K a
  ne : ∀ j, j < K → ¬ ∀ a, a < n → T (j + 1) a = T j a

theorem mem_lt {n : Nat} {p q : Nat → Bool} (h : ∀ a, a < n → q a = true → p a = true) (hne : ¬ ∀ a, a < n → q a = p a) : (mem n q).length < (mem n p).length := by
  have h1 : mem n q = (mem n p).filter q := by
    unfold mem
    rw [List.filter_filter]
    refine List.filter_congr fun a ha => ?_
    have := h a (List.mem_range.1 ha)
    cases hq : q a with
    | false => simp
    | true => simp [this hq]
  have h2 : (mem n q).Sublist (mem n p) := by rw [h1]; exact List.filter_sublist
  rcases Nat.lt_or_eq_of_le h2.length_le with h3 | h3
  · exact h3
  · exfalso
    have h4 := h2.eq_of_length h3
    refine hne fun a ha => ?_
    rw [Bool.eq_iff_iff]
    have : a ∈ mem n q ↔ a ∈ mem n p := by rw [h4]
    rw [mem_mem, mem_mem] at this
    exact ⟨fun h => (this.1 ⟨ha, h⟩).2, fun h => (this.2 ⟨ha, h⟩).2⟩

theorem stop_ex {n : Nat} {T : Nat → Nat → Bool} (c : Nat → Nat) (hc : ∀ k, (¬ ∀ a, a < n → T (k + 1) a = T k a) → c (k + 1) < c k) : ∃ K, K ≤ c 0 ∧ Stp n T K := by
  cases hf : fst' (fun k => decide (∀ a, a < n → T (k + 1) a = T k a)) (c 0 + 1) with
  | some K =>
    obtain ⟨h1, h2, h3⟩ := fst_spec hf
    exact ⟨K, by omega, ⟨of_decide_eq_true h2, fun j hj => of_decide_eq_false (h3 j hj)⟩⟩
  | none =>
    exfalso
    have h := fst_spec0 hf
    have key : ∀ k, k ≤ c 0 + 1 → c k + k ≤ c 0 := by
      intro k
      induction k with
      | zero => intro _; omega
      | succ k ih =>
        intro hk
        have h1 := hc k (of_decide_eq_false (h k (by omega)))
        have h2 := ih (by omega)
        omega
    have := key (c 0 + 1) (by omega)
    omega

theorem Stp.after {n : Nat} {nx : (Nat → Bool) → Nat → Bool} {p : Nat → Bool} {K : Nat} (hx : ∀ p q : Nat → Bool, (∀ a, a < n → p a = q a) → ∀ a, a < n → nx p a = nx q a) (h : Stp n (itr nx p) K) : ∀ j a, a < n → itr nx p (K + j) a = itr nx p K a
  | 0, a, ha => rfl
  | j + 1, a, ha => by
    have h1 := hx _ _ (fun b hb => Stp.after hx h j b hb) a ha
    exact h1.trans (h.eq a ha)

section
variable {n : Nat} {f : Nat → Nat → Nat} {e : Nat}
theorem dnp_iff {p q : Nat → Bool} {x : Nat} : dnp n f e p q x = true ↔ ∃ a b, a < n ∧ b < n ∧ p a = true ∧ q b = true ∧ cmt n f e a b = x := by
  unfold dnp; rw [decide_eq_true_iff]
  exact ⟨fun ⟨a, h1, h2, b, h3, h4, h5⟩ => ⟨a, b, h1, h3, h2, h4, h5⟩, fun ⟨a, b, h1, h3, h2, h4, h5⟩ => ⟨a, h1, h2, b, h3, h4, h5⟩⟩
theorem unx_iff {p : Nat → Bool} {a : Nat} : unx n f e p a = true ↔ ∀ b, b < n → p (cmt n f e a b) = true := by unfold unx; exact decide_eq_true_iff
theorem nx_ex (n : Nat) (f : Nat → Nat → Nat) (e : Nat) (P : (Nat → Bool) → Nat → Bool) : ∃ nx : (Nat → Bool) → Nat → Bool, ∀ p a, a < n → (nx p a = true ↔ Gen n f e (P p) a) :=
  ⟨fun p => Classical.choose (gen_ex n f e (P p)), fun p => Classical.choose_spec (gen_ex n f e (P p))⟩
theorem Gen.congr {p q : Nat → Bool} (h : ∀ a, a < n → p a = q a) {a : Nat} : Gen n f e p a ↔ Gen n f e q a :=
  ⟨Gen.mono fun b hb h1 => by rw [← h b hb]; exact h1, Gen.mono fun b hb h1 => by rw [h b hb]; exact h1⟩
theorem nx_congr {P : (Nat → Bool) → Nat → Bool} {nx : (Nat → Bool) → Nat → Bool} (hnx : ∀ p a, a < n → (nx p a = true ↔ Gen n f e (P p) a)) (hP : ∀ p q : Nat → Bool, (∀ a, a < n → p a = q a) → ∀ a, a < n → P p a = P q a) : ∀ p q : Nat → Bool, (∀ a, a < n → p a = q a) → ∀ a, a < n → nx p a = nx q a := fun p q h a ha => by
  rw [Bool.eq_iff_iff, hnx p a ha, hnx q a ha]
  exact Gen.congr (hP p q h)
theorem Grp.all_sub (G : Grp n f e) : Sub n f e fun _ => true := sub_of G rfl fun _ _ _ _ _ _ => rfl
theorem Grp.one_nml (G : Grp n f e) : Nml n f e (onp e) := fun a ha x hx h => by
  rw [onp_iff] at *
  rw [h, G.cjr_one ha]
theorem Grp.dnp_nml (G : Grp n f e) {p q : Nat → Bool} (hp : Nml n f e p) (hq : Nml n f e q) : Nml n f e (dnp n f e p q) := fun c hc x hx h => by
  obtain ⟨a, b, a1, b1, a2, b2, rfl⟩ := dnp_iff.1 h
  rw [G.cjr_cmt a1 b1 hc]
  exact dnp_iff.2 ⟨_, _, G.cjr_lt a1 hc, G.cjr_lt b1 hc, hp c hc a a1 a2, hq c hc b b1 b2, rfl⟩
theorem Grp.cmt_in (G : Grp n f e) {p : Nat → Bool} (hs : Sub n f e p) (hn : Nml n f e p) {x b : Nat} (hx : x < n) (hb : b < n) (h : p x = true) : p (cmt n f e x b) = true := by
  rw [G.cmt_cjr hx hb]
  exact hs.mul _ _ (G.iv_lt hx) (G.cjr_lt hx hb) (hs.inv x hx h) (hn b hb x hx h)

/-! ### Falling -/

section
variable {nx : (Nat → Bool) → Nat → Bool}
theorem Grp.fall (G : Grp n f e) {P : (Nat → Bool) → Nat → Bool} (hnx : ∀ p a, a < n → (nx p a = true ↔ Gen n f e (P p) a)) (hP : ∀ p, Nml n f e p → Nml n f e (P p)) : ∀ k, Sub n f e (itr nx (fun _ => true) k) ∧ Nml n f e (itr nx (fun _ => true) k)
  | 0 => ⟨G.all_sub, fun _ _ _ _ _ => rfl⟩
  | k + 1 => ⟨gen_sub G (hnx _), G.gen_nml (hP _ (G.fall hnx hP k).2) (hnx _)⟩
theorem Grp.fall_le (G : Grp n f e) {P : (Nat → Bool) → Nat → Bool} (hnx : ∀ p a, a < n → (nx p a = true ↔ Gen n f e (P p) a)) (hP : ∀ p, Nml n f e p → Nml n f e (P p)) (hle : ∀ p, Sub n f e p → Nml n f e p → ∀ x, x < n → P p x = true → p x = true) (k : Nat) {a : Nat} (ha : a < n) (h : itr nx (fun _ => true) (k + 1) a = true) : itr nx (fun _ => true) k a = true := by
  obtain ⟨h1, h2⟩ := G.fall hnx hP k
  exact ((hnx _ a ha).1 h).sub G h1 fun b hb hc => hle _ h1 h2 b hb hc
theorem Grp.fall_stop (G : Grp n f e) {P : (Nat → Bool) → Nat → Bool} (hnx : ∀ p a, a < n → (nx p a = true ↔ Gen n f e (P p) a)) (hP : ∀ p, Nml n f e p → Nml n f e (P p)) (hle : ∀ p, Sub n f e p → Nml n f e p → ∀ x, x < n → P p x = true → p x = true) : ∃ K, K ≤ n ∧ Stp n (itr nx fun _ => true) K := by
  obtain ⟨K, h1, h2⟩ := stop_ex (n := n) (T := itr nx fun _ => true) (fun k => (mem n (itr nx (fun _ => true) k)).length) fun k hk => mem_lt (fun a ha h => G.fall_le hnx hP hle k ha h) hk
  refine ⟨K, Nat.le_trans h1 ?_, h2⟩
  exact Nat.le_trans (List.length_filter_le _ _) (Nat.le_of_eq List.length_range)
end
theorem Grp.dd_nml (G : Grp n f e) (p : Nat → Bool) (hp : Nml n f e p) : Nml n f e (dnp n f e p p) := G.dnp_nml hp hp
theorem Grp.da_nml (G : Grp n f e) (p : Nat → Bool) (hp : Nml n f e p) : Nml n f e (dnp n f e p fun _ => true) := G.dnp_nml hp fun _ _ _ _ _ => rfl
theorem Grp.dd_le (G : Grp n f e) (p : Nat → Bool) (hs : Sub n f e p) (hp : Nml n f e p) (x : Nat) (hx : x < n) (h : dnp n f e p p x = true) : p x = true := by
  obtain ⟨a, b, a1, b1, a2, b2, rfl⟩ := dnp_iff.1 h
  exact G.cmt_in hs hp a1 b1 a2
theorem Grp.da_le (G : Grp n f e) (p : Nat → Bool) (hs : Sub n f e p) (hp : Nml n f e p) (x : Nat) (hx : x < n) (h : dnp n f e p (fun _ => true) x = true) : p x = true := by
  obtain ⟨a, b, a1, b1, a2, b2, rfl⟩ := dnp_iff.1 h
  exact G.cmt_in hs hp a1 b1 a2
theorem dd_congr (p q : Nat → Bool) (h : ∀ a, a < n → p a = q a) (x : Nat) (_ : x < n) : dnp n f e p p x = dnp n f e q q x := by
  rw [Bool.eq_iff_iff, dnp_iff, dnp_iff]
  exact ⟨fun ⟨a, b, a1, b1, a2, b2, h3⟩ => ⟨a, b, a1, b1, by rw [← h a a1]; exact a2, by rw [← h b b1]; exact b2, h3⟩, fun ⟨a, b, a1, b1, a2, b2, h3⟩ => ⟨a, b, a1, b1, by rw [h a a1]; exact a2, by rw [h b b1]; exact b2, h3⟩⟩
theorem da_congr (p q : Nat → Bool) (h : ∀ a, a < n → p a = q a) (x : Nat) (_ : x < n) : dnp n f e p (fun _ => true) x = dnp n f e q (fun _ => true) x := by
  rw [Bool.eq_iff_iff, dnp_iff, dnp_iff]
  exact ⟨fun ⟨a, b, a1, b1, a2, b2, h3⟩ => ⟨a, b, a1, b1, by rw [← h a a1]; exact a2, b2, h3⟩, fun ⟨a, b, a1, b1, a2, b2, h3⟩ => ⟨a, b, a1, b1, by rw [h a a1]; exact a2, b2, h3⟩⟩
/-- Each Derived one is in the Lower one at its place. -/
theorem Grp.der_low (G : Grp n f e) {nd nl : (Nat → Bool) → Nat → Bool} (hd : ∀ p a, a < n → (nd p a = true ↔ Gen n f e (dnp n f e p p) a)) (hl : ∀ p a, a < n → (nl p a = true ↔ Gen n f e (dnp n f e p fun _ => true) a)) : ∀ k a, a < n → itr nd (fun _ => true) k a = true → itr nl (fun _ => true) k a = true
  | 0, _, _, _ => rfl
  | k + 1, a, ha, h => (hl _ a ha).2 (((hd _ a ha).1 h).mono fun b hb hc => by
      obtain ⟨x, y, x1, y1, x2, y2, h3⟩ := dnp_iff.1 hc
      exact dnp_iff.2 ⟨x, y, x1, y1, G.der_low hd hl k x x1 x2, rfl, h3⟩)

/-! ### Rising -/

theorem Grp.unx_in (G : Grp n f e) {p : Nat → Bool} (hs : Sub n f e p) (hn : Nml n f e p) {x : Nat} (hx : x < n) (h : p x = true) : unx n f e p x = true := unx_iff.2 fun b hb => G.cmt_in hs hn hx hb h
theorem Grp.unx_sub (G : Grp n f e) {p : Nat → Bool} (hs : Sub n f e p) (hn : Nml n f e p) : Sub n f e (unx n f e p) := by
  refine sub_of G (G.unx_in hs hn G.el hs.one) fun x y hx hy h1 h2 => unx_iff.2 fun b hb => ?_
  have ix := G.iv_lt hx
  have iy := G.iv_lt hy
  have hxb := G.cjr_lt hx hb
  have hyb := G.cjr_lt hy hb
  have hcx := G.cmt_lt hx hb
  have h3 := hs.mul _ _ (G.cjr_lt hcx hy) (G.cmt_lt hy hb) (hn y hy _ hcx (unx_iff.1 h1 b hb)) (unx_iff.1 h2 b hb)
  have : cmt n f e (f x y) b = f (cjr n f e (cmt n f e x b) y) (cmt n f e y b) := by
    have e1 : cjr n f e (cmt n f e x b) y = f (f (iv n f e y) (cmt n f e x b)) y := rfl
    rw [G.cmt_cjr (G.cl _ _ hx hy) hb, G.iv_prod hx hy, G.cjr_hom hx hy hb, e1, G.cmt_cjr hy hb, G.assoc (f (iv n f e y) (cmt n f e x b)) y _ (G.cl _ _ iy hcx) hy (G.cl _ _ iy hyb), ← G.assoc y (iv n f e y) _ hy iy hyb, G.mul_iv hy, G.one_l _ hyb, G.cmt_cjr hx hb, G.assoc (iv n f e y) (iv n f e x) _ iy ix (G.cl _ _ hxb hyb), ← G.assoc (iv n f e x) _ _ ix hxb hyb, ← G.assoc (iv n f e y) _ _ iy (G.cl _ _ ix hxb) hyb]
  rw [this]; exact h3
theorem Grp.unx_nml (G : Grp n f e) {p : Nat → Bool} (hn : Nml n f e p) : Nml n f e (unx n f e p) := fun c hc x hx h => unx_iff.2 fun b hb => by
  have ic := G.iv_lt hc
  have hbc := G.cjr_lt hb ic
  have h1 := hn c hc _ (G.cmt_lt hx hbc) (unx_iff.1 h _ hbc)
  rwa [G.cjr_cmt hx hbc hc, G.cjr_vi hb hc] at h1
theorem Grp.rise (G : Grp n f e) : ∀ k, Sub n f e (itr (unx n f e) (onp e) k) ∧ Nml n f e (itr (unx n f e) (onp e) k)
  | 0 => ⟨G.onp_sub, G.one_nml⟩
  | k + 1 => ⟨G.unx_sub (G.rise k).1 (G.rise k).2, G.unx_nml (G.rise k).2⟩
theorem Grp.rise_stop (G : Grp n f e) : ∃ K, K ≤ n ∧ Stp n (itr (unx n f e) (onp e)) K := by
  have hle : ∀ p : Nat → Bool, (mem n p).length ≤ n := fun p => Nat.le_trans (List.length_filter_le _ _) (Nat.le_of_eq List.length_range)
  obtain ⟨K, h1, h2⟩ := stop_ex (n := n) (T := itr (unx n f e) (onp e)) (fun k => n - (mem n (itr (unx n f e) (onp e) k)).length) fun k hk => by
    have h1 := mem_lt (n := n) (p := itr (unx n f e) (onp e) (k + 1)) (q := itr (unx n f e) (onp e) k) (fun a ha h => G.unx_in (G.rise k).1 (G.rise k).2 ha h) (fun h => hk fun a ha => (h a ha).symm)
    have h2 := hle (itr (unx n f e) (onp e) (k + 1))
    have h3 := hle (itr (unx n f e) (onp e) k)
    show n - _ < n - _
    omega
  exact ⟨K, Nat.le_trans h1 (Nat.sub_le _ _), h2⟩
end
end Go.Proofs.YtjikchbmkodgfaaDoor

/-
  Plain law, FROBENIUS' THEOREM: what commutes with y, taken by y's powers, is a group on the least things of cosets. Conditions: none.
-/
set_option linter.all false
namespace Go.Proofs.YtjikchbmkodgfaaDoor
open Go.Pv

section
variable {n : Nat} {f : Nat → Nat → Nat} {e : Nat}

/-- The same but for a power of y. -/
def sm (n : Nat) (f : Nat → Nat → Nat) (e y x z : Nat) : Prop := ∃ j, j < ord n f e y ∧ z = f x (pw f e y j)
instance (n : Nat) (f : Nat → Nat → Nat) (e y x z : Nat) : Decidable (sm n f e y x z) := by unfold sm; infer_instance

theorem Grp.sm_of (G : Grp n f e) {y x : Nat} (hy : y < n) (j : Nat) : sm n f e y x (f x (pw f e y j)) :=
  ⟨j % ord n f e y, Nat.mod_lt _ (G.ord_pos hy), by rw [G.pw_mod hy]⟩
theorem Grp.sm_refl (G : Grp n f e) {y x : Nat} (hy : y < n) (hx : x < n) : sm n f e y x x := by
  have := G.sm_of (x := x) hy 0
  rwa [show pw f e y 0 = e from rfl, G.one_r x hx] at this
theorem Grp.sm_lt (G : Grp n f e) {y x z : Nat} (hy : y < n) (hx : x < n) (h : sm n f e y x z) : z < n := by
  obtain ⟨j, _, rfl⟩ := h
  exact G.cl _ _ hx (G.pw_lt hy j)
theorem Grp.sm_trans (G : Grp n f e) {y x z w : Nat} (hy : y < n) (hx : x < n) (h : sm n f e y x z) (h' : sm n f e y z w) : sm n f e y x w := by
  obtain ⟨j, _, rfl⟩ := h
  obtain ⟨i, _, rfl⟩ := h'
  rw [G.assoc _ _ _ hx (G.pw_lt hy j) (G.pw_lt hy i), ← G.pw_add hy]
  exact G.sm_of hy _
theorem Grp.sm_symm (G : Grp n f e) {y x z : Nat} (hy : y < n) (hx : x < n) (h : sm n f e y x z) : sm n f e y z x := by
  obtain ⟨j, hj, rfl⟩ := h
  have := G.sm_of (x := f x (pw f e y j)) hy (ord n f e y - j)
  rwa [G.assoc _ _ _ hx (G.pw_lt hy j) (G.pw_lt hy _), ← G.pw_add hy, Nat.add_sub_cancel' (by omega), G.pw_ord hy, G.one_r x hx] at this
theorem Grp.sm_mul (G : Grp n f e) {y a b a' b' : Nat} (hy : y < n) (ha : a < n) (hb : b < n) (hcb : f b y = f y b) (h : sm n f e y a a') (h' : sm n f e y b b') : sm n f e y (f a b) (f a' b') := by
  obtain ⟨i, _, rfl⟩ := h
  obtain ⟨j, _, rfl⟩ := h'
  have hi := G.pw_lt hy i
  have hj := G.pw_lt hy j
  have : f (f a (pw f e y i)) (f b (pw f e y j)) = f (f a b) (pw f e y (i + j)) := by
    rw [G.pw_add hy, G.assoc a _ _ ha hi (G.cl _ _ hb hj), ← G.assoc _ b _ hi hb hj, ← G.cen_pw hy hb hcb i, G.assoc b _ _ hb hi hj, ← G.assoc a b _ ha hb (G.cl _ _ hi hj)]
  rw [this]
  exact G.sm_of hy _

/-- The least of a coset. -/
def rp (n : Nat) (f : Nat → Nat → Nat) (e y x : Nat) : Nat := (fst' (fun z => decide (sm n f e y x z)) n).getD 0

theorem Grp.rp_sm (G : Grp n f e) {y x : Nat} (hy : y < n) (hx : x < n) : sm n f e y x (rp n f e y x) := by
  unfold rp
  cases h : fst' (fun z => decide (sm n f e y x z)) n with
  | none =>
    have := fst_spec0 h x hx
    simp only [decide_eq_false_iff_not] at this
    exact absurd (G.sm_refl hy hx) this
  | some a =>
    obtain ⟨_, h2, _⟩ := fst_spec h
    simpa using h2
theorem Grp.rp_lt (G : Grp n f e) {y x : Nat} (hy : y < n) (hx : x < n) : rp n f e y x < n := G.sm_lt hy hx (G.rp_sm hy hx)
theorem Grp.rp_eq (G : Grp n f e) {y x z : Nat} (hy : y < n) (hx : x < n) (hz : z < n) : rp n f e y x = rp n f e y z ↔ sm n f e y x z := by
  constructor
  · intro h
    exact G.sm_trans hy hx (G.rp_sm hy hx) (by rw [h]; exact G.sm_symm hy hz (G.rp_sm hy hz))
  · intro h
    unfold rp
    congr 2
    funext w
    exact decide_eq_decide.2 ⟨fun h' => G.sm_trans hy hz (G.sm_symm hy hx h) h', fun h' => G.sm_trans hy hx h h'⟩
theorem Grp.rp_rp (G : Grp n f e) {y x : Nat} (hy : y < n) (hx : x < n) : rp n f e y (rp n f e y x) = rp n f e y x :=
  ((G.rp_eq hy hx (G.rp_lt hy hx)).2 (G.rp_sm hy hx)).symm

/-- The quotient's things. -/
def quo (n : Nat) (f : Nat → Nat → Nat) (e y : Nat) : List Nat := mem n fun x => cen f y x && decide (rp n f e y x = x)
theorem mem_quo {y x : Nat} : x ∈ quo n f e y ↔ x < n ∧ f x y = f y x ∧ rp n f e y x = x := by
  unfold quo
  rw [mem_mem, Bool.and_eq_true, cen_iff, decide_eq_true_eq]

theorem Grp.cen_rp (G : Grp n f e) {y x : Nat} (hy : y < n) (hx : x < n) (h : f x y = f y x) : f (rp n f e y x) y = f y (rp n f e y x) := by
  obtain ⟨j, _, hj⟩ := G.rp_sm (x := x) hy hx
  rw [hj]
  have hp := G.pw_lt hy j
  rw [G.assoc x _ y hx hp hy, ← G.cen_pw hy hy rfl j, ← G.assoc x y _ hx hy hp, h, G.assoc y x _ hy hx hp]
theorem Grp.rp_quo (G : Grp n f e) {y x : Nat} (hy : y < n) (hx : x < n) (h : f x y = f y x) : rp n f e y x ∈ quo n f e y :=
  mem_quo.2 ⟨G.rp_lt hy hx, G.cen_rp hy hx h, G.rp_rp hy hx⟩

theorem Grp.quo_gs (G : Grp n f e) {y : Nat} (hy : y < n) : GS (quo n f e y) (fun a b => rp n f e y (f a b)) (rp n f e y e) := by
  have C := G.cen_sub hy
  have hmul : ∀ {a b}, a < n → b < n → f a y = f y a → f b y = f y b → f (f a b) y = f y (f a b) := fun ha hb h1 h2 =>
    cen_iff.1 (C.mul _ _ ha hb (cen_iff.2 h1) (cen_iff.2 h2))
  have he : f e y = f y e := cen_iff.1 C.one
  have hre := G.rp_sm (x := e) hy G.el
  refine ⟨List.nodup_range.filter _, ?_, G.rp_quo hy G.el he, ?_, ?_, ?_, ?_⟩
  · intro a b ha hb
    obtain ⟨a1, a2, _⟩ := mem_quo.1 ha
    obtain ⟨b1, b2, _⟩ := mem_quo.1 hb
    exact G.rp_quo hy (G.cl _ _ a1 b1) (hmul a1 b1 a2 b2)
  · intro a ha
    obtain ⟨a1, a2, a3⟩ := mem_quo.1 ha
    show rp n f e y (f (rp n f e y e) a) = a
    have h := G.sm_mul hy G.el a1 a2 hre (G.sm_refl hy a1)
    rw [← (G.rp_eq hy (G.cl _ _ G.el a1) (G.cl _ _ (G.rp_lt hy G.el) a1)).2 h, G.one_l a a1, a3]
  · intro a ha
    obtain ⟨a1, a2, a3⟩ := mem_quo.1 ha
    show rp n f e y (f a (rp n f e y e)) = a
    have h := G.sm_mul hy a1 G.el he (G.sm_refl hy a1) hre
    rw [← (G.rp_eq hy (G.cl _ _ a1 G.el) (G.cl _ _ a1 (G.rp_lt hy G.el))).2 h, G.one_r a a1, a3]
  · intro a b c ha hb hc
    obtain ⟨a1, a2, _⟩ := mem_quo.1 ha
    obtain ⟨b1, b2, _⟩ := mem_quo.1 hb
    obtain ⟨c1, c2, _⟩ := mem_quo.1 hc
    have hab := G.cl _ _ a1 b1
    have hbc := G.cl _ _ b1 c1
    show rp n f e y (f (rp n f e y (f a b)) c) = rp n f e y (f a (rp n f e y (f b c)))
    have h1 := G.sm_mul hy hab c1 c2 (G.rp_sm hy hab) (G.sm_refl hy c1)
    have h2 := G.sm_mul hy a1 hbc (hmul b1 c1 b2 c2) (G.sm_refl hy a1) (G.rp_sm hy hbc)
    rw [← (G.rp_eq hy (G.cl _ _ hab c1) (G.cl _ _ (G.rp_lt hy hab) c1)).2 h1, ← (G.rp_eq hy (G.cl _ _ a1 hbc) (G.cl _ _ a1 (G.rp_lt hy hbc))).2 h2, G.assoc a b c a1 b1 c1]
  · intro a ha
    obtain ⟨a1, a2, _⟩ := mem_quo.1 ha
    have hi := G.iv_lt a1
    have hci : f (iv n f e a) y = f y (iv n f e a) := cen_iff.1 (C.inv a a1 (cen_iff.2 a2))
    refine ⟨rp n f e y (iv n f e a), G.rp_quo hy hi hci, ?_, ?_⟩
    · show rp n f e y (f a (rp n f e y (iv n f e a))) = rp n f e y e
      have h := G.sm_mul hy a1 hi hci (G.sm_refl hy a1) (G.rp_sm hy hi)
      rw [← (G.rp_eq hy (G.cl _ _ a1 hi) (G.cl _ _ a1 (G.rp_lt hy hi))).2 h, G.mul_iv a1]
    · show rp n f e y (f (rp n f e y (iv n f e a)) a) = rp n f e y e
      have h := G.sm_mul hy hi a1 a2 (G.rp_sm hy hi) (G.sm_refl hy a1)
      rw [← (G.rp_eq hy (G.cl _ _ hi a1) (G.cl _ _ (G.rp_lt hy hi) a1)).2 h, G.iv_mul a1]
end
end Go.Proofs.YtjikchbmkodgfaaDoor

/-
  Plain law, FROBENIUS' THEOREM: how many things the quotient of a centraliser has, and how many solutions. Conditions: none.
-/
set_option linter.all false
namespace Go.Proofs.YtjikchbmkodgfaaDoor
open Go.Pv

section
variable {n : Nat} {f : Nat → Nat → Nat} {e : Nat}

theorem filter_one {l : List Nat} (h : l.Nodup) {a : Nat} (ha : a ∈ l) : (l.filter fun w => decide (a = w)).length = 1 := by
  have : (l.filter fun w => decide (a = w)).length = [a].length := same_len (h.filter _) (by simp) fun x => by
    rw [List.mem_filter, decide_eq_true_eq, List.mem_singleton]
    constructor
    · rintro ⟨_, h⟩; exact h.symm
    · rintro rfl; exact ⟨ha, rfl⟩
  exact this

theorem Grp.quo_card (G : Grp n f e) {y : Nat} (hy : y < n) : (mem n (cen f y)).length = (quo n f e y).length * ord n f e y := by
  have := dbl (fun x w => decide (rp n f e y x = w)) (L1 := mem n (cen f y)) (L2 := quo n f e y) (c1 := 1) (c2 := ord n f e y) ?_ ?_
  · omega
  · intro x hx
    obtain ⟨x1, x2⟩ := mem_mem.1 hx
    exact filter_one (G.quo_gs hy).nd (G.rp_quo hy x1 (cen_iff.1 x2))
  · intro w hw
    obtain ⟨w1, w2, w3⟩ := mem_quo.1 hw
    have hl : ((mem n (cen f y)).filter fun a => decide (rp n f e y a = w)).length = ((List.range (ord n f e y)).map fun j => f w (pw f e y j)).length := by
      refine same_len ((List.nodup_range.filter _).filter _) (nodup_map List.nodup_range fun i hi j hj he => ?_) fun x => ?_
      · exact G.pw_inj hy (List.mem_range.1 hi) (List.mem_range.1 hj) (G.cancel_l w1 (G.pw_lt hy i) (G.pw_lt hy j) he)
      · rw [List.mem_filter, List.mem_map, decide_eq_true_eq]
        constructor
        · rintro ⟨hx, h⟩
          obtain ⟨x1, x2⟩ := mem_mem.1 hx
          rw [← w3] at h
          obtain ⟨j, hj, h⟩ := (G.rp_eq hy w1 x1).1 h.symm
          exact ⟨j, List.mem_range.2 hj, h.symm⟩
        · rintro ⟨j, hj, rfl⟩
          have hc := (G.cen_sub hy).mul w (pw f e y j) w1 (G.pw_lt hy j) (cen_iff.2 w2) (cen_iff.2 (G.cen_pw hy hy rfl j).symm)
          have hlt := G.cl _ _ w1 (G.pw_lt hy j)
          refine ⟨mem_mem.2 ⟨hlt, hc⟩, ?_⟩
          rw [← (G.rp_eq hy w1 hlt).2 (G.sm_of hy j), w3]
    rw [hl]; simp

theorem Grp.quo_pw (G : Grp n f e) {y w : Nat} (hy : y < n) (hw : w < n) (hc : f w y = f y w) : ∀ k, pw (fun a b => rp n f e y (f a b)) (rp n f e y e) w k = rp n f e y (pw f e w k)
  | 0 => rfl
  | k + 1 => by
    have hk := G.pw_lt hw k
    show rp n f e y (f (pw (fun a b => rp n f e y (f a b)) (rp n f e y e) w k) w) = rp n f e y (f (pw f e w k) w)
    rw [G.quo_pw hy hw hc k]
    exact ((G.rp_eq hy (G.cl _ _ hk hw) (G.cl _ _ (G.rp_lt hy hk) hw)).2 (G.sm_mul hy hk hw hc (G.rp_sm hy hk) (G.sm_refl hy hw))).symm

theorem Grp.pw_sm (G : Grp n f e) {y x : Nat} (hy : y < n) (hx : x < n) (hc : f x y = f y x) (j s : Nat) : pw f e (f x (pw f e y j)) s = f (pw f e x s) (pw f e y (j * s)) := by
  rw [G.pw_comm2 (G.pw_lt hy j) hx (G.cen_pw hy hx hc j), ← G.pw_mul hy]

theorem Grp.quo_sol (G : Grp n f e) {y s : Nat} (hy : y < n) (hs : Nat.gcd (ord n f e y) s = 1) :
    ((mem n (cen f y)).filter fun x => decide (pw f e x s = e)).length = ((quo n f e y).filter fun w => decide (pw (fun a b => rp n f e y (f a b)) (rp n f e y e) w s = rp n f e y e)).length := by
  have ho := G.ord_pos hy
  have hl : (((mem n (cen f y)).filter fun x => decide (pw f e x s = e)).map (rp n f e y)).length = ((quo n f e y).filter fun w => decide (pw (fun a b => rp n f e y (f a b)) (rp n f e y e) w s = rp n f e y e)).length := by
    refine same_len (nodup_map ((List.nodup_range.filter _).filter _) fun x hx z hz he => ?_) ((G.quo_gs hy).nd.filter _) fun w => ?_
    · obtain ⟨hx1, hx2⟩ := List.mem_filter.1 hx
      obtain ⟨hz1, hz2⟩ := List.mem_filter.1 hz
      obtain ⟨x1, x2⟩ := mem_mem.1 hx1
      obtain ⟨z1, z2⟩ := mem_mem.1 hz1
      rw [decide_eq_true_eq] at hx2 hz2
      obtain ⟨j, hj, rfl⟩ := (G.rp_eq hy x1 z1).1 he
      rw [G.pw_sm hy x1 (cen_iff.1 x2), hx2, G.one_l _ (G.pw_lt hy _)] at hz2
      have hd := (G.pw_eq_one hy _).1 hz2
      have hj0 : ord n f e y ∣ j := Nat.Coprime.dvd_of_dvd_mul_right hs hd
      have : j = 0 := by
        rcases Nat.eq_zero_or_pos j with h | h
        · exact h
        · have := Nat.le_of_dvd h hj0; omega
      subst this
      rw [show pw f e y 0 = e from rfl, G.one_r x x1]
    · rw [List.mem_map, List.mem_filter]
      constructor
      · rintro ⟨x, hx, rfl⟩
        obtain ⟨hx1, hx2⟩ := List.mem_filter.1 hx
        obtain ⟨x1, x2⟩ := mem_mem.1 hx1
        rw [decide_eq_true_eq] at hx2
        rw [cen_iff] at x2
        refine ⟨G.rp_quo hy x1 x2, ?_⟩
        rw [decide_eq_true_eq, G.quo_pw hy (G.rp_lt hy x1) (G.cen_rp hy x1 x2)]
        obtain ⟨j, _, hj⟩ := G.rp_sm (x := x) hy x1
        rw [hj, G.pw_sm hy x1 x2, hx2]
        exact ((G.rp_eq hy G.el (G.cl _ _ G.el (G.pw_lt hy _))).2 (G.sm_of hy _)).symm
      · rintro ⟨hw, h⟩
        obtain ⟨w1, w2, w3⟩ := mem_quo.1 hw
        rw [decide_eq_true_eq, G.quo_pw hy w1 w2] at h
        obtain ⟨j, hj, h⟩ := (G.rp_eq hy G.el (G.pw_lt w1 s)).1 h.symm
        rw [G.one_l _ (G.pw_lt hy j)] at h
        obtain ⟨k, hk, hke⟩ := inj_onto (n := ord n f e y) (f := fun k => k * s % ord n f e y) (fun i _ => Nat.mod_lt _ ho) (fun i i' hi hi' he => by
          have he' : i * s % ord n f e y = i' * s % ord n f e y := he
          have hp : ∀ {i i' : Nat}, i < ord n f e y → i' < ord n f e y → i ≤ i' → i * s % ord n f e y = i' * s % ord n f e y → i = i' := by
            intro i i' hi hi' hle he
            have h1 : ord n f e y ∣ i' * s - i * s := Nat.dvd_of_mod_eq_zero (Nat.sub_mod_eq_zero_of_mod_eq he.symm)
            rw [← Nat.sub_mul] at h1
            have h2 : ord n f e y ∣ i' - i := Nat.Coprime.dvd_of_dvd_mul_right hs h1
            rcases Nat.eq_zero_or_pos (i' - i) with h | h
            · omega
            · have := Nat.le_of_dvd h h2; omega
          rcases Nat.le_total i i' with hl | hl
          · exact hp hi hi' hl he'
          · exact (hp hi' hi hl he'.symm).symm) (Nat.mod_lt (ord n f e y - j) ho)
        have hke' : k * s % ord n f e y = (ord n f e y - j) % ord n f e y := hke
        have hlt := G.cl _ _ w1 (G.pw_lt hy k)
        refine ⟨f w (pw f e y k), List.mem_filter.2 ⟨mem_mem.2 ⟨hlt, (G.cen_sub hy).mul w (pw f e y k) w1 (G.pw_lt hy k) (cen_iff.2 w2) (cen_iff.2 (G.cen_pw hy hy rfl k).symm)⟩, ?_⟩, ?_⟩
        · rw [decide_eq_true_eq, G.pw_sm hy w1 w2, h, ← G.pw_mod hy (k * s), hke', G.pw_mod hy, ← G.pw_add hy, Nat.add_sub_cancel' (by omega), G.pw_ord hy]
        · rw [← (G.rp_eq hy w1 hlt).2 (G.sm_of hy k), w3]
  rw [← hl, List.length_map]
end
end Go.Proofs.YtjikchbmkodgfaaDoor

/-
  Plain law, FROBENIUS' THEOREM: of a divisor m of n so many things are, m times, the one, as a multiple of m. Conditions: none.
-/
set_option linter.all false
namespace Go.Proofs.YtjikchbmkodgfaaDoor
open Go.Pv

def sol (n : Nat) (f : Nat → Nat → Nat) (e s : Nat) : Nat := ((List.range n).filter fun x => decide (pw f e x s = e)).length

section
variable {n : Nat} {f : Nat → Nat → Nat} {e : Nat}

theorem Grp.sol_gcd (G : Grp n f e) (s : Nat) : sol n f e s = sol n f e (Nat.gcd s n) := by
  unfold sol
  congr 1
  refine List.filter_congr fun x hx => decide_eq_decide.2 ?_
  have x1 := List.mem_range.1 hx
  rw [G.pw_eq_one x1, G.pw_eq_one x1]
  exact ⟨fun h => Nat.dvd_gcd h (G.ord_dvd x1), fun h => Nat.dvd_trans h (Nat.gcd_dvd_left _ _)⟩
theorem Grp.sol_all (G : Grp n f e) : sol n f e n = n := by
  unfold sol
  rw [List.filter_eq_self.2]
  · simp
  · intro x hx
    simpa using G.pw_n (List.mem_range.1 hx)

/-- Conjugated. -/
def cj (n : Nat) (f : Nat → Nat → Nat) (e g x : Nat) : Nat := f (f g x) (iv n f e g)
theorem Grp.cj_lt (G : Grp n f e) {g x : Nat} (hg : g < n) (hx : x < n) : cj n f e g x < n := G.cl _ _ (G.cl _ _ hg hx) (G.iv_lt hg)
theorem Grp.cj_mul (G : Grp n f e) {g x y : Nat} (hg : g < n) (hx : x < n) (hy : y < n) : cj n f e g (f x y) = f (cj n f e g x) (cj n f e g y) := by
  unfold cj
  have hi := G.iv_lt hg
  rw [G.assoc (f g x) _ _ (G.cl _ _ hg hx) hi (G.cl _ _ (G.cl _ _ hg hy) hi), ← G.assoc _ (f g y) _ hi (G.cl _ _ hg hy) hi, ← G.assoc _ g y hi hg hy, G.iv_mul hg, G.one_l y hy, G.assoc g x _ hg hx (G.cl _ _ hy hi), ← G.assoc x y _ hx hy hi, G.assoc g _ _ hg (G.cl _ _ hx hy) hi]
theorem Grp.cj_one (G : Grp n f e) {g : Nat} (hg : g < n) : cj n f e g e = e := by
  unfold cj; rw [G.one_r g hg, G.mul_iv hg]
theorem Grp.cj_pw (G : Grp n f e) {g x : Nat} (hg : g < n) (hx : x < n) : ∀ k, pw f e (cj n f e g x) k = cj n f e g (pw f e x k)
  | 0 => (G.cj_one hg).symm
  | k + 1 => by
    show f (pw f e (cj n f e g x) k) (cj n f e g x) = cj n f e g (f (pw f e x k) x)
    rw [G.cj_pw hg hx k, G.cj_mul hg (G.pw_lt hx k) hx]
theorem Grp.cj_iv (G : Grp n f e) {g x : Nat} (hg : g < n) (hx : x < n) : cj n f e g (cj n f e (iv n f e g) x) = x := by
  unfold cj
  have hi := G.iv_lt hg
  rw [G.iv_iv hg, ← G.assoc g _ g hg (G.cl _ _ hi hx) hg, ← G.assoc g _ x hg hi hx, G.mul_iv hg, G.one_l x hx, G.assoc x g _ hx hg hi, G.mul_iv hg, G.one_r x hx]
theorem Grp.iv_cj (G : Grp n f e) {g x : Nat} (hg : g < n) (hx : x < n) : cj n f e (iv n f e g) (cj n f e g x) = x := by
  have := G.cj_iv (G.iv_lt hg) hx
  rwa [G.iv_iv hg] at this
theorem Grp.cj_eq (G : Grp n f e) {g x y : Nat} (hg : g < n) (hx : x < n) (hy : y < n) : f g x = f y g ↔ cj n f e g x = y := by
  unfold cj
  have hi := G.iv_lt hg
  constructor
  · intro h
    rw [h, G.assoc y g _ hy hg hi, G.mul_iv hg, G.one_r y hy]
  · intro h
    rw [← h, G.assoc _ _ g (G.cl _ _ hg hx) hi hg, G.iv_mul hg, G.one_r _ (G.cl _ _ hg hx)]
theorem Grp.cj_ord (G : Grp n f e) {g x : Nat} (hg : g < n) (hx : x < n) : ord n f e (cj n f e g x) = ord n f e x := by
  refine G.ord_eq (G.cj_lt hg hx) fun j => ?_
  rw [G.cj_pw hg hx, ← G.pw_eq_one hx]
  constructor
  · intro h
    have := congrArg (cj n f e (iv n f e g)) h
    rwa [G.iv_cj hg (G.pw_lt hx j), G.cj_one (G.iv_lt hg)] at this
  · intro h
    rw [h, G.cj_one hg]

/-- Powers a, b with x^a of order q and x^b solving s; together they are x. -/
theorem crt {q s : Nat} (hq : 2 ≤ q) (hqs : Nat.gcd q s = 1) (hs : 0 < s) : ∃ a b, (∃ d, a = q * d + 1) ∧ s ∣ a ∧ q ∣ b ∧ a + b = q * s + 1 := by
  obtain ⟨i, hi, he⟩ := inj_onto (n := q) (f := fun i => s * i % q) (fun i _ => Nat.mod_lt _ (by omega)) (fun i i' hi hi' he => by
    have hp : ∀ {i i' : Nat}, i < q → i' < q → i ≤ i' → s * i % q = s * i' % q → i = i' := by
      intro i i' hi hi' hle he
      have h1 : q ∣ s * i' - s * i := Nat.dvd_of_mod_eq_zero (Nat.sub_mod_eq_zero_of_mod_eq he.symm)
      rw [← Nat.mul_sub] at h1
      have h2 : q ∣ i' - i := Nat.Coprime.dvd_of_dvd_mul_left hqs h1
      rcases Nat.eq_zero_or_pos (i' - i) with h | h
      · omega
      · have := Nat.le_of_dvd h h2; omega
    rcases Nat.le_total i i' with hl | hl
    · exact hp hi hi' hl he
    · exact (hp hi' hi hl he.symm).symm) (show 1 < q by omega)
  have he' : s * i % q = 1 := he
  have hle : s * i ≤ q * s := by rw [Nat.mul_comm q s]; exact Nat.mul_le_mul_left _ (by omega)
  have hdm := Nat.div_add_mod (s * i) q
  refine ⟨s * i, q * s + 1 - s * i, ⟨s * i / q, by omega⟩, Nat.dvd_mul_right _ _, ?_, by omega⟩
  have : q * s + 1 - s * i = q * s - q * (s * i / q) := by omega
  rw [this, ← Nat.mul_sub]
  exact Nat.dvd_mul_right _ _

theorem Grp.frob2 (G : Grp n f e) {q s : Nat} (hq : 2 ≤ q) (hqs : Nat.gcd q s = 1) (hs : 0 < s) (hd : s ∣ n)
    (ih : ∀ N' f' e', N' < n → Grp N' f' e' → ∀ m, m ∣ N' → m ∣ sol N' f' e' m) :
    s ∣ ((List.range n).filter fun x => decide (ord n f e x ∣ q * s ∧ q ∣ ord n f e x)).length := by
  obtain ⟨a, b, ⟨d, had⟩, hsa, hqb, hab⟩ := crt hq hqs hs
  have hA : ∀ {x}, x ∈ (List.range n).filter (fun x => decide (ord n f e x ∣ q * s ∧ q ∣ ord n f e x)) ↔ x < n ∧ ord n f e x ∣ q * s ∧ q ∣ ord n f e x := by
    intro x; rw [List.mem_filter, List.mem_range, decide_eq_true_eq]
  -- the part of order q
  have hy : ∀ {x}, x < n → ord n f e x ∣ q * s → q ∣ ord n f e x → ord n f e (pw f e x a) = q := by
    intro x hx h1 h2
    obtain ⟨t, ht⟩ := h2
    have hts : t ∣ s := by
      rw [ht] at h1
      exact Nat.dvd_of_mul_dvd_mul_left (by omega) h1
    refine G.ord_eq (G.pw_lt hx a) fun j => ?_
    rw [← G.pw_mul hx, G.pw_eq_one hx, ht]
    constructor
    · intro h
      have h3 : q ∣ a * j := Nat.dvd_trans (Nat.dvd_mul_right _ _) h
      rw [had, Nat.add_mul, Nat.one_mul, Nat.mul_assoc] at h3
      exact (Nat.dvd_add_right (Nat.dvd_mul_right _ _)).1 h3
    · intro h
      rw [Nat.mul_comm a j]
      exact Nat.mul_dvd_mul h (Nat.dvd_trans hts hsa)
  refine classesD (r := fun x x' => decide (∃ g, g < n ∧ f g (pw f e x a) = f (pw f e x' a) g)) _ _ rfl (List.nodup_range.filter _) ?_ ?_ ?_ ?_
  · intro x hx
    have x1 := (hA.1 hx).1
    rw [decide_eq_true_eq]
    exact ⟨e, G.el, by rw [G.one_l _ (G.pw_lt x1 a), G.one_r _ (G.pw_lt x1 a)]⟩
  · intro x hx y hy' h
    have x1 := (hA.1 hx).1
    have y1 := (hA.1 hy').1
    rw [decide_eq_true_eq] at *
    obtain ⟨g, hg, h⟩ := h
    refine ⟨iv n f e g, G.iv_lt hg, ?_⟩
    rw [G.cj_eq hg (G.pw_lt x1 a) (G.pw_lt y1 a)] at h
    rw [G.cj_eq (G.iv_lt hg) (G.pw_lt y1 a) (G.pw_lt x1 a), ← h, G.iv_cj hg (G.pw_lt x1 a)]
  · intro x hx y hy' z hz h h'
    have x1 := G.pw_lt (hA.1 hx).1 a
    have y1 := G.pw_lt (hA.1 hy').1 a
    have z1 := G.pw_lt (hA.1 hz).1 a
    rw [decide_eq_true_eq] at *
    obtain ⟨g, hg, h⟩ := h
    obtain ⟨k, hk, h'⟩ := h'
    refine ⟨f k g, G.cl _ _ hk hg, ?_⟩
    rw [G.assoc k g _ hk hg x1, h, ← G.assoc k _ g hk y1 hg, h', G.assoc _ k g z1 hk hg]
  · intro x hx
    obtain ⟨x1, x2, x3⟩ := hA.1 hx
    have hyo := hy x1 x2 x3
    have hyl := G.pw_lt x1 a
    have hcount : n * ((mem n (cen f (pw f e x a))).filter fun z => decide (pw f e z s = e)).length = (((List.range n).filter fun x => decide (ord n f e x ∣ q * s ∧ q ∣ ord n f e x)).filter fun x' => decide (∃ g, g < n ∧ f g (pw f e x a) = f (pw f e x' a) g)).length * (mem n (cen f (pw f e x a))).length := by
      have hL := dbl (fun g x' => decide (f g (pw f e x a) = f (pw f e x' a) g)) (L1 := List.range n) (L2 := ((List.range n).filter fun x => decide (ord n f e x ∣ q * s ∧ q ∣ ord n f e x)).filter fun x' => decide (∃ g, g < n ∧ f g (pw f e x a) = f (pw f e x' a) g))
        (c1 := ((mem n (cen f (pw f e x a))).filter fun z => decide (pw f e z s = e)).length) (c2 := (mem n (cen f (pw f e x a))).length) ?_ ?_
      · rwa [List.length_range] at hL
      · intro g hg
        have g1 := List.mem_range.1 hg
        rw [← List.length_map (f := fun z => cj n f e g (f (pw f e x a) z)) («as» := ((mem n (cen f (pw f e x a))).filter fun z => decide (pw f e z s = e)))]
        refine same_len (((List.nodup_range.filter _).filter _).filter _) (nodup_map ((List.nodup_range.filter _).filter _) fun z hz w hw he => ?_) fun x' => ?_
        · have z1 := (mem_mem.1 (List.mem_filter.1 hz).1).1
          have w1 := (mem_mem.1 (List.mem_filter.1 hw).1).1
          have he2 := congrArg (cj n f e (iv n f e g)) he
          rw [G.iv_cj g1 (G.cl _ _ hyl z1), G.iv_cj g1 (G.cl _ _ hyl w1)] at he2
          exact G.cancel_l hyl z1 w1 he2
        · rw [List.mem_filter, List.mem_filter, hA, List.mem_map]
          simp only [decide_eq_true_eq]
          constructor
          · rintro ⟨⟨⟨c1, c2, c3⟩, _⟩, h⟩
            rw [G.cj_eq g1 hyl (G.pw_lt c1 a)] at h
            have hg' := G.iv_lt g1
            have hwl := G.cj_lt hg' c1
            have hwo := G.cj_ord hg' c1
            have hwa : pw f e (cj n f e (iv n f e g) x') a = pw f e x a := by
              rw [G.cj_pw hg' c1, ← h, G.iv_cj g1 hyl]
            have hyz : f (pw f e x a) (pw f e (cj n f e (iv n f e g) x') b) = cj n f e (iv n f e g) x' := by
              rw [← hwa, ← G.pw_add hwl, hab, G.pw_add hwl, (G.pw_eq_one hwl _).2 (by rw [hwo]; exact c2), G.pw_one hwl, G.one_l _ hwl]
            refine ⟨pw f e (cj n f e (iv n f e g) x') b, ?_, ?_⟩
            · rw [List.mem_filter, mem_mem, cen_iff, decide_eq_true_eq]
              refine ⟨⟨G.pw_lt hwl b, ?_⟩, ?_⟩
              · rw [← hwa]; exact G.pw_comm hwl b a
              · rw [← G.pw_mul hwl, G.pw_eq_one hwl, hwo]
                exact Nat.dvd_trans c2 (Nat.mul_dvd_mul hqb (Nat.dvd_refl s))
            · rw [hyz, G.cj_iv g1 c1]
          · rintro ⟨z, hz, rfl⟩
            rw [List.mem_filter, mem_mem, cen_iff, decide_eq_true_eq] at hz
            obtain ⟨⟨z1, z2⟩, z3⟩ := hz
            have hyzl := G.cl _ _ hyl z1
            have hyq : pw f e (pw f e x a) q = e := by rw [G.pw_eq_one hyl, hyo]; exact Nat.dvd_refl q
            have hself : ∀ {y}, y < n → pw f e y q = e → pw f e y a = y := by
              intro y y1 yq
              rw [had, G.pw_add y1, G.pw_mul y1, yq, G.pw_e, G.pw_one y1, G.one_l _ y1]
            have hpa : pw f e (f (pw f e x a) z) a = pw f e x a := by
              rw [G.pw_comm2 z1 hyl z2.symm, (G.pw_eq_one z1 a).2 (Nat.dvd_trans ((G.pw_eq_one z1 s).1 z3) hsa), G.one_r _ (G.pw_lt hyl a)]
              exact hself hyl hyq
            have hca : pw f e (cj n f e g (f (pw f e x a) z)) a = cj n f e g (pw f e x a) := by
              rw [G.cj_pw g1 hyzl, hpa]
            have hrel : f g (pw f e x a) = f (pw f e (cj n f e g (f (pw f e x a) z)) a) g := by
              rw [hca, G.cj_eq g1 hyl (G.cj_lt g1 hyl)]
            refine ⟨⟨⟨G.cj_lt g1 hyzl, ?_, ?_⟩, g, g1, hrel⟩, hrel⟩
            · rw [G.cj_ord g1 hyzl, ← G.pw_eq_one hyzl, G.pw_comm2 z1 hyl z2.symm, G.pw_mul hyl, hyq, G.pw_e, Nat.mul_comm q s, G.pw_mul z1, z3, G.pw_e, G.one_l e G.el]
            · rw [G.cj_ord g1 hyzl]
              have h5 : ord n f e (pw f e (f (pw f e x a) z) a) = q := by rw [hpa, hyo]
              rw [← h5, ← G.pw_eq_one (G.pw_lt hyzl a), ← G.pw_mul hyzl, Nat.mul_comm, G.pw_mul hyzl, G.pw_ord hyzl, G.pw_e]
      · intro x' hx'
        obtain ⟨h1, h2⟩ := List.mem_filter.1 hx'
        obtain ⟨c1, c2, c3⟩ := hA.1 h1
        rw [decide_eq_true_eq] at h2
        obtain ⟨g0, hg0, h2⟩ := h2
        have hy'l := G.pw_lt c1 a
        rw [← List.length_map (f := fun c => f g0 c) («as» := mem n (cen f (pw f e x a)))]
        refine same_len (List.nodup_range.filter _) (nodup_map (List.nodup_range.filter _) fun z hz w hw he => G.cancel_l hg0 (mem_mem.1 hz).1 (mem_mem.1 hw).1 he) fun g => ?_
        rw [List.mem_filter, List.mem_range, decide_eq_true_eq, List.mem_map]
        constructor
        · rintro ⟨g1, h⟩
          have hi := G.iv_lt hg0
          refine ⟨f (iv n f e g0) g, ?_, by rw [← G.assoc g0 _ g hg0 hi g1, G.mul_iv hg0, G.one_l g g1]⟩
          rw [mem_mem, cen_iff]
          refine ⟨G.cl _ _ hi g1, ?_⟩
          refine G.cancel_l hg0 (G.cl _ _ (G.cl _ _ hi g1) hyl) (G.cl _ _ hyl (G.cl _ _ hi g1)) ?_
          rw [← G.assoc g0 _ _ hg0 hyl (G.cl _ _ hi g1), h2, ← G.assoc g0 _ _ hg0 (G.cl _ _ hi g1) hyl, ← G.assoc g0 _ g hg0 hi g1, G.mul_iv hg0, G.one_l g g1, h, G.assoc _ g0 _ hy'l hg0 (G.cl _ _ hi g1), ← G.assoc g0 _ g hg0 hi g1, G.mul_iv hg0, G.one_l g g1]
        · rintro ⟨c, hc, rfl⟩
          rw [mem_mem, cen_iff] at hc
          obtain ⟨c1', c2'⟩ := hc
          refine ⟨G.cl _ _ hg0 c1', ?_⟩
          rw [G.assoc g0 c _ hg0 c1' hyl, c2', ← G.assoc g0 _ c hg0 hyl c1', h2, G.assoc _ g0 c hy'l hg0 c1']
    -- the quotient
    have hQ := (G.quo_gs hyl).grp
    have hQc := G.quo_card hyl
    rw [hyo] at hQc
    have hCn : (mem n (cen f (pw f e x a))).length ∣ n := by
      have := Sub.dvd (H := cen f (pw f e x a)) (K := fun _ => true) G (G.cen_sub hyl) fun _ _ _ _ _ _ => rfl
      have hall : (mem n fun _ => true).length = n := by
        unfold mem
        rw [List.filter_eq_self.2 (fun _ _ => rfl), List.length_range]
      rwa [hall] at this
    have hQp : 0 < (quo n f e (pw f e x a)).length := hQ.pos
    have hQlt : (quo n f e (pw f e x a)).length < n := by
      have h1 := Nat.le_of_dvd G.pos hCn
      have h2 : (quo n f e (pw f e x a)).length * 2 ≤ (quo n f e (pw f e x a)).length * q := Nat.mul_le_mul_left _ hq
      omega
    have hsolQ : ((mem n (cen f (pw f e x a))).filter fun z => decide (pw f e z s = e)).length = sol (quo n f e (pw f e x a)).length (idf (quo n f e (pw f e x a)) fun u v => rp n f e (pw f e x a) (f u v)) (plc (quo n f e (pw f e x a)) (rp n f e (pw f e x a) e)) s := by
      rw [G.quo_sol hyl (by rw [hyo]; exact hqs)]
      unfold sol
      rw [← count_at]
      congr 1
      refine List.filter_congr fun i hi => decide_eq_decide.2 ?_
      exact ((G.quo_gs hyl).pw_iff (List.mem_range.1 hi) s).symm
    have hgs := ih _ _ _ hQlt hQ _ (Nat.gcd_dvd_right s (quo n f e (pw f e x a)).length)
    rw [← hQ.sol_gcd, ← hsolQ] at hgs
    obtain ⟨u, hu⟩ := hgs
    obtain ⟨M, hM⟩ := hCn
    rw [hu, hQc] at hcount
    rw [hQc] at hM
    have hc2 : (M * (Nat.gcd s (quo n f e (pw f e x a)).length * u)) * ((quo n f e (pw f e x a)).length * q) = (((List.range n).filter fun x => decide (ord n f e x ∣ q * s ∧ q ∣ ord n f e x)).filter fun x' => decide (∃ g, g < n ∧ f g (pw f e x a) = f (pw f e x' a) g)).length * ((quo n f e (pw f e x a)).length * q) := by
      rw [← hcount]
      conv => rhs; lhs; rw [hM]
      rw [Nat.mul_comm M, Nat.mul_right_comm, Nat.mul_assoc, Nat.mul_right_comm, Nat.mul_comm _ M, Nat.mul_comm (quo n f e (pw f e x a)).length q]
      simp only [Nat.mul_assoc, Nat.mul_comm, Nat.mul_left_comm]
    have hc3 := Nat.eq_of_mul_eq_mul_right (Nat.mul_pos hQp (by omega)) hc2
    rw [← hc3, ← Nat.mul_assoc]
    refine Nat.dvd_trans ?_ (Nat.dvd_mul_right _ u)
    rw [← Nat.gcd_mul_left]
    refine Nat.dvd_gcd (Nat.dvd_mul_left _ _) ?_
    have hsq : Nat.Coprime s q := Nat.Coprime.symm hqs
    refine Nat.Coprime.dvd_of_dvd_mul_right hsq (m := M * (quo n f e (pw f e x a)).length) ?_
    rw [hM] at hd
    have : M * (quo n f e (pw f e x a)).length * q = (quo n f e (pw f e x a)).length * q * M := by
      rw [Nat.mul_comm M, Nat.mul_right_comm]
    rw [this]; exact hd

/-! ### Primes -/

/-- The least divisor above 1. -/
theorem least_div : ∀ {t : Nat}, 2 ≤ t → ∃ p, 2 ≤ p ∧ p ∣ t ∧ ∀ d, d ∣ p → d = 1 ∨ d = p := by
  intro t
  induction t using Nat.strongRecOn with
  | _ t ih =>
    intro ht
    by_cases h : ∀ d, d ∣ t → d = 1 ∨ d = t
    · exact ⟨t, ht, Nat.dvd_refl t, h⟩
    · have ⟨d, hd⟩ := Classical.not_forall.1 h
      have ⟨hd1, hd2⟩ := Classical.not_imp.1 hd
      have hdp : 0 < d := Nat.pos_of_dvd_of_pos hd1 (by omega)
      have hdl := Nat.le_of_dvd (by omega) hd1
      have hd3 : 2 ≤ d ∧ d < t := by
        have h1 : d ≠ 1 := fun h => hd2 (.inl h)
        have h2 : d ≠ t := fun h => hd2 (.inr h)
        omega
      obtain ⟨p, p1, p2, p3⟩ := ih d hd3.2 hd3.1
      exact ⟨p, p1, Nat.dvd_trans p2 hd1, p3⟩
theorem split_pow {p : Nat} (hp : 2 ≤ p) : ∀ {m : Nat}, 0 < m → ∃ k s, m = p ^ k * s ∧ ¬ p ∣ s := by
  intro m
  induction m using Nat.strongRecOn with
  | _ m ih =>
    intro hm
    by_cases h : p ∣ m
    · obtain ⟨c, rfl⟩ := h
      have hc : 0 < c := by
        rcases Nat.eq_zero_or_pos c with h | h
        · subst h; simp at hm
        · exact h
      obtain ⟨k, s, h1, h2⟩ := ih c (by have : 2 * c ≤ p * c := Nat.mul_le_mul_right _ hp
                                        omega) hc
      exact ⟨k + 1, s, by rw [h1, Nat.pow_succ, Nat.mul_comm _ p, Nat.mul_assoc], h2⟩
    · exact ⟨0, m, by simp, h⟩
theorem prime_cop {p s : Nat} (hp : ∀ d, d ∣ p → d = 1 ∨ d = p) (h : ¬ p ∣ s) : Nat.gcd p s = 1 := by
  rcases hp _ (Nat.gcd_dvd_left p s) with h1 | h1
  · exact h1
  · exact absurd (h1 ▸ Nat.gcd_dvd_right p s) h
theorem dvd_ppow {p : Nat} (hp2 : 2 ≤ p) (hp : ∀ d, d ∣ p → d = 1 ∨ d = p) : ∀ {k d : Nat}, d ∣ p ^ (k + 1) → d = p ^ (k + 1) ∨ d ∣ p ^ k
  | k, d, h => by
    by_cases hpd : p ∣ d
    · obtain ⟨c, rfl⟩ := hpd
      rw [Nat.pow_succ, Nat.mul_comm _ p] at h
      have h1 := Nat.dvd_of_mul_dvd_mul_left (by omega) h
      match k, h1 with
      | 0, h1 =>
        have : c = 1 := Nat.dvd_one.1 (by simpa using h1)
        left; simp [this]
      | k + 1, h1 =>
        rcases dvd_ppow hp2 hp h1 with h2 | h2
        · left; rw [h2, Nat.pow_succ p (k + 1), Nat.mul_comm]
        · right; rw [Nat.pow_succ, Nat.mul_comm _ p]; exact Nat.mul_dvd_mul (Nat.dvd_refl p) h2
    · right
      have hc : Nat.Coprime d p := Nat.Coprime.symm (prime_cop hp hpd)
      rw [Nat.pow_succ] at h
      exact Nat.Coprime.dvd_of_dvd_mul_right hc h

/-- FROBENIUS' THEOREM. -/
theorem frob : ∀ N f e, Grp N f e → ∀ m, m ∣ N → m ∣ sol N f e m := by
  intro N
  induction N using Nat.strongRecOn with
  | _ N ihN =>
    intro f e G
    have key : ∀ t m, m * t = N → m ∣ sol N f e m := by
      intro t
      induction t using Nat.strongRecOn with
      | _ t iht =>
        intro m hmt
        have hN := G.pos
        have ht : 0 < t := by
          rcases Nat.eq_zero_or_pos t with h | h
          · subst h; simp at hmt; omega
          · exact h
        have hm : 0 < m := by
          rcases Nat.eq_zero_or_pos m with h | h
          · subst h; simp at hmt; omega
          · exact h
        by_cases h1 : t = 1
        · subst h1
          rw [Nat.mul_one] at hmt
          subst hmt
          rw [G.sol_all]; exact Nat.dvd_refl _
        · obtain ⟨p, p1, ⟨c, rfl⟩, p3⟩ := least_div (t := t) (by omega)
          have hc : 0 < c := by
            rcases Nat.eq_zero_or_pos c with h | h
            · subst h; simp at ht
            · exact h
          have hlt : c < p * c := by
            have : 2 * c ≤ p * c := Nat.mul_le_mul_right _ p1
            omega
          have hmp := iht c hlt (m * p) (by rw [Nat.mul_assoc]; exact hmt)
          obtain ⟨k, s, hks, hps⟩ := split_pow p1 hm
          have hcop := prime_cop p3 hps
          have hpp : ∀ i, 0 < p ^ i := fun i => Nat.pow_pos (by omega)
          have hqs : Nat.gcd (p ^ (k + 1)) s = 1 := Nat.Coprime.pow_left _ hcop
          have hs : 0 < s := by
            rcases Nat.eq_zero_or_pos s with h | h
            · subst h; simp at hps
            · exact h
          have hmpq : m * p = p ^ (k + 1) * s := by
            rw [hks, Nat.pow_succ, Nat.mul_right_comm]
          -- orders
          have hord : ∀ o, (o ∣ m * p ∧ ¬ o ∣ m) ↔ (o ∣ p ^ (k + 1) * s ∧ p ^ (k + 1) ∣ o) := by
            intro o
            rw [hmpq]
            constructor
            · rintro ⟨h2, h3⟩
              refine ⟨h2, ?_⟩
              have h4 : o = Nat.gcd o (p ^ (k + 1)) * Nat.gcd o s := by
                rw [← Nat.Coprime.gcd_mul o hqs]
                exact (Nat.gcd_eq_left h2).symm
              rcases dvd_ppow p1 p3 (Nat.gcd_dvd_right o (p ^ (k + 1))) with h5 | h5
              · rw [← h5]; exact Nat.gcd_dvd_left _ _
              · exfalso
                apply h3
                rw [h4, hks]
                exact Nat.mul_dvd_mul h5 (Nat.gcd_dvd_right _ _)
            · rintro ⟨h2, h3⟩
              refine ⟨h2, fun h4 => hps ?_⟩
              have h5 := Nat.dvd_trans h3 h4
              rw [hks, Nat.pow_succ] at h5
              exact Nat.dvd_of_mul_dvd_mul_left (hpp k) h5
          have hsum : sol N f e (m * p) = sol N f e m + ((List.range N).filter fun x => decide (ord N f e x ∣ p ^ (k + 1) * s ∧ p ^ (k + 1) ∣ ord N f e x)).length := by
            have h2 : sol N f e m = (((List.range N).filter fun x => decide (pw f e x (m * p) = e)).filter fun x => decide (pw f e x m = e)).length := by
              unfold sol
              rw [List.filter_filter]
              congr 1
              refine List.filter_congr fun x hx => ?_
              have x1 := List.mem_range.1 hx
              by_cases h : pw f e x m = e
              · have : pw f e x (m * p) = e := by rw [G.pw_mul x1, h, G.pw_e]
                simp [h, this]
              · simp [h]
            have h3 : ((List.range N).filter fun x => decide (ord N f e x ∣ p ^ (k + 1) * s ∧ p ^ (k + 1) ∣ ord N f e x)).length = (((List.range N).filter fun x => decide (pw f e x (m * p) = e)).filter fun x => !decide (pw f e x m = e)).length := by
              rw [List.filter_filter]
              congr 1
              refine List.filter_congr fun x hx => ?_
              have x1 := List.mem_range.1 hx
              rw [Bool.eq_iff_iff]
              simp only [decide_eq_true_eq, Bool.and_eq_true, Bool.not_eq_true', decide_eq_false_iff_not, G.pw_eq_one x1]
              rw [← hord]
              exact and_comm
            rw [h2, h3]
            unfold sol
            have := List.length_eq_countP_add_countP (fun x => decide (pw f e x m = e)) (l := (List.range N).filter fun x => decide (pw f e x (m * p) = e))
            simp only [List.countP_eq_length_filter] at this
            rw [this]
            congr 3
            funext x
            by_cases h : pw f e x m = e <;> simp [h]
          have hA1 : p ^ k ∣ ((List.range N).filter fun x => decide (ord N f e x ∣ p ^ (k + 1) * s ∧ p ^ (k + 1) ∣ ord N f e x)).length :=
            G.frob1 (c := fun o => decide (o ∣ p ^ (k + 1) * s ∧ p ^ (k + 1) ∣ o)) fun o ho => (of_decide_eq_true ho).2
          have hq2 : 2 ≤ p ^ (k + 1) := by
            rw [Nat.pow_succ]
            have := Nat.mul_le_mul (hpp k) p1
            omega
          have hsN : s ∣ N := by
            rw [← hmt, hks, Nat.mul_assoc, Nat.mul_left_comm]
            exact Nat.dvd_mul_right _ _
          have hA2 := G.frob2 hq2 hqs hs hsN fun N' f' e' hN' G' m' hm' => ihN N' hN' f' e' G' m' hm'
          have hA : m ∣ ((List.range N).filter fun x => decide (ord N f e x ∣ p ^ (k + 1) * s ∧ p ^ (k + 1) ∣ ord N f e x)).length := by
            rw [hks]
            exact Nat.Coprime.mul_dvd_of_dvd_of_dvd (Nat.Coprime.pow_left _ hcop) hA1 hA2
          have hm2 : m ∣ sol N f e (m * p) := Nat.dvd_trans (Nat.dvd_mul_right _ _) hmp
          rw [hsum] at hm2
          exact (Nat.dvd_add_left hA).1 hm2
    intro m ⟨t, ht⟩
    exact key t m ht.symm
end
end Go.Proofs.YtjikchbmkodgfaaDoor

/-
  Plain law, SYLOW'S THEOREMS: subgroups of a power of a prime of things. Conditions: none.
-/
set_option linter.all false
namespace Go.Proofs.YtjikchbmkodgfaaDoor
open Go.Pv

section
variable {n : Nat} {f : Nat → Nat → Nat} {e : Nat} {p q s : Nat → Bool} {P : Nat}

theorem isPr.pow_div (hP : isPr P) : ∀ {k d : Nat}, d ∣ P ^ k → ∃ i, i ≤ k ∧ d = P ^ i
  | 0, d, h => ⟨0, Nat.le_refl _, by simpa using h⟩
  | k + 1, d, h => by
    rcases dvd_ppow hP.1 (fun d hd => hP.div hd) h with h | h
    · exact ⟨k + 1, Nat.le_refl _, h⟩
    · obtain ⟨i, hi, h⟩ := hP.pow_div h
      exact ⟨i, by omega, h⟩
theorem isPr.pos (hP : isPr P) (k : Nat) : 0 < P ^ k := Nat.pow_pos (by have := hP.1; omega)
theorem isPr.le_of_dvd (hP : isPr P) {i j : Nat} (h : P ^ i ∣ P ^ j) : i ≤ j := by
  have h1 := Nat.le_of_dvd (hP.pos j) h
  exact (Nat.pow_le_pow_iff_right hP.1).1 h1
theorem isPr.mul (hP : isPr P) {a b : Nat} (h : P ∣ a * b) : P ∣ a ∨ P ∣ b := by
  by_cases ha : P ∣ a
  · exact .inl ha
  · exact .inr (Nat.Coprime.dvd_of_dvd_mul_left (hP.cop ha) h)

/-- What a thing's powers are. -/
def cyp (n : Nat) (f : Nat → Nat → Nat) (e b x : Nat) : Bool := decide (∃ i, i < n ∧ pw f e b i = x)
theorem cyp_iff {b x : Nat} : cyp n f e b x = true ↔ ∃ i, i < n ∧ pw f e b i = x := by unfold cyp; exact decide_eq_true_iff
theorem Grp.cyp_of (G : Grp n f e) {b : Nat} (hb : b < n) (i : Nat) : cyp n f e b (pw f e b i) = true := by
  have h1 := G.ord_spec hb
  exact cyp_iff.2 ⟨i % ord n f e b, Nat.lt_of_lt_of_le (Nat.mod_lt _ h1.1) h1.2.1, G.pw_mod hb i⟩
theorem Grp.cyp_sub (G : Grp n f e) {b : Nat} (hb : b < n) : Sub n f e (cyp n f e b) :=
  sub_of G (G.cyp_of hb 0) fun x y hx hy h1 h2 => by
    obtain ⟨i, _, rfl⟩ := cyp_iff.1 h1
    obtain ⟨j, _, rfl⟩ := cyp_iff.1 h2
    rw [← G.pw_add hb]; exact G.cyp_of hb _
theorem Grp.cyp_len (G : Grp n f e) {b : Nat} (hb : b < n) : (mem n (cyp n f e b)).length = ord n f e b := by
  have h1 := G.ord_spec hb
  have h2 : (mem n (cyp n f e b)).length = ((List.range (ord n f e b)).map fun i => pw f e b i).length :=
    same_len (List.nodup_range.filter _) (nodup_map List.nodup_range fun i hi j hj h => G.pw_inj hb (List.mem_range.1 hi) (List.mem_range.1 hj) h) fun x => by
      rw [mem_mem, List.mem_map]
      constructor
      · rintro ⟨_, hx⟩
        obtain ⟨i, _, rfl⟩ := cyp_iff.1 hx
        exact ⟨i % ord n f e b, List.mem_range.2 (Nat.mod_lt _ h1.1), G.pw_mod hb i⟩
      · rintro ⟨i, _, rfl⟩
        exact ⟨G.pw_lt hb i, G.cyp_of hb i⟩
  rw [h2]; simp
theorem Grp.cyp_in (G : Grp n f e) {b : Nat} (hb : b < n) (hp : Sub n f e p) (h : p b = true) {x : Nat} (hx : cyp n f e b x = true) : p x = true := by
  obtain ⟨i, hi, rfl⟩ := cyp_iff.1 hx
  clear hx hi
  induction i with
  | zero => exact hp.one
  | succ i ih => exact hp.mul _ _ (G.pw_lt hb i) hb ih h

theorem Grp.nzr_cj (G : Grp n f e) (hp : Sub n f e p) {a : Nat} (ha : a < n) : nzr n f e p a = true ↔ ∀ x, x < n → (p (cjr n f e x a) = true ↔ p x = true) := by
  rw [nzr_iff]
  constructor
  · intro h x hx
    have h1 := h (cjr n f e x a) (G.cjr_lt hx ha)
    rw [G.shf_back ha (G.cjr_lt hx ha), G.cjr_iv hx ha] at h1
    rw [h1]
  · intro h y hy
    rw [G.shf_back ha hy, Bool.eq_iff_iff]
    have h1 := h (cjr n f e y (iv n f e a)) (G.cjr_lt hy (G.iv_lt ha))
    rw [G.cjr_vi hy ha] at h1
    exact h1.symm
theorem Grp.nzr_sub (G : Grp n f e) (hp : Sub n f e p) : Sub n f e (nzr n f e p) :=
  sub_of G ((G.nzr_cj hp G.el).2 fun x hx => by rw [G.cjr_e hx]) fun a b ha hb h1 h2 => (G.nzr_cj hp (G.cl _ _ ha hb)).2 fun x hx => by
    rw [← G.cjr_cjr hx ha hb, (G.nzr_cj hp hb).1 h2 _ (G.cjr_lt hx ha), (G.nzr_cj hp ha).1 h1 x hx]
/-- What lets a set stay, by one way of the two. -/
theorem Grp.nzr_of (G : Grp n f e) (hp : Sub n f e p) {a : Nat} (ha : a < n) (h : ∀ y, y < n → shf n f e p a y = true → p y = true) : nzr n f e p a = true := by
  have h1 := G.shf_len (p := p) ha
  refine nzr_iff.2 fun y hy => ?_
  by_cases hy2 : shf n f e p a y = p y
  · exact hy2
  · exfalso
    have := mem_lt (n := n) h (fun hh => hy2 (hh y hy))
    omega

/-- A subgroup, and a thing that lets it stay: their products are one. -/
theorem Grp.nz_prod (G : Grp n f e) (hp : Sub n f e p) (hq : Sub n f e q) (h : ∀ a, a < n → q a = true → nzr n f e p a = true) : Sub n f e (pr2 n f e p q) :=
  sub_of G (pr2_iff.2 ⟨e, G.el, hp.one, by rw [G.iv_one, G.one_l e G.el]; exact hq.one⟩) fun x y hx hy h1 h2 => by
    obtain ⟨a, ha, pa, qb⟩ := pr2_iff.1 h1
    obtain ⟨c, hc, pc, qd⟩ := pr2_iff.1 h2
    have ia := G.iv_lt ha
    have ic := G.iv_lt hc
    have hb := G.cl _ _ ia hx
    have ib := G.iv_lt hb
    have hd := G.cl _ _ ic hy
    -- x = a b, y = c d; x y = a (b c b^-1) (b d)
    have hcb := G.cjr_lt hc ib
    have hk : p (cjr n f e c (iv n f e (f (iv n f e a) x))) = true := ((G.nzr_cj hp ib).1 (h _ ib (hq.inv _ hb qb)) c hc).2 pc
    have hac := G.cl _ _ ha hcb
    refine pr2_iff.2 ⟨f a (cjr n f e c (iv n f e (f (iv n f e a) x))), hac, hp.mul _ _ ha hcb pa hk, ?_⟩
    have e1 : f (iv n f e (f a (cjr n f e c (iv n f e (f (iv n f e a) x))))) (f x y) = f (f (iv n f e a) x) (f (iv n f e c) y) := by
      have hbc := G.cl _ _ hb hc
      have e2 : cjr n f e c (iv n f e (f (iv n f e a) x)) = f (f (f (iv n f e a) x) c) (iv n f e (f (iv n f e a) x)) := by
        unfold cjr; rw [G.iv_iv hb]
      have e3 : f x y = f (f a (cjr n f e c (iv n f e (f (iv n f e a) x)))) (f (f (iv n f e a) x) (f (iv n f e c) y)) := by
        rw [G.assoc a _ _ ha hcb (G.cl _ _ hb hd), e2, G.assoc _ _ _ hbc ib (G.cl _ _ hb hd), ← G.assoc (iv n f e (f (iv n f e a) x)) _ _ ib hb hd, G.iv_mul hb, G.one_l _ hd, G.assoc _ _ _ hb hc hd, ← G.assoc c _ y hc ic hy, G.mul_iv hc, G.one_l y hy, ← G.assoc a _ y ha hb hy, ← G.assoc a _ x ha ia hx, G.mul_iv ha, G.one_l x hx]
      rw [e3, ← G.assoc _ _ _ (G.iv_lt hac) hac (G.cl _ _ hb hd), G.iv_mul hac, G.one_l _ (G.cl _ _ hb hd)]
    rw [e1]
    exact hq.mul _ _ hb hd qb qd

/-- GROWING: a subgroup of a power of P things, and what lets it stay and has a power of P as its order, make one of a power of P things. -/
theorem Grp.syl_grow (G : Grp n f e) (hP : isPr P) (hs : Sub n f e s) {j : Nat} (hj : (mem n s).length = P ^ j) {b k : Nat} (hb : b < n) (hz : nzr n f e s b = true) (hk : ord n f e b = P ^ k)
    (hq : ∀ a, a < n → (q a = true ↔ Gen n f e (fun x => s x || decide (x = b)) a)) : ∃ i, (mem n q).length = P ^ i := by
  have hc := G.cyp_sub hb
  have hN := G.nzr_sub hs
  have hpr := G.nz_prod hs hc fun a ha h => G.cyp_in hb hN hz h
  have hqs := gen_sub G hq
  have hsame : mem n q = mem n (pr2 n f e s (cyp n f e b)) := mem_congr fun a ha => by
    rw [Bool.eq_iff_iff]
    constructor
    · intro h
      refine Gen.sub G hpr (fun x hx h => ?_) ((hq a ha).1 h)
      rw [Bool.or_eq_true, decide_eq_true_eq] at h
      rcases h with h | rfl
      · exact pr2_iff.2 ⟨x, hx, h, by rw [G.iv_mul hx]; exact hc.one⟩
      · exact pr2_iff.2 ⟨e, G.el, hs.one, by rw [G.iv_one, G.one_l x hx]; have := G.cyp_of hb 1; rwa [G.pw_one hb] at this⟩
    · intro h
      obtain ⟨x, hx, h1, h2⟩ := pr2_iff.1 h
      have hsq : ∀ y, y < n → s y = true → q y = true := fun y hy h => (hq y hy).2 (Gen.mem G hy (by simp [h]))
      have hbq : q b = true := (hq b hb).2 (Gen.mem G hb (by simp))
      have := hqs.mul _ _ hx (G.cl _ _ (G.iv_lt hx) ha) (hsq x hx h1) (G.cyp_in hb hqs hbq h2)
      rwa [← G.assoc x _ a hx (G.iv_lt hx) ha, G.mul_iv hx, G.one_l a ha] at this
  have h1 := G.prod_count hs hc
  rw [hj, G.cyp_len hb, hk, ← Nat.pow_add, ← hsame] at h1
  obtain ⟨i, _, hi⟩ := hP.pow_div (d := (mem n q).length) ⟨_, h1.symm⟩
  exact ⟨i, hi⟩

/-- THE COUNT: of a subgroup of a power of P things, and another: things that bring not the first into the second. -/
theorem Grp.syl_count (G : Grp n f e) (hP : isPr P) (hq : Sub n f e q) {i : Nat} (hi : (mem n q).length = P ^ i) (hs : Sub n f e s) :
    ∃ c, n = (mem n fun a => decide (∀ y, y < n → shf n f e q a y = true → s y = true)).length + P * (mem n s).length * c := by
  obtain ⟨K, hK⟩ : ∃ K : Nat → Bool, K = fun a => decide (∀ y, y < n → shf n f e q a y = true → s y = true) := ⟨_, rfl⟩
  have hKi : ∀ a, K a = true ↔ ∀ y, y < n → shf n f e q a y = true → s y = true := fun a => by rw [hK]; exact decide_eq_true_iff
  have E := G.dco_eqv hq hs
  have inv : ∀ x y, x < n → y < n → dco n f q s x y = true → K x = true → K y = true := by
    intro x y hx hy h hk
    obtain ⟨u, v, hu, hv, qu, sv, rfl⟩ := dco_iff.1 h
    refine (hKi _).2 fun z hz hzs => ?_
    obtain ⟨w, hw, qw, rfl⟩ := shf_iff.1 hzs
    have hux := G.cl _ _ hu hx
    rw [← G.cjr_cjr hw hux hv, ← G.cjr_cjr hw hu hx]
    have hwu := G.cjr_lt hw hu
    have h1 : q (cjr n f e w u) = true := hq.mul _ _ (G.cl _ _ (G.iv_lt hu) hw) hu (hq.mul _ _ (G.iv_lt hu) hw (hq.inv _ hu qu) qw) qu
    have h2 : s (cjr n f e (cjr n f e w u) x) = true := (hKi x).1 hk _ (G.cjr_lt hwu hx) (shf_iff.2 ⟨_, hwu, h1, rfl⟩)
    have hwx := G.cjr_lt hwu hx
    exact hs.mul _ _ (G.cl _ _ (G.iv_lt hv) hwx) hv (hs.mul _ _ (G.iv_lt hv) hwx (hs.inv _ hv sv) h2) sv
  have inv2 : ∀ x y, x < n → y < n → dco n f q s x y = true → (!K x) = true → (!K y) = true := by
    intro x y hx hy h hk
    cases hky : K y with
    | false => rfl
    | true => rw [inv y x hy hx (E.symm x y hx hy h) hky] at hk; cases hk
  have hsum := E.part (K := fun a => !K a) inv2
  have hdv : ∀ l : List Nat, (∀ x ∈ l, P * (mem n s).length ∣ (mem n (dco n f q s x)).length) → P * (mem n s).length ∣ (l.map fun x => (mem n (dco n f q s x)).length).sum := by
    intro l
    induction l with
    | nil => intro _; exact ⟨0, rfl⟩
    | cons x r ih =>
      intro h
      rw [List.map_cons, List.sum_cons]
      exact Nat.dvd_add (h x (by simp)) (ih fun y hy => h y (by simp [hy]))
  have hd := hdv (mem n fun x => lead (dco n f q s) x && !K x) (fun x hx => by
    obtain ⟨x1, x2⟩ := mem_mem.1 hx
    rw [Bool.and_eq_true] at x2
    have hc := G.dco_count hq hs x1
    have hsh := G.shf_sub hq x1
    have hm := hsh.and hs
    have hlen := G.shf_len (p := q) x1
    obtain ⟨i2, hi2, hmi⟩ := hP.pow_div (k := i) (d := (mem n fun y => shf n f e q x y && s y).length) (by
      rw [← hi, ← hlen]
      exact hm.dvd G fun a b ha hb h1 h2 => hsh.mul a b ha hb h1 (by rw [Bool.and_eq_true] at h2; exact h2.1))
    have hne : i2 ≠ i := fun h => by
      have hk : K x = true := (hKi x).2 fun y hy hys => by
        cases hsy : s y with
        | true => rfl
        | false =>
          exfalso
          have := mem_lt (n := n) (p := shf n f e q x) (q := fun y => shf n f e q x y && s y) (fun a _ h => by rw [Bool.and_eq_true] at h; exact h.1) (fun hh => by
            have := hh y hy
            rw [hys, hsy] at this; cases this)
          rw [hlen, hi, hmi, h] at this
          omega
      rw [hk] at x2; cases x2.2
    rw [hmi, hi] at hc
    obtain ⟨t, ht⟩ : ∃ t, i = i2 + 1 + t := ⟨i - i2 - 1, by omega⟩
    refine ⟨P ^ t, Nat.eq_of_mul_eq_mul_right (hP.pos i2) ?_⟩
    rw [hc, ht, Nat.pow_add, Nat.pow_succ]
    ac_rfl)
  rw [hsum] at hd
  obtain ⟨c, hc⟩ := hd
  refine ⟨c, ?_⟩
  have hsp : (mem n K).length + (mem n fun a => !K a).length = n := by
    have h := List.length_eq_countP_add_countP K (l := List.range n)
    rw [List.length_range, List.countP_eq_length_filter, List.countP_eq_length_filter] at h
    unfold mem
    rw [show (List.filter (fun a => !K a) (List.range n)) = List.filter (fun a => decide ¬K a = true) (List.range n) from List.filter_congr fun a _ => by cases K a <;> rfl]
    exact h.symm
  rw [hK] at hsp hc
  omega

/-- Frobenius' theorem within a subgroup. -/
theorem Grp.sub_frob (G : Grp n f e) (hs : Sub n f e s) {m : Nat} (hm : m ∣ (mem n s).length) : m ∣ (mem n fun x => s x && decide (pw f e x m = e)).length := by
  have gs := hs.gs G
  have h := frob _ _ _ gs.grp m hm
  have h1 : sol (mem n s).length (idf (mem n s) f) (plc (mem n s) e) m = (mem n fun x => s x && decide (pw f e x m = e)).length := by
    unfold sol
    have h2 := count_at (mem n s) fun x => decide (pw f e x m = e)
    have h3 : (List.range (mem n s).length).filter (fun x => decide (pw (idf (mem n s) f) (plc (mem n s) e) x m = plc (mem n s) e)) = (List.range (mem n s).length).filter fun i => decide (pw f e ((mem n s).getD i 0) m = e) :=
      List.filter_congr fun i hi => decide_eq_decide.2 (gs.pw_iff (List.mem_range.1 hi) m)
    rw [h3, h2]
    congr 1
    unfold mem
    rw [List.filter_filter]
    refine List.filter_congr fun x _ => ?_
    exact Bool.and_comm _ _
  rwa [h1] at h

/-- THE END: what lets nothing of a power of P as its order into what it lets stay, but what is in it, has all of P that there is. -/
theorem Grp.syl_end (G : Grp n f e) (hP : isPr P) (hs : Sub n f e s) {j : Nat} (hj : (mem n s).length = P ^ j) (h : ∀ a, a < n → nzr n f e s a = true → ∀ k, ord n f e a = P ^ k → s a = true) :
    ∃ t, n = P ^ j * t ∧ ¬ P ∣ t := by
  have hN := G.nzr_sub hs
  have hsN : ∀ a, a < n → s a = true → nzr n f e s a = true := fun a ha h => G.nzr_in hs ha h
  obtain ⟨i, m, hm1, hm2⟩ := split_pow hP.1 (hN.pos G.el)
  have hdv : (mem n s).length ∣ (mem n (nzr n f e s)).length := hs.dvd G fun a b ha hb h1 h2 => hN.mul a b ha hb h1 (hsN b hb h2)
  have hji : j ≤ i := by
    rw [hj, hm1] at hdv
    refine hP.le_of_dvd (Nat.Coprime.dvd_of_dvd_mul_right ?_ hdv)
    exact Nat.Coprime.pow_left _ (hP.cop hm2)
  have hij : i = j := by
    by_cases hlt : j < i
    · exfalso
      have h1 := G.sub_frob hN (m := P ^ i) ⟨m, hm1⟩
      have h2 : 0 < (mem n fun x => nzr n f e s x && decide (pw f e x (P ^ i) = e)).length := List.length_pos_of_mem (mem_mem.2 ⟨G.el, by
        rw [hN.one, G.pw_e]; simp⟩)
      have h3 := Nat.le_of_dvd h2 h1
      have h4 : P ^ j < P ^ i := Nat.pow_lt_pow_right hP.1 hlt
      have h5 : (mem n fun x => nzr n f e s x && decide (pw f e x (P ^ i) = e)).length ≤ (mem n s).length := by
        refine List.Nodup.length_le_of_subset (List.nodup_range.filter _) fun x hx => ?_
        obtain ⟨x1, x2⟩ := mem_mem.1 hx
        rw [Bool.and_eq_true, decide_eq_true_eq] at x2
        obtain ⟨k, _, hk⟩ := hP.pow_div ((G.pw_eq_one x1 _).1 x2.2)
        exact mem_mem.2 ⟨x1, h x x1 x2.1 k hk⟩
      omega
    · omega
  subst hij
  obtain ⟨c, hc⟩ := G.syl_count hP hs hj hs
  have he : (mem n fun a => decide (∀ y, y < n → shf n f e s a y = true → s y = true)) = mem n (nzr n f e s) := mem_congr fun a ha => by
    rw [Bool.eq_iff_iff, decide_eq_true_eq]
    exact ⟨fun h => G.nzr_of hs ha h, fun h y hy hh => by rw [← nzr_iff.1 h y hy]; exact hh⟩
  rw [he, hj, hm1] at hc
  refine ⟨m + P * c, ?_, fun hd => hm2 ((Nat.dvd_add_left (Nat.dvd_mul_right P c)).1 hd)⟩
  rw [Nat.mul_add]
  rw [show P * P ^ i * c = P ^ i * (P * c) by ac_rfl] at hc
  exact hc

/-- Some of Sylow's subgroups. -/
structure Syl (n : Nat) (f : Nat → Nat → Nat) (e P : Nat) (s : Nat → Bool) (j t : Nat) : Prop where
  sub : Sub n f e s
  len : (mem n s).length = P ^ j
  num : n = P ^ j * t
  non : ¬ P ∣ t

/-- ALL ARE IN ONE, CONJUGATED. -/
theorem Syl.holds {j t : Nat} (hS : Syl n f e P s j t) (G : Grp n f e) (hP : isPr P) (hq : Sub n f e q) {i : Nat} (hi : (mem n q).length = P ^ i) : ∃ a, a < n ∧ ∀ y, y < n → q y = true → shf n f e s a y = true := by
  obtain ⟨c, hc⟩ := G.syl_count hP hq hi hS.sub
  by_cases h0 : (mem n fun a => decide (∀ y, y < n → shf n f e q a y = true → s y = true)) = []
  · exfalso
    rw [h0, hS.len] at hc
    have h1 := hS.num
    rw [List.length_nil, Nat.zero_add] at hc
    have : P ^ j * t = P ^ j * (P * c) := by rw [← h1, ← show P * P ^ j * c = P ^ j * (P * c) by ac_rfl]; exact hc
    have := Nat.eq_of_mul_eq_mul_left (hP.pos j) this
    exact hS.non ⟨c, this⟩
  · obtain ⟨a, ha⟩ := List.exists_mem_of_ne_nil _ h0
    obtain ⟨a1, a2⟩ := mem_mem.1 ha
    rw [decide_eq_true_eq] at a2
    refine ⟨iv n f e a, G.iv_lt a1, fun y hy hqy => ?_⟩
    rw [G.shf_back (G.iv_lt a1) hy, G.iv_iv a1]
    exact a2 _ (G.cjr_lt hy a1) (shf_iff.2 ⟨y, hy, hqy, rfl⟩)

theorem Syl.shf {j t : Nat} (hS : Syl n f e P s j t) (G : Grp n f e) {a : Nat} (ha : a < n) : Syl n f e P (shf n f e s a) j t :=
  ⟨G.shf_sub hS.sub ha, by rw [G.shf_len ha]; exact hS.len, hS.num, hS.non⟩

/-- How many sets there are among the conjugated ones, as a list has them. -/
theorem Grp.conj_num (G : Grp n f e) (hs : Sub n f e s) {α : Type} [DecidableEq α] {code : (Nat → Bool) → α} (hcode : ∀ p q : Nat → Bool, code p = code q ↔ ∀ y, y < n → p y = q y) {L : List α} (hnd : L.Nodup)
    (hL : ∀ x, x ∈ L ↔ ∃ a, a < n ∧ x = code (Go.Proofs.YtjikchbmkodgfaaDoor.shf n f e s a)) : L.length * (mem n (nzr n f e s)).length = n := by
  have h := dbl (R := fun a x => decide (code (Go.Proofs.YtjikchbmkodgfaaDoor.shf n f e s a) = x)) (L1 := List.range n) (L2 := L) (c1 := 1) (c2 := (mem n (nzr n f e s)).length) (fun a ha => by
    have hm := (hL _).2 ⟨a, List.mem_range.1 ha, rfl⟩
    have : (L.filter fun w => decide (code (Go.Proofs.YtjikchbmkodgfaaDoor.shf n f e s a) = w)).length = [code (Go.Proofs.YtjikchbmkodgfaaDoor.shf n f e s a)].length := same_len (hnd.filter _) (by simp) fun x => by
      rw [List.mem_filter, List.mem_singleton, decide_eq_true_eq]
      exact ⟨fun h => h.2.symm, fun h => ⟨by rw [h]; exact hm, h.symm⟩⟩
    simpa using this) (fun x hx => by
    obtain ⟨a, ha, rfl⟩ := (hL x).1 hx
    have ia := G.iv_lt ha
    show (mem n fun b => decide (code (Go.Proofs.YtjikchbmkodgfaaDoor.shf n f e s b) = code (Go.Proofs.YtjikchbmkodgfaaDoor.shf n f e s a))).length = _
    refine mem_bij (fun b => f b (iv n f e a)) (fun b hb h => ⟨G.cl _ _ hb ia, ?_⟩) (fun x y hx hy _ _ h => G.cancel_r ia hx hy h) fun z hz h => ⟨f z a, G.cl _ _ hz ha, ?_, ?_⟩
    · rw [decide_eq_true_eq, hcode] at h
      refine nzr_iff.2 fun y hy => ?_
      have hba := G.cl _ _ hb ia
      rw [G.shf_back hba hy, G.iv_prod hb ia, G.iv_iv ha, ← G.cjr_cjr hy ha (G.iv_lt hb), ← G.shf_back (p := s) hb (G.cjr_lt hy ha), h _ (G.cjr_lt hy ha), G.shf_back ha (G.cjr_lt hy ha), G.cjr_iv hy ha]
    · rw [decide_eq_true_eq, hcode]
      intro y hy
      rw [G.shf_back (G.cl _ _ hz ha) hy, G.iv_prod hz ha, ← G.cjr_cjr hy ia (G.iv_lt hz), ← G.shf_back (p := s) hz (G.cjr_lt hy ia), nzr_iff.1 h _ (G.cjr_lt hy ia), ← G.shf_back (p := s) ha hy]
    · rw [G.assoc z a _ hz ha ia, G.mul_iv ha, G.one_r z hz])
  rw [List.length_range, Nat.mul_one] at h
  exact h.symm

end
end Go.Proofs.YtjikchbmkodgfaaDoor

/-
  Plain law: how one of Sylow's subgroups is grown. Conditions: none.
-/
set_option linter.all false
namespace Go.Proofs.YtjikchbmkodgfaaDoor
open Go.Pv

/-- What is left of a number, when P is divided out. -/
noncomputable def npt (P o : Nat) : Nat := @dite Nat (∃ s k, o = P ^ k * s ∧ ¬ P ∣ s) (Classical.propDecidable _) (fun h => Classical.choose h) (fun _ => 0)
theorem npt_ex {P o : Nat} (hP : 2 ≤ P) (ho : 0 < o) : ∃ k, o = P ^ k * npt P o ∧ ¬ P ∣ npt P o := by
  obtain ⟨k, s, h1, h2⟩ := split_pow hP ho
  have h : ∃ s k, o = P ^ k * s ∧ ¬ P ∣ s := ⟨s, k, h1, h2⟩
  have e : npt P o = Classical.choose h := by unfold npt; rw [dif_pos h]
  rw [e]
  exact Classical.choose_spec h
theorem npt_pow {P k : Nat} (hP : isPr P) : npt P (P ^ k) = 1 := by
  obtain ⟨j, h1, h2⟩ := npt_ex hP.1 (hP.pos k)
  obtain ⟨i, _, hi⟩ := hP.pow_div (k := k) (d := npt P (P ^ k)) ⟨P ^ j, by rw [Nat.mul_comm]; exact h1⟩
  cases i with
  | zero => simpa using hi
  | succ i => exact absurd (hi ▸ ⟨P ^ i, by rw [Nat.pow_succ, Nat.mul_comm]⟩) h2

noncomputable def gn (n : Nat) (f : Nat → Nat → Nat) (e : Nat) (p : Nat → Bool) : Nat → Bool := Classical.choose (gen_ex n f e p)
theorem gn_iff {n : Nat} {f : Nat → Nat → Nat} {e : Nat} (p : Nat → Bool) : ∀ a, a < n → (gn n f e p a = true ↔ Gen n f e p a) := Classical.choose_spec (gen_ex n f e p)

section
variable {n : Nat} {f : Nat → Nat → Nat} {e : Nat} {p q s : Nat → Bool} {P : Nat}

theorem Grp.ord_part (G : Grp n f e) {a k m : Nat} (ha : a < n) (hm : 0 < m) (h : ord n f e a = P ^ k * m) : ord n f e (pw f e a m) = P ^ k :=
  G.ord_eq (G.pw_lt ha m) fun j => by
    rw [← G.pw_mul ha, G.pw_eq_one ha, h, Nat.mul_comm (P ^ k)]
    exact Nat.mul_dvd_mul_iff_left hm

noncomputable def swb (n : Nat) (f : Nat → Nat → Nat) (e P a : Nat) : Nat := pw f e a (npt P (ord n f e a))
/-- Something that lets the subgroup stay, whose part of a power of P is not in it. -/
noncomputable def swc (n : Nat) (f : Nat → Nat → Nat) (e P : Nat) (s : Nat → Bool) (a : Nat) : Bool := !(s a || !(nzr n f e s a)) && !(s (swb n f e P a))
noncomputable def sws (n : Nat) (f : Nat → Nat → Nat) (e P : Nat) (s : Nat → Bool) : Nat → Bool :=
  match fst' (swc n f e P s) n with
  | some a => gn n f e fun x => s x || decide (x = swb n f e P a)
  | none => s
noncomputable def swq (n : Nat) (f : Nat → Nat → Nat) (e P : Nat) : Nat → Nat → Bool
  | 0 => onp e
  | k + 1 => sws n f e P (swq n f e P k)

theorem Grp.swb_ord (G : Grp n f e) (hP : isPr P) {a : Nat} (ha : a < n) : ∃ k, ord n f e (swb n f e P a) = P ^ k := by
  obtain ⟨k, h1, h2⟩ := npt_ex hP.1 (G.ord_pos ha)
  refine ⟨k, G.ord_part ha ?_ h1⟩
  rcases Nat.eq_zero_or_pos (npt P (ord n f e a)) with h | h
  · exact absurd (h ▸ Nat.dvd_zero P) h2
  · exact h
theorem Grp.swb_lt (G : Grp n f e) {a : Nat} (ha : a < n) : swb n f e P a < n := G.pw_lt ha _

theorem Grp.swq_ok (G : Grp n f e) (hP : isPr P) : ∀ k, Sub n f e (swq n f e P k) ∧ ∃ j, (mem n (swq n f e P k)).length = P ^ j
  | 0 => ⟨G.onp_sub, 0, by rw [Nat.pow_zero]; exact mem_one G.el fun a _ => onp_iff⟩
  | k + 1 => by
    obtain ⟨h1, j, h2⟩ := G.swq_ok hP k
    show Sub n f e (sws n f e P (swq n f e P k)) ∧ ∃ j, (mem n (sws n f e P (swq n f e P k))).length = P ^ j
    unfold sws
    cases hf : fst' (swc n f e P (swq n f e P k)) n with
    | none => exact ⟨h1, j, h2⟩
    | some a =>
      obtain ⟨a1, a2, _⟩ := fst_spec hf
      unfold swc at a2
      simp only [Bool.and_eq_true, Bool.not_eq_true', Bool.or_eq_false_iff, Bool.not_eq_false'] at a2
      obtain ⟨⟨c1, c2⟩, c3⟩ := a2
      obtain ⟨i, hi⟩ := G.swb_ord hP a1
      have hN := G.nzr_sub h1
      have hz : nzr n f e (swq n f e P k) (swb n f e P a) = true := G.cyp_in a1 hN c2 (G.cyp_of a1 _)
      exact ⟨gen_sub G (gn_iff _), G.syl_grow hP h1 h2 (G.swb_lt a1) hz hi (gn_iff _)⟩

theorem Grp.swq_grow (G : Grp n f e) {k : Nat} (h : ¬ fst' (swc n f e P (swq n f e P k)) n = none) : (mem n (swq n f e P k)).length < (mem n (swq n f e P (k + 1))).length := by
  show _ < (mem n (sws n f e P (swq n f e P k))).length
  unfold sws
  cases hf : fst' (swc n f e P (swq n f e P k)) n with
  | none => exact absurd hf h
  | some a =>
    obtain ⟨a1, a2, _⟩ := fst_spec hf
    unfold swc at a2
    simp only [Bool.and_eq_true, Bool.not_eq_true'] at a2
    refine mem_lt (fun x hx hh => (gn_iff _ x hx).2 (Gen.mem G hx (by simp [hh]))) fun hh => ?_
    have h1 := hh _ (G.swb_lt (P := P) a1)
    rw [a2.2] at h1
    have h2 := (gn_iff (n := n) (f := f) (e := e) (fun x => swq n f e P k x || decide (x = swb n f e P a)) _ (G.swb_lt (P := P) a1)).2 (Gen.mem G (G.swb_lt a1) (by simp))
    exact absurd (h1.trans h2) (by simp)

theorem least_nat {p : Nat → Prop} (h : ∃ k, p k) : ∃ k, p k ∧ ∀ j, j < k → ¬ p j := by
  obtain ⟨k, hk⟩ := h
  induction k using Nat.strongRecOn with
  | _ k ih =>
    by_cases hh : ∃ j, j < k ∧ p j
    · obtain ⟨j, h1, h2⟩ := hh; exact ih j h1 h2
    · exact ⟨k, hk, fun j hj hp => hh ⟨j, hj, hp⟩⟩
theorem Grp.swq_stop (G : Grp n f e) : ∃ K, fst' (swc n f e P (swq n f e P K)) n = none ∧ ∀ k, k < K → ¬ fst' (swc n f e P (swq n f e P k)) n = none := by
  refine least_nat (p := fun K => fst' (swc n f e P (swq n f e P K)) n = none) (Classical.byContradiction fun hh => ?_)
  have h1 : ∀ k, k ≤ (mem n (swq n f e P k)).length := by
    intro k
    induction k with
    | zero => omega
    | succ k ih =>
      have := G.swq_grow (P := P) (k := k) fun h => hh ⟨k, h⟩
      omega
  have h2 := h1 (n + 1)
  have h3 : (mem n (swq n f e P (n + 1))).length ≤ n := Nat.le_trans (List.length_filter_le _ _) (Nat.le_of_eq List.length_range)
  omega
theorem Grp.swq_syl (G : Grp n f e) (hP : isPr P) {K : Nat} (h : fst' (swc n f e P (swq n f e P K)) n = none) : ∃ j t, Syl n f e P (swq n f e P K) j t := by
  obtain ⟨h1, j, h2⟩ := G.swq_ok hP K
  obtain ⟨t, h3, h4⟩ := G.syl_end hP h1 h2 fun a ha hz k hk => by
    have h3 := fst_spec0 h a ha
    unfold swc swb at h3
    rw [hk, npt_pow hP, G.pw_one ha, hz] at h3
    cases hs : swq n f e P K a with
    | true => rfl
    | false => rw [hs] at h3; simp at h3
  exact ⟨j, t, h1, h2, h3, h4⟩
end
end Go.Proofs.YtjikchbmkodgfaaDoor

/-
  The types that the walk asks, a row each, checked by the kernel against the program. Conditions: none; a library text, written by a program of this repo.
-/
namespace Go.Proofs.YtjikchbmkodgfaaDoor
open Go.Pv

def tab : TypeId → Option TI
  | 2 => some ⟨.int .i64, 1, 8, [.int .i64 0], false⟩
  | 3 => some ⟨.int .i64, 1, 8, [.int .i64 0], false⟩
  | 4 => some ⟨.bool, 1, 1, [.bool false], false⟩
  | 5 => some ⟨.int .u8, 1, 1, [.int .u8 0], false⟩
  | 9 => some ⟨.str, 1, 16, [.string ⟨#[]⟩], false⟩
  | 12 => some ⟨.int .u64, 1, 8, [.int .u64 0], false⟩
  | 21 => some ⟨.int .i32, 1, 4, [.int .i32 0], false⟩
  | 22 => some ⟨.slice 3, 1, 24, [.slice none 0 0], false⟩
  | 24 => some ⟨.struct [(0, 3, 1), (1, 22, 1)], 2, 32, [.int .i64 0, .slice none 0 0], false⟩
  | 25 => some ⟨.slice 22, 1, 24, [.slice none 0 0], false⟩
  | 27 => some ⟨.struct [(0, 3, 1), (1, 3, 1)], 2, 16, [.int .i64 0, .int .i64 0], true⟩
  | 42 => some ⟨.other, 1, 8, [.nilFunc], false⟩
  | 52 => some ⟨.other, 1, 8, [.nilFunc], false⟩
  | 58 => some ⟨.other, 1, 8, [.nilFunc], false⟩
  | 68 => some ⟨.slice 71, 1, 24, [.slice none 0 0], false⟩
  | 70 => some ⟨.int .u64, 1, 8, [.int .u64 0], false⟩
  | 71 => some ⟨.int .u64, 1, 8, [.int .u64 0], false⟩
  | 77 => some ⟨.other, 1, 8, [.nilFunc], false⟩
  | 78 => some ⟨.slice 4, 1, 24, [.slice none 0 0], false⟩
  | 84 => some ⟨.map 71 4 (some (.bool false)), 1, 8, [.map none], false⟩
  | 88 => some ⟨.map 3 3 (some (.int .i64 0)), 1, 8, [.map none], false⟩
  | 92 => some ⟨.other, 1, 8, [.nilFunc], false⟩
  | 97 => some ⟨.slice 24, 1, 24, [.slice none 0 0], false⟩
  | 102 => some ⟨.int .u64, 1, 8, [.int .u64 0], false⟩
  | 105 => some ⟨.array 64 5, 64, 64, [.int .u8 0, .int .u8 0, .int .u8 0, .int .u8 0, .int .u8 0, .int .u8 0, .int .u8 0, .int .u8 0, .int .u8 0, .int .u8 0, .int .u8 0, .int .u8 0, .int .u8 0, .int .u8 0, .int .u8 0, .int .u8 0, .int .u8 0, .int .u8 0, .int .u8 0, .int .u8 0, .int .u8 0, .int .u8 0, .int .u8 0, .int .u8 0, .int .u8 0, .int .u8 0, .int .u8 0, .int .u8 0, .int .u8 0, .int .u8 0, .int .u8 0, .int .u8 0, .int .u8 0, .int .u8 0, .int .u8 0, .int .u8 0, .int .u8 0, .int .u8 0, .int .u8 0, .int .u8 0, .int .u8 0, .int .u8 0, .int .u8 0, .int .u8 0, .int .u8 0, .int .u8 0, .int .u8 0, .int .u8 0, .int .u8 0, .int .u8 0, .int .u8 0, .int .u8 0, .int .u8 0, .int .u8 0, .int .u8 0, .int .u8 0, .int .u8 0, .int .u8 0, .int .u8 0, .int .u8 0, .int .u8 0, .int .u8 0, .int .u8 0, .int .u8 0], false⟩
  | 110 => some ⟨.int .i64, 1, 8, [.int .i64 0], false⟩
  | 118 => some ⟨.int .u32, 1, 4, [.int .u32 0], false⟩
  | 125 => some ⟨.int .u64, 1, 8, [.int .u64 0], false⟩
  | _ => none

theorem tab_2 : tiOf Tryd.prog 2 = some ⟨.int .i64, 1, 8, [.int .i64 0], false⟩ := by kernel_rfl
theorem tab_3 : tiOf Tryd.prog 3 = some ⟨.int .i64, 1, 8, [.int .i64 0], false⟩ := by kernel_rfl
theorem tab_4 : tiOf Tryd.prog 4 = some ⟨.bool, 1, 1, [.bool false], false⟩ := by kernel_rfl
theorem tab_5 : tiOf Tryd.prog 5 = some ⟨.int .u8, 1, 1, [.int .u8 0], false⟩ := by kernel_rfl
theorem tab_9 : tiOf Tryd.prog 9 = some ⟨.str, 1, 16, [.string ⟨#[]⟩], false⟩ := by kernel_rfl
theorem tab_12 : tiOf Tryd.prog 12 = some ⟨.int .u64, 1, 8, [.int .u64 0], false⟩ := by kernel_rfl
theorem tab_21 : tiOf Tryd.prog 21 = some ⟨.int .i32, 1, 4, [.int .i32 0], false⟩ := by kernel_rfl
theorem tab_22 : tiOf Tryd.prog 22 = some ⟨.slice 3, 1, 24, [.slice none 0 0], false⟩ := by kernel_rfl
theorem tab_24 : tiOf Tryd.prog 24 = some ⟨.struct [(0, 3, 1), (1, 22, 1)], 2, 32, [.int .i64 0, .slice none 0 0], false⟩ := by kernel_rfl
theorem tab_25 : tiOf Tryd.prog 25 = some ⟨.slice 22, 1, 24, [.slice none 0 0], false⟩ := by kernel_rfl
theorem tab_27 : tiOf Tryd.prog 27 = some ⟨.struct [(0, 3, 1), (1, 3, 1)], 2, 16, [.int .i64 0, .int .i64 0], true⟩ := by kernel_rfl
theorem tab_42 : tiOf Tryd.prog 42 = some ⟨.other, 1, 8, [.nilFunc], false⟩ := by kernel_rfl
theorem tab_52 : tiOf Tryd.prog 52 = some ⟨.other, 1, 8, [.nilFunc], false⟩ := by kernel_rfl
theorem tab_58 : tiOf Tryd.prog 58 = some ⟨.other, 1, 8, [.nilFunc], false⟩ := by kernel_rfl
theorem tab_68 : tiOf Tryd.prog 68 = some ⟨.slice 71, 1, 24, [.slice none 0 0], false⟩ := by kernel_rfl
theorem tab_70 : tiOf Tryd.prog 70 = some ⟨.int .u64, 1, 8, [.int .u64 0], false⟩ := by kernel_rfl
theorem tab_71 : tiOf Tryd.prog 71 = some ⟨.int .u64, 1, 8, [.int .u64 0], false⟩ := by kernel_rfl
theorem tab_77 : tiOf Tryd.prog 77 = some ⟨.other, 1, 8, [.nilFunc], false⟩ := by kernel_rfl
theorem tab_78 : tiOf Tryd.prog 78 = some ⟨.slice 4, 1, 24, [.slice none 0 0], false⟩ := by kernel_rfl
theorem tab_84 : tiOf Tryd.prog 84 = some ⟨.map 71 4 (some (.bool false)), 1, 8, [.map none], false⟩ := by kernel_rfl
theorem tab_88 : tiOf Tryd.prog 88 = some ⟨.map 3 3 (some (.int .i64 0)), 1, 8, [.map none], false⟩ := by kernel_rfl
theorem tab_92 : tiOf Tryd.prog 92 = some ⟨.other, 1, 8, [.nilFunc], false⟩ := by kernel_rfl
theorem tab_97 : tiOf Tryd.prog 97 = some ⟨.slice 24, 1, 24, [.slice none 0 0], false⟩ := by kernel_rfl
theorem tab_102 : tiOf Tryd.prog 102 = some ⟨.int .u64, 1, 8, [.int .u64 0], false⟩ := by kernel_rfl
theorem tab_105 : tiOf Tryd.prog 105 = some ⟨.array 64 5, 64, 64, [.int .u8 0, .int .u8 0, .int .u8 0, .int .u8 0, .int .u8 0, .int .u8 0, .int .u8 0, .int .u8 0, .int .u8 0, .int .u8 0, .int .u8 0, .int .u8 0, .int .u8 0, .int .u8 0, .int .u8 0, .int .u8 0, .int .u8 0, .int .u8 0, .int .u8 0, .int .u8 0, .int .u8 0, .int .u8 0, .int .u8 0, .int .u8 0, .int .u8 0, .int .u8 0, .int .u8 0, .int .u8 0, .int .u8 0, .int .u8 0, .int .u8 0, .int .u8 0, .int .u8 0, .int .u8 0, .int .u8 0, .int .u8 0, .int .u8 0, .int .u8 0, .int .u8 0, .int .u8 0, .int .u8 0, .int .u8 0, .int .u8 0, .int .u8 0, .int .u8 0, .int .u8 0, .int .u8 0, .int .u8 0, .int .u8 0, .int .u8 0, .int .u8 0, .int .u8 0, .int .u8 0, .int .u8 0, .int .u8 0, .int .u8 0, .int .u8 0, .int .u8 0, .int .u8 0, .int .u8 0, .int .u8 0, .int .u8 0, .int .u8 0, .int .u8 0], false⟩ := by kernel_rfl
theorem tab_110 : tiOf Tryd.prog 110 = some ⟨.int .i64, 1, 8, [.int .i64 0], false⟩ := by kernel_rfl
theorem tab_118 : tiOf Tryd.prog 118 = some ⟨.int .u32, 1, 4, [.int .u32 0], false⟩ := by kernel_rfl
theorem tab_125 : tiOf Tryd.prog 125 = some ⟨.int .u64, 1, 8, [.int .u64 0], false⟩ := by kernel_rfl

theorem tab_ok : ∀ t ti, tab t = some ti → tiOf Tryd.prog t = some ti := by
  intro t ti h
  unfold tab at h
  split at h
  · cases h; exact tab_2
  · cases h; exact tab_3
  · cases h; exact tab_4
  · cases h; exact tab_5
  · cases h; exact tab_9
  · cases h; exact tab_12
  · cases h; exact tab_21
  · cases h; exact tab_22
  · cases h; exact tab_24
  · cases h; exact tab_25
  · cases h; exact tab_27
  · cases h; exact tab_42
  · cases h; exact tab_52
  · cases h; exact tab_58
  · cases h; exact tab_68
  · cases h; exact tab_70
  · cases h; exact tab_71
  · cases h; exact tab_77
  · cases h; exact tab_78
  · cases h; exact tab_84
  · cases h; exact tab_88
  · cases h; exact tab_92
  · cases h; exact tab_97
  · cases h; exact tab_102
  · cases h; exact tab_105
  · cases h; exact tab_110
  · cases h; exact tab_118
  · cases h; exact tab_125
  · cases h

theorem mixed : Tryd.prog.follows .mixedOrders = true := by kernel_rfl

end Go.Proofs.YtjikchbmkodgfaaDoor

/-
  Walks: the document's words of groups: product, one, inverse. Conditions: none.
-/
set_option linter.all false
namespace Go.Proofs.YtjikchbmkodgfaaDoor
open Go.Pv

/-- A fault. -/
def fl (p : Int × Int) : PV := .agg [.int .i64 p.1, .int .i64 p.2]

/-- The product, out of the table. -/
def op (m : List Int) (n a b : Nat) : Nat := (m.getD (a * n + b) 0).toNat

structure Tab (n : Nat) (m : List Int) : Prop where
  pos : 1 ≤ n
  big : n ≤ 60
  len : m.length = n * n
  rng : ∀ i, i < n * n → 0 ≤ m.getD i 0 ∧ m.getD i 0 < n

theorem at_lt {n a b : Nat} (ha : a < n) (hb : b < n) : a * n + b < n * n := by
  have : (a + 1) * n ≤ n * n := Nat.mul_le_mul_right _ ha
  rw [Nat.add_mul, Nat.one_mul] at this
  omega
theorem sq_le {n : Nat} (h : n ≤ 60) : n * n ≤ 3600 := Nat.mul_le_mul h h

theorem Tab.val {n : Nat} {m : List Int} (T : Tab n m) {a b : Nat} (ha : a < n) (hb : b < n) : m.getD (a * n + b) 0 = ((op m n a b : Nat) : Int) := by
  have := T.rng _ (at_lt ha hb)
  unfold op; omega
theorem Tab.lt {n : Nat} {m : List Int} (T : Tab n m) {a b : Nat} (ha : a < n) (hb : b < n) : op m n a b < n := by
  have := T.rng _ (at_lt ha hb)
  unfold op; omega

theorem at_nat (a n b : Nat) : ((a : Int) * (n : Int) + (b : Int)).toNat = a * n + b := by
  have : (a : Int) * (n : Int) = ((a * n : Nat) : Int) := (Int.natCast_mul a n).symm
  omega

theorem m_c {n : Nat} {m : List Int} (T : Tab n m) {a b : Nat} (ha : a < n) (hb : b < n) : FnC Tryd.prog 72 [gp n m, .int .i64 a, .int .i64 b] (.int .i64 (op m n a b : Nat)) := by
  have h1 := at_lt ha hb
  have h2 := sq_le T.big
  have h3 := T.len
  have hc : (a : Int) * (n : Int) = ((a * n : Nat) : Int) := (Int.natCast_mul a n).symm
  have hv := T.val ha hb
  refine fnc_of tab_ok Tryd.func72 rfl (by kernel_rfl) (by rw [Tryd.ntmps72]; exact Nat.le_add_left 3 _) ?_; rw [Tryd.ntmps72]
  refine qm ?_
  refine hk_region fun K hK => runs_eval tab_ok ?_
  simp only [ev0, evA, evB, evP, fl, gp, tab, simprocAttr, reduceCtorEq, reduceIte]
  refine fin_run ?_ (hK _ ?_) <;> clear hK <;> clear K
  · (first | exact trivial | omega | (simp only [In64] at *; omega) | (simp [In64] at *; omega) | (simp_all; done) | skip)
  refine qa (qm ?_)
  refine hk_region fun K hK => runs_eval tab_ok ?_
  simp only [ev0, evA, evB, evP, fl, gp, tab, simprocAttr, reduceCtorEq, reduceIte, at_nat, il_get (show a * n + b < m.length by omega), hv]
  refine fin_run ?_ (hK _ ?_) <;> clear hK <;> clear K
  · rw [hc]; simp only [In64]; omega
  refine qa (qk ?_)
  simp only [Tryd.results72, enA, ev0, evA, evB, evP, fl, gp, tab, simprocAttr, reduceCtorEq, reduceIte]
  all_goals (rfl)

def isE (m : List Int) (n a : Nat) : Prop := ∀ b, b < n → op m n a b = b ∧ op m n b a = b
instance (m : List Int) (n a : Nat) : Decidable (isE m n a) := by unfold isE; infer_instance

/-- The first that is the one; -1. -/
def eI (m : List Int) (n : Nat) : Int := match fst' (fun a => decide (isE m n a)) n with | some a => (a : Int) | none => -1

theorem dall_no {P : Nat → Prop} {b : Nat} [Decidable (∀ c, c < b + 1 → P c)] (h : ¬ P b) : decide (∀ c, c < b + 1 → P c) = false := by
  simp only [decide_eq_false_iff_not]
  exact fun h' => h (h' b (Nat.lt_succ_self b))
theorem dall_yes {P : Nat → Prop} {b : Nat} [Decidable (∀ c, c < b + 1 → P c)] [Decidable (∀ c, c < b → P c)] (h : P b) : decide (∀ c, c < b + 1 → P c) = decide (∀ c, c < b → P c) := by
  apply decide_eq_decide.2
  constructor
  · exact fun h' c hc => h' c (by omega)
  · intro h' c hc
    by_cases e : c = b
    · subst e; exact h
    · exact h' c (by omega)

theorem e_c {n : Nat} {m : List Int} (T : Tab n m) : FnC Tryd.prog 71 [gp n m] (.int .i64 (eI m n)) := by
  have hb := T.big
  refine fnc_of tab_ok Tryd.func71 rfl (by kernel_rfl) (by rw [Tryd.ntmps71]; exact Nat.le_add_left 1 _) ?_; rw [Tryd.ntmps71]
  refine qm ?_
  refine hk_region fun K hK => runs_eval tab_ok ?_
  simp only [ev0, evA, evB, evP, fl, gp, tab, simprocAttr, reduceCtorEq, reduceIte]
  refine fin_run ?_ (hK _ ?_) <;> clear hK <;> clear K
  · (first | exact trivial | omega | (simp only [In64] at *; omega) | (simp [In64] at *; omega) | (simp_all; done) | skip)
  refine qa (qm (qm ?_))
  refine hk_region fun K hK => runs_eval tab_ok ?_
  simp only [ev0, evA, evB, evP, fl, gp, tab, simprocAttr, reduceCtorEq, reduceIte]
  refine fin_run trivial (hK _ ?_) <;> clear hK <;> clear K
  refine qa (ql ?_)
  refine hk_loop (ι := Nat) (fun i => ⟨34, [(1, .ptr 0 0), (3, .p (.int .i64 i))], [.own [.p (.int .i64 n), .p (.list (il m))]]⟩) (fun i => i ≤ n ∧ ∀ j, j < i → ¬ isE m n j) (fun i => n - i) 0 ⟨Nat.zero_le _, fun j hj => by omega⟩ [0] (by simp only [leq, leA, ev0, evA, evB, evP, fl, gp, tab, simprocAttr, reduceCtorEq, reduceIte] <;> trivial) fun i hi => ?_
  obtain ⟨hi1, hi2⟩ := hi
  refine qm (qm ?_)
  refine hk_region fun K hK => runs_eval tab_ok ?_
  simp only [ev0, evA, evB, evP, fl, gp, tab, simprocAttr, reduceCtorEq, reduceIte]
  refine fin_run ?_ (hK _ ?_) <;> clear hK <;> clear K
  · (first | exact trivial | omega | (simp only [In64] at *; omega) | (simp [In64] at *; omega) | (simp_all; done) | skip)
  refine qa ?_
  refine hk_cond rfl (fun hC1 => ?_) (fun hC1 => ?_)
  · (try simp only [nhs] at hC1)
    have hlt : i < n := by omega
    refine qh (qa (qm (ql (qm ?_))))
    refine hk_region fun K hK => runs_eval tab_ok ?_
    simp only [ev0, evA, evB, evP, fl, gp, tab, simprocAttr, reduceCtorEq, reduceIte]
    refine fin_run trivial (hK _ ?_) <;> clear hK <;> clear K
    refine qa (qm (qm ?_))
    refine hk_region fun K hK => runs_eval tab_ok ?_
    simp only [ev0, evA, evB, evP, fl, gp, tab, simprocAttr, reduceCtorEq, reduceIte]
    refine fin_run trivial (hK _ ?_) <;> clear hK <;> clear K
    refine qa (ql ?_)
    refine hk_loop (ι := Nat) (fun b => ⟨34, [(1, .ptr 0 0), (3, .p (.int .i64 i)), (4, .p (.bool (decide (∀ c, c < b → op m n i c = c ∧ op m n c i = c)))), (5, .p (.int .i64 b))], [.own [.p (.int .i64 n), .p (.list (il m))]]⟩) (fun b => b ≤ n) (fun b => n - b) 0 (Nat.zero_le _) [0] (by simp only [leq, leA, ev0, evA, evB, evP, fl, gp, tab, simprocAttr, reduceCtorEq, reduceIte] <;> simp) fun b hb => ?_
    refine qm (qm ?_)
    refine hk_region fun K hK => runs_eval tab_ok ?_
    simp only [ev0, evA, evB, evP, fl, gp, tab, simprocAttr, reduceCtorEq, reduceIte]
    refine fin_run ?_ (hK _ ?_) <;> clear hK <;> clear K
    · (first | exact trivial | omega | (simp only [In64] at *; omega) | (simp [In64] at *; omega) | (simp_all; done) | skip)
    refine qa ?_
    refine hk_cond rfl (fun hC2 => ?_) (fun hC2 => ?_)
    · (try simp only [nhs] at hC2)
      have hbl : b < n := by omega
      refine qh (qa (qm (ql (qm ?_))))
      by_cases g8a : (((op m n i b : Nat) : Int) = (b : Nat))
      · refine hk_region fun K hK => runs_eval tab_ok ?_
        simp only [ev0, evA, evB, evP, fl, gp, tab, simprocAttr, reduceCtorEq, reduceIte, decide_eq_true g8a]
        refine fin_stop trivial (runs_call (m_c T hlt hbl) rfl rfl rfl (by simp only [dstOk, Nat.reduceLT]) (by repeat (first | exact trivial | constructor)) (runs_eval tab_ok ?_))
        simp only [ev0, evA, evB, evP, fl, gp, tab, simprocAttr, reduceCtorEq, reduceIte, decide_eq_true g8a]
        refine fin_stop trivial (runs_call (m_c T hbl hlt) rfl rfl rfl (by simp only [dstOk, Nat.reduceLT]) (by repeat (first | exact trivial | constructor)) (runs_eval tab_ok ?_))
        simp only [ev0, evA, evB, evP, fl, gp, tab, simprocAttr, reduceCtorEq, reduceIte, decide_eq_true g8a]
        refine fin_run ?_ (hK _ ?_) <;> clear hK <;> clear K
        · (first | exact trivial | omega | (simp only [In64] at *; omega) | (simp [In64] at *; omega) | (simp_all; done) | skip)
        refine qa ?_
        refine hk_cond rfl (fun hC3 => ?_) (fun hC3 => ?_)
        · (try simp only [nhs] at hC3)
          have hno : ¬ (op m n i b = b ∧ op m n b i = b) := by omega
          refine hk_region fun K hK => runs_eval tab_ok ?_
          simp only [ev0, evA, evB, evP, fl, gp, tab, simprocAttr, reduceCtorEq, reduceIte]
          refine fin_run trivial (hK _ ?_) <;> clear hK <;> clear K
          refine qd (qa ?_)
          refine hk_region fun K hK => runs_eval tab_ok ?_
          simp only [ev0, evA, evB, evP, fl, gp, tab, simprocAttr, reduceCtorEq, reduceIte]
          refine fin_run ?_ (hK _ ?_) <;> clear hK <;> clear K
          · (first | exact trivial | omega | (simp only [In64] at *; omega) | (simp [In64] at *; omega) | (simp_all; done) | skip)
          refine qa ?_
          refine ⟨b + 1, [0], by omega, by omega, ?_⟩
          first | rw [dall_no hno] | rw [dall_yes hyes]
          simp only [leq, leA, ev0, evA, evB, evP, fl, gp, tab, simprocAttr, reduceCtorEq, reduceIte] <;> trivial
        · (try simp only [nhs] at hC3)
          have hyes : op m n i b = b ∧ op m n b i = b := by omega
          refine qh (qd (qa ?_))
          refine hk_region fun K hK => runs_eval tab_ok ?_
          simp only [ev0, evA, evB, evP, fl, gp, tab, simprocAttr, reduceCtorEq, reduceIte]
          refine fin_run ?_ (hK _ ?_) <;> clear hK <;> clear K
          · (first | exact trivial | omega | (simp only [In64] at *; omega) | (simp [In64] at *; omega) | (simp_all; done) | skip)
          refine qa ?_
          refine ⟨b + 1, [0], by omega, by omega, ?_⟩
          first | rw [dall_no hno] | rw [dall_yes hyes]
          simp only [leq, leA, ev0, evA, evB, evP, fl, gp, tab, simprocAttr, reduceCtorEq, reduceIte] <;> trivial
      · refine hk_region fun K hK => runs_eval tab_ok ?_
        simp only [ev0, evA, evB, evP, fl, gp, tab, simprocAttr, reduceCtorEq, reduceIte, decide_eq_false g8a]
        refine fin_stop trivial (runs_call (m_c T hlt hbl) rfl rfl rfl (by simp only [dstOk, Nat.reduceLT]) (by repeat (first | exact trivial | constructor)) (runs_eval tab_ok ?_))
        simp only [ev0, evA, evB, evP, fl, gp, tab, simprocAttr, reduceCtorEq, reduceIte, decide_eq_false g8a]
        refine fin_run ?_ (hK _ ?_) <;> clear hK <;> clear K
        · (first | exact trivial | omega | (simp only [In64] at *; omega) | (simp [In64] at *; omega) | (simp_all; done) | skip)
        refine qa ?_
        refine hk_cond rfl (fun hC3 => ?_) (fun hC3 => ?_)
        · have hno : ¬ (op m n i b = b ∧ op m n b i = b) := by omega
          refine hk_region fun K hK => runs_eval tab_ok ?_
          simp only [ev0, evA, evB, evP, fl, gp, tab, simprocAttr, reduceCtorEq, reduceIte]
          refine fin_run trivial (hK _ ?_) <;> clear hK <;> clear K
          refine qd (qa ?_)
          refine hk_region fun K hK => runs_eval tab_ok ?_
          simp only [ev0, evA, evB, evP, fl, gp, tab, simprocAttr, reduceCtorEq, reduceIte]
          refine fin_run ?_ (hK _ ?_) <;> clear hK <;> clear K
          · (first | exact trivial | omega | (simp only [In64] at *; omega) | (simp [In64] at *; omega) | (simp_all; done) | skip)
          refine qa ?_
          refine ⟨b + 1, [0], by omega, by omega, ?_⟩
          first | rw [dall_no hno] | rw [dall_yes hyes]
          simp only [leq, leA, ev0, evA, evB, evP, fl, gp, tab, simprocAttr, reduceCtorEq, reduceIte] <;> trivial
        · cases hC3
    · (try simp only [nhs] at hC2)
      refine qj (qc (qc (qf (qa (qm ?_)))))
      refine hk_region fun K hK => runs_eval tab_ok ?_
      simp only [ev0, evA, evB, evP, fl, gp, tab, simprocAttr, reduceCtorEq, reduceIte]
      refine fin_run trivial (hK _ ?_) <;> clear hK <;> clear K
      refine qa ?_
      refine hk_cond rfl (fun hC4 => ?_) (fun hC4 => ?_)
      · (try simp only [nhs] at hC4)
        have hE : isE m n i := by
          have : b = n := by omega
          subst this; exact hC4
        refine qm ?_
        refine hk_region fun K hK => runs_eval tab_ok ?_
        simp only [ev0, evA, evB, evP, fl, gp, tab, simprocAttr, reduceCtorEq, reduceIte]
        refine fin_run trivial (hK _ ?_) <;> clear hK <;> clear K
        refine qa (qk (qe (qb (qb (qe (qb ?_))))))
        simp only [Tryd.results71, enA, ev0, evA, evB, evP, fl, gp, tab, simprocAttr, reduceCtorEq, reduceIte]
        all_goals (unfold eI; rw [fst_some hlt (decide_eq_true hE) fun j hj => decide_eq_false (hi2 j hj)])
      · (try simp only [nhs] at hC4)
        refine qh (qd (qa ?_))
        refine hk_region fun K hK => runs_eval tab_ok ?_
        simp only [ev0, evA, evB, evP, fl, gp, tab, simprocAttr, reduceCtorEq, reduceIte]
        refine fin_run ?_ (hK _ ?_) <;> clear hK <;> clear K
        · (first | exact trivial | omega | (simp only [In64] at *; omega) | (simp [In64] at *; omega) | (simp_all; done) | skip)
        refine qa ?_
        refine ⟨i + 1, [0], ⟨by omega, fun j hj => ?_⟩, by omega, ?_⟩
        · by_cases hj : j = i
          · subst hj
            have : b = n := by omega
            subst this; exact hC4
          · exact hi2 j (by omega)
        · simp only [leq, leA, ev0, evA, evB, evP, fl, gp, tab, simprocAttr, reduceCtorEq, reduceIte] <;> omega
  · (try simp only [nhs] at hC1)
    refine qj (qc (qc (qf (qa (qm ?_)))))
    refine hk_region fun K hK => runs_eval tab_ok ?_
    simp only [ev0, evA, evB, evP, fl, gp, tab, simprocAttr, reduceCtorEq, reduceIte]
    refine fin_run trivial (hK _ ?_) <;> clear hK <;> clear K
    refine qa (qk ?_)
    simp only [Tryd.results71, enA, ev0, evA, evB, evP, fl, gp, tab, simprocAttr, reduceCtorEq, reduceIte]
    all_goals (unfold eI; rw [fst_none fun j hj => decide_eq_false (hi2 j (by omega))])
end Go.Proofs.YtjikchbmkodgfaaDoor

/-
  Walks: the document's words of groups: faults. Conditions: none.
-/
set_option linter.all false
namespace Go.Proofs.YtjikchbmkodgfaaDoor
open Go.Pv

theorem f_c (c a : Int) : FnC Tryd.prog 18 [.int .i64 c, .int .i64 a] (fl (c, a)) := by
  refine fnc_of tab_ok Tryd.func18 rfl (by kernel_rfl) (by rw [Tryd.ntmps18]; exact Nat.le_add_left 2 _) ?_; rw [Tryd.ntmps18]
  refine qm ?_
  refine hk_region fun K hK => runs_eval tab_ok ?_
  simp only [ev0, evA, evB, evP, fl, gp, tab, simprocAttr, reduceCtorEq, reduceIte]
  refine fin_run ?_ (hK _ ?_) <;> clear hK <;> clear K
  · (first | exact trivial | omega | (simp only [In64] at *; omega) | (simp [In64] at *; omega) | (simp_all; done) | skip)
  refine qa (qm ?_)
  refine hk_region fun K hK => runs_eval tab_ok ?_
  simp only [ev0, evA, evB, evP, fl, gp, tab, simprocAttr, reduceCtorEq, reduceIte]
  refine fin_run ?_ (hK _ ?_) <;> clear hK <;> clear K
  · (first | exact trivial | omega | (simp only [In64] at *; omega) | (simp [In64] at *; omega) | (simp_all; done) | skip)
  refine qa (qk ?_)
  simp only [Tryd.results18, enA, ev0, evA, evB, evP, fl, gp, tab, simprocAttr, reduceCtorEq, reduceIte]
  all_goals (rfl)

def iI (m : List Int) (n a : Nat) : Int := match fst' (fun b => decide (((op m n a b : Nat) : Int) = eI m n ∧ ((op m n b a : Nat) : Int) = eI m n)) n with | some b => (b : Int) | none => -1

theorem i_c {n : Nat} {m : List Int} (T : Tab n m) {a : Nat} (ha : a < n) : FnC Tryd.prog 73 [gp n m, .int .i64 a] (.int .i64 (iI m n a)) := by
  have hb := T.big
  refine fnc_of tab_ok Tryd.func73 rfl (by kernel_rfl) (by rw [Tryd.ntmps73]; exact Nat.le_add_left 2 _) ?_; rw [Tryd.ntmps73]
  refine qm ?_
  refine hk_region fun K hK => runs_eval tab_ok ?_
  simp only [ev0, evA, evB, evP, fl, gp, tab, simprocAttr, reduceCtorEq, reduceIte]
  refine fin_run ?_ (hK _ ?_) <;> clear hK <;> clear K
  · (first | exact trivial | omega | (simp only [In64] at *; omega) | (simp [In64] at *; omega) | (simp_all; done) | skip)
  refine qa (qm ?_)
  refine hk_region fun K hK => runs_eval tab_ok ?_
  simp only [ev0, evA, evB, evP, fl, gp, tab, simprocAttr, reduceCtorEq, reduceIte]
  refine fin_stop trivial (runs_call (e_c T) rfl rfl rfl (by simp only [dstOk, Nat.reduceLT]) (by repeat (first | exact trivial | constructor)) (runs_eval tab_ok ?_))
  simp only [ev0, evA, evB, evP, fl, gp, tab, simprocAttr, reduceCtorEq, reduceIte]
  refine fin_run ?_ (hK _ ?_) <;> clear hK <;> clear K
  · (first | exact trivial | omega | (simp only [In64] at *; omega) | (simp [In64] at *; omega) | (simp_all; done) | skip)
  refine qa (qm (qm ?_))
  refine hk_region fun K hK => runs_eval tab_ok ?_
  simp only [ev0, evA, evB, evP, fl, gp, tab, simprocAttr, reduceCtorEq, reduceIte]
  refine fin_run trivial (hK _ ?_) <;> clear hK <;> clear K
  refine qa (ql ?_)
  refine hk_loop (ι := Nat) (fun i => ⟨30, [(1, .p (.int .i64 a)), (2, .ptr 0 0), (5, .p (.int .i64 (eI m n))), (6, .p (.int .i64 i))], [.own [.p (.int .i64 n), .p (.list (il m))]]⟩) (fun i => i ≤ n ∧ ∀ j, j < i → ¬ (((op m n a j : Nat) : Int) = eI m n ∧ ((op m n j a : Nat) : Int) = eI m n)) (fun i => n - i) 0 ⟨Nat.zero_le _, fun j hj => by omega⟩ [0] (by simp only [leq, leA, ev0, evA, evB, evP, fl, gp, tab, simprocAttr, reduceCtorEq, reduceIte] <;> trivial) fun i hi => ?_
  obtain ⟨hi1, hi2⟩ := hi
  refine qm (qm ?_)
  refine hk_region fun K hK => runs_eval tab_ok ?_
  simp only [ev0, evA, evB, evP, fl, gp, tab, simprocAttr, reduceCtorEq, reduceIte]
  refine fin_run ?_ (hK _ ?_) <;> clear hK <;> clear K
  · (first | exact trivial | omega | (simp only [In64] at *; omega) | (simp [In64] at *; omega) | (simp_all; done) | skip)
  refine qa ?_
  refine hk_cond rfl (fun hC1 => ?_) (fun hC1 => ?_)
  · (try simp only [nhs] at hC1)
    have hlt : i < n := by omega
    refine qh (qa (qm (ql (qm ?_))))
    by_cases g5a : ((op m n a i : Nat) : Int) = eI m n
    · refine hk_region fun K hK => runs_eval tab_ok ?_
      simp only [ev0, evA, evB, evP, fl, gp, tab, simprocAttr, reduceCtorEq, reduceIte, decide_eq_true g5a]
      refine fin_stop trivial (runs_call (m_c T ha hlt) rfl rfl rfl (by simp only [dstOk, Nat.reduceLT]) (by repeat (first | exact trivial | constructor)) (runs_eval tab_ok ?_))
      simp only [ev0, evA, evB, evP, fl, gp, tab, simprocAttr, reduceCtorEq, reduceIte, decide_eq_true g5a]
      refine fin_stop trivial (runs_call (m_c T hlt ha) rfl rfl rfl (by simp only [dstOk, Nat.reduceLT]) (by repeat (first | exact trivial | constructor)) (runs_eval tab_ok ?_))
      simp only [ev0, evA, evB, evP, fl, gp, tab, simprocAttr, reduceCtorEq, reduceIte, decide_eq_true g5a]
      refine fin_run ?_ (hK _ ?_) <;> clear hK <;> clear K
      · (first | exact trivial | omega | (simp only [In64] at *; omega) | (simp [In64] at *; omega) | (simp_all; done) | skip)
      refine qa ?_
      refine hk_cond rfl (fun hC2 => ?_) (fun hC2 => ?_)
      · (try simp only [nhs] at hC2)
        refine qm ?_
        refine hk_region fun K hK => runs_eval tab_ok ?_
        simp only [ev0, evA, evB, evP, fl, gp, tab, simprocAttr, reduceCtorEq, reduceIte]
        refine fin_run trivial (hK _ ?_) <;> clear hK <;> clear K
        refine qa (qk (qe (qb (qb (qe (qb ?_))))))
        simp only [Tryd.results73, enA, ev0, evA, evB, evP, fl, gp, tab, simprocAttr, reduceCtorEq, reduceIte]
        all_goals (unfold iI; rw [fst_some hlt (decide_eq_true ⟨g5a, hC2⟩) fun j hj => decide_eq_false (hi2 j hj)])
      · (try simp only [nhs] at hC2)
        have hno : ¬ (((op m n a i : Nat) : Int) = eI m n ∧ ((op m n i a : Nat) : Int) = eI m n) := fun h => by first | exact hC2 h.2 | exact g5a h.1
        refine qh (qd (qa ?_))
        refine hk_region fun K hK => runs_eval tab_ok ?_
        simp only [ev0, evA, evB, evP, fl, gp, tab, simprocAttr, reduceCtorEq, reduceIte]
        refine fin_run ?_ (hK _ ?_) <;> clear hK <;> clear K
        · (first | exact trivial | omega | (simp only [In64] at *; omega) | (simp [In64] at *; omega) | (simp_all; done) | skip)
        refine qa ?_
        refine ⟨i + 1, [0], ⟨by omega, fun j hj => ?_⟩, by omega, ?_⟩
        · by_cases hj : j = i
          · subst hj; exact hno
          · exact hi2 j (by omega)
        · simp only [leq, leA, ev0, evA, evB, evP, fl, gp, tab, simprocAttr, reduceCtorEq, reduceIte] <;> omega
    · refine hk_region fun K hK => runs_eval tab_ok ?_
      simp only [ev0, evA, evB, evP, fl, gp, tab, simprocAttr, reduceCtorEq, reduceIte, decide_eq_false g5a]
      refine fin_stop trivial (runs_call (m_c T ha hlt) rfl rfl rfl (by simp only [dstOk, Nat.reduceLT]) (by repeat (first | exact trivial | constructor)) (runs_eval tab_ok ?_))
      simp only [ev0, evA, evB, evP, fl, gp, tab, simprocAttr, reduceCtorEq, reduceIte, decide_eq_false g5a]
      refine fin_run ?_ (hK _ ?_) <;> clear hK <;> clear K
      · (first | exact trivial | omega | (simp only [In64] at *; omega) | (simp [In64] at *; omega) | (simp_all; done) | skip)
      refine qa ?_
      refine hk_cond rfl (fun hC2 => ?_) (fun hC2 => ?_)
      · cases hC2
      · have hno : ¬ (((op m n a i : Nat) : Int) = eI m n ∧ ((op m n i a : Nat) : Int) = eI m n) := fun h => by first | exact hC2 h.2 | exact g5a h.1
        refine qh (qd (qa ?_))
        refine hk_region fun K hK => runs_eval tab_ok ?_
        simp only [ev0, evA, evB, evP, fl, gp, tab, simprocAttr, reduceCtorEq, reduceIte]
        refine fin_run ?_ (hK _ ?_) <;> clear hK <;> clear K
        · (first | exact trivial | omega | (simp only [In64] at *; omega) | (simp [In64] at *; omega) | (simp_all; done) | skip)
        refine qa ?_
        refine ⟨i + 1, [0], ⟨by omega, fun j hj => ?_⟩, by omega, ?_⟩
        · by_cases hj : j = i
          · subst hj; exact hno
          · exact hi2 j (by omega)
        · simp only [leq, leA, ev0, evA, evB, evP, fl, gp, tab, simprocAttr, reduceCtorEq, reduceIte] <;> omega
  · (try simp only [nhs] at hC1)
    refine qj (qc (qc (qf (qa (qm ?_)))))
    refine hk_region fun K hK => runs_eval tab_ok ?_
    simp only [ev0, evA, evB, evP, fl, gp, tab, simprocAttr, reduceCtorEq, reduceIte]
    refine fin_run trivial (hK _ ?_) <;> clear hK <;> clear K
    refine qa (qk ?_)
    simp only [Tryd.results73, enA, ev0, evA, evB, evP, fl, gp, tab, simprocAttr, reduceCtorEq, reduceIte]
    all_goals (unfold iI; rw [fst_none fun j hj => decide_eq_false (hi2 j (by omega))])

def asc (m : List Int) (n a : Nat) : Prop := ∀ b, b < n → ∀ c, c < n → op m n (op m n a b) c = op m n a (op m n b c)
instance (m : List Int) (n a : Nat) : Decidable (asc m n a) := by unfold asc; infer_instance

def gf2 (m : List Int) (n : Nat) : Int × Int :=
  if eI m n < 0 then (6, 0)
  else match fst' (fun a => decide (¬ asc m n a)) n with
    | some a => (7, (a : Int))
    | none => match fst' (fun a => decide (iI m n a < 0)) n with
      | some a => (4, (a : Int))
      | none => (0, 0)

def bad (N : Int) (m : List Int) (i : Nat) : Bool := decide (m.getD i 0 < 0 ∨ m.getD i 0 ≥ N)

/-- THE FAULT of a table. -/
def gf (N : Int) (m : List Int) : Int × Int :=
  if N < 1 ∨ N > 60 then (2, 0)
  else if ¬ (m.length : Int) = N * N then (8, 0)
  else match fst' (bad N m) m.length with
    | some i => (3, (i : Int))
    | none => gf2 m N.toNat

theorem sq_int (n : Nat) : (n : Int) * (n : Int) = ((n * n : Nat) : Int) := (Int.natCast_mul n n).symm

theorem gf_size {n : Nat} {m : List Int} (h1 : 1 ≤ n) (h2 : n ≤ 60) (h3 : m.length ≠ n * n) : gf n m = (8, 0) := by
  unfold gf
  rw [if_neg (by omega), if_pos (by rw [sq_int]; omega)]
theorem gf_range {n : Nat} {m : List Int} (h1 : 1 ≤ n) (h2 : n ≤ 60) (h3 : m.length = n * n) {i : Nat} (hi : i < m.length) (hb : bad n m i = true) (hj : ∀ j, j < i → bad n m j = false) : gf n m = (3, (i : Int)) := by
  unfold gf
  rw [if_neg (by omega), if_neg (by rw [sq_int]; omega), fst_some hi hb hj]
theorem gf_tab {n : Nat} {m : List Int} (T : Tab n m) : gf n m = gf2 m n := by
  have h1 := T.pos
  have h2 := T.big
  have h3 := T.len
  unfold gf
  rw [if_neg (by omega), if_neg (by rw [sq_int]; omega), fst_none]
  · rfl
  · intro j hj
    have := T.rng j (by omega)
    exact decide_eq_false (by omega)

theorem gf2_6 {m : List Int} {n : Nat} (h : eI m n < 0) : gf2 m n = (6, 0) := by
  unfold gf2; rw [if_pos h]
theorem gf2_7 {m : List Int} {n a : Nat} (h : ¬ eI m n < 0) (ha : a < n) (hn : ¬ asc m n a) (hj : ∀ j, j < a → asc m n j) : gf2 m n = (7, (a : Int)) := by
  have : fst' (fun a => decide (¬ asc m n a)) n = some a := fst_some ha (decide_eq_true hn) fun j h => decide_eq_false fun h' => h' (hj j h)
  unfold gf2; rw [if_neg h, this]
theorem gf2_4 {m : List Int} {n a : Nat} (h : ¬ eI m n < 0) (hs : ∀ j, j < n → asc m n j) (ha : a < n) (hn : iI m n a < 0) (hj : ∀ j, j < a → ¬ iI m n j < 0) : gf2 m n = (4, (a : Int)) := by
  have h1 : fst' (fun a => decide (¬ asc m n a)) n = none := fst_none fun j h => decide_eq_false fun h' => h' (hs j h)
  have h2 : fst' (fun a => decide (iI m n a < 0)) n = some a := fst_some ha (decide_eq_true hn) fun j h => decide_eq_false (hj j h)
  unfold gf2; rw [if_neg h, h1, h2]
theorem gf2_0 {m : List Int} {n : Nat} (h : ¬ eI m n < 0) (hs : ∀ j, j < n → asc m n j) (hj : ∀ j, j < n → ¬ iI m n j < 0) : gf2 m n = (0, 0) := by
  have h1 : fst' (fun a => decide (¬ asc m n a)) n = none := fst_none fun j h => decide_eq_false fun h' => h' (hs j h)
  have h2 : fst' (fun a => decide (iI m n a < 0)) n = none := fst_none fun j h => decide_eq_false (hj j h)
  unfold gf2; rw [if_neg h, h1, h2]

set_option maxHeartbeats 2000000 in
theorem gf_c (N : Int) (m : List Int) (hm : m.length ≤ 1000000000000000) : FnC Tryd.prog 17 [gp N m] (fl (gf N m)) := by
  refine fnc_of tab_ok Tryd.func17 rfl (by kernel_rfl) (by rw [Tryd.ntmps17]; exact Nat.le_add_left 1 _) ?_; rw [Tryd.ntmps17]
  refine qm ?_
  refine hk_region fun K hK => runs_eval tab_ok ?_
  simp only [ev0, evA, evB, evP, fl, gp, tab, simprocAttr, reduceCtorEq, reduceIte]
  refine fin_run ?_ (hK _ ?_) <;> clear hK <;> clear K
  · (first | exact trivial | omega | (simp only [In64] at *; omega) | (simp [In64] at *; omega) | (simp_all; done) | skip)
  refine qa (qm (qm ?_))
  by_cases g1a : N < 1
  · refine hk_region fun K hK => runs_eval tab_ok ?_
    simp only [ev0, evA, evB, evP, fl, gp, tab, simprocAttr, reduceCtorEq, reduceIte, decide_eq_true g1a]
    refine fin_run ?_ (hK _ ?_) <;> clear hK <;> clear K
    · (first | exact trivial | omega | (simp only [In64] at *; omega) | (simp [In64] at *; omega) | (simp_all; done) | skip)
    refine qa ?_
    refine hk_cond rfl (fun hC1 => ?_) (fun hC1 => ?_)
    · refine qm ?_
      refine hk_region fun K hK => runs_eval tab_ok ?_
      simp only [ev0, evA, evB, evP, fl, gp, tab, simprocAttr, reduceCtorEq, reduceIte]
      refine fin_stop trivial (runs_call (f_c 2 0) rfl rfl rfl (by simp only [dstOk, Nat.reduceLT]) (by repeat (first | exact trivial | constructor)) (runs_eval tab_ok ?_))
      simp only [ev0, evA, evB, evP, fl, gp, tab, simprocAttr, reduceCtorEq, reduceIte]
      refine fin_run ?_ (hK _ ?_) <;> clear hK <;> clear K
      · (first | exact trivial | omega | (simp only [In64] at *; omega) | (simp [In64] at *; omega) | (simp_all; done) | skip)
      refine qa (qk (qb ?_))
      simp only [Tryd.results17, enA, ev0, evA, evB, evP, fl, gp, tab, simprocAttr, reduceCtorEq, reduceIte]
      all_goals (unfold gf; rw [if_pos (.inl g1a)]; simp)
    · cases hC1
  · refine hk_region fun K hK => runs_eval tab_ok ?_
    simp only [ev0, evA, evB, evP, fl, gp, tab, simprocAttr, reduceCtorEq, reduceIte, decide_eq_false g1a]
    refine fin_run ?_ (hK _ ?_) <;> clear hK <;> clear K
    · (first | exact trivial | omega | (simp only [In64] at *; omega) | (simp [In64] at *; omega) | (simp_all; done) | skip)
    refine qa ?_
    refine hk_cond rfl (fun hC1 => ?_) (fun hC1 => ?_)
    · (try simp only [nhs] at hC1)
      refine qm ?_
      refine hk_region fun K hK => runs_eval tab_ok ?_
      simp only [ev0, evA, evB, evP, fl, gp, tab, simprocAttr, reduceCtorEq, reduceIte]
      refine fin_stop trivial (runs_call (f_c 2 0) rfl rfl rfl (by simp only [dstOk, Nat.reduceLT]) (by repeat (first | exact trivial | constructor)) (runs_eval tab_ok ?_))
      simp only [ev0, evA, evB, evP, fl, gp, tab, simprocAttr, reduceCtorEq, reduceIte]
      refine fin_run ?_ (hK _ ?_) <;> clear hK <;> clear K
      · (first | exact trivial | omega | (simp only [In64] at *; omega) | (simp [In64] at *; omega) | (simp_all; done) | skip)
      refine qa (qk (qb ?_))
      simp only [Tryd.results17, enA, ev0, evA, evB, evP, fl, gp, tab, simprocAttr, reduceCtorEq, reduceIte]
      all_goals (unfold gf; rw [if_pos (.inr hC1)]; simp)
    · (try simp only [nhs] at hC1)
      obtain ⟨n, rfl⟩ := Int.eq_ofNat_of_zero_le (show 0 ≤ N by omega)
      have hnn := sq_int n
      have hsq := sq_le (show n ≤ 60 by omega)
      refine qh (qa (qm (qm ?_)))
      refine hk_region fun K hK => runs_eval tab_ok ?_
      simp only [ev0, evA, evB, evP, fl, gp, tab, simprocAttr, reduceCtorEq, reduceIte]
      refine fin_run ?_ (hK _ ?_) <;> clear hK <;> clear K
      · simp only [In64]; omega
      refine qa ?_
      refine hk_cond rfl (fun hC2 => ?_) (fun hC2 => ?_)
      · (try simp only [nhs] at hC2)
        refine qm ?_
        refine hk_region fun K hK => runs_eval tab_ok ?_
        simp only [ev0, evA, evB, evP, fl, gp, tab, simprocAttr, reduceCtorEq, reduceIte]
        refine fin_stop trivial (runs_call (f_c 8 0) rfl rfl rfl (by simp only [dstOk, Nat.reduceLT]) (by repeat (first | exact trivial | constructor)) (runs_eval tab_ok ?_))
        simp only [ev0, evA, evB, evP, fl, gp, tab, simprocAttr, reduceCtorEq, reduceIte]
        refine fin_run ?_ (hK _ ?_) <;> clear hK <;> clear K
        · (first | exact trivial | omega | (simp only [In64] at *; omega) | (simp [In64] at *; omega) | (simp_all; done) | skip)
        refine qa (qk (qb ?_))
        simp only [Tryd.results17, enA, ev0, evA, evB, evP, fl, gp, tab, simprocAttr, reduceCtorEq, reduceIte]
        all_goals (rw [gf_size (by omega) (by omega) (by omega)]; simp)
      · (try simp only [nhs] at hC2)
        have hl : m.length = n * n := by omega
        refine qh (qa (qm (qm ?_)))
        refine hk_region fun K hK => runs_eval tab_ok ?_
        simp only [ev0, evA, evB, evP, fl, gp, tab, simprocAttr, reduceCtorEq, reduceIte]
        refine fin_run trivial (hK _ ?_) <;> clear hK <;> clear K
        refine qa (ql ?_)
        refine hk_loop (ι := Nat) (fun i => ⟨104, [(1, .ptr 0 0), (2, .ptr 1 0), (3, .p (.int .i64 i))], [.own [.p (.int .i64 n), .p (.list (il m))], .own [.p (.int .i64 0), .p (.int .i64 0)]]⟩) (fun i => i ≤ m.length ∧ ∀ j, j < i → bad n m j = false) (fun i => m.length - i) 0 ⟨Nat.zero_le _, fun j hj => by omega⟩ [0, 1] (by simp only [leq, leA, ev0, evA, evB, evP, fl, gp, tab, simprocAttr, reduceCtorEq, reduceIte] <;> trivial) fun i hi => ?_
        obtain ⟨hi1, hi2⟩ := hi
        refine qm (qm ?_)
        refine hk_region fun K hK => runs_eval tab_ok ?_
        simp only [ev0, evA, evB, evP, fl, gp, tab, simprocAttr, reduceCtorEq, reduceIte]
        refine fin_run ?_ (hK _ ?_) <;> clear hK <;> clear K
        · (first | exact trivial | omega | (simp only [In64] at *; omega) | (simp [In64] at *; omega) | (simp_all; done) | skip)
        refine qa ?_
        refine hk_cond rfl (fun hC3 => ?_) (fun hC3 => ?_)
        · (try simp only [nhs] at hC3)
          have hlt : i < m.length := by omega
          refine qh (qa (qm (ql (qm ?_))))
          by_cases g8a : m.getD i 0 < 0
          · refine hk_draw mixed (by kernel_rfl) fun K hK => runs_eval tab_ok ?_
            simp only [ev0, evA, evB, evP, fl, gp, tab, simprocAttr, reduceCtorEq, reduceIte, il_get hlt, decide_eq_true g8a]
            refine fin_run ?_ (hK _ ?_) <;> clear hK <;> clear K
            · (first | exact trivial | omega | (simp only [In64] at *; omega) | (simp [In64] at *; omega) | (simp_all; done) | skip)
            refine qa ?_
            refine hk_cond rfl (fun hC4 => ?_) (fun hC4 => ?_)
            · refine qm ?_
              refine hk_region fun K hK => runs_eval tab_ok ?_
              simp only [ev0, evA, evB, evP, fl, gp, tab, simprocAttr, reduceCtorEq, reduceIte]
              refine fin_stop trivial (runs_call (f_c 3 i) rfl rfl rfl (by simp only [dstOk, Nat.reduceLT]) (by repeat (first | exact trivial | constructor)) (runs_eval tab_ok ?_))
              simp only [ev0, evA, evB, evP, fl, gp, tab, simprocAttr, reduceCtorEq, reduceIte]
              refine fin_run ?_ (hK _ ?_) <;> clear hK <;> clear K
              · (first | exact trivial | omega | (simp only [In64] at *; omega) | (simp [In64] at *; omega) | (simp_all; done) | skip)
              refine qa (qk (qe (qb (qb (qe (qb ?_))))))
              simp only [Tryd.results17, enA, ev0, evA, evB, evP, fl, gp, tab, simprocAttr, reduceCtorEq, reduceIte]
              all_goals (rw [gf_range (by omega) (by omega) hl hlt (decide_eq_true (.inl g8a)) hi2]; simp)
            · cases hC4
          · refine hk_draw mixed (by kernel_rfl) fun K hK => runs_eval tab_ok ?_
            simp only [ev0, evA, evB, evP, fl, gp, tab, simprocAttr, reduceCtorEq, reduceIte, il_get hlt, decide_eq_false g8a]
            refine fin_run ?_ (hK _ ?_) <;> clear hK <;> clear K
            · (first | exact trivial | omega | (simp only [In64] at *; omega) | (simp [In64] at *; omega) | (simp_all; done) | skip)
            refine qa ?_
            refine hk_cond rfl (fun hC4 => ?_) (fun hC4 => ?_)
            · (try simp only [nhs] at hC4)
              refine qm ?_
              refine hk_region fun K hK => runs_eval tab_ok ?_
              simp only [ev0, evA, evB, evP, fl, gp, tab, simprocAttr, reduceCtorEq, reduceIte]
              refine fin_stop trivial (runs_call (f_c 3 i) rfl rfl rfl (by simp only [dstOk, Nat.reduceLT]) (by repeat (first | exact trivial | constructor)) (runs_eval tab_ok ?_))
              simp only [ev0, evA, evB, evP, fl, gp, tab, simprocAttr, reduceCtorEq, reduceIte]
              refine fin_run ?_ (hK _ ?_) <;> clear hK <;> clear K
              · (first | exact trivial | omega | (simp only [In64] at *; omega) | (simp [In64] at *; omega) | (simp_all; done) | skip)
              refine qa (qk (qe (qb (qb (qe (qb ?_))))))
              simp only [Tryd.results17, enA, ev0, evA, evB, evP, fl, gp, tab, simprocAttr, reduceCtorEq, reduceIte]
              all_goals (rw [gf_range (by omega) (by omega) hl hlt (decide_eq_true (.inr hC4)) hi2]; simp)
            · (try simp only [nhs] at hC4)
              refine qh (qd (qa ?_))
              refine hk_region fun K hK => runs_eval tab_ok ?_
              simp only [ev0, evA, evB, evP, fl, gp, tab, simprocAttr, reduceCtorEq, reduceIte]
              refine fin_run ?_ (hK _ ?_) <;> clear hK <;> clear K
              · (first | exact trivial | omega | (simp only [In64] at *; omega) | (simp [In64] at *; omega) | (simp_all; done) | skip)
              refine qa ?_
              refine ⟨i + 1, [0, 1], ⟨by omega, fun j hj => ?_⟩, by omega, ?_⟩
              · by_cases hj : j = i
                · subst hj; exact decide_eq_false (by omega)
                · exact hi2 j (by omega)
              · simp only [leq, leA, ev0, evA, evB, evP, fl, gp, tab, simprocAttr, reduceCtorEq, reduceIte] <;> omega
        · (try simp only [nhs] at hC3)
          have T : Tab n m := by
            refine ⟨by omega, by omega, hl, fun j hj => ?_⟩
            have := of_decide_eq_false (hi2 j (by omega))
            omega
          refine qj (qc (qc (qf (qa (qm (qm ?_))))))
          refine hk_region fun K hK => runs_eval tab_ok ?_
          simp only [ev0, evA, evB, evP, fl, gp, tab, simprocAttr, reduceCtorEq, reduceIte]
          refine fin_stop trivial (runs_call (e_c T) rfl rfl rfl (by simp only [dstOk, Nat.reduceLT]) (by repeat (first | exact trivial | constructor)) (runs_eval tab_ok ?_))
          simp only [ev0, evA, evB, evP, fl, gp, tab, simprocAttr, reduceCtorEq, reduceIte]
          refine fin_run ?_ (hK _ ?_) <;> clear hK <;> clear K
          · (first | exact trivial | omega | (simp only [In64] at *; omega) | (simp [In64] at *; omega) | (simp_all; done) | skip)
          refine qa ?_
          refine hk_cond rfl (fun hC5 => ?_) (fun hC5 => ?_)
          · (try simp only [nhs] at hC5)
            refine qm ?_
            refine hk_region fun K hK => runs_eval tab_ok ?_
            simp only [ev0, evA, evB, evP, fl, gp, tab, simprocAttr, reduceCtorEq, reduceIte]
            refine fin_stop trivial (runs_call (f_c 6 0) rfl rfl rfl (by simp only [dstOk, Nat.reduceLT]) (by repeat (first | exact trivial | constructor)) (runs_eval tab_ok ?_))
            simp only [ev0, evA, evB, evP, fl, gp, tab, simprocAttr, reduceCtorEq, reduceIte]
            refine fin_run ?_ (hK _ ?_) <;> clear hK <;> clear K
            · (first | exact trivial | omega | (simp only [In64] at *; omega) | (simp [In64] at *; omega) | (simp_all; done) | skip)
            refine qa (qk (qb ?_))
            simp only [Tryd.results17, enA, ev0, evA, evB, evP, fl, gp, tab, simprocAttr, reduceCtorEq, reduceIte]
            all_goals (rw [gf_tab T, gf2_6 hC5]; simp)
          · (try simp only [nhs] at hC5)
            refine qh (qa (qm (qm ?_)))
            refine hk_region fun K hK => runs_eval tab_ok ?_
            simp only [ev0, evA, evB, evP, fl, gp, tab, simprocAttr, reduceCtorEq, reduceIte]
            refine fin_run trivial (hK _ ?_) <;> clear hK <;> clear K
            refine qa (ql ?_)
            refine hk_loop (ι := Nat) (fun a => ⟨104, [(1, .ptr 0 0), (2, .ptr 1 0), (4, .p (.int .i64 a))], [.own [.p (.int .i64 n), .p (.list (il m))], .own [.p (.int .i64 0), .p (.int .i64 0)]]⟩) (fun a => a ≤ n ∧ ∀ j, j < a → asc m n j) (fun a => n - a) 0 ⟨Nat.zero_le _, fun j hj => by omega⟩ [0, 1] (by simp only [leq, leA, ev0, evA, evB, evP, fl, gp, tab, simprocAttr, reduceCtorEq, reduceIte] <;> trivial) fun a ha => ?_
            obtain ⟨ha1, ha2⟩ := ha
            refine qm (qm ?_)
            refine hk_region fun K hK => runs_eval tab_ok ?_
            simp only [ev0, evA, evB, evP, fl, gp, tab, simprocAttr, reduceCtorEq, reduceIte]
            refine fin_run ?_ (hK _ ?_) <;> clear hK <;> clear K
            · (first | exact trivial | omega | (simp only [In64] at *; omega) | (simp [In64] at *; omega) | (simp_all; done) | skip)
            refine qa ?_
            refine hk_cond rfl (fun hC6 => ?_) (fun hC6 => ?_)
            · (try simp only [nhs] at hC6)
              have hal : a < n := by omega
              refine qh (qa (qm (ql (qm ?_))))
              refine hk_region fun K hK => runs_eval tab_ok ?_
              simp only [ev0, evA, evB, evP, fl, gp, tab, simprocAttr, reduceCtorEq, reduceIte]
              refine fin_run trivial (hK _ ?_) <;> clear hK <;> clear K
              refine qa (ql ?_)
              refine hk_loop (ι := Nat) (fun b => ⟨104, [(1, .ptr 0 0), (2, .ptr 1 0), (4, .p (.int .i64 a)), (5, .p (.int .i64 b))], [.own [.p (.int .i64 n), .p (.list (il m))], .own [.p (.int .i64 0), .p (.int .i64 0)]]⟩) (fun b => b ≤ n ∧ ∀ j, j < b → ∀ c, c < n → op m n (op m n a j) c = op m n a (op m n j c)) (fun b => n - b) 0 ⟨Nat.zero_le _, fun j hj => by omega⟩ [0, 1] (by simp only [leq, leA, ev0, evA, evB, evP, fl, gp, tab, simprocAttr, reduceCtorEq, reduceIte] <;> trivial) fun b hb => ?_
              obtain ⟨hb1, hb2⟩ := hb
              refine qm (qm ?_)
              refine hk_region fun K hK => runs_eval tab_ok ?_
              simp only [ev0, evA, evB, evP, fl, gp, tab, simprocAttr, reduceCtorEq, reduceIte]
              refine fin_run ?_ (hK _ ?_) <;> clear hK <;> clear K
              · (first | exact trivial | omega | (simp only [In64] at *; omega) | (simp [In64] at *; omega) | (simp_all; done) | skip)
              refine qa ?_
              refine hk_cond rfl (fun hC7 => ?_) (fun hC7 => ?_)
              · (try simp only [nhs] at hC7)
                have hbl : b < n := by omega
                refine qh (qa (qm (ql (qm ?_))))
                refine hk_region fun K hK => runs_eval tab_ok ?_
                simp only [ev0, evA, evB, evP, fl, gp, tab, simprocAttr, reduceCtorEq, reduceIte]
                refine fin_run trivial (hK _ ?_) <;> clear hK <;> clear K
                refine qa (ql ?_)
                refine hk_loop (ι := Nat) (fun c => ⟨104, [(1, .ptr 0 0), (2, .ptr 1 0), (4, .p (.int .i64 a)), (5, .p (.int .i64 b)), (6, .p (.int .i64 c))], [.own [.p (.int .i64 n), .p (.list (il m))], .own [.p (.int .i64 0), .p (.int .i64 0)]]⟩) (fun c => c ≤ n ∧ ∀ j, j < c → op m n (op m n a b) j = op m n a (op m n b j)) (fun c => n - c) 0 ⟨Nat.zero_le _, fun j hj => by omega⟩ [0, 1] (by simp only [leq, leA, ev0, evA, evB, evP, fl, gp, tab, simprocAttr, reduceCtorEq, reduceIte] <;> trivial) fun c hc => ?_
                obtain ⟨hc1, hc2⟩ := hc
                refine qm (qm ?_)
                refine hk_region fun K hK => runs_eval tab_ok ?_
                simp only [ev0, evA, evB, evP, fl, gp, tab, simprocAttr, reduceCtorEq, reduceIte]
                refine fin_run ?_ (hK _ ?_) <;> clear hK <;> clear K
                · (first | exact trivial | omega | (simp only [In64] at *; omega) | (simp [In64] at *; omega) | (simp_all; done) | skip)
                refine qa ?_
                refine hk_cond rfl (fun hC8 => ?_) (fun hC8 => ?_)
                · (try simp only [nhs] at hC8)
                  have hcl : c < n := by omega
                  refine qh (qa (qm (ql (qm ?_))))
                  refine hk_draw mixed (by kernel_rfl) fun K hK => runs_eval tab_ok ?_
                  simp only [ev0, evA, evB, evP, fl, gp, tab, simprocAttr, reduceCtorEq, reduceIte]
                  refine fin_stop trivial (runs_call (m_c T hal hbl) rfl rfl rfl (by simp only [dstOk, Nat.reduceLT]) (by repeat (first | exact trivial | constructor)) (runs_eval tab_ok ?_))
                  simp only [ev0, evA, evB, evP, fl, gp, tab, simprocAttr, reduceCtorEq, reduceIte]
                  refine fin_stop trivial (runs_call (m_c T (T.lt hal hbl) hcl) rfl rfl rfl (by simp only [dstOk, Nat.reduceLT]) (by repeat (first | exact trivial | constructor)) (runs_eval tab_ok ?_))
                  simp only [ev0, evA, evB, evP, fl, gp, tab, simprocAttr, reduceCtorEq, reduceIte]
                  refine fin_stop trivial (runs_call (m_c T hbl hcl) rfl rfl rfl (by simp only [dstOk, Nat.reduceLT]) (by repeat (first | exact trivial | constructor)) (runs_eval tab_ok ?_))
                  simp only [ev0, evA, evB, evP, fl, gp, tab, simprocAttr, reduceCtorEq, reduceIte]
                  refine fin_stop trivial (runs_call (m_c T hal (T.lt hbl hcl)) rfl rfl rfl (by simp only [dstOk, Nat.reduceLT]) (by repeat (first | exact trivial | constructor)) (runs_eval tab_ok ?_))
                  simp only [ev0, evA, evB, evP, fl, gp, tab, simprocAttr, reduceCtorEq, reduceIte]
                  refine fin_run ?_ (hK _ ?_) <;> clear hK <;> clear K
                  · (first | exact trivial | omega | (simp only [In64] at *; omega) | (simp [In64] at *; omega) | (simp_all; done) | skip)
                  refine qa ?_
                  refine hk_cond rfl (fun hC9 => ?_) (fun hC9 => ?_)
                  · (try simp only [nhs] at hC9)
                    refine qm ?_
                    refine hk_region fun K hK => runs_eval tab_ok ?_
                    simp only [ev0, evA, evB, evP, fl, gp, tab, simprocAttr, reduceCtorEq, reduceIte]
                    refine fin_stop trivial (runs_call (f_c 7 a) rfl rfl rfl (by simp only [dstOk, Nat.reduceLT]) (by repeat (first | exact trivial | constructor)) (runs_eval tab_ok ?_))
                    simp only [ev0, evA, evB, evP, fl, gp, tab, simprocAttr, reduceCtorEq, reduceIte]
                    refine fin_run ?_ (hK _ ?_) <;> clear hK <;> clear K
                    · (first | exact trivial | omega | (simp only [In64] at *; omega) | (simp [In64] at *; omega) | (simp_all; done) | skip)
                    refine qa (qk (qe (qb (qb (qe (qe (qb (qb (qe (qe (qb (qb (qe (qb ?_))))))))))))))
                    simp only [Tryd.results17, enA, ev0, evA, evB, evP, fl, gp, tab, simprocAttr, reduceCtorEq, reduceIte]
                    all_goals (rw [gf_tab T, gf2_7 hC5 hal (fun h => hC9 (by rw [h b hbl c hcl])) ha2]; simp)
                  · (try simp only [nhs] at hC9)
                    refine qh (qd (qa ?_))
                    refine hk_region fun K hK => runs_eval tab_ok ?_
                    simp only [ev0, evA, evB, evP, fl, gp, tab, simprocAttr, reduceCtorEq, reduceIte]
                    refine fin_run ?_ (hK _ ?_) <;> clear hK <;> clear K
                    · (first | exact trivial | omega | (simp only [In64] at *; omega) | (simp [In64] at *; omega) | (simp_all; done) | skip)
                    refine qa ?_
                    refine ⟨c + 1, [0, 1], ⟨by omega, fun j hj => ?_⟩, by omega, ?_⟩
                    · by_cases hj : j = c
                      · subst hj; omega
                      · exact hc2 j (by omega)
                    · simp only [leq, leA, ev0, evA, evB, evP, fl, gp, tab, simprocAttr, reduceCtorEq, reduceIte] <;> omega
                · (try simp only [nhs] at hC8)
                  refine qj (qc (qc (qf (qd (qa ?_)))))
                  refine hk_region fun K hK => runs_eval tab_ok ?_
                  simp only [ev0, evA, evB, evP, fl, gp, tab, simprocAttr, reduceCtorEq, reduceIte]
                  refine fin_run ?_ (hK _ ?_) <;> clear hK <;> clear K
                  · (first | exact trivial | omega | (simp only [In64] at *; omega) | (simp [In64] at *; omega) | (simp_all; done) | skip)
                  refine qa ?_
                  refine ⟨b + 1, [0, 1], ⟨by omega, fun j hj => ?_⟩, by omega, ?_⟩
                  · by_cases hj : j = b
                    · subst hj; exact fun c' hc' => hc2 c' (by omega)
                    · exact hb2 j (by omega)
                  · simp only [leq, leA, ev0, evA, evB, evP, fl, gp, tab, simprocAttr, reduceCtorEq, reduceIte] <;> omega
              · (try simp only [nhs] at hC7)
                refine qj (qc (qc (qf (qd (qa ?_)))))
                refine hk_region fun K hK => runs_eval tab_ok ?_
                simp only [ev0, evA, evB, evP, fl, gp, tab, simprocAttr, reduceCtorEq, reduceIte]
                refine fin_run ?_ (hK _ ?_) <;> clear hK <;> clear K
                · (first | exact trivial | omega | (simp only [In64] at *; omega) | (simp [In64] at *; omega) | (simp_all; done) | skip)
                refine qa ?_
                refine ⟨a + 1, [0, 1], ⟨by omega, fun j hj => ?_⟩, by omega, ?_⟩
                · by_cases hj : j = a
                  · subst hj; exact fun c' hc' => hb2 c' (by omega)
                  · exact ha2 j (by omega)
                · simp only [leq, leA, ev0, evA, evB, evP, fl, gp, tab, simprocAttr, reduceCtorEq, reduceIte] <;> omega
            · (try simp only [nhs] at hC6)
              refine qj (qc (qc (qf (qa (qm (qm ?_))))))
              refine hk_region fun K hK => runs_eval tab_ok ?_
              simp only [ev0, evA, evB, evP, fl, gp, tab, simprocAttr, reduceCtorEq, reduceIte]
              refine fin_run trivial (hK _ ?_) <;> clear hK <;> clear K
              refine qa (ql ?_)
              refine hk_loop (ι := Nat) (fun a => ⟨104, [(1, .ptr 0 0), (2, .ptr 1 0), (7, .p (.int .i64 a))], [.own [.p (.int .i64 n), .p (.list (il m))], .own [.p (.int .i64 0), .p (.int .i64 0)]]⟩) (fun a => a ≤ n ∧ ∀ j, j < a → ¬ iI m n j < 0) (fun a => n - a) 0 ⟨Nat.zero_le _, fun j hj => by omega⟩ [0, 1] (by simp only [leq, leA, ev0, evA, evB, evP, fl, gp, tab, simprocAttr, reduceCtorEq, reduceIte] <;> trivial) fun k hk => ?_
              obtain ⟨hk1, hk2⟩ := hk
              refine qm (qm ?_)
              refine hk_region fun K hK => runs_eval tab_ok ?_
              simp only [ev0, evA, evB, evP, fl, gp, tab, simprocAttr, reduceCtorEq, reduceIte]
              refine fin_run ?_ (hK _ ?_) <;> clear hK <;> clear K
              · (first | exact trivial | omega | (simp only [In64] at *; omega) | (simp [In64] at *; omega) | (simp_all; done) | skip)
              refine qa ?_
              refine hk_cond rfl (fun hC10 => ?_) (fun hC10 => ?_)
              · (try simp only [nhs] at hC10)
                have hkl : k < n := by omega
                refine qh (qa (qm (ql (qm ?_))))
                refine hk_region fun K hK => runs_eval tab_ok ?_
                simp only [ev0, evA, evB, evP, fl, gp, tab, simprocAttr, reduceCtorEq, reduceIte]
                refine fin_stop trivial (runs_call (i_c T hkl) rfl rfl rfl (by simp only [dstOk, Nat.reduceLT]) (by repeat (first | exact trivial | constructor)) (runs_eval tab_ok ?_))
                simp only [ev0, evA, evB, evP, fl, gp, tab, simprocAttr, reduceCtorEq, reduceIte]
                refine fin_run ?_ (hK _ ?_) <;> clear hK <;> clear K
                · (first | exact trivial | omega | (simp only [In64] at *; omega) | (simp [In64] at *; omega) | (simp_all; done) | skip)
                refine qa ?_
                refine hk_cond rfl (fun hC11 => ?_) (fun hC11 => ?_)
                · (try simp only [nhs] at hC11)
                  refine qm ?_
                  refine hk_region fun K hK => runs_eval tab_ok ?_
                  simp only [ev0, evA, evB, evP, fl, gp, tab, simprocAttr, reduceCtorEq, reduceIte]
                  refine fin_stop trivial (runs_call (f_c 4 k) rfl rfl rfl (by simp only [dstOk, Nat.reduceLT]) (by repeat (first | exact trivial | constructor)) (runs_eval tab_ok ?_))
                  simp only [ev0, evA, evB, evP, fl, gp, tab, simprocAttr, reduceCtorEq, reduceIte]
                  refine fin_run ?_ (hK _ ?_) <;> clear hK <;> clear K
                  · (first | exact trivial | omega | (simp only [In64] at *; omega) | (simp [In64] at *; omega) | (simp_all; done) | skip)
                  refine qa (qk (qe (qb (qb (qe (qb ?_))))))
                  simp only [Tryd.results17, enA, ev0, evA, evB, evP, fl, gp, tab, simprocAttr, reduceCtorEq, reduceIte]
                  all_goals (rw [gf_tab T, gf2_4 hC5 (fun j hj => ha2 j (by omega)) hkl hC11 hk2]; simp)
                · (try simp only [nhs] at hC11)
                  refine qh (qd (qa ?_))
                  refine hk_region fun K hK => runs_eval tab_ok ?_
                  simp only [ev0, evA, evB, evP, fl, gp, tab, simprocAttr, reduceCtorEq, reduceIte]
                  refine fin_run ?_ (hK _ ?_) <;> clear hK <;> clear K
                  · (first | exact trivial | omega | (simp only [In64] at *; omega) | (simp [In64] at *; omega) | (simp_all; done) | skip)
                  refine qa ?_
                  refine ⟨k + 1, [0, 1], ⟨by omega, fun j hj => ?_⟩, by omega, ?_⟩
                  · by_cases hj : j = k
                    · subst hj; omega
                    · exact hk2 j (by omega)
                  · simp only [leq, leA, ev0, evA, evB, evP, fl, gp, tab, simprocAttr, reduceCtorEq, reduceIte] <;> omega
              · (try simp only [nhs] at hC10)
                refine qj (qc (qc (qf (qa (qm ?_)))))
                refine hk_region fun K hK => runs_eval tab_ok ?_
                simp only [ev0, evA, evB, evP, fl, gp, tab, simprocAttr, reduceCtorEq, reduceIte]
                refine fin_run ?_ (hK _ ?_) <;> clear hK <;> clear K
                · (first | exact trivial | omega | (simp only [In64] at *; omega) | (simp [In64] at *; omega) | (simp_all; done) | skip)
                refine qa (qk ?_)
                simp only [Tryd.results17, enA, ev0, evA, evB, evP, fl, gp, tab, simprocAttr, reduceCtorEq, reduceIte]
                all_goals (rw [gf_tab T, gf2_0 hC5 (fun j hj => ha2 j (by omega)) (fun j hj => hk2 j (by omega))]; simp)
end Go.Proofs.YtjikchbmkodgfaaDoor

/-
  Tables without fault are groups: plain laws, with no program in sight. Conditions: none.
-/
set_option linter.all false
namespace Go.Proofs.YtjikchbmkodgfaaDoor
open Go.Pv

theorem isE_unique {m : List Int} {n a b : Nat} (ha : a < n) (hb : b < n) (h1 : isE m n a) (h2 : isE m n b) : a = b := by
  have e1 := (h1 b hb).1
  have e2 := (h2 a ha).2
  omega

theorem eI_cases (m : List Int) (n : Nat) : (eI m n = -1 ∧ ∀ a, a < n → ¬ isE m n a) ∨ ∃ e, e < n ∧ isE m n e ∧ eI m n = (e : Nat) := by
  unfold eI
  cases h : fst' (fun a => decide (isE m n a)) n with
  | none => exact .inl ⟨rfl, fun a ha => of_decide_eq_false (fst_spec0 h a ha)⟩
  | some e =>
    obtain ⟨h1, h2, _⟩ := fst_spec h
    exact .inr ⟨e, h1, of_decide_eq_true h2, rfl⟩
theorem eI_of {m : List Int} {n e : Nat} (he : e < n) (h : isE m n e) : eI m n = (e : Nat) := by
  rcases eI_cases m n with ⟨_, h2⟩ | ⟨e', h1, h2, h3⟩
  · exact absurd h (h2 e he)
  · rw [h3, isE_unique he h1 h h2]

theorem iI_cases (m : List Int) (n a : Nat) : (iI m n a = -1 ∧ ∀ b, b < n → ¬ (((op m n a b : Nat) : Int) = eI m n ∧ ((op m n b a : Nat) : Int) = eI m n)) ∨
    ∃ b, b < n ∧ ((op m n a b : Nat) : Int) = eI m n ∧ ((op m n b a : Nat) : Int) = eI m n ∧ iI m n a = (b : Nat) := by
  unfold iI
  cases h : fst' (fun b => decide (((op m n a b : Nat) : Int) = eI m n ∧ ((op m n b a : Nat) : Int) = eI m n)) n with
  | none => exact .inl ⟨rfl, fun b hb => of_decide_eq_false (fst_spec0 h b hb)⟩
  | some b =>
    obtain ⟨h1, h2, _⟩ := fst_spec h
    have h2 := of_decide_eq_true h2
    exact .inr ⟨b, h1, h2.1, h2.2, rfl⟩

/-- A row of numbers is a group's table. -/
def GT (N : Int) (m : List Int) (n e : Nat) : Prop := N = (n : Int) ∧ Tab n m ∧ Grp n (op m n) e

theorem gf_ok {N : Int} {m : List Int} (h : (gf N m).1 = 0) : ∃ n e, GT N m n e ∧ eI m n = (e : Nat) := by
  unfold gf at h
  by_cases h1 : N < 1 ∨ N > 60
  · rw [if_pos h1] at h; simp at h
  rw [if_neg h1] at h
  obtain ⟨n, rfl⟩ := Int.eq_ofNat_of_zero_le (show 0 ≤ N by omega)
  have hsq := sq_int n
  by_cases h2 : (m.length : Int) = (n : Int) * n
  · rw [if_neg (by simpa using h2)] at h
    cases h3 : fst' (bad n m) m.length with
    | some i => rw [h3] at h; simp at h
    | none =>
      rw [h3] at h
      have hl : m.length = n * n := by omega
      have T : Tab n m := by
        refine ⟨by omega, by omega, hl, fun j hj => ?_⟩
        have := of_decide_eq_false (fst_spec0 h3 j (by omega))
        omega
      simp only [Int.toNat_natCast] at h
      unfold gf2 at h
      by_cases h4 : eI m n < 0
      · rw [if_pos h4] at h; simp at h
      rw [if_neg h4] at h
      rcases eI_cases m n with ⟨h5, _⟩ | ⟨e, he, hE, heq⟩
      · omega
      cases h6 : fst' (fun a => decide (¬ asc m n a)) n with
      | some a => rw [h6] at h; simp at h
      | none =>
        rw [h6] at h
        simp only at h
        have hasc : ∀ a, a < n → asc m n a := fun a ha => by
          have := of_decide_eq_false (fst_spec0 h6 a ha)
          exact Classical.not_not.1 this
        cases h7 : fst' (fun a => decide (iI m n a < 0)) n with
        | some a => rw [h7] at h; simp at h
        | none =>
          have hinv : ∀ a, a < n → ¬ iI m n a < 0 := fun a ha => of_decide_eq_false (fst_spec0 h7 a ha)
          refine ⟨n, e, ⟨rfl, T, ⟨by omega, fun a b ha hb => T.lt ha hb, he, fun a ha => (hE a ha).1, fun a ha => (hE a ha).2, fun a b c ha hb hc => hasc a ha b hb c hc, fun a ha => ?_⟩⟩, heq⟩
          rcases iI_cases m n a with ⟨h8, _⟩ | ⟨b, hb, h8, h9, _⟩
          · have := hinv a ha; omega
          · exact ⟨b, hb, by omega, by omega⟩
  · rw [if_pos h2] at h; simp at h

theorem GT.one {N : Int} {m : List Int} {n e : Nat} (h : GT N m n e) : isE m n e := fun b hb => ⟨h.2.2.one_l b hb, h.2.2.one_r b hb⟩
theorem GT.eI {N : Int} {m : List Int} {n e : Nat} (h : GT N m n e) : eI m n = (e : Nat) := eI_of h.2.2.el h.one
theorem GT.iI {N : Int} {m : List Int} {n e a : Nat} (h : GT N m n e) (ha : a < n) : iI m n a = (iv n (op m n) e a : Nat) := by
  have G := h.2.2
  rcases iI_cases m n a with ⟨_, h2⟩ | ⟨b, hb, h8, h9, h10⟩
  · exact absurd ⟨by rw [h.eI, G.mul_iv ha], by rw [h.eI, G.iv_mul ha]⟩ (h2 _ (G.iv_lt ha))
  · rw [h10]
    rw [h.eI] at h8
    rw [G.iv_unique ha hb (.inl (by omega))]

theorem gf_of {N : Int} {m : List Int} {n e : Nat} (h : GT N m n e) : gf N m = (0, 0) := by
  obtain ⟨rfl, T, G⟩ := h
  have h' : GT n m n e := ⟨rfl, T, G⟩
  rw [gf_tab T, gf2_0 (by rw [h'.eI]; omega) (fun a ha b hb c hc => G.assoc a b c ha hb hc) fun a ha => by rw [h'.iI ha]; omega]

/-- In what is finite, who has an inverse at the right has it at the left too. -/
theorem right_inv {n : Nat} {f : Nat → Nat → Nat} {e : Nat} (hcl : ∀ a b, a < n → b < n → f a b < n) (he : e < n) (hl : ∀ a, a < n → f e a = a) (hr : ∀ a, a < n → f a e = a)
    (has : ∀ a b c, a < n → b < n → c < n → f (f a b) c = f a (f b c)) {a b : Nat} (ha : a < n) (hb : b < n) (h : f a b = e) : f b a = e := by
  obtain ⟨c, hc, h1⟩ := inj_onto (f := f b) (fun i hi => hcl b i hb hi) (fun i j hi hj hij => by
    have h2 : f a (f b i) = f a (f b j) := by rw [hij]
    rwa [← has a b i ha hb hi, ← has a b j ha hb hj, h, hl i hi, hl j hj] at h2) he
  have : a = c := by
    have h2 := has a b c ha hb hc
    rw [h, h1, hl c hc, hr a ha] at h2
    exact h2.symm
  rw [this]; exact h1

end Go.Proofs.YtjikchbmkodgfaaDoor

/-
  Walks: the document's words of groups: things, orders, powers. Conditions: none.
-/
set_option linter.all false
namespace Go.Proofs.YtjikchbmkodgfaaDoor
open Go.Pv

/-! ### Things -/

def okT (N : Int) (l : List Int) (i : Nat) : Prop := ¬ (l.getD i 0 < 0 ∨ l.getD i 0 ≥ N)
instance (N : Int) (l : List Int) (i : Nat) : Decidable (okT N l i) := by unfold okT; infer_instance

/-- The fault of a group and things of it. -/
def tf (N : Int) (m l : List Int) : Int × Int :=
  if ¬ (gf N m).1 = 0 then gf N m
  else match fst' (fun i => decide (¬ okT N l i)) l.length with
    | some i => (3, (i : Int) + 1)
    | none => (0, 0)

/-! ### Orders, powers -/

def abel (m : List Int) (n : Nat) : Prop := ∀ a, a < n → ∀ b, b < n → op m n a b = op m n b a
instance (m : List Int) (n : Nat) : Decidable (abel m n) := by unfold abel; infer_instance

end Go.Proofs.YtjikchbmkodgfaaDoor

/-
  Walks: rows, groups, numbers: the document's and the laws' small words. Conditions: none.
-/
set_option linter.all false
namespace Go.Proofs.YtjikchbmkodgfaaDoor
open Go.Pv

theorem ints_c (v w : List Int) (hl : v.length ≤ 1000000000000000) : FnC Tryd.prog 22 [.list (il v), .list (il w)] (.bool (decide (v = w))) := by
  refine fnc_of tab_ok Tryd.func22 rfl (by kernel_rfl) (by rw [Tryd.ntmps22]; exact Nat.le_add_left 2 _) ?_; rw [Tryd.ntmps22]
  refine qm ?_
  refine hk_region fun K hK => runs_eval tab_ok ?_
  simp only [ev0, evA, evB, evP, fl, gp, tab, simprocAttr, reduceCtorEq, reduceIte]
  refine fin_run trivial (hK _ ?_) <;> clear hK <;> clear K
  refine qa (qm (qm ?_))
  refine hk_region fun K hK => runs_eval tab_ok ?_
  simp only [ev0, evA, evB, evP, fl, gp, tab, simprocAttr, reduceCtorEq, reduceIte]
  refine fin_run trivial (hK _ ?_) <;> clear hK <;> clear K
  refine qa ?_
  refine hk_cond rfl (fun hC1 => ?_) (fun hC1 => ?_)
  · (try simp only [nhs] at hC1)
    refine qm ?_
    refine hk_region fun K hK => runs_eval tab_ok ?_
    simp only [ev0, evA, evB, evP, fl, gp, tab, simprocAttr, reduceCtorEq, reduceIte]
    refine fin_run trivial (hK _ ?_) <;> clear hK <;> clear K
    refine qa (qk (qb ?_))
    simp only [Tryd.results22, enA, ev0, evA, evB, evP, fl, gp, tab, simprocAttr, reduceCtorEq, reduceIte]
    have : v ≠ w := by intro h; subst h; simp at hC1
    simp [this]
  · (try simp only [nhs] at hC1)
    have hn : v.length = w.length := by omega
    refine qh (qa (qm (qm ?_)))
    refine hk_region fun K hK => runs_eval tab_ok ?_
    simp only [ev0, evA, evB, evP, fl, gp, tab, simprocAttr, reduceCtorEq, reduceIte]
    refine fin_run trivial (hK _ ?_) <;> clear hK <;> clear K
    refine qa (ql ?_)
    refine hk_loop (ι := Nat) (fun i => ⟨26, [(0, .p (.list (il v))), (1, .p (.list (il w))), (5, .p (.int .i64 i))], []⟩) (fun i => i ≤ v.length ∧ v.take i = w.take i) (fun i => v.length - i) 0 ⟨Nat.zero_le _, rfl⟩ [] (by simp only [leq, leA, ev0, evA, evB, evP, fl, gp, tab, simprocAttr, reduceCtorEq, reduceIte] <;> trivial) fun i hi => ?_
    obtain ⟨hi1, hi2⟩ := hi
    refine qm (qm ?_)
    refine hk_region fun K hK => runs_eval tab_ok ?_
    simp only [ev0, evA, evB, evP, fl, gp, tab, simprocAttr, reduceCtorEq, reduceIte]
    refine fin_run trivial (hK _ ?_) <;> clear hK <;> clear K
    refine qa ?_
    refine hk_cond rfl (fun hC2 => ?_) (fun hC2 => ?_)
    · (try simp only [nhs] at hC2)
      have hlt : i < v.length := by omega
      refine qh (qa (qm (ql (qm ?_))))
      refine hk_draw mixed (by kernel_rfl) fun K hK => runs_eval tab_ok ?_
      simp only [ev0, evA, evB, evP, fl, gp, tab, simprocAttr, reduceCtorEq, reduceIte, il_get hlt, il_get (show i < w.length by omega)]
      refine fin_run ?_ (hK _ ?_) <;> clear hK <;> clear K
      · (first | exact trivial | omega | (simp only [In64] at *; omega) | (simp [In64] at *; omega) | (simp_all; done) | skip)
      refine qa ?_
      refine hk_cond rfl (fun hC3 => ?_) (fun hC3 => ?_)
      · (try simp only [nhs] at hC3)
        refine qm ?_
        refine hk_region fun K hK => runs_eval tab_ok ?_
        simp only [ev0, evA, evB, evP, fl, gp, tab, simprocAttr, reduceCtorEq, reduceIte]
        refine fin_run trivial (hK _ ?_) <;> clear hK <;> clear K
        refine qa (qk (qe (qb (qb (qe (qb ?_))))))
        simp only [Tryd.results22, enA, ev0, evA, evB, evP, fl, gp, tab, simprocAttr, reduceCtorEq, reduceIte]
        have : v ≠ w := by intro h; subst h; simp at hC3
        simp [this]
      · (try simp only [nhs] at hC3)
        refine qh (qd (qa ?_))
        refine hk_region fun K hK => runs_eval tab_ok ?_
        simp only [ev0, evA, evB, evP, fl, gp, tab, simprocAttr, reduceCtorEq, reduceIte]
        refine fin_run ?_ (hK _ ?_) <;> clear hK <;> clear K
        · (first | exact trivial | omega | (simp only [In64] at *; omega) | (simp [In64] at *; omega) | (simp_all; done) | skip)
        refine qa ?_
        refine ⟨i + 1, [], ⟨by omega, ?_⟩, by omega, ?_⟩
        · rw [List.take_succ_eq_append_getElem hlt, List.take_succ_eq_append_getElem (show i < w.length by omega), hi2]
          simp [List.getD, List.getElem?_eq_getElem hlt, List.getElem?_eq_getElem (show i < w.length by omega)] at hC3
          rw [hC3]
        · simp only [leq, leA, ev0, evA, evB, evP, fl, gp, tab, simprocAttr, reduceCtorEq, reduceIte] <;> first | trivial | omega
    · (try simp only [nhs] at hC2)
      refine qj (qc (qc (qf (qa (qm ?_)))))
      refine hk_region fun K hK => runs_eval tab_ok ?_
      simp only [ev0, evA, evB, evP, fl, gp, tab, simprocAttr, reduceCtorEq, reduceIte]
      refine fin_run trivial (hK _ ?_) <;> clear hK <;> clear K
      refine qa (qk ?_)
      simp only [Tryd.results22, enA, ev0, evA, evB, evP, fl, gp, tab, simprocAttr, reduceCtorEq, reduceIte]
      have : i = v.length := by omega
      subst this
      rw [List.take_length, List.take_of_length_le (by omega)] at hi2
      simp [hi2]

end Go.Proofs.YtjikchbmkodgfaaDoor

/-
  Walks: the program's words of groups: faults, the one, inverses. Conditions: none.
-/
set_option linter.all false
namespace Go.Proofs.YtjikchbmkodgfaaDoor
open Go.Pv

theorem fault_c (c a : Int) : FnC Tryd.prog 106 [.int .i64 c, .int .i64 a] (fl (c, a)) := by
  refine fnc_of tab_ok Tryd.func106 rfl (by kernel_rfl) (by rw [Tryd.ntmps106]; exact Nat.le_add_left 2 _) ?_; rw [Tryd.ntmps106]
  refine qm ?_
  refine hk_region fun K hK => runs_eval tab_ok ?_
  simp only [ev0, evA, evB, evP, fl, gp, tab, simprocAttr, reduceCtorEq, reduceIte]
  refine fin_run ?_ (hK _ ?_) <;> clear hK <;> clear K
  · (first | exact trivial | omega | (simp only [In64] at *; omega) | (simp [In64] at *; omega) | (simp_all; done) | skip)
  refine qa (qm ?_)
  refine hk_region fun K hK => runs_eval tab_ok ?_
  simp only [ev0, evA, evB, evP, fl, gp, tab, simprocAttr, reduceCtorEq, reduceIte]
  refine fin_run ?_ (hK _ ?_) <;> clear hK <;> clear K
  · (first | exact trivial | omega | (simp only [In64] at *; omega) | (simp [In64] at *; omega) | (simp_all; done) | skip)
  refine qa (qk ?_)
  simp only [Tryd.results106, enA, ev0, evA, evB, evP, fl, gp, tab, simprocAttr, reduceCtorEq, reduceIte]
  all_goals (rfl)

theorem of_c {n : Nat} {m : List Int} (T : Tab n m) {a b : Nat} (ha : a < n) (hb : b < n) : FnC Tryd.prog 98 [gp n m, .int .i64 a, .int .i64 b] (.int .i64 (op m n a b : Nat)) := by
  have h1 := at_lt ha hb
  have h2 := sq_le T.big
  have h3 := T.len
  have hc : (a : Int) * (n : Int) = ((a * n : Nat) : Int) := (Int.natCast_mul a n).symm
  have hv := T.val ha hb
  refine fnc_of tab_ok Tryd.func98 rfl (by kernel_rfl) (by rw [Tryd.ntmps98]; exact Nat.le_add_left 3 _) ?_; rw [Tryd.ntmps98]
  refine qm ?_
  refine hk_region fun K hK => runs_eval tab_ok ?_
  simp only [ev0, evA, evB, evP, fl, gp, tab, simprocAttr, reduceCtorEq, reduceIte]
  refine fin_run ?_ (hK _ ?_) <;> clear hK <;> clear K
  · (first | exact trivial | omega | (simp only [In64] at *; omega) | (simp [In64] at *; omega) | (simp_all; done) | skip)
  refine qa (qm ?_)
  refine hk_region fun K hK => runs_eval tab_ok ?_
  simp only [ev0, evA, evB, evP, fl, gp, tab, simprocAttr, reduceCtorEq, reduceIte, at_nat, il_get (show a * n + b < m.length by omega), hv]
  refine fin_run ?_ (hK _ ?_) <;> clear hK <;> clear K
  · rw [hc]; simp only [In64]; omega
  refine qa (qk ?_)
  simp only [Tryd.results98, enA, ev0, evA, evB, evP, fl, gp, tab, simprocAttr, reduceCtorEq, reduceIte]
  all_goals (rfl)

def ix (l : List Int) (x : Int) : Int := match fst' (fun i => decide (l.getD i 0 = x)) l.length with | some i => (i : Int) | none => -1

theorem index_c (l : List Int) (x : Int) (hl : l.length ≤ 1000000000000) : FnC Tryd.prog 129 [.list (il l), .int .i64 x] (.int .i64 (ix l x)) := by
  refine fnc_of tab_ok Tryd.func129 rfl (by kernel_rfl) (by rw [Tryd.ntmps129]; exact Nat.le_add_left 2 _) ?_; rw [Tryd.ntmps129]
  refine qm ?_
  refine hk_region fun K hK => runs_eval tab_ok ?_
  simp only [ev0, evA, evB, evP, fl, gp, tab, simprocAttr, reduceCtorEq, reduceIte]
  refine fin_run trivial (hK _ ?_) <;> clear hK <;> clear K
  refine qa (qm (qm ?_))
  refine hk_region fun K hK => runs_eval tab_ok ?_
  simp only [ev0, evA, evB, evP, fl, gp, tab, simprocAttr, reduceCtorEq, reduceIte]
  refine fin_run trivial (hK _ ?_) <;> clear hK <;> clear K
  refine qa (ql ?_)
  refine hk_loop (ι := Nat) (fun i => ⟨19, [(0, .p (.list (il l))), (1, .p (.int .i64 x)), (7, .p (.int .i64 l.length)), (8, .p (.int .i64 i))], []⟩) (fun i => i ≤ l.length ∧ ∀ j, j < i → ¬ l.getD j 0 = x) (fun i => l.length - i) 0 ⟨Nat.zero_le _, fun j hj => by omega⟩ [] (by simp only [leq, leA, ev0, evA, evB, evP, fl, gp, tab, simprocAttr, reduceCtorEq, reduceIte] <;> trivial) fun i hi => ?_
  obtain ⟨hi1, hi2⟩ := hi
  refine qm ?_
  refine hk_region fun K hK => runs_eval tab_ok ?_
  simp only [ev0, evA, evB, evP, fl, gp, tab, simprocAttr, reduceCtorEq, reduceIte]
  refine fin_run trivial (hK _ ?_) <;> clear hK <;> clear K
  refine qa (qm ?_)
  refine hk_cond rfl (fun hC1 => ?_) (fun hC1 => ?_)
  · (try simp only [nhs] at hC1)
    have hlt : i < l.length := by omega
    refine qh (qa (qm (ql (qm ?_))))
    refine hk_region fun K hK => runs_eval tab_ok ?_
    simp only [ev0, evA, evB, evP, fl, gp, tab, simprocAttr, reduceCtorEq, reduceIte]
    refine fin_run trivial (hK _ ?_) <;> clear hK <;> clear K
    refine qa (qm ?_)
    refine hk_region fun K hK => runs_eval tab_ok ?_
    simp only [ev0, evA, evB, evP, fl, gp, tab, simprocAttr, reduceCtorEq, reduceIte, il_get hlt]
    refine fin_run ?_ (hK _ ?_) <;> clear hK <;> clear K
    · (first | exact trivial | omega | (simp only [In64] at *; omega) | (simp [In64] at *; omega) | (simp_all; done) | skip)
    refine qa ?_
    refine hk_cond rfl (fun hC2 => ?_) (fun hC2 => ?_)
    · (try simp only [nhs] at hC2)
      refine qm ?_
      refine hk_region fun K hK => runs_eval tab_ok ?_
      simp only [ev0, evA, evB, evP, fl, gp, tab, simprocAttr, reduceCtorEq, reduceIte]
      refine fin_run trivial (hK _ ?_) <;> clear hK <;> clear K
      refine qa (qk (qe (qb (qb (qe (qb ?_))))))
      simp only [Tryd.results129, enA, ev0, evA, evB, evP, fl, gp, tab, simprocAttr, reduceCtorEq, reduceIte]
      all_goals (unfold ix; rw [fst_some hlt (decide_eq_true hC2.symm) fun j hj => decide_eq_false (hi2 j hj)])
    · (try simp only [nhs] at hC2)
      refine qh (qd (qa ?_))
      refine hk_region fun K hK => runs_eval tab_ok ?_
      simp only [ev0, evA, evB, evP, fl, gp, tab, simprocAttr, reduceCtorEq, reduceIte]
      refine fin_run ?_ (hK _ ?_) <;> clear hK <;> clear K
      · (first | exact trivial | omega | (simp only [In64] at *; omega) | (simp [In64] at *; omega) | (simp_all; done) | skip)
      refine qa ?_
      refine ⟨i + 1, [], ⟨by omega, fun j hj => ?_⟩, by omega, ?_⟩
      · by_cases hj : j = i
        · subst hj; exact fun h => hC2 h.symm
        · exact hi2 j (by omega)
      · simp only [leq, leA, ev0, evA, evB, evP, fl, gp, tab, simprocAttr, reduceCtorEq, reduceIte] <;> first | trivial | omega
  · (try simp only [nhs] at hC1)
    refine qj (qc (qc (qf (qa (qm ?_)))))
    refine hk_region fun K hK => runs_eval tab_ok ?_
    simp only [ev0, evA, evB, evP, fl, gp, tab, simprocAttr, reduceCtorEq, reduceIte]
    refine fin_run trivial (hK _ ?_) <;> clear hK <;> clear K
    refine qa (qk ?_)
    simp only [Tryd.results129, enA, ev0, evA, evB, evP, fl, gp, tab, simprocAttr, reduceCtorEq, reduceIte]
    all_goals (unfold ix; rw [fst_none fun j hj => decide_eq_false (hi2 j (by omega))])

theorem ix_mem (l : List Int) (x : Int) : ix l x ≥ 0 ↔ ∃ i, i < l.length ∧ l.getD i 0 = x := by
  unfold ix
  cases h : fst' (fun i => decide (l.getD i 0 = x)) l.length with
  | none =>
    constructor
    · intro h; simp at h
    · rintro ⟨i, hi, e⟩
      exact absurd e (of_decide_eq_false (fst_spec0 h i hi))
  | some i =>
    obtain ⟨h1, h2, _⟩ := fst_spec h
    exact ⟨fun _ => ⟨i, h1, of_decide_eq_true h2⟩, fun _ => by simp⟩

theorem contains_c (l : List Int) (x : Int) (hl : l.length ≤ 1000000000000) : FnC Tryd.prog 107 [.list (il l), .int .i64 x] (.bool (decide (ix l x ≥ 0))) := by
  refine fnc_of tab_ok Tryd.func107 rfl (by kernel_rfl) (by rw [Tryd.ntmps107]; exact Nat.le_add_left 2 _) ?_; rw [Tryd.ntmps107]
  refine qm ?_
  refine hk_region fun K hK => runs_eval tab_ok ?_
  simp only [ev0, evA, evB, evP, fl, gp, tab, simprocAttr, reduceCtorEq, reduceIte]
  refine fin_run trivial (hK _ ?_) <;> clear hK <;> clear K
  refine qa (qm ?_)
  refine hk_region fun K hK => runs_eval tab_ok ?_
  simp only [ev0, evA, evB, evP, fl, gp, tab, simprocAttr, reduceCtorEq, reduceIte]
  refine fin_stop trivial (runs_call (index_c l x hl) rfl rfl rfl (by simp only [dstOk, Nat.reduceLT]) (by repeat (first | exact trivial | constructor)) (runs_eval tab_ok ?_))
  simp only [ev0, evA, evB, evP, fl, gp, tab, simprocAttr, reduceCtorEq, reduceIte]
  refine fin_run trivial (hK _ ?_) <;> clear hK <;> clear K
  refine qa (qk ?_)
  simp only [Tryd.results107, enA, ev0, evA, evB, evP, fl, gp, tab, simprocAttr, reduceCtorEq, reduceIte]
  all_goals ((first | exact rfl | exact ⟨rfl, rfl⟩ | exact ⟨rfl, rfl, rfl⟩ | exact ⟨trivial, rfl⟩ | exact ⟨Nat.le_refl _, rfl⟩ | trivial | (simp; done)))

/-- A row of the table. -/
def row (m : List Int) (n a : Nat) : List Int := (m.drop (a * n)).take n

theorem row_len {m : List Int} {n a : Nat} (T : Tab n m) (ha : a < n) : (row m n a).length = n := by
  have : (a + 1) * n ≤ n * n := Nat.mul_le_mul_right _ ha
  rw [Nat.add_mul, Nat.one_mul] at this
  have := T.len
  simp [row]; omega
theorem row_get {m : List Int} {n a b : Nat} (T : Tab n m) (ha : a < n) (hb : b < n) : (row m n a).getD b 0 = ((op m n a b : Nat) : Int) := by
  rw [← T.val ha hb]
  simp only [row, List.getD, List.getElem?_take, if_pos hb, List.getElem?_drop]
theorem row_ix {m : List Int} {n a : Nat} (T : Tab n m) (ha : a < n) (x : Int) : ix (row m n a) x ≥ 0 ↔ ∃ b, b < n ∧ ((op m n a b : Nat) : Int) = x := by
  rw [ix_mem, row_len T ha]
  constructor
  · rintro ⟨b, hb, e⟩; exact ⟨b, hb, by rw [← row_get T ha hb]; exact e⟩
  · rintro ⟨b, hb, e⟩; exact ⟨b, hb, by rw [row_get T ha hb]; exact e⟩

/-- The last that is the one, among so many; -1. -/
def oneI (m : List Int) (n : Nat) : Nat → Int
  | 0 => -1
  | i + 1 => if isE m n i then (i : Int) else oneI m n i

theorem oneI_no {m : List Int} {n : Nat} (h : ∀ a, a < n → ¬ isE m n a) : ∀ i, i ≤ n → oneI m n i = -1
  | 0, _ => rfl
  | i + 1, hi => by simp only [oneI]; rw [if_neg (h i (by omega)), oneI_no h i (by omega)]
theorem oneI_yes {m : List Int} {n e : Nat} (he : e < n) (h : isE m n e) : ∀ i, i ≤ n → e < i → oneI m n i = (e : Nat)
  | 0, _, h2 => by omega
  | i + 1, hi, h2 => by
    simp only [oneI]
    by_cases hE : isE m n i
    · rw [if_pos hE, isE_unique he (by omega) h hE]
    · rw [if_neg hE]
      have : e ≠ i := fun h' => hE (h' ▸ h)
      exact oneI_yes he h i (by omega) (by omega)
theorem oneI_eI (m : List Int) (n : Nat) : oneI m n n = eI m n := by
  rcases eI_cases m n with ⟨h1, h2⟩ | ⟨e, he, h1, h2⟩
  · rw [h1, oneI_no h2 n (Nat.le_refl _)]
  · rw [h2, oneI_yes he h1 n (Nat.le_refl _) he]

/-- The program's test of an inverse, and the document's. -/
theorem inv_test {m : List Int} {n a : Nat} (T : Tab n m) (he : ¬ eI m n < 0) (hs : ∀ a, a < n → asc m n a) (ha : a < n) : ix (row m n a) (eI m n) ≥ 0 ↔ ¬ iI m n a < 0 := by
  rw [row_ix T ha]
  rcases eI_cases m n with ⟨h1, _⟩ | ⟨e, hel, hE, heq⟩
  · omega
  constructor
  · rintro ⟨b, hb, h⟩ h2
    rcases iI_cases m n a with ⟨_, h3⟩ | ⟨b', _, _, _, h4⟩
    · refine h3 b hb ⟨h, ?_⟩
      rw [heq] at h ⊢
      have := right_inv (f := op m n) (fun a b ha hb => T.lt ha hb) hel (fun a ha => (hE a ha).1) (fun a ha => (hE a ha).2) (fun a b c ha hb hc => hs a ha b hb c hc) ha hb (by omega)
      omega
    · omega
  · intro h
    rcases iI_cases m n a with ⟨h3, _⟩ | ⟨b, hb, h4, _, _⟩
    · omega
    · exact ⟨b, hb, h4⟩

theorem lo_nat (a n : Nat) : ((a : Int) * (n : Int)).toNat = a * n := by
  rw [← Int.natCast_mul]; rfl
theorem hi_nat (a n : Nat) : (((a : Int) + 1) * (n : Int)).toNat = (a + 1) * n := by
  have : ((a : Int) + 1) * (n : Int) = (((a + 1) * n : Nat) : Int) := by rw [Int.natCast_mul]; rfl
  rw [this]; rfl
theorem hi_sub (a n : Nat) : (a + 1) * n - a * n = n := by rw [Nat.add_mul, Nat.one_mul]; omega

set_option maxHeartbeats 1000000 in
theorem check_c (N : Int) (m : List Int) (hm : m.length ≤ 1000000000000000) : FnC Tryd.prog 65 [gp N m] (fl (gf N m)) := by
  refine fnc_of tab_ok Tryd.func65 rfl (by kernel_rfl) (by rw [Tryd.ntmps65]; exact Nat.le_add_left 1 _) ?_; rw [Tryd.ntmps65]
  refine qm ?_
  refine hk_region fun K hK => runs_eval tab_ok ?_
  simp only [ev0, evA, evB, evP, fl, gp, tab, simprocAttr, reduceCtorEq, reduceIte]
  refine fin_run ?_ (hK _ ?_) <;> clear hK <;> clear K
  · (first | exact trivial | omega | (simp only [In64] at *; omega) | (simp [In64] at *; omega) | (simp_all; done) | skip)
  refine qa (qm (qm ?_))
  by_cases g1a : N < 1
  · refine hk_region fun K hK => runs_eval tab_ok ?_
    simp only [ev0, evA, evB, evP, fl, gp, tab, simprocAttr, reduceCtorEq, reduceIte, decide_eq_true g1a]
    refine fin_run ?_ (hK _ ?_) <;> clear hK <;> clear K
    · (first | exact trivial | omega | (simp only [In64] at *; omega) | (simp [In64] at *; omega) | (simp_all; done) | skip)
    refine qa ?_
    refine hk_cond rfl (fun hC1 => ?_) (fun hC1 => ?_)
    · refine qm ?_
      refine hk_region fun K hK => runs_eval tab_ok ?_
      simp only [ev0, evA, evB, evP, fl, gp, tab, simprocAttr, reduceCtorEq, reduceIte]
      refine fin_stop trivial (runs_call (fault_c 2 0) rfl rfl rfl (by simp only [dstOk, Nat.reduceLT]) (by repeat (first | exact trivial | constructor)) (runs_eval tab_ok ?_))
      simp only [ev0, evA, evB, evP, fl, gp, tab, simprocAttr, reduceCtorEq, reduceIte]
      refine fin_run ?_ (hK _ ?_) <;> clear hK <;> clear K
      · (first | exact trivial | omega | (simp only [In64] at *; omega) | (simp [In64] at *; omega) | (simp_all; done) | skip)
      refine qa (qk (qb ?_))
      simp only [Tryd.results65, enA, ev0, evA, evB, evP, fl, gp, tab, simprocAttr, reduceCtorEq, reduceIte]
      all_goals (unfold gf; rw [if_pos (.inl g1a)]; simp)
    · cases hC1
  · refine hk_region fun K hK => runs_eval tab_ok ?_
    simp only [ev0, evA, evB, evP, fl, gp, tab, simprocAttr, reduceCtorEq, reduceIte, decide_eq_false g1a]
    refine fin_run ?_ (hK _ ?_) <;> clear hK <;> clear K
    · (first | exact trivial | omega | (simp only [In64] at *; omega) | (simp [In64] at *; omega) | (simp_all; done) | skip)
    refine qa ?_
    refine hk_cond rfl (fun hC1 => ?_) (fun hC1 => ?_)
    · (try simp only [nhs] at hC1)
      refine qm ?_
      refine hk_region fun K hK => runs_eval tab_ok ?_
      simp only [ev0, evA, evB, evP, fl, gp, tab, simprocAttr, reduceCtorEq, reduceIte]
      refine fin_stop trivial (runs_call (fault_c 2 0) rfl rfl rfl (by simp only [dstOk, Nat.reduceLT]) (by repeat (first | exact trivial | constructor)) (runs_eval tab_ok ?_))
      simp only [ev0, evA, evB, evP, fl, gp, tab, simprocAttr, reduceCtorEq, reduceIte]
      refine fin_run ?_ (hK _ ?_) <;> clear hK <;> clear K
      · (first | exact trivial | omega | (simp only [In64] at *; omega) | (simp [In64] at *; omega) | (simp_all; done) | skip)
      refine qa (qk (qb ?_))
      simp only [Tryd.results65, enA, ev0, evA, evB, evP, fl, gp, tab, simprocAttr, reduceCtorEq, reduceIte]
      all_goals (unfold gf; rw [if_pos (.inr hC1)]; simp)
    · (try simp only [nhs] at hC1)
      obtain ⟨n, rfl⟩ := Int.eq_ofNat_of_zero_le (show 0 ≤ N by omega)
      have hnn := sq_int n
      have hsq := sq_le (show n ≤ 60 by omega)
      refine qh (qa (qm (qm ?_)))
      refine hk_region fun K hK => runs_eval tab_ok ?_
      simp only [ev0, evA, evB, evP, fl, gp, tab, simprocAttr, reduceCtorEq, reduceIte]
      refine fin_run ?_ (hK _ ?_) <;> clear hK <;> clear K
      · simp only [In64]; omega
      refine qa ?_
      refine hk_cond rfl (fun hC2 => ?_) (fun hC2 => ?_)
      · (try simp only [nhs] at hC2)
        refine qm ?_
        refine hk_region fun K hK => runs_eval tab_ok ?_
        simp only [ev0, evA, evB, evP, fl, gp, tab, simprocAttr, reduceCtorEq, reduceIte]
        refine fin_stop trivial (runs_call (fault_c 8 0) rfl rfl rfl (by simp only [dstOk, Nat.reduceLT]) (by repeat (first | exact trivial | constructor)) (runs_eval tab_ok ?_))
        simp only [ev0, evA, evB, evP, fl, gp, tab, simprocAttr, reduceCtorEq, reduceIte]
        refine fin_run ?_ (hK _ ?_) <;> clear hK <;> clear K
        · (first | exact trivial | omega | (simp only [In64] at *; omega) | (simp [In64] at *; omega) | (simp_all; done) | skip)
        refine qa (qk (qb ?_))
        simp only [Tryd.results65, enA, ev0, evA, evB, evP, fl, gp, tab, simprocAttr, reduceCtorEq, reduceIte]
        all_goals (rw [gf_size (by omega) (by omega) (by omega)]; simp)
      · (try simp only [nhs] at hC2)
        have hl : m.length = n * n := by omega
        refine qh (qa (qm (qm ?_)))
        refine hk_region fun K hK => runs_eval tab_ok ?_
        simp only [ev0, evA, evB, evP, fl, gp, tab, simprocAttr, reduceCtorEq, reduceIte]
        refine fin_run ?_ (hK _ ?_) <;> clear hK <;> clear K
        · (first | exact trivial | omega | (simp only [In64] at *; omega) | (simp [In64] at *; omega) | (simp_all; done) | skip)
        refine qa (ql ?_)
        refine hk_loop (ι := Nat) (fun i => ⟨144, [(1, .ptr 0 0), (2, .ptr 1 0), (33, .p (.list (il m))), (34, .p (.int .i64 m.length)), (35, .p (.int .i64 i))], [.own [.p (.int .i64 n), .p (.list (il m))], .own [.p (.int .i64 0), .p (.int .i64 0)]]⟩) (fun i => i ≤ m.length ∧ ∀ j, j < i → bad n m j = false) (fun i => m.length - i) 0 ⟨Nat.zero_le _, fun j hj => by omega⟩ [0, 1] (by simp only [leq, leA, ev0, evA, evB, evP, fl, gp, tab, simprocAttr, reduceCtorEq, reduceIte] <;> trivial) fun i hi => ?_
        obtain ⟨hi1, hi2⟩ := hi
        refine qm ?_
        refine hk_region fun K hK => runs_eval tab_ok ?_
        simp only [ev0, evA, evB, evP, fl, gp, tab, simprocAttr, reduceCtorEq, reduceIte]
        refine fin_run trivial (hK _ ?_) <;> clear hK <;> clear K
        refine qa (qm ?_)
        refine hk_cond rfl (fun hC3 => ?_) (fun hC3 => ?_)
        · (try simp only [nhs] at hC3)
          have hlt : i < m.length := by omega
          refine qh (qa (qm (ql (qm ?_))))
          refine hk_region fun K hK => runs_eval tab_ok ?_
          simp only [ev0, evA, evB, evP, fl, gp, tab, simprocAttr, reduceCtorEq, reduceIte, il_get hlt]
          refine fin_run ?_ (hK _ ?_) <;> clear hK <;> clear K
          · (first | exact trivial | omega | (simp only [In64] at *; omega) | (simp [In64] at *; omega) | (simp_all; done) | skip)
          refine qa (qm ?_)
          by_cases g8a : m.getD i 0 < 0
          · refine hk_region fun K hK => runs_eval tab_ok ?_
            simp only [ev0, evA, evB, evP, fl, gp, tab, simprocAttr, reduceCtorEq, reduceIte, decide_eq_true g8a]
            refine fin_run trivial (hK _ ?_) <;> clear hK <;> clear K
            refine qa ?_
            refine hk_cond rfl (fun hC4 => ?_) (fun hC4 => ?_)
            · refine qm ?_
              refine hk_region fun K hK => runs_eval tab_ok ?_
              simp only [ev0, evA, evB, evP, fl, gp, tab, simprocAttr, reduceCtorEq, reduceIte]
              refine fin_stop trivial (runs_call (fault_c 3 i) rfl rfl rfl (by simp only [dstOk, Nat.reduceLT]) (by repeat (first | exact trivial | constructor)) (runs_eval tab_ok ?_))
              simp only [ev0, evA, evB, evP, fl, gp, tab, simprocAttr, reduceCtorEq, reduceIte]
              refine fin_run ?_ (hK _ ?_) <;> clear hK <;> clear K
              · (first | exact trivial | omega | (simp only [In64] at *; omega) | (simp [In64] at *; omega) | (simp_all; done) | skip)
              refine qa (qk (qe (qb (qb (qe (qb ?_))))))
              simp only [Tryd.results65, enA, ev0, evA, evB, evP, fl, gp, tab, simprocAttr, reduceCtorEq, reduceIte]
              all_goals (rw [gf_range (by omega) (by omega) hl hlt (decide_eq_true (.inl g8a)) hi2]; simp)
            · cases hC4
          · refine hk_region fun K hK => runs_eval tab_ok ?_
            simp only [ev0, evA, evB, evP, fl, gp, tab, simprocAttr, reduceCtorEq, reduceIte, decide_eq_false g8a]
            refine fin_run ?_ (hK _ ?_) <;> clear hK <;> clear K
            · (first | exact trivial | omega | (simp only [In64] at *; omega) | (simp [In64] at *; omega) | (simp_all; done) | skip)
            refine qa ?_
            refine hk_cond rfl (fun hC4 => ?_) (fun hC4 => ?_)
            · (try simp only [nhs] at hC4)
              refine qm ?_
              refine hk_region fun K hK => runs_eval tab_ok ?_
              simp only [ev0, evA, evB, evP, fl, gp, tab, simprocAttr, reduceCtorEq, reduceIte]
              refine fin_stop trivial (runs_call (fault_c 3 i) rfl rfl rfl (by simp only [dstOk, Nat.reduceLT]) (by repeat (first | exact trivial | constructor)) (runs_eval tab_ok ?_))
              simp only [ev0, evA, evB, evP, fl, gp, tab, simprocAttr, reduceCtorEq, reduceIte]
              refine fin_run ?_ (hK _ ?_) <;> clear hK <;> clear K
              · (first | exact trivial | omega | (simp only [In64] at *; omega) | (simp [In64] at *; omega) | (simp_all; done) | skip)
              refine qa (qk (qe (qb (qb (qe (qb ?_))))))
              simp only [Tryd.results65, enA, ev0, evA, evB, evP, fl, gp, tab, simprocAttr, reduceCtorEq, reduceIte]
              all_goals (rw [gf_range (by omega) (by omega) hl hlt (decide_eq_true (.inr hC4)) hi2]; simp)
            · (try simp only [nhs] at hC4)
              refine qh (qd (qa ?_))
              refine hk_region fun K hK => runs_eval tab_ok ?_
              simp only [ev0, evA, evB, evP, fl, gp, tab, simprocAttr, reduceCtorEq, reduceIte]
              refine fin_run ?_ (hK _ ?_) <;> clear hK <;> clear K
              · (first | exact trivial | omega | (simp only [In64] at *; omega) | (simp [In64] at *; omega) | (simp_all; done) | skip)
              refine qa ?_
              refine ⟨i + 1, [0, 1], ⟨by omega, fun j hj => ?_⟩, by omega, ?_⟩
              · by_cases hj : j = i
                · subst hj; exact decide_eq_false (by omega)
                · exact hi2 j (by omega)
              · simp only [leq, leA, ev0, evA, evB, evP, fl, gp, tab, simprocAttr, reduceCtorEq, reduceIte] <;> first | trivial | omega
        · (try simp only [nhs] at hC3)
          have T : Tab n m := by
            refine ⟨by omega, by omega, hl, fun j hj => ?_⟩
            have := of_decide_eq_false (hi2 j (by omega))
            omega
          refine qj (qc (qc (qf (qa (qm ?_)))))
          refine hk_region fun K hK => runs_eval tab_ok ?_
          simp only [ev0, evA, evB, evP, fl, gp, tab, simprocAttr, reduceCtorEq, reduceIte]
          refine fin_run trivial (hK _ ?_) <;> clear hK <;> clear K
          refine qa (qm (qm ?_))
          refine hk_region fun K hK => runs_eval tab_ok ?_
          simp only [ev0, evA, evB, evP, fl, gp, tab, simprocAttr, reduceCtorEq, reduceIte]
          refine fin_run ?_ (hK _ ?_) <;> clear hK <;> clear K
          · (first | exact trivial | omega | (simp only [In64] at *; omega) | (simp [In64] at *; omega) | (simp_all; done) | skip)
          refine qa (ql ?_)
          refine hk_loop (ι := Nat) (fun i => ⟨144, [(1, .ptr 0 0), (2, .ptr 1 0), (5, .p (.int .i64 (oneI m n i))), (52, .p (.int .i64 n)), (53, .p (.int .i64 i))], [.own [.p (.int .i64 n), .p (.list (il m))], .own [.p (.int .i64 0), .p (.int .i64 0)]]⟩) (fun i => i ≤ n) (fun i => n - i) 0 (Nat.zero_le _) [0, 1] (by simp only [leq, leA, ev0, evA, evB, evP, fl, gp, tab, simprocAttr, reduceCtorEq, reduceIte] <;> trivial) fun i hi => ?_
          refine qm ?_
          refine hk_region fun K hK => runs_eval tab_ok ?_
          simp only [ev0, evA, evB, evP, fl, gp, tab, simprocAttr, reduceCtorEq, reduceIte]
          refine fin_run trivial (hK _ ?_) <;> clear hK <;> clear K
          refine qa (qm ?_)
          refine hk_cond rfl (fun hC5 => ?_) (fun hC5 => ?_)
          · (try simp only [nhs] at hC5)
            have hil : i < n := by omega
            refine qh (qa (qm (ql (qm ?_))))
            refine hk_region fun K hK => runs_eval tab_ok ?_
            simp only [ev0, evA, evB, evP, fl, gp, tab, simprocAttr, reduceCtorEq, reduceIte]
            refine fin_run trivial (hK _ ?_) <;> clear hK <;> clear K
            refine qa (qm ?_)
            refine hk_region fun K hK => runs_eval tab_ok ?_
            simp only [ev0, evA, evB, evP, fl, gp, tab, simprocAttr, reduceCtorEq, reduceIte]
            refine fin_run trivial (hK _ ?_) <;> clear hK <;> clear K
            refine qa (qm (qm ?_))
            refine hk_region fun K hK => runs_eval tab_ok ?_
            simp only [ev0, evA, evB, evP, fl, gp, tab, simprocAttr, reduceCtorEq, reduceIte]
            refine fin_run ?_ (hK _ ?_) <;> clear hK <;> clear K
            · (first | exact trivial | omega | (simp only [In64] at *; omega) | (simp [In64] at *; omega) | (simp_all; done) | skip)
            refine qa (ql ?_)
            refine hk_loop (ι := Nat) (fun b => ⟨144, [(1, .ptr 0 0), (2, .ptr 1 0), (5, .p (.int .i64 (oneI m n i))), (6, .p (.int .i64 i)), (7, .p (.bool (decide (∀ c, c < b → op m n i c = c ∧ op m n c i = c)))), (52, .p (.int .i64 n)), (53, .p (.int .i64 i)), (57, .p (.int .i64 n)), (58, .p (.int .i64 b))], [.own [.p (.int .i64 n), .p (.list (il m))], .own [.p (.int .i64 0), .p (.int .i64 0)]]⟩) (fun b => b ≤ n) (fun b => n - b) 0 (Nat.zero_le _) [0, 1] (by simp only [leq, leA, ev0, evA, evB, evP, fl, gp, tab, simprocAttr, reduceCtorEq, reduceIte] <;> simp) fun b hb => ?_
            refine qm ?_
            refine hk_region fun K hK => runs_eval tab_ok ?_
            simp only [ev0, evA, evB, evP, fl, gp, tab, simprocAttr, reduceCtorEq, reduceIte]
            refine fin_run trivial (hK _ ?_) <;> clear hK <;> clear K
            refine qa (qm ?_)
            refine hk_cond rfl (fun hC6 => ?_) (fun hC6 => ?_)
            · (try simp only [nhs] at hC6)
              have hbl : b < n := by omega
              refine qh (qa (qm (ql (qm ?_))))
              refine hk_region fun K hK => runs_eval tab_ok ?_
              simp only [ev0, evA, evB, evP, fl, gp, tab, simprocAttr, reduceCtorEq, reduceIte]
              refine fin_run trivial (hK _ ?_) <;> clear hK <;> clear K
              refine qa ?_
              by_cases g19a : ∀ c, c < b → op m n i c = c ∧ op m n c i = c
              · by_cases g19b : ((op m n i b : Nat) : Int) = (b : Nat)
                · refine hk_region fun K hK => runs_eval tab_ok ?_
                  simp only [ev0, evA, evB, evP, fl, gp, tab, simprocAttr, reduceCtorEq, reduceIte, decide_eq_true g19a, decide_eq_true g19b]
                  refine fin_stop trivial (runs_call (of_c T hil hbl) rfl rfl rfl (by simp only [dstOk, Nat.reduceLT]) (by repeat (first | exact trivial | constructor)) (runs_eval tab_ok ?_))
                  simp only [ev0, evA, evB, evP, fl, gp, tab, simprocAttr, reduceCtorEq, reduceIte, decide_eq_true g19a, decide_eq_true g19b]
                  refine fin_stop trivial (runs_call (of_c T hbl hil) rfl rfl rfl (by simp only [dstOk, Nat.reduceLT]) (by repeat (first | exact trivial | constructor)) (runs_eval tab_ok ?_))
                  simp only [ev0, evA, evB, evP, fl, gp, tab, simprocAttr, reduceCtorEq, reduceIte, decide_eq_true g19a, decide_eq_true g19b]
                  refine fin_run ?_ (hK _ ?_) <;> clear hK <;> clear K
                  · (first | exact trivial | omega | (simp only [In64] at *; omega) | (simp [In64] at *; omega) | (simp_all; done) | skip)
                  refine qd (qa ?_)
                  refine hk_region fun K hK => runs_eval tab_ok ?_
                  simp only [ev0, evA, evB, evP, fl, gp, tab, simprocAttr, reduceCtorEq, reduceIte]
                  refine fin_run ?_ (hK _ ?_) <;> clear hK <;> clear K
                  · (first | exact trivial | omega | (simp only [In64] at *; omega) | (simp [In64] at *; omega) | (simp_all; done) | skip)
                  refine qa ?_
                  refine ⟨b + 1, [0, 1], by omega, by omega, ?_⟩
                  have hd : decide (∀ c, c < b + 1 → op m n i c = c ∧ op m n c i = c) = decide (((op m n b i : Nat) : Int) = (b : Nat)) := by
                    apply decide_eq_decide.2
                    constructor
                    · intro h; have := h b (by omega); omega
                    · intro h c hc
                      by_cases hcb : c = b
                      · subst hcb; omega
                      · exact g19a c (by omega)
                  rw [hd]
                  simp only [leq, leA, ev0, evA, evB, evP, fl, gp, tab, simprocAttr, reduceCtorEq, reduceIte] <;> first | trivial | omega
                · refine hk_region fun K hK => runs_eval tab_ok ?_
                  simp only [ev0, evA, evB, evP, fl, gp, tab, simprocAttr, reduceCtorEq, reduceIte, decide_eq_true g19a, decide_eq_false g19b]
                  refine fin_stop trivial (runs_call (of_c T hil hbl) rfl rfl rfl (by simp only [dstOk, Nat.reduceLT]) (by repeat (first | exact trivial | constructor)) (runs_eval tab_ok ?_))
                  simp only [ev0, evA, evB, evP, fl, gp, tab, simprocAttr, reduceCtorEq, reduceIte, decide_eq_true g19a, decide_eq_false g19b]
                  refine fin_run ?_ (hK _ ?_) <;> clear hK <;> clear K
                  · (first | exact trivial | omega | (simp only [In64] at *; omega) | (simp [In64] at *; omega) | (simp_all; done) | skip)
                  refine qd (qa ?_)
                  refine hk_region fun K hK => runs_eval tab_ok ?_
                  simp only [ev0, evA, evB, evP, fl, gp, tab, simprocAttr, reduceCtorEq, reduceIte]
                  refine fin_run ?_ (hK _ ?_) <;> clear hK <;> clear K
                  · (first | exact trivial | omega | (simp only [In64] at *; omega) | (simp [In64] at *; omega) | (simp_all; done) | skip)
                  refine qa ?_
                  refine ⟨b + 1, [0, 1], by omega, by omega, ?_⟩
                  rw [dall_no (P := fun c => op m n i c = c ∧ op m n c i = c) (b := b) fun h => by omega]
                  simp only [leq, leA, ev0, evA, evB, evP, fl, gp, tab, simprocAttr, reduceCtorEq, reduceIte] <;> first | trivial | omega
              · refine hk_region fun K hK => runs_eval tab_ok ?_
                simp only [ev0, evA, evB, evP, fl, gp, tab, simprocAttr, reduceCtorEq, reduceIte, decide_eq_false g19a]
                refine fin_run trivial (hK _ ?_) <;> clear hK <;> clear K
                refine qd (qa ?_)
                refine hk_region fun K hK => runs_eval tab_ok ?_
                simp only [ev0, evA, evB, evP, fl, gp, tab, simprocAttr, reduceCtorEq, reduceIte]
                refine fin_run ?_ (hK _ ?_) <;> clear hK <;> clear K
                · (first | exact trivial | omega | (simp only [In64] at *; omega) | (simp [In64] at *; omega) | (simp_all; done) | skip)
                refine qa ?_
                refine ⟨b + 1, [0, 1], by omega, by omega, ?_⟩
                rw [show decide (∀ c, c < b + 1 → op m n i c = c ∧ op m n c i = c) = false from decide_eq_false fun h => g19a fun c hc => h c (by omega)]
                simp only [leq, leA, ev0, evA, evB, evP, fl, gp, tab, simprocAttr, reduceCtorEq, reduceIte] <;> first | trivial | omega
            · (try simp only [nhs] at hC6)
              have hbn : b = n := by omega
              subst hbn
              refine qj (qc (qc (qf (qa (qm ?_)))))
              refine hk_region fun K hK => runs_eval tab_ok ?_
              simp only [ev0, evA, evB, evP, fl, gp, tab, simprocAttr, reduceCtorEq, reduceIte]
              refine fin_run trivial (hK _ ?_) <;> clear hK <;> clear K
              refine qa ?_
              refine hk_cond rfl (fun hone => ?_) (fun hone => ?_)
              · (try simp only [nhs] at hone)
                refine hk_region fun K hK => runs_eval tab_ok ?_
                simp only [ev0, evA, evB, evP, fl, gp, tab, simprocAttr, reduceCtorEq, reduceIte]
                refine fin_run trivial (hK _ ?_) <;> clear hK <;> clear K
                refine qd (qa ?_)
                refine hk_region fun K hK => runs_eval tab_ok ?_
                simp only [ev0, evA, evB, evP, fl, gp, tab, simprocAttr, reduceCtorEq, reduceIte]
                refine fin_run ?_ (hK _ ?_) <;> clear hK <;> clear K
                · (first | exact trivial | omega | (simp only [In64] at *; omega) | (simp [In64] at *; omega) | (simp_all; done) | skip)
                refine qa ?_
                refine ⟨i + 1, [0, 1], by omega, by omega, ?_⟩
                simp only [oneI]
                rw [if_pos (show isE m b i from hone)]
                simp only [leq, leA, ev0, evA, evB, evP, fl, gp, tab, simprocAttr, reduceCtorEq, reduceIte] <;> first | trivial | omega
              · (try simp only [nhs] at hone)
                refine qh (qd (qa ?_))
                refine hk_region fun K hK => runs_eval tab_ok ?_
                simp only [ev0, evA, evB, evP, fl, gp, tab, simprocAttr, reduceCtorEq, reduceIte]
                refine fin_run ?_ (hK _ ?_) <;> clear hK <;> clear K
                · (first | exact trivial | omega | (simp only [In64] at *; omega) | (simp [In64] at *; omega) | (simp_all; done) | skip)
                refine qa ?_
                refine ⟨i + 1, [0, 1], by omega, by omega, ?_⟩
                simp only [oneI]
                rw [if_neg (show ¬ isE m b i from hone)]
                simp only [leq, leA, ev0, evA, evB, evP, fl, gp, tab, simprocAttr, reduceCtorEq, reduceIte] <;> first | trivial | omega
          · (try simp only [nhs] at hC5)
            have hin : i = n := by omega
            subst hin
            rw [oneI_eI]
            refine qj (qc (qc (qf (qa (qm (qm ?_))))))
            refine hk_region fun K hK => runs_eval tab_ok ?_
            simp only [ev0, evA, evB, evP, fl, gp, tab, simprocAttr, reduceCtorEq, reduceIte]
            refine fin_run trivial (hK _ ?_) <;> clear hK <;> clear K
            refine qa ?_
            refine hk_cond rfl (fun hC8 => ?_) (fun hC8 => ?_)
            · (try simp only [nhs] at hC8)
              refine qm ?_
              refine hk_region fun K hK => runs_eval tab_ok ?_
              simp only [ev0, evA, evB, evP, fl, gp, tab, simprocAttr, reduceCtorEq, reduceIte]
              refine fin_stop trivial (runs_call (fault_c 6 0) rfl rfl rfl (by simp only [dstOk, Nat.reduceLT]) (by repeat (first | exact trivial | constructor)) (runs_eval tab_ok ?_))
              simp only [ev0, evA, evB, evP, fl, gp, tab, simprocAttr, reduceCtorEq, reduceIte]
              refine fin_run ?_ (hK _ ?_) <;> clear hK <;> clear K
              · (first | exact trivial | omega | (simp only [In64] at *; omega) | (simp [In64] at *; omega) | (simp_all; done) | skip)
              refine qa (qk (qb ?_))
              simp only [Tryd.results65, enA, ev0, evA, evB, evP, fl, gp, tab, simprocAttr, reduceCtorEq, reduceIte]
              all_goals (rw [gf_tab T, gf2_6 hC8]; simp)
            · (try simp only [nhs] at hC8)
              refine qh (qa (qm (qm ?_)))
              refine hk_region fun K hK => runs_eval tab_ok ?_
              simp only [ev0, evA, evB, evP, fl, gp, tab, simprocAttr, reduceCtorEq, reduceIte]
              refine fin_run ?_ (hK _ ?_) <;> clear hK <;> clear K
              · (first | exact trivial | omega | (simp only [In64] at *; omega) | (simp [In64] at *; omega) | (simp_all; done) | skip)
              refine qa (ql ?_)
              refine hk_loop (ι := Nat) (fun a => ⟨144, [(1, .ptr 0 0), (2, .ptr 1 0), (5, .p (.int .i64 (eI m i))), (86, .p (.int .i64 i)), (87, .p (.int .i64 a))], [.own [.p (.int .i64 i), .p (.list (il m))], .own [.p (.int .i64 0), .p (.int .i64 0)]]⟩) (fun a => a ≤ i ∧ ∀ j, j < a → asc m i j) (fun a => i - a) 0 ⟨Nat.zero_le _, fun j hj => by omega⟩ [0, 1] (by simp only [leq, leA, ev0, evA, evB, evP, fl, gp, tab, simprocAttr, reduceCtorEq, reduceIte] <;> trivial) fun a ha => ?_
              obtain ⟨ha1, ha2⟩ := ha
              refine qm ?_
              refine hk_region fun K hK => runs_eval tab_ok ?_
              simp only [ev0, evA, evB, evP, fl, gp, tab, simprocAttr, reduceCtorEq, reduceIte]
              refine fin_run trivial (hK _ ?_) <;> clear hK <;> clear K
              refine qa (qm ?_)
              refine hk_cond rfl (fun hC9 => ?_) (fun hC9 => ?_)
              · (try simp only [nhs] at hC9)
                have hal : a < i := by omega
                refine qh (qa (qm (ql (qm ?_))))
                refine hk_region fun K hK => runs_eval tab_ok ?_
                simp only [ev0, evA, evB, evP, fl, gp, tab, simprocAttr, reduceCtorEq, reduceIte]
                refine fin_run trivial (hK _ ?_) <;> clear hK <;> clear K
                refine qa (qm ?_)
                refine hk_region fun K hK => runs_eval tab_ok ?_
                simp only [ev0, evA, evB, evP, fl, gp, tab, simprocAttr, reduceCtorEq, reduceIte]
                refine fin_run ?_ (hK _ ?_) <;> clear hK <;> clear K
                · (first | exact trivial | omega | (simp only [In64] at *; omega) | (simp [In64] at *; omega) | (simp_all; done) | skip)
                refine qa (ql ?_)
                refine hk_loop (ι := Nat) (fun b => ⟨144, [(1, .ptr 0 0), (2, .ptr 1 0), (5, .p (.int .i64 (eI m i))), (9, .p (.int .i64 a)), (86, .p (.int .i64 i)), (87, .p (.int .i64 a)), (91, .p (.int .i64 i)), (92, .p (.int .i64 b))], [.own [.p (.int .i64 i), .p (.list (il m))], .own [.p (.int .i64 0), .p (.int .i64 0)]]⟩) (fun b => b ≤ i ∧ ∀ j, j < b → ∀ c, c < i → op m i (op m i a j) c = op m i a (op m i j c)) (fun b => i - b) 0 ⟨Nat.zero_le _, fun j hj => by omega⟩ [0, 1] (by simp only [leq, leA, ev0, evA, evB, evP, fl, gp, tab, simprocAttr, reduceCtorEq, reduceIte] <;> trivial) fun b hb => ?_
                obtain ⟨hb1, hb2⟩ := hb
                refine qm ?_
                refine hk_region fun K hK => runs_eval tab_ok ?_
                simp only [ev0, evA, evB, evP, fl, gp, tab, simprocAttr, reduceCtorEq, reduceIte]
                refine fin_run trivial (hK _ ?_) <;> clear hK <;> clear K
                refine qa (qm ?_)
                refine hk_cond rfl (fun hC10 => ?_) (fun hC10 => ?_)
                · (try simp only [nhs] at hC10)
                  have hbl : b < i := by omega
                  refine qh (qa (qm (ql (qm ?_))))
                  refine hk_region fun K hK => runs_eval tab_ok ?_
                  simp only [ev0, evA, evB, evP, fl, gp, tab, simprocAttr, reduceCtorEq, reduceIte]
                  refine fin_run trivial (hK _ ?_) <;> clear hK <;> clear K
                  refine qa (qm ?_)
                  refine hk_region fun K hK => runs_eval tab_ok ?_
                  simp only [ev0, evA, evB, evP, fl, gp, tab, simprocAttr, reduceCtorEq, reduceIte]
                  refine fin_run ?_ (hK _ ?_) <;> clear hK <;> clear K
                  · (first | exact trivial | omega | (simp only [In64] at *; omega) | (simp [In64] at *; omega) | (simp_all; done) | skip)
                  refine qa (ql ?_)
                  refine hk_loop (ι := Nat) (fun c => ⟨144, [(1, .ptr 0 0), (2, .ptr 1 0), (5, .p (.int .i64 (eI m i))), (9, .p (.int .i64 a)), (10, .p (.int .i64 b)), (86, .p (.int .i64 i)), (87, .p (.int .i64 a)), (91, .p (.int .i64 i)), (92, .p (.int .i64 b)), (96, .p (.int .i64 i)), (97, .p (.int .i64 c))], [.own [.p (.int .i64 i), .p (.list (il m))], .own [.p (.int .i64 0), .p (.int .i64 0)]]⟩) (fun c => c ≤ i ∧ ∀ j, j < c → op m i (op m i a b) j = op m i a (op m i b j)) (fun c => i - c) 0 ⟨Nat.zero_le _, fun j hj => by omega⟩ [0, 1] (by simp only [leq, leA, ev0, evA, evB, evP, fl, gp, tab, simprocAttr, reduceCtorEq, reduceIte] <;> trivial) fun c hc => ?_
                  obtain ⟨hc1, hc2⟩ := hc
                  refine qm ?_
                  refine hk_region fun K hK => runs_eval tab_ok ?_
                  simp only [ev0, evA, evB, evP, fl, gp, tab, simprocAttr, reduceCtorEq, reduceIte]
                  refine fin_run trivial (hK _ ?_) <;> clear hK <;> clear K
                  refine qa (qm ?_)
                  refine hk_cond rfl (fun hC11 => ?_) (fun hC11 => ?_)
                  · (try simp only [nhs] at hC11)
                    have hcl : c < i := by omega
                    refine qh (qa (qm (ql (qm ?_))))
                    refine hk_region fun K hK => runs_eval tab_ok ?_
                    simp only [ev0, evA, evB, evP, fl, gp, tab, simprocAttr, reduceCtorEq, reduceIte]
                    refine fin_run trivial (hK _ ?_) <;> clear hK <;> clear K
                    refine qa (qm ?_)
                    refine hk_draw mixed (by kernel_rfl) fun K hK => runs_eval tab_ok ?_
                    simp only [ev0, evA, evB, evP, fl, gp, tab, simprocAttr, reduceCtorEq, reduceIte]
                    refine fin_stop trivial (runs_call (of_c T hal hbl) rfl rfl rfl (by simp only [dstOk, Nat.reduceLT]) (by repeat (first | exact trivial | constructor)) (runs_eval tab_ok ?_))
                    simp only [ev0, evA, evB, evP, fl, gp, tab, simprocAttr, reduceCtorEq, reduceIte]
                    refine fin_stop trivial (runs_call (of_c T (T.lt hal hbl) hcl) rfl rfl rfl (by simp only [dstOk, Nat.reduceLT]) (by repeat (first | exact trivial | constructor)) (runs_eval tab_ok ?_))
                    simp only [ev0, evA, evB, evP, fl, gp, tab, simprocAttr, reduceCtorEq, reduceIte]
                    refine fin_stop trivial (runs_call (of_c T hbl hcl) rfl rfl rfl (by simp only [dstOk, Nat.reduceLT]) (by repeat (first | exact trivial | constructor)) (runs_eval tab_ok ?_))
                    simp only [ev0, evA, evB, evP, fl, gp, tab, simprocAttr, reduceCtorEq, reduceIte]
                    refine fin_stop trivial (runs_call (of_c T hal (T.lt hbl hcl)) rfl rfl rfl (by simp only [dstOk, Nat.reduceLT]) (by repeat (first | exact trivial | constructor)) (runs_eval tab_ok ?_))
                    simp only [ev0, evA, evB, evP, fl, gp, tab, simprocAttr, reduceCtorEq, reduceIte]
                    refine fin_run ?_ (hK _ ?_) <;> clear hK <;> clear K
                    · (first | exact trivial | omega | (simp only [In64] at *; omega) | (simp [In64] at *; omega) | (simp_all; done) | skip)
                    refine qa ?_
                    refine hk_cond rfl (fun hC12 => ?_) (fun hC12 => ?_)
                    · (try simp only [nhs] at hC12)
                      refine qm ?_
                      refine hk_region fun K hK => runs_eval tab_ok ?_
                      simp only [ev0, evA, evB, evP, fl, gp, tab, simprocAttr, reduceCtorEq, reduceIte]
                      refine fin_stop trivial (runs_call (fault_c 7 a) rfl rfl rfl (by simp only [dstOk, Nat.reduceLT]) (by repeat (first | exact trivial | constructor)) (runs_eval tab_ok ?_))
                      simp only [ev0, evA, evB, evP, fl, gp, tab, simprocAttr, reduceCtorEq, reduceIte]
                      refine fin_run ?_ (hK _ ?_) <;> clear hK <;> clear K
                      · (first | exact trivial | omega | (simp only [In64] at *; omega) | (simp [In64] at *; omega) | (simp_all; done) | skip)
                      refine qa (qk (qe (qb (qb (qe (qe (qb (qb (qe (qe (qb (qb (qe (qb ?_))))))))))))))
                      simp only [Tryd.results65, enA, ev0, evA, evB, evP, fl, gp, tab, simprocAttr, reduceCtorEq, reduceIte]
                      all_goals (rw [gf_tab T, gf2_7 hC8 hal (fun h => hC12 (by rw [h b hbl c hcl])) ha2]; simp)
                    · (try simp only [nhs] at hC12)
                      refine qh (qd (qa ?_))
                      refine hk_region fun K hK => runs_eval tab_ok ?_
                      simp only [ev0, evA, evB, evP, fl, gp, tab, simprocAttr, reduceCtorEq, reduceIte]
                      refine fin_run ?_ (hK _ ?_) <;> clear hK <;> clear K
                      · (first | exact trivial | omega | (simp only [In64] at *; omega) | (simp [In64] at *; omega) | (simp_all; done) | skip)
                      refine qa ?_
                      refine ⟨c + 1, [0, 1], ⟨by omega, fun j hj => ?_⟩, by omega, ?_⟩
                      · by_cases hj : j = c
                        · subst hj; omega
                        · exact hc2 j (by omega)
                      · simp only [leq, leA, ev0, evA, evB, evP, fl, gp, tab, simprocAttr, reduceCtorEq, reduceIte] <;> first | trivial | omega
                  · (try simp only [nhs] at hC11)
                    refine qj (qc (qc (qf (qd (qa ?_)))))
                    refine hk_region fun K hK => runs_eval tab_ok ?_
                    simp only [ev0, evA, evB, evP, fl, gp, tab, simprocAttr, reduceCtorEq, reduceIte]
                    refine fin_run ?_ (hK _ ?_) <;> clear hK <;> clear K
                    · (first | exact trivial | omega | (simp only [In64] at *; omega) | (simp [In64] at *; omega) | (simp_all; done) | skip)
                    refine qa ?_
                    refine ⟨b + 1, [0, 1], ⟨by omega, fun j hj => ?_⟩, by omega, ?_⟩
                    · by_cases hj : j = b
                      · subst hj; exact fun c' hc' => hc2 c' (by omega)
                      · exact hb2 j (by omega)
                    · simp only [leq, leA, ev0, evA, evB, evP, fl, gp, tab, simprocAttr, reduceCtorEq, reduceIte] <;> first | trivial | omega
                · (try simp only [nhs] at hC10)
                  refine qj (qc (qc (qf (qd (qa ?_)))))
                  refine hk_region fun K hK => runs_eval tab_ok ?_
                  simp only [ev0, evA, evB, evP, fl, gp, tab, simprocAttr, reduceCtorEq, reduceIte]
                  refine fin_run ?_ (hK _ ?_) <;> clear hK <;> clear K
                  · (first | exact trivial | omega | (simp only [In64] at *; omega) | (simp [In64] at *; omega) | (simp_all; done) | skip)
                  refine qa ?_
                  refine ⟨a + 1, [0, 1], ⟨by omega, fun j hj => ?_⟩, by omega, ?_⟩
                  · by_cases hj : j = a
                    · subst hj; exact fun c' hc' => hb2 c' (by omega)
                    · exact ha2 j (by omega)
                  · simp only [leq, leA, ev0, evA, evB, evP, fl, gp, tab, simprocAttr, reduceCtorEq, reduceIte] <;> first | trivial | omega
              · (try simp only [nhs] at hC9)
                have hs : ∀ a, a < i → asc m i a := fun j hj => ha2 j (by omega)
                refine qj (qc (qc (qf (qa (qm (qm ?_))))))
                refine hk_region fun K hK => runs_eval tab_ok ?_
                simp only [ev0, evA, evB, evP, fl, gp, tab, simprocAttr, reduceCtorEq, reduceIte]
                refine fin_run ?_ (hK _ ?_) <;> clear hK <;> clear K
                · (first | exact trivial | omega | (simp only [In64] at *; omega) | (simp [In64] at *; omega) | (simp_all; done) | skip)
                refine qa (ql ?_)
                refine hk_loop (ι := Nat) (fun a => ⟨144, [(1, .ptr 0 0), (2, .ptr 1 0), (5, .p (.int .i64 (eI m i))), (121, .p (.int .i64 i)), (122, .p (.int .i64 a))], [.own [.p (.int .i64 i), .p (.list (il m))], .own [.p (.int .i64 0), .p (.int .i64 0)]]⟩) (fun a => a ≤ i ∧ ∀ j, j < a → ¬ iI m i j < 0) (fun a => i - a) 0 ⟨Nat.zero_le _, fun j hj => by omega⟩ [0, 1] (by simp only [leq, leA, ev0, evA, evB, evP, fl, gp, tab, simprocAttr, reduceCtorEq, reduceIte] <;> trivial) fun k hk => ?_
                obtain ⟨hk1, hk2⟩ := hk
                refine qm ?_
                refine hk_region fun K hK => runs_eval tab_ok ?_
                simp only [ev0, evA, evB, evP, fl, gp, tab, simprocAttr, reduceCtorEq, reduceIte]
                refine fin_run trivial (hK _ ?_) <;> clear hK <;> clear K
                refine qa (qm ?_)
                refine hk_cond rfl (fun hC13 => ?_) (fun hC13 => ?_)
                · (try simp only [nhs] at hC13)
                  have hkl : k < i := by omega
                  have ht := inv_test T hC8 hs hkl
                  have hr1 := row_len T hkl
                  have hr2 : (k + 1) * i ≤ i * i := Nat.mul_le_mul_right _ hkl
                  have hr3 : k * i ≤ (k + 1) * i := Nat.mul_le_mul_right _ (by omega)
                  have hr4 : (k : Int) * (i : Int) = ((k * i : Nat) : Int) := (Int.natCast_mul k i).symm
                  have hr5 : ((k : Int) + 1) * (i : Int) = (((k + 1) * i : Nat) : Int) := by rw [Int.natCast_mul]; rfl
                  refine qh (qa (qm (ql (qm ?_))))
                  refine hk_region fun K hK => runs_eval tab_ok ?_
                  simp only [ev0, evA, evB, evP, fl, gp, tab, simprocAttr, reduceCtorEq, reduceIte]
                  refine fin_run trivial (hK _ ?_) <;> clear hK <;> clear K
                  refine qa (qm ?_)
                  refine hk_region fun K hK => runs_eval tab_ok ?_
                  simp only [ev0, evA, evB, evP, fl, gp, tab, simprocAttr, reduceCtorEq, reduceIte, lo_nat, hi_nat, hi_sub]
                  refine fin_stop ?_ (runs_call (contains_c (row m i k) (eI m i) (by omega)) rfl rfl rfl (by simp only [dstOk, Nat.reduceLT]) (by repeat (first | exact trivial | constructor)) (runs_eval tab_ok ?_))
                  · rw [hr4, hr5]; simp only [In64]; omega
                  simp only [ev0, evA, evB, evP, fl, gp, tab, simprocAttr, reduceCtorEq, reduceIte, lo_nat, hi_nat, hi_sub]
                  refine fin_run ?_ (hK _ ?_) <;> clear hK <;> clear K
                  · (first | exact trivial | omega | (simp only [In64] at *; omega) | (simp [In64] at *; omega) | (simp_all; done) | skip)
                  refine qa ?_
                  refine hk_cond rfl (fun hC14 => ?_) (fun hC14 => ?_)
                  · (try simp only [nhs] at hC14)
                    refine qm ?_
                    refine hk_region fun K hK => runs_eval tab_ok ?_
                    simp only [ev0, evA, evB, evP, fl, gp, tab, simprocAttr, reduceCtorEq, reduceIte]
                    refine fin_stop trivial (runs_call (fault_c 4 k) rfl rfl rfl (by simp only [dstOk, Nat.reduceLT]) (by repeat (first | exact trivial | constructor)) (runs_eval tab_ok ?_))
                    simp only [ev0, evA, evB, evP, fl, gp, tab, simprocAttr, reduceCtorEq, reduceIte]
                    refine fin_run ?_ (hK _ ?_) <;> clear hK <;> clear K
                    · (first | exact trivial | omega | (simp only [In64] at *; omega) | (simp [In64] at *; omega) | (simp_all; done) | skip)
                    refine qa (qk (qe (qb (qb (qe (qb ?_))))))
                    simp only [Tryd.results65, enA, ev0, evA, evB, evP, fl, gp, tab, simprocAttr, reduceCtorEq, reduceIte]
                    all_goals (rw [gf_tab T, gf2_4 hC8 hs hkl (Classical.not_not.1 fun h => hC14 (ht.2 h)) hk2]; simp)
                  · (try simp only [nhs] at hC14)
                    refine qh (qd (qa ?_))
                    refine hk_region fun K hK => runs_eval tab_ok ?_
                    simp only [ev0, evA, evB, evP, fl, gp, tab, simprocAttr, reduceCtorEq, reduceIte]
                    refine fin_run ?_ (hK _ ?_) <;> clear hK <;> clear K
                    · (first | exact trivial | omega | (simp only [In64] at *; omega) | (simp [In64] at *; omega) | (simp_all; done) | skip)
                    refine qa ?_
                    refine ⟨k + 1, [0, 1], ⟨by omega, fun j hj => ?_⟩, by omega, ?_⟩
                    · by_cases hj : j = k
                      · subst hj; exact ht.1 hC14
                      · exact hk2 j (by omega)
                    · simp only [leq, leA, ev0, evA, evB, evP, fl, gp, tab, simprocAttr, reduceCtorEq, reduceIte] <;> first | trivial | omega
                · (try simp only [nhs] at hC13)
                  refine qj (qc (qc (qf (qa (qm ?_)))))
                  refine hk_region fun K hK => runs_eval tab_ok ?_
                  simp only [ev0, evA, evB, evP, fl, gp, tab, simprocAttr, reduceCtorEq, reduceIte]
                  refine fin_run ?_ (hK _ ?_) <;> clear hK <;> clear K
                  · (first | exact trivial | omega | (simp only [In64] at *; omega) | (simp [In64] at *; omega) | (simp_all; done) | skip)
                  refine qa (qk ?_)
                  simp only [Tryd.results65, enA, ev0, evA, evB, evP, fl, gp, tab, simprocAttr, reduceCtorEq, reduceIte]
                  all_goals (rw [gf_tab T, gf2_0 hC8 hs (fun j hj => hk2 j (by omega))]; simp)
end Go.Proofs.YtjikchbmkodgfaaDoor

/-
  Walks: the program's words of groups: things, powers, orders. Conditions: none.
-/
set_option linter.all false
namespace Go.Proofs.YtjikchbmkodgfaaDoor
open Go.Pv

theorem oneOf_c {n e : Nat} {m : List Int} (h : GT n m n e) : FnC Tryd.prog 115 [gp n m] (.int .i64 (e : Nat)) := by
  have G := h.2.2
  have T := h.2.1
  have hb := T.big
  have hel := G.el
  refine fnc_of tab_ok Tryd.func115 rfl (by kernel_rfl) (by rw [Tryd.ntmps115]; exact Nat.le_add_left 1 _) ?_; rw [Tryd.ntmps115]
  refine qm ?_
  refine hk_region fun K hK => runs_eval tab_ok ?_
  simp only [ev0, evA, evB, evP, fl, gp, tab, simprocAttr, reduceCtorEq, reduceIte]
  refine fin_run ?_ (hK _ ?_) <;> clear hK <;> clear K
  · (first | exact trivial | omega | (simp only [In64] at *; omega) | (simp [In64] at *; omega) | (simp_all; done) | skip)
  refine qa (qm (qm ?_))
  refine hk_region fun K hK => runs_eval tab_ok ?_
  simp only [ev0, evA, evB, evP, fl, gp, tab, simprocAttr, reduceCtorEq, reduceIte]
  refine fin_run ?_ (hK _ ?_) <;> clear hK <;> clear K
  · (first | exact trivial | omega | (simp only [In64] at *; omega) | (simp [In64] at *; omega) | (simp_all; done) | skip)
  refine qa (ql ?_)
  refine hk_loop (ι := Nat) (fun i => ⟨17, [(1, .ptr 0 0), (5, .p (.int .i64 n)), (6, .p (.int .i64 i))], [.own [.p (.int .i64 n), .p (.list (il m))]]⟩) (fun i => i ≤ e) (fun i => n - i) 0 (Nat.zero_le _) [0] (by simp only [leq, leA, ev0, evA, evB, evP, fl, gp, tab, simprocAttr, reduceCtorEq, reduceIte] <;> trivial) fun i hi => ?_
  refine qm ?_
  refine hk_region fun K hK => runs_eval tab_ok ?_
  simp only [ev0, evA, evB, evP, fl, gp, tab, simprocAttr, reduceCtorEq, reduceIte]
  refine fin_run trivial (hK _ ?_) <;> clear hK <;> clear K
  refine qa (qm ?_)
  refine hk_cond rfl (fun hC1 => ?_) (fun hC1 => ?_)
  · (try simp only [nhs] at hC1)
    refine qh (qa (qm (ql (qm ?_))))
    refine hk_region fun K hK => runs_eval tab_ok ?_
    simp only [ev0, evA, evB, evP, fl, gp, tab, simprocAttr, reduceCtorEq, reduceIte]
    refine fin_run trivial (hK _ ?_) <;> clear hK <;> clear K
    refine qa (qm ?_)
    refine hk_region fun K hK => runs_eval tab_ok ?_
    simp only [ev0, evA, evB, evP, fl, gp, tab, simprocAttr, reduceCtorEq, reduceIte]
    refine fin_stop trivial (runs_call (of_c T (show i < n by omega) (show i < n by omega)) rfl rfl rfl (by simp only [dstOk, Nat.reduceLT]) (by repeat (first | exact trivial | constructor)) (runs_eval tab_ok ?_))
    simp only [ev0, evA, evB, evP, fl, gp, tab, simprocAttr, reduceCtorEq, reduceIte]
    refine fin_run ?_ (hK _ ?_) <;> clear hK <;> clear K
    · (first | exact trivial | omega | (simp only [In64] at *; omega) | (simp [In64] at *; omega) | (simp_all; done) | skip)
    refine qa ?_
    refine hk_cond rfl (fun hC2 => ?_) (fun hC2 => ?_)
    · (try simp only [nhs] at hC2)
      have hie : i = e := (G.idem (by omega)).1 (by omega)
      refine qm ?_
      refine hk_region fun K hK => runs_eval tab_ok ?_
      simp only [ev0, evA, evB, evP, fl, gp, tab, simprocAttr, reduceCtorEq, reduceIte]
      refine fin_run trivial (hK _ ?_) <;> clear hK <;> clear K
      refine qa (qk (qe (qb (qb (qe (qb ?_))))))
      simp only [Tryd.results115, enA, ev0, evA, evB, evP, fl, gp, tab, simprocAttr, reduceCtorEq, reduceIte]
      all_goals (rw [hie])
    · (try simp only [nhs] at hC2)
      have hie : i ≠ e := fun h => hC2 (by rw [(G.idem (show i < n by omega)).2 h])
      refine qh (qd (qa ?_))
      refine hk_region fun K hK => runs_eval tab_ok ?_
      simp only [ev0, evA, evB, evP, fl, gp, tab, simprocAttr, reduceCtorEq, reduceIte]
      refine fin_run ?_ (hK _ ?_) <;> clear hK <;> clear K
      · (first | exact trivial | omega | (simp only [In64] at *; omega) | (simp [In64] at *; omega) | (simp_all; done) | skip)
      refine qa ?_
      refine ⟨i + 1, [0], by omega, by omega, ?_⟩
      simp only [leq, leA, ev0, evA, evB, evP, fl, gp, tab, simprocAttr, reduceCtorEq, reduceIte] <;> first | trivial | omega
  · (try simp only [nhs] at hC1)
    omega

theorem ix_row {n e : Nat} {m : List Int} (h : GT n m n e) {a : Nat} (ha : a < n) : ix (row m n a) (e : Nat) = (iv n (op m n) e a : Nat) := by
  have G := h.2.2
  have T := h.2.1
  obtain ⟨i1, i2, i3, i4⟩ := G.iv_spec ha
  unfold ix
  rw [fst_some (a := iv n (op m n) e a) (by rw [row_len T ha]; exact i1) (decide_eq_true (by rw [row_get T ha i1, i2])) fun j hj => decide_eq_false fun hj2 => ?_]
  rw [row_get T ha (by omega)] at hj2
  have := i4 j (by omega) (.inl (by omega))
  omega

theorem invOf_c {n e : Nat} {m : List Int} (h : GT n m n e) {a : Nat} (ha : a < n) : FnC Tryd.prog 128 [gp n m, .int .i64 a] (.int .i64 (iv n (op m n) e a : Nat)) := by
  have G := h.2.2
  have T := h.2.1
  have hb := T.big
  have hr := ix_row h ha
  have hr1 := row_len T ha
  have hl := T.len
  have hsq := sq_le hb
  have hr2 : (a + 1) * n ≤ n * n := Nat.mul_le_mul_right _ ha
  have hr3 : a * n ≤ (a + 1) * n := Nat.mul_le_mul_right _ (by omega)
  have hr4 : (a : Int) * (n : Int) = ((a * n : Nat) : Int) := (Int.natCast_mul a n).symm
  have hr5 : ((a : Int) + 1) * (n : Int) = (((a + 1) * n : Nat) : Int) := by rw [Int.natCast_mul]; rfl
  refine fnc_of tab_ok Tryd.func128 rfl (by kernel_rfl) (by rw [Tryd.ntmps128]; exact Nat.le_add_left 2 _) ?_; rw [Tryd.ntmps128]
  refine qm ?_
  refine hk_region fun K hK => runs_eval tab_ok ?_
  simp only [ev0, evA, evB, evP, fl, gp, tab, simprocAttr, reduceCtorEq, reduceIte]
  refine fin_run ?_ (hK _ ?_) <;> clear hK <;> clear K
  · (first | exact trivial | omega | (simp only [In64] at *; omega) | (simp [In64] at *; omega) | (simp_all; done) | skip)
  refine qa (qm ?_)
  refine hk_draw mixed (by kernel_rfl) fun K hK => runs_eval tab_ok ?_
  simp only [ev0, evA, evB, evP, fl, gp, tab, simprocAttr, reduceCtorEq, reduceIte, lo_nat, hi_nat, hi_sub]
  refine fin_stop ?_ (runs_call (oneOf_c h) rfl rfl rfl (by simp only [dstOk, Nat.reduceLT]) (by repeat (first | exact trivial | constructor)) (runs_eval tab_ok ?_))
  · rw [hr4, hr5]; simp only [In64]; omega
  simp only [ev0, evA, evB, evP, fl, gp, tab, simprocAttr, reduceCtorEq, reduceIte, lo_nat, hi_nat, hi_sub]
  refine fin_stop trivial (runs_call (index_c (row m n a) (e : Nat) (by omega)) rfl rfl rfl (by simp only [dstOk, Nat.reduceLT]) (by repeat (first | exact trivial | constructor)) (runs_eval tab_ok ?_))
  simp only [ev0, evA, evB, evP, fl, gp, tab, simprocAttr, reduceCtorEq, reduceIte, lo_nat, hi_nat, hi_sub]
  refine fin_run ?_ (hK _ ?_) <;> clear hK <;> clear K
  · (first | exact trivial | omega | (simp only [In64] at *; omega) | (simp [In64] at *; omega) | (simp_all; done) | skip)
  refine qa (qk ?_)
  simp only [Tryd.results128, enA, ev0, evA, evB, evP, fl, gp, tab, simprocAttr, reduceCtorEq, reduceIte]
  all_goals (rw [hr])

/-! ### With their faults -/

theorem pw_half {n e : Nat} {f : Nat → Nat → Nat} (G : Grp n f e) {x out : Nat} (hx : x < n) (ho : out < n) (k : Nat) :
    (k % 2 = 1 → f (f out x) (pw f e (f x x) (k / 2)) = f out (pw f e x k)) ∧ (¬ k % 2 = 1 → f out (pw f e (f x x) (k / 2)) = f out (pw f e x k)) := by
  have h2 : f x x = pw f e x 2 := by
    show f x x = f (f e x) x
    rw [G.one_l x hx]
  have hp : pw f e (f x x) (k / 2) = pw f e x (2 * (k / 2)) := by rw [h2, G.pw_mul hx]
  have hd := Nat.div_add_mod k 2
  constructor
  · intro hk
    rw [hp, G.assoc _ _ _ ho hx (G.pw_lt hx _), ← G.pw_succ' hx]
    congr 2; omega
  · intro hk
    rw [hp]
    congr 2; omega

theorem tm2 (i : Nat) : Int.tmod (i : Int) 2 = ((i % 2 : Nat) : Int) := rfl
theorem td2 (i : Nat) : Int.tdiv (i : Int) 2 = ((i / 2 : Nat) : Int) := rfl

theorem powOf_c {n e : Nat} {m : List Int} (h : GT n m n e) {a : Nat} (ha : a < n) (k : Nat) (hk : k ≤ 1000000) : FnC Tryd.prog 121 [gp n m, .int .i64 a, .int .i64 k] (.int .i64 (pw (op m n) e a k : Nat)) := by
  have G := h.2.2
  have T := h.2.1
  refine fnc_of tab_ok Tryd.func121 rfl (by kernel_rfl) (by rw [Tryd.ntmps121]; exact Nat.le_add_left 3 _) ?_; rw [Tryd.ntmps121]
  refine qm ?_
  refine hk_region fun K hK => runs_eval tab_ok ?_
  simp only [ev0, evA, evB, evP, fl, gp, tab, simprocAttr, reduceCtorEq, reduceIte]
  refine fin_run ?_ (hK _ ?_) <;> clear hK <;> clear K
  · (first | exact trivial | omega | (simp only [In64] at *; omega) | (simp [In64] at *; omega) | (simp_all; done) | skip)
  refine qa (qm ?_)
  refine hk_region fun K hK => runs_eval tab_ok ?_
  simp only [ev0, evA, evB, evP, fl, gp, tab, simprocAttr, reduceCtorEq, reduceIte]
  refine fin_stop trivial (runs_call (oneOf_c h) rfl rfl rfl (by simp only [dstOk, Nat.reduceLT]) (by repeat (first | exact trivial | constructor)) (runs_eval tab_ok ?_))
  simp only [ev0, evA, evB, evP, fl, gp, tab, simprocAttr, reduceCtorEq, reduceIte]
  refine fin_run ?_ (hK _ ?_) <;> clear hK <;> clear K
  · (first | exact trivial | omega | (simp only [In64] at *; omega) | (simp [In64] at *; omega) | (simp_all; done) | skip)
  refine qa (qm (ql ?_))
  refine hk_loop (ι := Nat × Nat × Nat) (fun p => ⟨26, [(1, .p (.int .i64 p.1)), (2, .p (.int .i64 p.2.1)), (3, .ptr 0 0), (7, .p (.int .i64 p.2.2))], [.own [.p (.int .i64 n), .p (.list (il m))]]⟩) (fun p => p.1 < n ∧ p.2.2 < n ∧ p.2.1 ≤ 1000000 ∧ op m n p.2.2 (pw (op m n) e p.1 p.2.1) = pw (op m n) e a k) (fun p => p.2.1) (a, k, e) ⟨ha, G.el, hk, G.one_l _ (G.pw_lt ha k)⟩ [0] (by simp only [leq, leA, ev0, evA, evB, evP, fl, gp, tab, simprocAttr, reduceCtorEq, reduceIte] <;> trivial) fun p hp => ?_
  obtain ⟨x, i, out⟩ := p
  obtain ⟨hx, ho, hi, hv⟩ := hp
  simp only at hx ho hi hv
  have hh := pw_half G hx ho i
  refine qm (qm ?_)
  refine hk_region fun K hK => runs_eval tab_ok ?_
  simp only [ev0, evA, evB, evP, fl, gp, tab, simprocAttr, reduceCtorEq, reduceIte]
  refine fin_run trivial (hK _ ?_) <;> clear hK <;> clear K
  refine qa ?_
  refine hk_cond rfl (fun hC1 => ?_) (fun hC1 => ?_)
  · (try simp only [nhs] at hC1)
    have hpos : 0 < i := by omega
    refine qh (qa (qm (ql (qm (qm ?_)))))
    refine hk_region fun K hK => runs_eval tab_ok ?_
    simp only [ev0, evA, evB, evP, fl, gp, tab, simprocAttr, reduceCtorEq, reduceIte, tm2]
    refine fin_run ?_ (hK _ ?_) <;> clear hK <;> clear K
    · (first | exact trivial | omega | (simp only [In64] at *; omega) | (simp [In64] at *; omega) | (simp_all; done) | skip)
    refine qa ?_
    refine hk_cond rfl (fun hC2 => ?_) (fun hC2 => ?_)
    · (try simp only [nhs] at hC2)
      have hodd : i % 2 = 1 := by omega
      refine hk_region fun K hK => runs_eval tab_ok ?_
      simp only [ev0, evA, evB, evP, fl, gp, tab, simprocAttr, reduceCtorEq, reduceIte]
      refine fin_stop trivial (runs_call (of_c T ho hx) rfl rfl rfl (by simp only [dstOk, Nat.reduceLT]) (by repeat (first | exact trivial | constructor)) (runs_eval tab_ok ?_))
      simp only [ev0, evA, evB, evP, fl, gp, tab, simprocAttr, reduceCtorEq, reduceIte]
      refine fin_run ?_ (hK _ ?_) <;> clear hK <;> clear K
      · (first | exact trivial | omega | (simp only [In64] at *; omega) | (simp [In64] at *; omega) | (simp_all; done) | skip)
      refine qa ?_
      refine hk_region fun K hK => runs_eval tab_ok ?_
      simp only [ev0, evA, evB, evP, fl, gp, tab, simprocAttr, reduceCtorEq, reduceIte]
      refine fin_stop trivial (runs_call (of_c T hx hx) rfl rfl rfl (by simp only [dstOk, Nat.reduceLT]) (by repeat (first | exact trivial | constructor)) (runs_eval tab_ok ?_))
      simp only [ev0, evA, evB, evP, fl, gp, tab, simprocAttr, reduceCtorEq, reduceIte]
      refine fin_run ?_ (hK _ ?_) <;> clear hK <;> clear K
      · (first | exact trivial | omega | (simp only [In64] at *; omega) | (simp [In64] at *; omega) | (simp_all; done) | skip)
      refine qd (qa ?_)
      refine hk_region fun K hK => runs_eval tab_ok ?_
      simp only [ev0, evA, evB, evP, fl, gp, tab, simprocAttr, reduceCtorEq, reduceIte, td2]
      refine fin_run ?_ (hK _ ?_) <;> clear hK <;> clear K
      · (first | exact trivial | omega | (simp only [In64] at *; omega) | (simp [In64] at *; omega) | (simp_all; done) | skip)
      refine qa ?_
      refine ⟨(op m n x x, i / 2, op m n out x), [0], ⟨T.lt hx hx, T.lt ho hx, by simp only; omega, by rw [← hv]; exact hh.1 hodd⟩, by simp only; omega, ?_⟩
      simp only [leq, leA, ev0, evA, evB, evP, fl, gp, tab, simprocAttr, reduceCtorEq, reduceIte] <;> first | trivial | omega
    · (try simp only [nhs] at hC2)
      have hodd : ¬ i % 2 = 1 := by omega
      refine qh (qa ?_)
      refine hk_region fun K hK => runs_eval tab_ok ?_
      simp only [ev0, evA, evB, evP, fl, gp, tab, simprocAttr, reduceCtorEq, reduceIte]
      refine fin_stop trivial (runs_call (of_c T hx hx) rfl rfl rfl (by simp only [dstOk, Nat.reduceLT]) (by repeat (first | exact trivial | constructor)) (runs_eval tab_ok ?_))
      simp only [ev0, evA, evB, evP, fl, gp, tab, simprocAttr, reduceCtorEq, reduceIte]
      refine fin_run ?_ (hK _ ?_) <;> clear hK <;> clear K
      · (first | exact trivial | omega | (simp only [In64] at *; omega) | (simp [In64] at *; omega) | (simp_all; done) | skip)
      refine qd (qa ?_)
      refine hk_region fun K hK => runs_eval tab_ok ?_
      simp only [ev0, evA, evB, evP, fl, gp, tab, simprocAttr, reduceCtorEq, reduceIte, td2]
      refine fin_run ?_ (hK _ ?_) <;> clear hK <;> clear K
      · (first | exact trivial | omega | (simp only [In64] at *; omega) | (simp [In64] at *; omega) | (simp_all; done) | skip)
      refine qa ?_
      refine ⟨(op m n x x, i / 2, out), [0], ⟨T.lt hx hx, ho, by simp only; omega, by rw [← hv]; exact hh.2 hodd⟩, by simp only; omega, ?_⟩
      simp only [leq, leA, ev0, evA, evB, evP, fl, gp, tab, simprocAttr, reduceCtorEq, reduceIte] <;> first | trivial | omega
  · (try simp only [nhs] at hC1)
    have hz : i = 0 := by omega
    subst hz
    have hv2 : out = pw (op m n) e a k := by rw [← hv]; exact (G.one_r out ho).symm
    refine qj (qc (qc (qf (qa (qm ?_)))))
    refine hk_region fun K hK => runs_eval tab_ok ?_
    simp only [ev0, evA, evB, evP, fl, gp, tab, simprocAttr, reduceCtorEq, reduceIte]
    refine fin_run trivial (hK _ ?_) <;> clear hK <;> clear K
    refine qa (qk ?_)
    simp only [Tryd.results121, enA, ev0, evA, evB, evP, fl, gp, tab, simprocAttr, reduceCtorEq, reduceIte]
    all_goals (rw [hv2])

theorem orderOf_c {n e : Nat} {m : List Int} (h : GT n m n e) {a : Nat} (ha : a < n) : FnC Tryd.prog 88 [gp n m, .int .i64 a] (.int .i64 (ord n (op m n) e a : Nat)) := by
  have G := h.2.2
  have T := h.2.1
  have hb := T.big
  obtain ⟨o1, o2, o3, o4⟩ := G.ord_spec ha
  refine fnc_of tab_ok Tryd.func88 rfl (by kernel_rfl) (by rw [Tryd.ntmps88]; exact Nat.le_add_left 2 _) ?_; rw [Tryd.ntmps88]
  refine qm ?_
  refine hk_region fun K hK => runs_eval tab_ok ?_
  simp only [ev0, evA, evB, evP, fl, gp, tab, simprocAttr, reduceCtorEq, reduceIte]
  refine fin_run ?_ (hK _ ?_) <;> clear hK <;> clear K
  · (first | exact trivial | omega | (simp only [In64] at *; omega) | (simp [In64] at *; omega) | (simp_all; done) | skip)
  refine qa (qm ?_)
  refine hk_region fun K hK => runs_eval tab_ok ?_
  simp only [ev0, evA, evB, evP, fl, gp, tab, simprocAttr, reduceCtorEq, reduceIte]
  refine fin_run trivial (hK _ ?_) <;> clear hK <;> clear K
  refine qa (qm (qm ?_))
  refine hk_region fun K hK => runs_eval tab_ok ?_
  simp only [ev0, evA, evB, evP, fl, gp, tab, simprocAttr, reduceCtorEq, reduceIte]
  refine fin_run trivial (hK _ ?_) <;> clear hK <;> clear K
  refine qa (ql ?_)
  refine hk_loop (ι := Nat) (fun k => ⟨19, [(1, .p (.int .i64 a)), (2, .ptr 0 0), (5, .p (.int .i64 k)), (6, .p (.int .i64 (pw (op m n) e a k : Nat)))], [.own [.p (.int .i64 n), .p (.list (il m))]]⟩) (fun k => 1 ≤ k ∧ k ≤ ord n (op m n) e a) (fun k => ord n (op m n) e a - k) 1 ⟨Nat.le_refl _, o1⟩ [0] (by rw [G.pw_one ha]; simp only [leq, leA, ev0, evA, evB, evP, fl, gp, tab, simprocAttr, reduceCtorEq, reduceIte] <;> trivial) fun k hk => ?_
  obtain ⟨hk1, hk2⟩ := hk
  refine qm (qm ?_)
  refine hk_region fun K hK => runs_eval tab_ok ?_
  simp only [ev0, evA, evB, evP, fl, gp, tab, simprocAttr, reduceCtorEq, reduceIte]
  refine fin_stop trivial (runs_call (oneOf_c h) rfl rfl rfl (by simp only [dstOk, Nat.reduceLT]) (by repeat (first | exact trivial | constructor)) (runs_eval tab_ok ?_))
  simp only [ev0, evA, evB, evP, fl, gp, tab, simprocAttr, reduceCtorEq, reduceIte]
  refine fin_run ?_ (hK _ ?_) <;> clear hK <;> clear K
  · (first | exact trivial | omega | (simp only [In64] at *; omega) | (simp [In64] at *; omega) | (simp_all; done) | skip)
  refine qa ?_
  refine hk_cond rfl (fun hC1 => ?_) (fun hC1 => ?_)
  · (try simp only [nhs] at hC1)
    have hne : k ≠ ord n (op m n) e a := fun h => hC1 (by rw [h, o3])
    refine qh (qa (qm (ql ?_)))
    refine hk_region fun K hK => runs_eval tab_ok ?_
    simp only [ev0, evA, evB, evP, fl, gp, tab, simprocAttr, reduceCtorEq, reduceIte]
    refine fin_run ?_ (hK _ ?_) <;> clear hK <;> clear K
    · (first | exact trivial | omega | (simp only [In64] at *; omega) | (simp [In64] at *; omega) | (simp_all; done) | skip)
    refine qd (qa ?_)
    refine hk_region fun K hK => runs_eval tab_ok ?_
    simp only [ev0, evA, evB, evP, fl, gp, tab, simprocAttr, reduceCtorEq, reduceIte]
    refine fin_stop trivial (runs_call (of_c T (G.pw_lt ha k) ha) rfl rfl rfl (by simp only [dstOk, Nat.reduceLT]) (by repeat (first | exact trivial | constructor)) (runs_eval tab_ok ?_))
    simp only [ev0, evA, evB, evP, fl, gp, tab, simprocAttr, reduceCtorEq, reduceIte]
    refine fin_run ?_ (hK _ ?_) <;> clear hK <;> clear K
    · (first | exact trivial | omega | (simp only [In64] at *; omega) | (simp [In64] at *; omega) | (simp_all; done) | skip)
    refine qa ?_
    refine ⟨k + 1, [0], ⟨by omega, by omega⟩, by omega, ?_⟩
    simp only [leq, leA, ev0, evA, evB, evP, fl, gp, tab, simprocAttr, reduceCtorEq, reduceIte] <;> first | trivial | omega
  · (try simp only [nhs] at hC1)
    have hek : k = ord n (op m n) e a := by
      rcases Nat.lt_or_ge k (ord n (op m n) e a) with hlt | hge
      · exact absurd (by omega) (o4 k hk1 hlt)
      · omega
    refine qj (qc (qc (qf (qa (qm ?_)))))
    refine hk_region fun K hK => runs_eval tab_ok ?_
    simp only [ev0, evA, evB, evP, fl, gp, tab, simprocAttr, reduceCtorEq, reduceIte]
    refine fin_run trivial (hK _ ?_) <;> clear hK <;> clear K
    refine qa (qk ?_)
    simp only [Tryd.results88, enA, ev0, evA, evB, evP, fl, gp, tab, simprocAttr, reduceCtorEq, reduceIte]
    all_goals (rw [hek])

/-- A row by a rule. -/
def rg (g : Nat → Int) (i : Nat) : List Int := (List.range i).map g
theorem rg_succ (g : Nat → Int) (i : Nat) : rg g (i + 1) = rg g i ++ [g i] := by simp [rg, List.range_succ]
theorem rg_len (g : Nat → Int) (i : Nat) : (rg g i).length = i := by simp [rg]
def ordl (m : List Int) (n e : Nat) : List Int := rg (fun a => ((ord n (op m n) e a : Nat) : Int)) n

def abel' (m : List Int) (n : Nat) : Prop := ∀ a, a < n → ∀ b, b < a → op m n a b = op m n b a
end Go.Proofs.YtjikchbmkodgfaaDoor
