
/-
  Conjugated subgroups: normalisers, cores, closures. Conditions: none.
-/
import Derived.Test.YtjikchbmkodgfaaDoorG15
set_option linter.all false
namespace Go.Proofs.YtjikchbmkodgfaaDoor
open Go.Pv

/-- x, conjugated by a. -/
def cjr (n : Nat) (f : Nat → Nat → Nat) (e x a : Nat) : Nat := f (f (iv n f e a) x) a
/-- a^-1 b^-1 a b -/
def cmt (n : Nat) (f : Nat → Nat → Nat) (e a b : Nat) : Nat := f (f (iv n f e a) (iv n f e b)) (f a b)
/-- A set, conjugated. -/
def shf (n : Nat) (f : Nat → Nat → Nat) (e : Nat) (p : Nat → Bool) (a y : Nat) : Bool := decide (∃ x, x < n ∧ p x = true ∧ cjr n f e x a = y)
/-- What lets a set stay. -/
def nzr (n : Nat) (f : Nat → Nat → Nat) (e : Nat) (p : Nat → Bool) (a : Nat) : Bool := decide (∀ y, y < n → shf n f e p a y = p y)
/-- The set stays, whatever it is conjugated by. -/
def Nml (n : Nat) (f : Nat → Nat → Nat) (e : Nat) (p : Nat → Bool) : Prop := ∀ a, a < n → ∀ x, x < n → p x = true → p (cjr n f e x a) = true
def crp (n : Nat) (f : Nat → Nat → Nat) (e : Nat) (p : Nat → Bool) (y : Nat) : Bool := decide (∀ a, a < n → p (cjr n f e y a) = true)
def cup (n : Nat) (f : Nat → Nat → Nat) (e : Nat) (p : Nat → Bool) (y : Nat) : Bool := decide (∃ x, x < n ∧ p x = true ∧ ∃ a, a < n ∧ cjr n f e x a = y)

section
variable {n : Nat} {f : Nat → Nat → Nat} {e : Nat}
theorem shf_iff {p : Nat → Bool} {a y : Nat} : shf n f e p a y = true ↔ ∃ x, x < n ∧ p x = true ∧ cjr n f e x a = y := by unfold shf; exact decide_eq_true_iff
theorem nzr_iff {p : Nat → Bool} {a : Nat} : nzr n f e p a = true ↔ ∀ y, y < n → shf n f e p a y = p y := by unfold nzr; exact decide_eq_true_iff
theorem crp_iff {p : Nat → Bool} {y : Nat} : crp n f e p y = true ↔ ∀ a, a < n → p (cjr n f e y a) = true := by unfold crp; exact decide_eq_true_iff
theorem cup_iff {p : Nat → Bool} {y : Nat} : cup n f e p y = true ↔ ∃ x a, x < n ∧ a < n ∧ p x = true ∧ cjr n f e x a = y := by
  unfold cup; rw [decide_eq_true_iff]
  exact ⟨fun ⟨x, h1, h2, a, h3, h4⟩ => ⟨x, a, h1, h3, h2, h4⟩, fun ⟨x, a, h1, h3, h2, h4⟩ => ⟨x, h1, h2, a, h3, h4⟩⟩

theorem Grp.cjr_lt (G : Grp n f e) {x a : Nat} (hx : x < n) (ha : a < n) : cjr n f e x a < n := G.cl _ _ (G.cl _ _ (G.iv_lt ha) hx) ha
theorem Grp.cjr_cjr (G : Grp n f e) {x a b : Nat} (hx : x < n) (ha : a < n) (hb : b < n) : cjr n f e (cjr n f e x a) b = cjr n f e x (f a b) := G.cjr_mul hx ha hb
theorem Grp.cjr_e (G : Grp n f e) {x : Nat} (hx : x < n) : cjr n f e x e = x := by
  unfold cjr; rw [G.iv_one, G.one_l x hx, G.one_r x hx]
theorem Grp.cjr_iv (G : Grp n f e) {x a : Nat} (hx : x < n) (ha : a < n) : cjr n f e (cjr n f e x a) (iv n f e a) = x := by
  rw [G.cjr_cjr hx ha (G.iv_lt ha), G.mul_iv ha, G.cjr_e hx]
theorem Grp.cjr_vi (G : Grp n f e) {x a : Nat} (hx : x < n) (ha : a < n) : cjr n f e (cjr n f e x (iv n f e a)) a = x := by
  rw [G.cjr_cjr hx (G.iv_lt ha) ha, G.iv_mul ha, G.cjr_e hx]
theorem Grp.cjr_hom (G : Grp n f e) {x y a : Nat} (hx : x < n) (hy : y < n) (ha : a < n) : cjr n f e (f x y) a = f (cjr n f e x a) (cjr n f e y a) := by
  have ia := G.iv_lt ha
  have h1 := G.cl _ _ ia hx
  have h2 := G.cl _ _ ia hy
  have h3 := G.cl _ _ h2 ha
  unfold cjr
  rw [G.assoc (f (iv n f e a) x) a _ h1 ha h3, G.assoc (iv n f e a) y a ia hy ha, ← G.assoc a (iv n f e a) (f y a) ha ia (G.cl _ _ hy ha), G.mul_iv ha, G.one_l _ (G.cl _ _ hy ha), ← G.assoc _ y a h1 hy ha, G.assoc _ x y ia hx hy]
theorem Grp.cjr_one (G : Grp n f e) {a : Nat} (ha : a < n) : cjr n f e e a = e := by
  unfold cjr; rw [G.one_r _ (G.iv_lt ha), G.iv_mul ha]
theorem Grp.iv_cjr (G : Grp n f e) {x a : Nat} (hx : x < n) (ha : a < n) : iv n f e (cjr n f e x a) = cjr n f e (iv n f e x) a :=
  (G.iv_unique (G.cjr_lt hx ha) (G.cjr_lt (G.iv_lt hx) ha) (.inl (by rw [← G.cjr_hom hx (G.iv_lt hx) ha, G.mul_iv hx, G.cjr_one ha]))).symm
theorem Grp.cmt_lt (G : Grp n f e) {a b : Nat} (ha : a < n) (hb : b < n) : cmt n f e a b < n := G.cl _ _ (G.cl _ _ (G.iv_lt ha) (G.iv_lt hb)) (G.cl _ _ ha hb)
theorem Grp.cmt_cjr (G : Grp n f e) {x a : Nat} (hx : x < n) (ha : a < n) : cmt n f e x a = f (iv n f e x) (cjr n f e x a) := by
  have ia := G.iv_lt ha
  unfold cmt cjr
  rw [G.assoc _ _ _ (G.iv_lt hx) ia (G.cl _ _ hx ha), G.assoc _ x a ia hx ha]
theorem Grp.cjr_cmt (G : Grp n f e) {x y a : Nat} (hx : x < n) (hy : y < n) (ha : a < n) : cjr n f e (cmt n f e x y) a = cmt n f e (cjr n f e x a) (cjr n f e y a) := by
  have ix := G.iv_lt hx
  have iy := G.iv_lt hy
  unfold cmt
  rw [G.cjr_hom (G.cl _ _ ix iy) (G.cl _ _ hx hy) ha, G.cjr_hom ix iy ha, G.cjr_hom hx hy ha, G.iv_cjr hx ha, G.iv_cjr hy ha]

theorem Grp.cjr_alt (G : Grp n f e) {x a : Nat} (hx : x < n) (ha : a < n) : f (iv n f e a) (f x a) = cjr n f e x a := (G.assoc _ _ _ (G.iv_lt ha) hx ha).symm
theorem Grp.cmt_alt (G : Grp n f e) {a b : Nat} (ha : a < n) (hb : b < n) : f (iv n f e a) (cjr n f e a b) = cmt n f e a b := by
  have ia := G.iv_lt ha
  have ib := G.iv_lt hb
  unfold cjr cmt
  rw [G.assoc _ _ _ ia ib (G.cl _ _ ha hb), G.assoc _ a b ib ha hb]
/-- A commutator is the one just where both commute. -/
theorem Grp.cmt_one (G : Grp n f e) {a b : Nat} (ha : a < n) (hb : b < n) : cmt n f e a b = e ↔ f a b = f b a := by
  unfold cmt
  have ia := G.iv_lt ha
  have ib := G.iv_lt hb
  rw [← G.iv_prod hb ha]
  have hba := G.cl _ _ hb ha
  constructor
  · intro h
    refine G.cancel_l (G.iv_lt hba) (G.cl _ _ ha hb) hba ?_
    rw [h, G.iv_mul hba]
  · intro h
    rw [h, G.iv_mul hba]
theorem Grp.shf_back (G : Grp n f e) {p : Nat → Bool} {a y : Nat} (ha : a < n) (hy : y < n) : shf n f e p a y = p (cjr n f e y (iv n f e a)) := by
  rw [Bool.eq_iff_iff, shf_iff]
  constructor
  · rintro ⟨x, x1, x2, rfl⟩; rwa [G.cjr_iv x1 ha]
  · intro h; exact ⟨_, G.cjr_lt hy (G.iv_lt ha), h, G.cjr_vi hy ha⟩
theorem Grp.nml_iff (G : Grp n f e) {p : Nat → Bool} : Nml n f e p ↔ ∀ a, a < n → nzr n f e p a = true := by
  constructor
  · intro h a ha
    rw [nzr_iff]
    intro y hy
    rw [G.shf_back ha hy, Bool.eq_iff_iff]
    refine ⟨fun h1 => ?_, fun h1 => h _ (G.iv_lt ha) y hy h1⟩
    have := h a ha _ (G.cjr_lt hy (G.iv_lt ha)) h1
    rwa [G.cjr_vi hy ha] at this
  · intro h a ha x hx hp
    have h1 := nzr_iff.1 (h a ha) _ (G.cjr_lt hx ha)
    rw [G.shf_back ha (G.cjr_lt hx ha), G.cjr_iv hx ha, hp] at h1
    exact h1.symm
/-- A core, as a set's conjugated sets have it. -/
theorem Grp.crp_back (G : Grp n f e) {p : Nat → Bool} {y : Nat} (hy : y < n) : crp n f e p y = true ↔ p y = true ∧ ∀ a, a < n → shf n f e p a y = true := by
  rw [crp_iff]
  constructor
  · intro h
    refine ⟨by have := h e G.el; rwa [G.cjr_e hy] at this, fun a ha => ?_⟩
    rw [G.shf_back ha hy]; exact h _ (G.iv_lt ha)
  · rintro ⟨_, h⟩ a ha
    have := h _ (G.iv_lt ha)
    rwa [G.shf_back (G.iv_lt ha) hy, G.iv_iv ha] at this
theorem Grp.crp_sub (G : Grp n f e) {p : Nat → Bool} (hp : Sub n f e p) : Sub n f e (crp n f e p) :=
  sub_of G (crp_iff.2 fun a ha => by rw [G.cjr_one ha]; exact hp.one) fun x y hx hy h1 h2 => crp_iff.2 fun a ha => by
    rw [G.cjr_hom hx hy ha]
    exact hp.mul _ _ (G.cjr_lt hx ha) (G.cjr_lt hy ha) (crp_iff.1 h1 a ha) (crp_iff.1 h2 a ha)
theorem Grp.crp_nml (G : Grp n f e) (p : Nat → Bool) : Nml n f e (crp n f e p) := fun a ha x hx h => crp_iff.2 fun b hb => by
  rw [G.cjr_cjr hx ha hb]; exact crp_iff.1 h _ (G.cl _ _ ha hb)
theorem Grp.crp_le (G : Grp n f e) {p : Nat → Bool} {y : Nat} (hy : y < n) (h : crp n f e p y = true) : p y = true := by
  have := crp_iff.1 h e G.el; rwa [G.cjr_e hy] at this
theorem Grp.crp_nml_iff (G : Grp n f e) {p : Nat → Bool} : Nml n f e p ↔ ∀ y, y < n → crp n f e p y = p y := by
  constructor
  · intro h y hy
    rw [Bool.eq_iff_iff]
    exact ⟨G.crp_le hy, fun h1 => crp_iff.2 fun a ha => h a ha y hy h1⟩
  · intro h a ha x hx h1
    rw [← h x hx] at h1
    exact crp_iff.1 h1 a ha
/-- What conjugated things make is normal. -/
theorem Grp.gen_nml (G : Grp n f e) {p q : Nat → Bool} (hp : Nml n f e p) (hq : ∀ a, a < n → (q a = true ↔ Gen n f e p a)) : Nml n f e q := fun a ha x hx h => by
  have key : ∀ y, Gen n f e p y → Gen n f e p (cjr n f e y a) := fun y hy => by
    have h1 : ∀ z, Gen n f e p z → z < n ∧ Gen n f e p (cjr n f e z a) := by
      intro z hz
      refine ⟨hz.lt G, ?_⟩
      refine Gen.least (H := fun z => Gen n f e p (cjr n f e z a)) (by rw [G.cjr_one ha]; exact .one) (fun u v gu hv pv hu => ?_) hz
      rw [G.cjr_hom (gu.lt G) hv ha]
      exact .step _ _ hu (G.cjr_lt hv ha) (hp a ha v hv pv)
    exact (h1 y hy).2
  rw [hq _ (G.cjr_lt hx ha)]
  exact key x ((hq x hx).1 h)
theorem Grp.cup_nml (G : Grp n f e) (p : Nat → Bool) : Nml n f e (cup n f e p) := fun a ha x hx h => by
  obtain ⟨z, b, z1, b1, z2, rfl⟩ := cup_iff.1 h
  rw [G.cjr_cjr z1 b1 ha]
  exact cup_iff.2 ⟨z, _, z1, G.cl _ _ b1 ha, z2, rfl⟩
theorem Grp.cup_in (G : Grp n f e) {p : Nat → Bool} {x : Nat} (hx : x < n) (h : p x = true) : cup n f e p x = true := cup_iff.2 ⟨x, e, hx, G.el, h, G.cjr_e hx⟩
/-- A normal subgroup is its own closure; and only such a one. -/
theorem Grp.clo_iff (G : Grp n f e) {p q : Nat → Bool} (hp : Sub n f e p) (hq : ∀ a, a < n → (q a = true ↔ Gen n f e (cup n f e p) a)) : Nml n f e p ↔ ∀ y, y < n → q y = p y := by
  constructor
  · intro h y hy
    rw [Bool.eq_iff_iff, hq y hy]
    refine ⟨fun h1 => h1.sub G hp fun b hb hc => ?_, fun h1 => .mem G hy (G.cup_in hy h1)⟩
    obtain ⟨z, c, z1, c1, z2, rfl⟩ := cup_iff.1 hc
    exact h c c1 z z1 z2
  · intro h a ha x hx h1
    have := G.gen_nml (G.cup_nml p) hq a ha x hx (by rw [h x hx]; exact h1)
    rwa [h _ (G.cjr_lt hx ha)] at this
theorem Grp.zen_nml (G : Grp n f e) : Nml n f e (zen n f) := fun a ha x hx h => by
  have h1 := zen_iff.1 h
  have : cjr n f e x a = x := by
    unfold cjr
    rw [G.assoc _ x a (G.iv_lt ha) hx ha, h1 a ha, ← G.assoc _ a x (G.iv_lt ha) ha hx, G.iv_mul ha, G.one_l x hx]
  rw [this]; exact h
theorem Grp.zen_sub (G : Grp n f e) : Sub n f e (zen n f) :=
  sub_of G (zen_iff.2 fun b hb => by rw [G.one_l b hb, G.one_r b hb]) fun x y hx hy h1 h2 => zen_iff.2 fun b hb => by
    rw [G.assoc x y b hx hy hb, zen_iff.1 h2 b hb, ← G.assoc x b y hx hb hy, zen_iff.1 h1 b hb, G.assoc b x y hb hx hy]
/-- What normalises a subgroup is a subgroup; the subgroup is in it. -/
theorem Grp.nzr_in (G : Grp n f e) {p : Nat → Bool} (hp : Sub n f e p) {a : Nat} (ha : a < n) (h : p a = true) : nzr n f e p a = true := nzr_iff.2 fun y hy => by
  have ia := G.iv_lt ha
  have h1 := hp.inv a ha h
  rw [G.shf_back ha hy, Bool.eq_iff_iff]
  unfold cjr
  rw [G.iv_iv ha]
  constructor
  · intro h2
    have h3 := hp.mul _ _ (G.cl _ _ ia (G.cl _ _ (G.cl _ _ ha hy) ia)) ha (hp.mul _ _ ia (G.cl _ _ (G.cl _ _ ha hy) ia) h1 h2) h
    have : f (f (iv n f e a) (f (f a y) (iv n f e a))) a = y := by
      have := G.cjr_cjr hy ia ha
      unfold cjr at this
      rw [G.iv_iv ha, G.iv_mul ha] at this
      rw [this]; exact G.cjr_e hy
    rwa [this] at h3
  · intro h2
    exact hp.mul _ _ (G.cl _ _ ha hy) ia (hp.mul _ _ ha hy h h2) h1
theorem Grp.nzr_zen (G : Grp n f e) {p : Nat → Bool} {a : Nat} (ha : a < n) (h : zen n f a = true) : nzr n f e p a = true := nzr_iff.2 fun y hy => by
  have h1 := zen_iff.1 h
  have : cjr n f e y (iv n f e a) = y := by
    unfold cjr
    rw [G.iv_iv ha, h1 y hy, G.assoc y a _ hy ha (G.iv_lt ha), G.mul_iv ha, G.one_r y hy]
  rw [G.shf_back ha hy, this]
end
end Go.Proofs.YtjikchbmkodgfaaDoor
