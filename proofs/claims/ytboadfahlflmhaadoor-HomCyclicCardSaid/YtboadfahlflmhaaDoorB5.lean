/-
  Texts of this proof, one behind the other: what each says stands at its head. Conditions: none.
-/
import Derived.Test.YtboadfahlflmhaaDoorB4
import Derived.Test.YtboadfahlflmhaaDoorProg
import Derived.Test.YtboadfahlflmhaaDoorB3

/-
  Plain law: classes of conjugate things: how many; things that commute; groups of a prime's power. Conditions: none.
-/
set_option linter.all false
namespace Go.Proofs.YtboadfahlflmhaaDoor
open Go.Pv

section
variable {n : Nat} {f : Nat → Nat → Nat} {e : Nat}

/-- Classes of what is alike are the same. -/
theorem Eqv.row {r : Nat → Nat → Bool} (h : Eqv n r) {x y : Nat} (hx : x < n) (hy : y < n) (hr : r x y = true) : mem n (r x) = mem n (r y) := by
  unfold mem
  refine List.filter_congr fun z hz => ?_
  have z1 := List.mem_range.1 hz
  rw [Bool.eq_iff_iff]
  exact ⟨fun h1 => h.trans y x z hy hx z1 (h.symm x y hx hy hr) h1, fun h1 => h.trans x y z hx hy z1 hr h1⟩

/-- Does a thing commute with all? -/
def zen (n : Nat) (f : Nat → Nat → Nat) (x : Nat) : Bool := decide (∀ b, b < n → f x b = f b x)
theorem zen_iff {x : Nat} : zen n f x = true ↔ ∀ b, b < n → f x b = f b x := by unfold zen; exact decide_eq_true_iff
theorem Grp.cls_zen (G : Grp n f e) {x : Nat} (hx : x < n) : zen n f x = true ↔ ∀ y, y < n → (cjb n f e x y = true ↔ y = x) := by
  rw [zen_iff]
  constructor
  · intro h y hy
    constructor
    · intro hc
      obtain ⟨a, ha, rfl⟩ := cjb_iff.1 hc
      rw [G.assoc _ x a (G.iv_lt ha) hx ha, h a ha, ← G.assoc _ a x (G.iv_lt ha) ha hx, G.iv_mul ha, G.one_l x hx]
    · rintro rfl; exact G.cjb_eqv.refl y hy
  · intro h b hb
    have ib := G.iv_lt hb
    have h1 := (h _ (G.cl _ _ (G.cl _ _ ib hx) hb)).1 (cjb_iff.2 ⟨b, hb, rfl⟩)
    have h2 : f b (f (f (iv n f e b) x) b) = f b x := by rw [h1]
    rwa [← G.assoc b _ b hb (G.cl _ _ ib hx) hb, ← G.assoc b _ x hb ib hx, G.mul_iv hb, G.one_l x hx] at h2
theorem Grp.ones (G : Grp n f e) : ((mem n (lead (cjb n f e))).filter fun x => decide ((mem n (cjb n f e x)).length = 1)).length = (mem n (zen n f)).length := by
  have E := G.cjb_eqv
  refine same_len ((List.nodup_range.filter _).filter _) (List.nodup_range.filter _) fun x => ?_
  rw [List.mem_filter, mem_mem, mem_mem, decide_eq_true_eq]
  constructor
  · rintro ⟨⟨x1, _⟩, h⟩
    refine ⟨x1, (G.cls_zen x1).2 fun y hy => ⟨fun hc => one_mem x1 (E.refl x x1) h hy hc, ?_⟩⟩
    rintro rfl; exact E.refl y hy
  · rintro ⟨x1, h⟩
    have h1 := (G.cls_zen x1).1 h
    refine ⟨⟨x1, lead_iff.2 ⟨E.refl x x1, fun b hb => ?_⟩⟩, mem_one x1 h1⟩
    cases hv : cjb n f e x b with
    | false => rfl
    | true => have := (h1 b (by omega)).1 hv; omega
/-- A number without whole parts, as the laws ask it. -/
def isPr (p : Nat) : Prop := 2 ≤ p ∧ p ≤ 100 ∧ ∀ d, d < p → 2 ≤ d → ¬ p % d = 0
instance (p : Nat) : Decidable (isPr p) := by unfold isPr; infer_instance
theorem isPr.div {p : Nat} (h : isPr p) {d : Nat} (hd : d ∣ p) : d = 1 ∨ d = p := by
  obtain ⟨h1, _, h3⟩ := h
  have hp := Nat.pos_of_dvd_of_pos hd (by omega)
  have hl := Nat.le_of_dvd (by omega) hd
  by_cases hd1 : d = 1
  · exact .inl hd1
  · by_cases hd2 : d = p
    · exact .inr hd2
    · exact absurd (Nat.mod_eq_zero_of_dvd hd) (h3 d (by omega) (by omega))
theorem isPr.cop {p : Nat} (h : isPr p) {s : Nat} (hs : ¬ p ∣ s) : Nat.gcd p s = 1 := by
  rcases h.div (Nat.gcd_dvd_left p s) with h1 | h1
  · exact h1
  · exact absurd (h1 ▸ Nat.gcd_dvd_right p s) hs
/-- What divides a power of p and is not 1 is a multiple of p. -/
theorem isPr.part {p : Nat} (h : isPr p) {k d : Nat} (hd : d ∣ p ^ k) (h1 : d ≠ 1) : p ∣ d := by
  by_cases hp : p ∣ d
  · exact hp
  · exfalso
    have hc : Nat.Coprime d (p ^ k) := Nat.Coprime.pow_right _ (Nat.Coprime.symm (h.cop hp))
    have : d ∣ Nat.gcd d (p ^ k) := Nat.dvd_gcd (Nat.dvd_refl d) hd
    rw [hc] at this
    exact h1 (Nat.dvd_one.1 this)

end
end Go.Proofs.YtboadfahlflmhaaDoor

/-
  Conjugated subgroups: normalisers, cores, closures. Conditions: none.
-/
set_option linter.all false
namespace Go.Proofs.YtboadfahlflmhaaDoor
open Go.Pv

/-- x, conjugated by a. -/
def cjr (n : Nat) (f : Nat → Nat → Nat) (e x a : Nat) : Nat := f (f (iv n f e a) x) a
/-- a^-1 b^-1 a b -/
def cmt (n : Nat) (f : Nat → Nat → Nat) (e a b : Nat) : Nat := f (f (iv n f e a) (iv n f e b)) (f a b)
/-- A set, conjugated. -/
def shf (n : Nat) (f : Nat → Nat → Nat) (e : Nat) (p : Nat → Bool) (a y : Nat) : Bool := decide (∃ x, x < n ∧ p x = true ∧ cjr n f e x a = y)
/-- What lets a set stay. -/
def nzr (n : Nat) (f : Nat → Nat → Nat) (e : Nat) (p : Nat → Bool) (a : Nat) : Bool := decide (∀ y, y < n → shf n f e p a y = p y)
/-- The set stays, whatever it is conjugated by. -/
def Nml (n : Nat) (f : Nat → Nat → Nat) (e : Nat) (p : Nat → Bool) : Prop := ∀ a, a < n → ∀ x, x < n → p x = true → p (cjr n f e x a) = true
def cup (n : Nat) (f : Nat → Nat → Nat) (e : Nat) (p : Nat → Bool) (y : Nat) : Bool := decide (∃ x, x < n ∧ p x = true ∧ ∃ a, a < n ∧ cjr n f e x a = y)

section
variable {n : Nat} {f : Nat → Nat → Nat} {e : Nat}
theorem shf_iff {p : Nat → Bool} {a y : Nat} : shf n f e p a y = true ↔ ∃ x, x < n ∧ p x = true ∧ cjr n f e x a = y := by unfold shf; exact decide_eq_true_iff
theorem nzr_iff {p : Nat → Bool} {a : Nat} : nzr n f e p a = true ↔ ∀ y, y < n → shf n f e p a y = p y := by unfold nzr; exact decide_eq_true_iff
theorem cup_iff {p : Nat → Bool} {y : Nat} : cup n f e p y = true ↔ ∃ x a, x < n ∧ a < n ∧ p x = true ∧ cjr n f e x a = y := by
  unfold cup; rw [decide_eq_true_iff]
  exact ⟨fun ⟨x, h1, h2, a, h3, h4⟩ => ⟨x, a, h1, h3, h2, h4⟩, fun ⟨x, a, h1, h3, h2, h4⟩ => ⟨x, h1, h2, a, h3, h4⟩⟩

theorem Grp.cjr_lt (G : Grp n f e) {x a : Nat} (hx : x < n) (ha : a < n) : cjr n f e x a < n := G.cl _ _ (G.cl _ _ (G.iv_lt ha) hx) ha
theorem Grp.cjr_cjr (G : Grp n f e) {x a b : Nat} (hx : x < n) (ha : a < n) (hb : b < n) : cjr n f e (cjr n f e x a) b = cjr n f e x (f a b) := G.cjr_mul hx ha hb
theorem Grp.cjr_e (G : Grp n f e) {x : Nat} (hx : x < n) : cjr n f e x e = x := by
  unfold cjr; rw [G.iv_one, G.one_l x hx, G.one_r x hx]
theorem Grp.cjr_iv (G : Grp n f e) {x a : Nat} (hx : x < n) (ha : a < n) : cjr n f e (cjr n f e x a) (iv n f e a) = x := by
  rw [G.cjr_cjr hx ha (G.iv_lt ha), G.mul_iv ha, G.cjr_e hx]
theorem Grp.cjr_vi (G : Grp n f e) {x a : Nat} (hx : x < n) (ha : a < n) : cjr n f e (cjr n f e x (iv n f e a)) a = x := by
  rw [G.cjr_cjr hx (G.iv_lt ha) ha, G.iv_mul ha, G.cjr_e hx]
theorem Grp.cjr_hom (G : Grp n f e) {x y a : Nat} (hx : x < n) (hy : y < n) (ha : a < n) : cjr n f e (f x y) a = f (cjr n f e x a) (cjr n f e y a) := by
  have ia := G.iv_lt ha
  have h1 := G.cl _ _ ia hx
  have h2 := G.cl _ _ ia hy
  have h3 := G.cl _ _ h2 ha
  unfold cjr
  rw [G.assoc (f (iv n f e a) x) a _ h1 ha h3, G.assoc (iv n f e a) y a ia hy ha, ← G.assoc a (iv n f e a) (f y a) ha ia (G.cl _ _ hy ha), G.mul_iv ha, G.one_l _ (G.cl _ _ hy ha), ← G.assoc _ y a h1 hy ha, G.assoc _ x y ia hx hy]
theorem Grp.cjr_one (G : Grp n f e) {a : Nat} (ha : a < n) : cjr n f e e a = e := by
  unfold cjr; rw [G.one_r _ (G.iv_lt ha), G.iv_mul ha]
theorem Grp.iv_cjr (G : Grp n f e) {x a : Nat} (hx : x < n) (ha : a < n) : iv n f e (cjr n f e x a) = cjr n f e (iv n f e x) a :=
  (G.iv_unique (G.cjr_lt hx ha) (G.cjr_lt (G.iv_lt hx) ha) (.inl (by rw [← G.cjr_hom hx (G.iv_lt hx) ha, G.mul_iv hx, G.cjr_one ha]))).symm
theorem Grp.cmt_lt (G : Grp n f e) {a b : Nat} (ha : a < n) (hb : b < n) : cmt n f e a b < n := G.cl _ _ (G.cl _ _ (G.iv_lt ha) (G.iv_lt hb)) (G.cl _ _ ha hb)
theorem Grp.cmt_cjr (G : Grp n f e) {x a : Nat} (hx : x < n) (ha : a < n) : cmt n f e x a = f (iv n f e x) (cjr n f e x a) := by
  have ia := G.iv_lt ha
  unfold cmt cjr
  rw [G.assoc _ _ _ (G.iv_lt hx) ia (G.cl _ _ hx ha), G.assoc _ x a ia hx ha]
theorem Grp.cjr_cmt (G : Grp n f e) {x y a : Nat} (hx : x < n) (hy : y < n) (ha : a < n) : cjr n f e (cmt n f e x y) a = cmt n f e (cjr n f e x a) (cjr n f e y a) := by
  have ix := G.iv_lt hx
  have iy := G.iv_lt hy
  unfold cmt
  rw [G.cjr_hom (G.cl _ _ ix iy) (G.cl _ _ hx hy) ha, G.cjr_hom ix iy ha, G.cjr_hom hx hy ha, G.iv_cjr hx ha, G.iv_cjr hy ha]

theorem Grp.shf_back (G : Grp n f e) {p : Nat → Bool} {a y : Nat} (ha : a < n) (hy : y < n) : shf n f e p a y = p (cjr n f e y (iv n f e a)) := by
  rw [Bool.eq_iff_iff, shf_iff]
  constructor
  · rintro ⟨x, x1, x2, rfl⟩; rwa [G.cjr_iv x1 ha]
  · intro h; exact ⟨_, G.cjr_lt hy (G.iv_lt ha), h, G.cjr_vi hy ha⟩
end
end Go.Proofs.YtboadfahlflmhaaDoor

/-
  Cosets: right, left and double; how many, how great. Conditions: none.
-/
set_option linter.all false
namespace Go.Proofs.YtboadfahlflmhaaDoor
open Go.Pv

/-- The one alone. -/
def onp (e x : Nat) : Bool := decide (x = e)
/-- Is b = x a y for some x of p, y of q? -/
def dco (n : Nat) (f : Nat → Nat → Nat) (p q : Nat → Bool) (a b : Nat) : Bool := decide (∃ x, x < n ∧ p x = true ∧ ∃ y, y < n ∧ q y = true ∧ f (f x a) y = b)

theorem mem_bij {n : Nat} {P Q : Nat → Bool} (g : Nat → Nat) (h1 : ∀ x, x < n → P x = true → g x < n ∧ Q (g x) = true) (hi : ∀ x y, x < n → y < n → P x = true → P y = true → g x = g y → x = y) (h2 : ∀ y, y < n → Q y = true → ∃ x, x < n ∧ P x = true ∧ g x = y) : (mem n P).length = (mem n Q).length := by
  rw [← List.length_map (f := g) («as» := mem n P)]
  refine same_len (nodup_map (List.nodup_range.filter _) fun x hx y hy he => hi x y (mem_mem.1 hx).1 (mem_mem.1 hy).1 (mem_mem.1 hx).2 (mem_mem.1 hy).2 he) (List.nodup_range.filter _) fun y => ?_
  rw [List.mem_map, mem_mem]
  constructor
  · rintro ⟨x, hx, rfl⟩
    exact h1 x (mem_mem.1 hx).1 (mem_mem.1 hx).2
  · rintro ⟨y1, y2⟩
    obtain ⟨x, x1, x2, x3⟩ := h2 y y1 y2
    exact ⟨x, mem_mem.2 ⟨x1, x2⟩, x3⟩
theorem mem_congr {n : Nat} {P Q : Nat → Bool} (h : ∀ a, a < n → P a = Q a) : mem n P = mem n Q := List.filter_congr fun a ha => h a (List.mem_range.1 ha)

section
variable {n : Nat} {f : Nat → Nat → Nat} {e : Nat} {p q : Nat → Bool}
theorem dco_iff {a b : Nat} : dco n f p q a b = true ↔ ∃ x y, x < n ∧ y < n ∧ p x = true ∧ q y = true ∧ f (f x a) y = b := by
  unfold dco; rw [decide_eq_true_iff]
  exact ⟨fun ⟨x, h1, h2, y, h3, h4, h5⟩ => ⟨x, y, h1, h3, h2, h4, h5⟩, fun ⟨x, y, h1, h3, h2, h4, h5⟩ => ⟨x, h1, h2, y, h3, h4, h5⟩⟩
theorem onp_iff {x : Nat} : onp e x = true ↔ x = e := by unfold onp; exact decide_eq_true_iff
theorem Grp.onp_sub (G : Grp n f e) : Sub n f e (onp e) :=
  sub_of G (onp_iff.2 rfl) fun a b ha hb h1 h2 => by
    rw [onp_iff] at *; subst h1; subst h2; exact G.one_l _ ha

theorem Grp.dco_eqv (G : Grp n f e) (hp : Sub n f e p) (hq : Sub n f e q) : Eqv n (dco n f p q) where
  refl a ha := dco_iff.2 ⟨e, e, G.el, G.el, hp.one, hq.one, by rw [G.one_l a ha, G.one_r a ha]⟩
  symm a b ha hb h := by
    obtain ⟨x, y, x1, y1, x2, y2, rfl⟩ := dco_iff.1 h
    have ix := G.iv_lt x1
    have iy := G.iv_lt y1
    have hxa := G.cl _ _ x1 ha
    refine dco_iff.2 ⟨iv n f e x, iv n f e y, ix, iy, hp.inv x x1 x2, hq.inv y y1 y2, ?_⟩
    rw [← G.assoc _ _ y ix hxa y1, ← G.assoc _ x a ix x1 ha, G.iv_mul x1, G.one_l a ha, G.assoc a y _ ha y1 iy, G.mul_iv y1, G.one_r a ha]
  trans a b c ha hb hc h1 h2 := by
    obtain ⟨x, y, x1, y1, x2, y2, rfl⟩ := dco_iff.1 h1
    obtain ⟨u, v, u1, v1, u2, v2, rfl⟩ := dco_iff.1 h2
    have hxa := G.cl _ _ x1 ha
    refine dco_iff.2 ⟨f u x, f y v, G.cl _ _ u1 x1, G.cl _ _ y1 v1, hp.mul _ _ u1 x1 u2 x2, hq.mul _ _ y1 v1 y2 v2, ?_⟩
    rw [G.assoc u x a u1 x1 ha, ← G.assoc _ y v (G.cl _ _ u1 hxa) y1 v1, G.assoc u (f x a) y u1 hxa y1]
/-- Right and left ones. -/
theorem Grp.rco_iff (G : Grp n f e) {a b : Nat} (ha : a < n) (hb : b < n) : dco n f p (onp e) a b = p (f b (iv n f e a)) := by
  rw [Bool.eq_iff_iff, dco_iff]
  constructor
  · rintro ⟨x, y, x1, y1, x2, y2, rfl⟩
    rw [onp_iff.1 y2, G.one_r _ (G.cl _ _ x1 ha), G.assoc x a _ x1 ha (G.iv_lt ha), G.mul_iv ha, G.one_r x x1]; exact x2
  · intro h
    refine ⟨f b (iv n f e a), e, G.cl _ _ hb (G.iv_lt ha), G.el, h, onp_iff.2 rfl, ?_⟩
    rw [G.assoc b _ a hb (G.iv_lt ha) ha, G.iv_mul ha, G.one_r b hb, G.one_r b hb]
/-- As many things in each. -/
theorem Grp.rco_len (G : Grp n f e) {a : Nat} (ha : a < n) : (mem n (dco n f p (onp e) a)).length = (mem n p).length := by
  refine (mem_bij (fun x => f x a) (fun x hx h => ⟨G.cl _ _ hx ha, dco_iff.2 ⟨x, e, hx, G.el, h, onp_iff.2 rfl, G.one_r _ (G.cl _ _ hx ha)⟩⟩) (fun x y hx hy _ _ h => G.cancel_r ha hx hy h) fun y hy h => ?_).symm
  obtain ⟨x, z, x1, z1, x2, z2, rfl⟩ := dco_iff.1 h
  exact ⟨x, x1, x2, by rw [onp_iff.1 z2, G.one_r _ (G.cl _ _ x1 ha)]⟩
theorem sum_same {α : Type} {g : α → Nat} {k : Nat} : ∀ {l : List α}, (∀ x ∈ l, g x = k) → (l.map g).sum = l.length * k
  | [], _ => by simp
  | a :: l, h => by
    rw [List.map_cons, List.sum_cons, sum_same (l := l) fun x hx => h x (by simp [hx]), h a (by simp), List.length_cons, Nat.add_mul, Nat.one_mul, Nat.add_comm]
theorem Grp.rco_num (G : Grp n f e) (hp : Sub n f e p) : (mem n (lead (dco n f p (onp e)))).length * (mem n p).length = n := by
  have h := (G.dco_eqv hp G.onp_sub).sum
  rwa [sum_same fun x hx => G.rco_len (mem_mem.1 hx).1] at h
theorem Sub.pos (hp : Sub n f e p) (he : e < n) : 0 < (mem n p).length := List.length_pos_of_mem (mem_mem.2 ⟨he, hp.one⟩)
/-- A subgroup, conjugated. -/
theorem Grp.shf_sub (G : Grp n f e) (hp : Sub n f e p) {a : Nat} (ha : a < n) : Sub n f e (shf n f e p a) :=
  sub_of G (shf_iff.2 ⟨e, G.el, hp.one, G.cjr_one ha⟩) fun x y hx hy h1 h2 => by
    obtain ⟨u, u1, u2, rfl⟩ := shf_iff.1 h1
    obtain ⟨v, v1, v2, rfl⟩ := shf_iff.1 h2
    exact shf_iff.2 ⟨f u v, G.cl _ _ u1 v1, hp.mul _ _ u1 v1 u2 v2, G.cjr_hom u1 v1 ha⟩
theorem Grp.shf_len (G : Grp n f e) {a : Nat} (ha : a < n) : (mem n (shf n f e p a)).length = (mem n p).length := by
  refine (mem_bij (fun x => cjr n f e x a) (fun x hx h => ⟨G.cjr_lt hx ha, shf_iff.2 ⟨x, hx, h, rfl⟩⟩) (fun x y hx hy _ _ h => ?_) fun y hy h => ?_).symm
  · have := congrArg (fun z => cjr n f e z (iv n f e a)) h
    simp only [G.cjr_iv hx ha, G.cjr_iv hy ha] at this
    exact this
  · obtain ⟨x, x1, x2, x3⟩ := shf_iff.1 h
    exact ⟨x, x1, x2, x3⟩
/-- FROBENIUS: how many things a double coset has. -/
theorem Grp.dco_count (G : Grp n f e) (hp : Sub n f e p) (hq : Sub n f e q) {a : Nat} (ha : a < n) : (mem n (dco n f p q a)).length * (mem n fun x => shf n f e p a x && q x).length = (mem n p).length * (mem n q).length := by
  have h := G.prod_count (G.shf_sub hp ha) hq
  rw [G.shf_len ha] at h
  rw [← h]
  congr 1
  have ia := G.iv_lt ha
  refine mem_bij (fun x => f (iv n f e a) x) (fun x hx h => ⟨G.cl _ _ ia hx, ?_⟩) (fun x y hx hy _ _ h => G.cancel_l ia hx hy h) fun y hy h => ?_
  · obtain ⟨u, v, u1, v1, u2, v2, rfl⟩ := dco_iff.1 h
    have hua := G.cl _ _ u1 ha
    have hc := G.cjr_lt u1 ha
    refine pr2_iff.2 ⟨cjr n f e u a, hc, shf_iff.2 ⟨u, u1, u2, rfl⟩, ?_⟩
    have : f (iv n f e a) (f (f u a) v) = f (cjr n f e u a) v := by
      unfold cjr
      rw [← G.assoc _ (f u a) v ia hua v1, ← G.assoc _ u a ia u1 ha]
    rw [this, ← G.assoc _ _ v (G.iv_lt hc) hc v1, G.iv_mul hc, G.one_l v v1]; exact v2
  · obtain ⟨i, i1, i2, i3⟩ := pr2_iff.1 h
    obtain ⟨u, u1, u2, rfl⟩ := shf_iff.1 i2
    refine ⟨f a y, G.cl _ _ ha hy, dco_iff.2 ⟨u, _, u1, G.cl _ _ (G.iv_lt i1) hy, u2, i3, ?_⟩, ?_⟩
    · have hua := G.cl _ _ u1 ha
      have : f u a = f a (cjr n f e u a) := by
        unfold cjr
        rw [← G.assoc a _ a ha (G.cl _ _ ia u1) ha, ← G.assoc a _ u ha ia u1, G.mul_iv ha, G.one_l u u1]
      rw [this, G.assoc a _ _ ha i1 (G.cl _ _ (G.iv_lt i1) hy), ← G.assoc _ _ y i1 (G.iv_lt i1) hy, G.mul_iv i1, G.one_l y hy]
    · show f (iv n f e a) (f a y) = y
      rw [← G.assoc _ a y ia ha hy, G.iv_mul ha, G.one_l y hy]

/-! ### Towers -/

/-- Classes in a set that has whole classes. -/
theorem Eqv.part {r : Nat → Nat → Bool} (h : Eqv n r) {K : Nat → Bool} (hK : ∀ x y, x < n → y < n → r x y = true → K x = true → K y = true) : ((mem n fun x => lead r x && K x).map fun x => (mem n (r x)).length).sum = (mem n K).length := by
  have h1 := sum_filter (fun x y => r x y) (mem n fun x => lead r x && K x) (List.range n)
  have h2 : ∀ y, y ∈ List.range n → ((mem n fun x => lead r x && K x).filter fun x => r x y).length = if K y = true then 1 else 0 := fun y hy => by
    have y1 := List.mem_range.1 hy
    by_cases hk : K y = true
    · rw [if_pos hk, ← h.one y1]
      congr 1
      unfold mem
      rw [List.filter_filter, List.filter_filter]
      refine List.filter_congr fun x hx => ?_
      have x1 := List.mem_range.1 hx
      cases hr : r x y with
      | false => simp
      | true => rw [hK y x y1 x1 (h.symm x y x1 y1 hr) hk]; simp
    · rw [if_neg hk, List.length_eq_zero_iff, List.filter_eq_nil_iff]
      intro x hx hr
      obtain ⟨x1, x2⟩ := mem_mem.1 hx
      rw [Bool.and_eq_true] at x2
      exact hk (hK x y x1 y1 hr x2.2)
  have h3 : ((List.range n).map fun y => ((mem n fun x => lead r x && K x).filter fun x => r x y).length).sum = (mem n K).length := by
    rw [List.map_congr_left h2]
    unfold mem
    generalize List.range n = L
    induction L with
    | nil => rfl
    | cons a L ih => rw [List.map_cons, List.sum_cons, ih, List.filter_cons]; by_cases hk : K a = true <;> simp [hk, Nat.add_comm]
  exact h1.trans h3
/-! ### Sides -/

end
end Go.Proofs.YtboadfahlflmhaaDoor

/-
  Series of subgroups: commutators of commutators, from all on; what commutes up to the last one, from the one on. Conditions: none.
-/
set_option linter.all false
namespace Go.Proofs.YtboadfahlflmhaaDoor
open Go.Pv

/-- What commutes with all, up to a set. -/
def unx (n : Nat) (f : Nat → Nat → Nat) (e : Nat) (p : Nat → Bool) (a : Nat) : Bool := decide (∀ b, b < n → p (cmt n f e a b) = true)
def itr (nx : (Nat → Bool) → Nat → Bool) (p : Nat → Bool) : Nat → Nat → Bool
  | 0 => p
  | k + 1 => nx (itr nx p k)
/-- A series comes to its end at K. -/
structure Stp (n : Nat) (T : Nat → Nat → Bool) (K : Nat) : Prop where
  eq : ∀ a, a < n → T (K + 1) a = T K a
  ne : ∀ j, j < K → ¬ ∀ a, a < n → T (j + 1) a = T j a

theorem mem_lt {n : Nat} {p q : Nat → Bool} (h : ∀ a, a < n → q a = true → p a = true) (hne : ¬ ∀ a, a < n → q a = p a) : (mem n q).length < (mem n p).length := by
  have h1 : mem n q = (mem n p).filter q := by
    unfold mem
    rw [List.filter_filter]
    refine List.filter_congr fun a ha => ?_
    have := h a (List.mem_range.1 ha)
    cases hq : q a with
    | false => simp
    | true => simp [this hq]
  have h2 : (mem n q).Sublist (mem n p) := by rw [h1]; exact List.filter_sublist
  rcases Nat.lt_or_eq_of_le h2.length_le with h3 | h3
  · exact h3
  · exfalso
    have h4 := h2.eq_of_length h3
    refine hne fun a ha => ?_
    rw [Bool.eq_iff_iff]
    have : a ∈ mem n q ↔ a ∈ mem n p := by rw [h4]
    rw [mem_mem, mem_mem] at this
    exact ⟨fun h => (this.1 ⟨ha, h⟩).2, fun h => (this.2 ⟨ha, h⟩).2⟩

theorem Stp.after {n : Nat} {nx : (Nat → Bool) → Nat → Bool} {p : Nat → Bool} {K : Nat} (hx : ∀ p q : Nat → Bool, (∀ a, a < n → p a = q a) → ∀ a, a < n → nx p a = nx q a) (h : Stp n (itr nx p) K) : ∀ j a, a < n → itr nx p (K + j) a = itr nx p K a
  | 0, a, ha => rfl
  | j + 1, a, ha => by
    have h1 := hx _ _ (fun b hb => Stp.after hx h j b hb) a ha
    exact h1.trans (h.eq a ha)

section
variable {n : Nat} {f : Nat → Nat → Nat} {e : Nat}
theorem unx_iff {p : Nat → Bool} {a : Nat} : unx n f e p a = true ↔ ∀ b, b < n → p (cmt n f e a b) = true := by unfold unx; exact decide_eq_true_iff
theorem Gen.congr {p q : Nat → Bool} (h : ∀ a, a < n → p a = q a) {a : Nat} : Gen n f e p a ↔ Gen n f e q a :=
  ⟨Gen.mono fun b hb h1 => by rw [← h b hb]; exact h1, Gen.mono fun b hb h1 => by rw [h b hb]; exact h1⟩
theorem Grp.all_sub (G : Grp n f e) : Sub n f e fun _ => true := sub_of G rfl fun _ _ _ _ _ _ => rfl
theorem Grp.one_nml (G : Grp n f e) : Nml n f e (onp e) := fun a ha x hx h => by
  rw [onp_iff] at *
  rw [h, G.cjr_one ha]
theorem Grp.cmt_in (G : Grp n f e) {p : Nat → Bool} (hs : Sub n f e p) (hn : Nml n f e p) {x b : Nat} (hx : x < n) (hb : b < n) (h : p x = true) : p (cmt n f e x b) = true := by
  rw [G.cmt_cjr hx hb]
  exact hs.mul _ _ (G.iv_lt hx) (G.cjr_lt hx hb) (hs.inv x hx h) (hn b hb x hx h)

/-! ### Falling -/

section
variable {nx : (Nat → Bool) → Nat → Bool}
end
/-! ### Rising -/

theorem Grp.unx_in (G : Grp n f e) {p : Nat → Bool} (hs : Sub n f e p) (hn : Nml n f e p) {x : Nat} (hx : x < n) (h : p x = true) : unx n f e p x = true := unx_iff.2 fun b hb => G.cmt_in hs hn hx hb h
theorem Grp.unx_sub (G : Grp n f e) {p : Nat → Bool} (hs : Sub n f e p) (hn : Nml n f e p) : Sub n f e (unx n f e p) := by
  refine sub_of G (G.unx_in hs hn G.el hs.one) fun x y hx hy h1 h2 => unx_iff.2 fun b hb => ?_
  have ix := G.iv_lt hx
  have iy := G.iv_lt hy
  have hxb := G.cjr_lt hx hb
  have hyb := G.cjr_lt hy hb
  have hcx := G.cmt_lt hx hb
  have h3 := hs.mul _ _ (G.cjr_lt hcx hy) (G.cmt_lt hy hb) (hn y hy _ hcx (unx_iff.1 h1 b hb)) (unx_iff.1 h2 b hb)
  have : cmt n f e (f x y) b = f (cjr n f e (cmt n f e x b) y) (cmt n f e y b) := by
    have e1 : cjr n f e (cmt n f e x b) y = f (f (iv n f e y) (cmt n f e x b)) y := rfl
    rw [G.cmt_cjr (G.cl _ _ hx hy) hb, G.iv_prod hx hy, G.cjr_hom hx hy hb, e1, G.cmt_cjr hy hb, G.assoc (f (iv n f e y) (cmt n f e x b)) y _ (G.cl _ _ iy hcx) hy (G.cl _ _ iy hyb), ← G.assoc y (iv n f e y) _ hy iy hyb, G.mul_iv hy, G.one_l _ hyb, G.cmt_cjr hx hb, G.assoc (iv n f e y) (iv n f e x) _ iy ix (G.cl _ _ hxb hyb), ← G.assoc (iv n f e x) _ _ ix hxb hyb, ← G.assoc (iv n f e y) _ _ iy (G.cl _ _ ix hxb) hyb]
  rw [this]; exact h3
theorem Grp.unx_nml (G : Grp n f e) {p : Nat → Bool} (hn : Nml n f e p) : Nml n f e (unx n f e p) := fun c hc x hx h => unx_iff.2 fun b hb => by
  have ic := G.iv_lt hc
  have hbc := G.cjr_lt hb ic
  have h1 := hn c hc _ (G.cmt_lt hx hbc) (unx_iff.1 h _ hbc)
  rwa [G.cjr_cmt hx hbc hc, G.cjr_vi hb hc] at h1
theorem Grp.rise (G : Grp n f e) : ∀ k, Sub n f e (itr (unx n f e) (onp e) k) ∧ Nml n f e (itr (unx n f e) (onp e) k)
  | 0 => ⟨G.onp_sub, G.one_nml⟩
  | k + 1 => ⟨G.unx_sub (G.rise k).1 (G.rise k).2, G.unx_nml (G.rise k).2⟩
end
end Go.Proofs.YtboadfahlflmhaaDoor

/-
  Plain law, FROBENIUS' THEOREM: what commutes with y, taken by y's powers, is a group on the least things of cosets. Conditions: none.
-/
set_option linter.all false
namespace Go.Proofs.YtboadfahlflmhaaDoor
open Go.Pv

section
variable {n : Nat} {f : Nat → Nat → Nat} {e : Nat}

/-- The same but for a power of y. -/
def sm (n : Nat) (f : Nat → Nat → Nat) (e y x z : Nat) : Prop := ∃ j, j < ord n f e y ∧ z = f x (pw f e y j)
instance (n : Nat) (f : Nat → Nat → Nat) (e y x z : Nat) : Decidable (sm n f e y x z) := by unfold sm; infer_instance

/-- The least of a coset. -/
def rp (n : Nat) (f : Nat → Nat → Nat) (e y x : Nat) : Nat := (fst' (fun z => decide (sm n f e y x z)) n).getD 0

/-- The quotient's things. -/
def quo (n : Nat) (f : Nat → Nat → Nat) (e y : Nat) : List Nat := mem n fun x => cen f y x && decide (rp n f e y x = x)
end
end Go.Proofs.YtboadfahlflmhaaDoor

/-
  Plain law, FROBENIUS' THEOREM: how many things the quotient of a centraliser has, and how many solutions. Conditions: none.
-/
set_option linter.all false
namespace Go.Proofs.YtboadfahlflmhaaDoor
open Go.Pv

section
variable {n : Nat} {f : Nat → Nat → Nat} {e : Nat}

end
end Go.Proofs.YtboadfahlflmhaaDoor

/-
  Plain law, FROBENIUS' THEOREM: of a divisor m of n so many things are, m times, the one, as a multiple of m. Conditions: none.
-/
set_option linter.all false
namespace Go.Proofs.YtboadfahlflmhaaDoor
open Go.Pv

section
variable {n : Nat} {f : Nat → Nat → Nat} {e : Nat}

/-! ### Primes -/

theorem prime_cop {p s : Nat} (hp : ∀ d, d ∣ p → d = 1 ∨ d = p) (h : ¬ p ∣ s) : Nat.gcd p s = 1 := by
  rcases hp _ (Nat.gcd_dvd_left p s) with h1 | h1
  · exact h1
  · exact absurd (h1 ▸ Nat.gcd_dvd_right p s) h
theorem dvd_ppow {p : Nat} (hp2 : 2 ≤ p) (hp : ∀ d, d ∣ p → d = 1 ∨ d = p) : ∀ {k d : Nat}, d ∣ p ^ (k + 1) → d = p ^ (k + 1) ∨ d ∣ p ^ k
  | k, d, h => by
    by_cases hpd : p ∣ d
    · obtain ⟨c, rfl⟩ := hpd
      rw [Nat.pow_succ, Nat.mul_comm _ p] at h
      have h1 := Nat.dvd_of_mul_dvd_mul_left (by omega) h
      match k, h1 with
      | 0, h1 =>
        have : c = 1 := Nat.dvd_one.1 (by simpa using h1)
        left; simp [this]
      | k + 1, h1 =>
        rcases dvd_ppow hp2 hp h1 with h2 | h2
        · left; rw [h2, Nat.pow_succ p (k + 1), Nat.mul_comm]
        · right; rw [Nat.pow_succ, Nat.mul_comm _ p]; exact Nat.mul_dvd_mul (Nat.dvd_refl p) h2
    · right
      have hc : Nat.Coprime d p := Nat.Coprime.symm (prime_cop hp hpd)
      rw [Nat.pow_succ] at h
      exact Nat.Coprime.dvd_of_dvd_mul_right hc h

end
end Go.Proofs.YtboadfahlflmhaaDoor

/-
  Plain law, SYLOW'S THEOREMS: subgroups of a power of a prime of things. Conditions: none.
-/
set_option linter.all false
namespace Go.Proofs.YtboadfahlflmhaaDoor
open Go.Pv

section
variable {n : Nat} {f : Nat → Nat → Nat} {e : Nat} {p q s : Nat → Bool} {P : Nat}

theorem isPr.pow_div (hP : isPr P) : ∀ {k d : Nat}, d ∣ P ^ k → ∃ i, i ≤ k ∧ d = P ^ i
  | 0, d, h => ⟨0, Nat.le_refl _, by simpa using h⟩
  | k + 1, d, h => by
    rcases dvd_ppow hP.1 (fun d hd => hP.div hd) h with h | h
    · exact ⟨k + 1, Nat.le_refl _, h⟩
    · obtain ⟨i, hi, h⟩ := hP.pow_div h
      exact ⟨i, by omega, h⟩
theorem isPr.pos (hP : isPr P) (k : Nat) : 0 < P ^ k := Nat.pow_pos (by have := hP.1; omega)
theorem isPr.le_of_dvd (hP : isPr P) {i j : Nat} (h : P ^ i ∣ P ^ j) : i ≤ j := by
  have h1 := Nat.le_of_dvd (hP.pos j) h
  exact (Nat.pow_le_pow_iff_right hP.1).1 h1
theorem isPr.mul (hP : isPr P) {a b : Nat} (h : P ∣ a * b) : P ∣ a ∨ P ∣ b := by
  by_cases ha : P ∣ a
  · exact .inl ha
  · exact .inr (Nat.Coprime.dvd_of_dvd_mul_left (hP.cop ha) h)

/-- What lets a set stay, by one way of the two. -/
theorem Grp.nzr_of (G : Grp n f e) (hp : Sub n f e p) {a : Nat} (ha : a < n) (h : ∀ y, y < n → shf n f e p a y = true → p y = true) : nzr n f e p a = true := by
  have h1 := G.shf_len (p := p) ha
  refine nzr_iff.2 fun y hy => ?_
  by_cases hy2 : shf n f e p a y = p y
  · exact hy2
  · exfalso
    have := mem_lt (n := n) h (fun hh => hy2 (hh y hy))
    omega

/-- THE COUNT: of a subgroup of a power of P things, and another: things that bring not the first into the second. -/
theorem Grp.syl_count (G : Grp n f e) (hP : isPr P) (hq : Sub n f e q) {i : Nat} (hi : (mem n q).length = P ^ i) (hs : Sub n f e s) :
    ∃ c, n = (mem n fun a => decide (∀ y, y < n → shf n f e q a y = true → s y = true)).length + P * (mem n s).length * c := by
  obtain ⟨K, hK⟩ : ∃ K : Nat → Bool, K = fun a => decide (∀ y, y < n → shf n f e q a y = true → s y = true) := ⟨_, rfl⟩
  have hKi : ∀ a, K a = true ↔ ∀ y, y < n → shf n f e q a y = true → s y = true := fun a => by rw [hK]; exact decide_eq_true_iff
  have E := G.dco_eqv hq hs
  have inv : ∀ x y, x < n → y < n → dco n f q s x y = true → K x = true → K y = true := by
    intro x y hx hy h hk
    obtain ⟨u, v, hu, hv, qu, sv, rfl⟩ := dco_iff.1 h
    refine (hKi _).2 fun z hz hzs => ?_
    obtain ⟨w, hw, qw, rfl⟩ := shf_iff.1 hzs
    have hux := G.cl _ _ hu hx
    rw [← G.cjr_cjr hw hux hv, ← G.cjr_cjr hw hu hx]
    have hwu := G.cjr_lt hw hu
    have h1 : q (cjr n f e w u) = true := hq.mul _ _ (G.cl _ _ (G.iv_lt hu) hw) hu (hq.mul _ _ (G.iv_lt hu) hw (hq.inv _ hu qu) qw) qu
    have h2 : s (cjr n f e (cjr n f e w u) x) = true := (hKi x).1 hk _ (G.cjr_lt hwu hx) (shf_iff.2 ⟨_, hwu, h1, rfl⟩)
    have hwx := G.cjr_lt hwu hx
    exact hs.mul _ _ (G.cl _ _ (G.iv_lt hv) hwx) hv (hs.mul _ _ (G.iv_lt hv) hwx (hs.inv _ hv sv) h2) sv
  have inv2 : ∀ x y, x < n → y < n → dco n f q s x y = true → (!K x) = true → (!K y) = true := by
    intro x y hx hy h hk
    cases hky : K y with
    | false => rfl
    | true => rw [inv y x hy hx (E.symm x y hx hy h) hky] at hk; cases hk
  have hsum := E.part (K := fun a => !K a) inv2
  have hdv : ∀ l : List Nat, (∀ x ∈ l, P * (mem n s).length ∣ (mem n (dco n f q s x)).length) → P * (mem n s).length ∣ (l.map fun x => (mem n (dco n f q s x)).length).sum := by
    intro l
    induction l with
    | nil => intro _; exact ⟨0, rfl⟩
    | cons x r ih =>
      intro h
      rw [List.map_cons, List.sum_cons]
      exact Nat.dvd_add (h x (by simp)) (ih fun y hy => h y (by simp [hy]))
  have hd := hdv (mem n fun x => lead (dco n f q s) x && !K x) (fun x hx => by
    obtain ⟨x1, x2⟩ := mem_mem.1 hx
    rw [Bool.and_eq_true] at x2
    have hc := G.dco_count hq hs x1
    have hsh := G.shf_sub hq x1
    have hm := hsh.and hs
    have hlen := G.shf_len (p := q) x1
    obtain ⟨i2, hi2, hmi⟩ := hP.pow_div (k := i) (d := (mem n fun y => shf n f e q x y && s y).length) (by
      rw [← hi, ← hlen]
      exact hm.dvd G fun a b ha hb h1 h2 => hsh.mul a b ha hb h1 (by rw [Bool.and_eq_true] at h2; exact h2.1))
    have hne : i2 ≠ i := fun h => by
      have hk : K x = true := (hKi x).2 fun y hy hys => by
        cases hsy : s y with
        | true => rfl
        | false =>
          exfalso
          have := mem_lt (n := n) (p := shf n f e q x) (q := fun y => shf n f e q x y && s y) (fun a _ h => by rw [Bool.and_eq_true] at h; exact h.1) (fun hh => by
            have := hh y hy
            rw [hys, hsy] at this; cases this)
          rw [hlen, hi, hmi, h] at this
          omega
      rw [hk] at x2; cases x2.2
    rw [hmi, hi] at hc
    obtain ⟨t, ht⟩ : ∃ t, i = i2 + 1 + t := ⟨i - i2 - 1, by omega⟩
    refine ⟨P ^ t, Nat.eq_of_mul_eq_mul_right (hP.pos i2) ?_⟩
    rw [hc, ht, Nat.pow_add, Nat.pow_succ]
    ac_rfl)
  rw [hsum] at hd
  obtain ⟨c, hc⟩ := hd
  refine ⟨c, ?_⟩
  have hsp : (mem n K).length + (mem n fun a => !K a).length = n := by
    have h := List.length_eq_countP_add_countP K (l := List.range n)
    rw [List.length_range, List.countP_eq_length_filter, List.countP_eq_length_filter] at h
    unfold mem
    rw [show (List.filter (fun a => !K a) (List.range n)) = List.filter (fun a => decide ¬K a = true) (List.range n) from List.filter_congr fun a _ => by cases K a <;> rfl]
    exact h.symm
  rw [hK] at hsp hc
  omega

/-- Some of Sylow's subgroups. -/
structure Syl (n : Nat) (f : Nat → Nat → Nat) (e P : Nat) (s : Nat → Bool) (j t : Nat) : Prop where
  sub : Sub n f e s
  len : (mem n s).length = P ^ j
  num : n = P ^ j * t
  non : ¬ P ∣ t

/-- ALL ARE IN ONE, CONJUGATED. -/
theorem Syl.holds {j t : Nat} (hS : Syl n f e P s j t) (G : Grp n f e) (hP : isPr P) (hq : Sub n f e q) {i : Nat} (hi : (mem n q).length = P ^ i) : ∃ a, a < n ∧ ∀ y, y < n → q y = true → shf n f e s a y = true := by
  obtain ⟨c, hc⟩ := G.syl_count hP hq hi hS.sub
  by_cases h0 : (mem n fun a => decide (∀ y, y < n → shf n f e q a y = true → s y = true)) = []
  · exfalso
    rw [h0, hS.len] at hc
    have h1 := hS.num
    rw [List.length_nil, Nat.zero_add] at hc
    have : P ^ j * t = P ^ j * (P * c) := by rw [← h1, ← show P * P ^ j * c = P ^ j * (P * c) by ac_rfl]; exact hc
    have := Nat.eq_of_mul_eq_mul_left (hP.pos j) this
    exact hS.non ⟨c, this⟩
  · obtain ⟨a, ha⟩ := List.exists_mem_of_ne_nil _ h0
    obtain ⟨a1, a2⟩ := mem_mem.1 ha
    rw [decide_eq_true_eq] at a2
    refine ⟨iv n f e a, G.iv_lt a1, fun y hy hqy => ?_⟩
    rw [G.shf_back (G.iv_lt a1) hy, G.iv_iv a1]
    exact a2 _ (G.cjr_lt hy a1) (shf_iff.2 ⟨y, hy, hqy, rfl⟩)

theorem Syl.shf {j t : Nat} (hS : Syl n f e P s j t) (G : Grp n f e) {a : Nat} (ha : a < n) : Syl n f e P (shf n f e s a) j t :=
  ⟨G.shf_sub hS.sub ha, by rw [G.shf_len ha]; exact hS.len, hS.num, hS.non⟩

/-- How many sets there are among the conjugated ones, as a list has them. -/
theorem Grp.conj_num (G : Grp n f e) (hs : Sub n f e s) {α : Type} [DecidableEq α] {code : (Nat → Bool) → α} (hcode : ∀ p q : Nat → Bool, code p = code q ↔ ∀ y, y < n → p y = q y) {L : List α} (hnd : L.Nodup)
    (hL : ∀ x, x ∈ L ↔ ∃ a, a < n ∧ x = code (Go.Proofs.YtboadfahlflmhaaDoor.shf n f e s a)) : L.length * (mem n (nzr n f e s)).length = n := by
  have h := dbl (R := fun a x => decide (code (Go.Proofs.YtboadfahlflmhaaDoor.shf n f e s a) = x)) (L1 := List.range n) (L2 := L) (c1 := 1) (c2 := (mem n (nzr n f e s)).length) (fun a ha => by
    have hm := (hL _).2 ⟨a, List.mem_range.1 ha, rfl⟩
    have : (L.filter fun w => decide (code (Go.Proofs.YtboadfahlflmhaaDoor.shf n f e s a) = w)).length = [code (Go.Proofs.YtboadfahlflmhaaDoor.shf n f e s a)].length := same_len (hnd.filter _) (by simp) fun x => by
      rw [List.mem_filter, List.mem_singleton, decide_eq_true_eq]
      exact ⟨fun h => h.2.symm, fun h => ⟨by rw [h]; exact hm, h.symm⟩⟩
    simpa using this) (fun x hx => by
    obtain ⟨a, ha, rfl⟩ := (hL x).1 hx
    have ia := G.iv_lt ha
    show (mem n fun b => decide (code (Go.Proofs.YtboadfahlflmhaaDoor.shf n f e s b) = code (Go.Proofs.YtboadfahlflmhaaDoor.shf n f e s a))).length = _
    refine mem_bij (fun b => f b (iv n f e a)) (fun b hb h => ⟨G.cl _ _ hb ia, ?_⟩) (fun x y hx hy _ _ h => G.cancel_r ia hx hy h) fun z hz h => ⟨f z a, G.cl _ _ hz ha, ?_, ?_⟩
    · rw [decide_eq_true_eq, hcode] at h
      refine nzr_iff.2 fun y hy => ?_
      have hba := G.cl _ _ hb ia
      rw [G.shf_back hba hy, G.iv_prod hb ia, G.iv_iv ha, ← G.cjr_cjr hy ha (G.iv_lt hb), ← G.shf_back (p := s) hb (G.cjr_lt hy ha), h _ (G.cjr_lt hy ha), G.shf_back ha (G.cjr_lt hy ha), G.cjr_iv hy ha]
    · rw [decide_eq_true_eq, hcode]
      intro y hy
      rw [G.shf_back (G.cl _ _ hz ha) hy, G.iv_prod hz ha, ← G.cjr_cjr hy ia (G.iv_lt hz), ← G.shf_back (p := s) hz (G.cjr_lt hy ia), nzr_iff.1 h _ (G.cjr_lt hy ia), ← G.shf_back (p := s) ha hy]
    · rw [G.assoc z a _ hz ha ia, G.mul_iv ha, G.one_r z hz])
  rw [List.length_range, Nat.mul_one] at h
  exact h.symm

end
end Go.Proofs.YtboadfahlflmhaaDoor

/-
  Plain law: how one of Sylow's subgroups is grown. Conditions: none.
-/
set_option linter.all false
namespace Go.Proofs.YtboadfahlflmhaaDoor
open Go.Pv

noncomputable def gn (n : Nat) (f : Nat → Nat → Nat) (e : Nat) (p : Nat → Bool) : Nat → Bool := Classical.choose (gen_ex n f e p)
theorem gn_iff {n : Nat} {f : Nat → Nat → Nat} {e : Nat} (p : Nat → Bool) : ∀ a, a < n → (gn n f e p a = true ↔ Gen n f e p a) := Classical.choose_spec (gen_ex n f e p)

section
variable {n : Nat} {f : Nat → Nat → Nat} {e : Nat} {p q s : Nat → Bool} {P : Nat}

end
end Go.Proofs.YtboadfahlflmhaaDoor

/-
  The types that the walk asks, a row each, checked by the kernel against the program. Conditions: none; a library text, written by a program of this repo.
-/
namespace Go.Proofs.YtboadfahlflmhaaDoor
open Go.Pv

def tab : TypeId → Option TI
  | 1 => some ⟨.other, 1, 8, [.nilFunc], false⟩
  | 2 => some ⟨.int .i64, 1, 8, [.int .i64 0], false⟩
  | 3 => some ⟨.int .i64, 1, 8, [.int .i64 0], false⟩
  | 4 => some ⟨.bool, 1, 1, [.bool false], false⟩
  | 5 => some ⟨.int .u8, 1, 1, [.int .u8 0], false⟩
  | 9 => some ⟨.str, 1, 16, [.string ⟨#[]⟩], false⟩
  | 12 => some ⟨.int .u64, 1, 8, [.int .u64 0], false⟩
  | 21 => some ⟨.int .i32, 1, 4, [.int .i32 0], false⟩
  | 22 => some ⟨.slice 3, 1, 24, [.slice none 0 0], false⟩
  | 24 => some ⟨.struct [(0, 3, 1), (1, 22, 1)], 2, 32, [.int .i64 0, .slice none 0 0], false⟩
  | 25 => some ⟨.slice 22, 1, 24, [.slice none 0 0], false⟩
  | 27 => some ⟨.struct [(0, 3, 1), (1, 3, 1)], 2, 16, [.int .i64 0, .int .i64 0], true⟩
  | 37 => some ⟨.other, 1, 8, [.nilFunc], false⟩
  | 48 => some ⟨.other, 1, 8, [.nilFunc], false⟩
  | 51 => some ⟨.other, 1, 8, [.nilFunc], false⟩
  | 53 => some ⟨.other, 1, 8, [.nilFunc], false⟩
  | 54 => some ⟨.other, 1, 8, [.nilFunc], false⟩
  | 59 => some ⟨.other, 1, 8, [.nilFunc], false⟩
  | 81 => some ⟨.slice 4, 1, 24, [.slice none 0 0], false⟩
  | 92 => some ⟨.map 3 3 (some (.int .i64 0)), 1, 8, [.map none], false⟩
  | 93 => some ⟨.int .u64, 1, 8, [.int .u64 0], false⟩
  | 94 => some ⟨.int .u64, 1, 8, [.int .u64 0], false⟩
  | 99 => some ⟨.slice 94, 1, 24, [.slice none 0 0], false⟩
  | 101 => some ⟨.slice 24, 1, 24, [.slice none 0 0], false⟩
  | 102 => some ⟨.other, 1, 8, [.nilFunc], false⟩
  | 107 => some ⟨.int .u64, 1, 8, [.int .u64 0], false⟩
  | 113 => some ⟨.other, 1, 8, [.nilFunc], false⟩
  | 115 => some ⟨.map 94 4 (some (.bool false)), 1, 8, [.map none], false⟩
  | 119 => some ⟨.int .i64, 1, 8, [.int .i64 0], false⟩
  | 127 => some ⟨.int .u32, 1, 4, [.int .u32 0], false⟩
  | 135 => some ⟨.array 64 5, 64, 64, [.int .u8 0, .int .u8 0, .int .u8 0, .int .u8 0, .int .u8 0, .int .u8 0, .int .u8 0, .int .u8 0, .int .u8 0, .int .u8 0, .int .u8 0, .int .u8 0, .int .u8 0, .int .u8 0, .int .u8 0, .int .u8 0, .int .u8 0, .int .u8 0, .int .u8 0, .int .u8 0, .int .u8 0, .int .u8 0, .int .u8 0, .int .u8 0, .int .u8 0, .int .u8 0, .int .u8 0, .int .u8 0, .int .u8 0, .int .u8 0, .int .u8 0, .int .u8 0, .int .u8 0, .int .u8 0, .int .u8 0, .int .u8 0, .int .u8 0, .int .u8 0, .int .u8 0, .int .u8 0, .int .u8 0, .int .u8 0, .int .u8 0, .int .u8 0, .int .u8 0, .int .u8 0, .int .u8 0, .int .u8 0, .int .u8 0, .int .u8 0, .int .u8 0, .int .u8 0, .int .u8 0, .int .u8 0, .int .u8 0, .int .u8 0, .int .u8 0, .int .u8 0, .int .u8 0, .int .u8 0, .int .u8 0, .int .u8 0, .int .u8 0, .int .u8 0], false⟩
  | 137 => some ⟨.int .u64, 1, 8, [.int .u64 0], false⟩
  | _ => none

theorem tab_1 : tiOf Tryd.prog 1 = some ⟨.other, 1, 8, [.nilFunc], false⟩ := by kernel_rfl
theorem tab_2 : tiOf Tryd.prog 2 = some ⟨.int .i64, 1, 8, [.int .i64 0], false⟩ := by kernel_rfl
theorem tab_3 : tiOf Tryd.prog 3 = some ⟨.int .i64, 1, 8, [.int .i64 0], false⟩ := by kernel_rfl
theorem tab_4 : tiOf Tryd.prog 4 = some ⟨.bool, 1, 1, [.bool false], false⟩ := by kernel_rfl
theorem tab_5 : tiOf Tryd.prog 5 = some ⟨.int .u8, 1, 1, [.int .u8 0], false⟩ := by kernel_rfl
theorem tab_9 : tiOf Tryd.prog 9 = some ⟨.str, 1, 16, [.string ⟨#[]⟩], false⟩ := by kernel_rfl
theorem tab_12 : tiOf Tryd.prog 12 = some ⟨.int .u64, 1, 8, [.int .u64 0], false⟩ := by kernel_rfl
theorem tab_21 : tiOf Tryd.prog 21 = some ⟨.int .i32, 1, 4, [.int .i32 0], false⟩ := by kernel_rfl
theorem tab_22 : tiOf Tryd.prog 22 = some ⟨.slice 3, 1, 24, [.slice none 0 0], false⟩ := by kernel_rfl
theorem tab_24 : tiOf Tryd.prog 24 = some ⟨.struct [(0, 3, 1), (1, 22, 1)], 2, 32, [.int .i64 0, .slice none 0 0], false⟩ := by kernel_rfl
theorem tab_25 : tiOf Tryd.prog 25 = some ⟨.slice 22, 1, 24, [.slice none 0 0], false⟩ := by kernel_rfl
theorem tab_27 : tiOf Tryd.prog 27 = some ⟨.struct [(0, 3, 1), (1, 3, 1)], 2, 16, [.int .i64 0, .int .i64 0], true⟩ := by kernel_rfl
theorem tab_37 : tiOf Tryd.prog 37 = some ⟨.other, 1, 8, [.nilFunc], false⟩ := by kernel_rfl
theorem tab_48 : tiOf Tryd.prog 48 = some ⟨.other, 1, 8, [.nilFunc], false⟩ := by kernel_rfl
theorem tab_51 : tiOf Tryd.prog 51 = some ⟨.other, 1, 8, [.nilFunc], false⟩ := by kernel_rfl
theorem tab_53 : tiOf Tryd.prog 53 = some ⟨.other, 1, 8, [.nilFunc], false⟩ := by kernel_rfl
theorem tab_54 : tiOf Tryd.prog 54 = some ⟨.other, 1, 8, [.nilFunc], false⟩ := by kernel_rfl
theorem tab_59 : tiOf Tryd.prog 59 = some ⟨.other, 1, 8, [.nilFunc], false⟩ := by kernel_rfl
theorem tab_81 : tiOf Tryd.prog 81 = some ⟨.slice 4, 1, 24, [.slice none 0 0], false⟩ := by kernel_rfl
theorem tab_92 : tiOf Tryd.prog 92 = some ⟨.map 3 3 (some (.int .i64 0)), 1, 8, [.map none], false⟩ := by kernel_rfl
theorem tab_93 : tiOf Tryd.prog 93 = some ⟨.int .u64, 1, 8, [.int .u64 0], false⟩ := by kernel_rfl
theorem tab_94 : tiOf Tryd.prog 94 = some ⟨.int .u64, 1, 8, [.int .u64 0], false⟩ := by kernel_rfl
theorem tab_99 : tiOf Tryd.prog 99 = some ⟨.slice 94, 1, 24, [.slice none 0 0], false⟩ := by kernel_rfl
theorem tab_101 : tiOf Tryd.prog 101 = some ⟨.slice 24, 1, 24, [.slice none 0 0], false⟩ := by kernel_rfl
theorem tab_102 : tiOf Tryd.prog 102 = some ⟨.other, 1, 8, [.nilFunc], false⟩ := by kernel_rfl
theorem tab_107 : tiOf Tryd.prog 107 = some ⟨.int .u64, 1, 8, [.int .u64 0], false⟩ := by kernel_rfl
theorem tab_113 : tiOf Tryd.prog 113 = some ⟨.other, 1, 8, [.nilFunc], false⟩ := by kernel_rfl
theorem tab_115 : tiOf Tryd.prog 115 = some ⟨.map 94 4 (some (.bool false)), 1, 8, [.map none], false⟩ := by kernel_rfl
theorem tab_119 : tiOf Tryd.prog 119 = some ⟨.int .i64, 1, 8, [.int .i64 0], false⟩ := by kernel_rfl
theorem tab_127 : tiOf Tryd.prog 127 = some ⟨.int .u32, 1, 4, [.int .u32 0], false⟩ := by kernel_rfl
theorem tab_135 : tiOf Tryd.prog 135 = some ⟨.array 64 5, 64, 64, [.int .u8 0, .int .u8 0, .int .u8 0, .int .u8 0, .int .u8 0, .int .u8 0, .int .u8 0, .int .u8 0, .int .u8 0, .int .u8 0, .int .u8 0, .int .u8 0, .int .u8 0, .int .u8 0, .int .u8 0, .int .u8 0, .int .u8 0, .int .u8 0, .int .u8 0, .int .u8 0, .int .u8 0, .int .u8 0, .int .u8 0, .int .u8 0, .int .u8 0, .int .u8 0, .int .u8 0, .int .u8 0, .int .u8 0, .int .u8 0, .int .u8 0, .int .u8 0, .int .u8 0, .int .u8 0, .int .u8 0, .int .u8 0, .int .u8 0, .int .u8 0, .int .u8 0, .int .u8 0, .int .u8 0, .int .u8 0, .int .u8 0, .int .u8 0, .int .u8 0, .int .u8 0, .int .u8 0, .int .u8 0, .int .u8 0, .int .u8 0, .int .u8 0, .int .u8 0, .int .u8 0, .int .u8 0, .int .u8 0, .int .u8 0, .int .u8 0, .int .u8 0, .int .u8 0, .int .u8 0, .int .u8 0, .int .u8 0, .int .u8 0, .int .u8 0], false⟩ := by kernel_rfl
theorem tab_137 : tiOf Tryd.prog 137 = some ⟨.int .u64, 1, 8, [.int .u64 0], false⟩ := by kernel_rfl

theorem tab_ok : ∀ t ti, tab t = some ti → tiOf Tryd.prog t = some ti := by
  intro t ti h
  unfold tab at h
  split at h
  · cases h; exact tab_1
  · cases h; exact tab_2
  · cases h; exact tab_3
  · cases h; exact tab_4
  · cases h; exact tab_5
  · cases h; exact tab_9
  · cases h; exact tab_12
  · cases h; exact tab_21
  · cases h; exact tab_22
  · cases h; exact tab_24
  · cases h; exact tab_25
  · cases h; exact tab_27
  · cases h; exact tab_37
  · cases h; exact tab_48
  · cases h; exact tab_51
  · cases h; exact tab_53
  · cases h; exact tab_54
  · cases h; exact tab_59
  · cases h; exact tab_81
  · cases h; exact tab_92
  · cases h; exact tab_93
  · cases h; exact tab_94
  · cases h; exact tab_99
  · cases h; exact tab_101
  · cases h; exact tab_102
  · cases h; exact tab_107
  · cases h; exact tab_113
  · cases h; exact tab_115
  · cases h; exact tab_119
  · cases h; exact tab_127
  · cases h; exact tab_135
  · cases h; exact tab_137
  · cases h

theorem mixed : Tryd.prog.follows .mixedOrders = true := by kernel_rfl

end Go.Proofs.YtboadfahlflmhaaDoor

/-
  Walks: the document's words of groups: product, one, inverse. Conditions: none.
-/
set_option linter.all false
namespace Go.Proofs.YtboadfahlflmhaaDoor
open Go.Pv

/-- A fault. -/
def fl (p : Int × Int) : PV := .agg [.int .i64 p.1, .int .i64 p.2]

/-- The product, out of the table. -/
def op (m : List Int) (n a b : Nat) : Nat := (m.getD (a * n + b) 0).toNat

structure Tab (n : Nat) (m : List Int) : Prop where
  pos : 1 ≤ n
  big : n ≤ 60
  len : m.length = n * n
  rng : ∀ i, i < n * n → 0 ≤ m.getD i 0 ∧ m.getD i 0 < n

theorem at_lt {n a b : Nat} (ha : a < n) (hb : b < n) : a * n + b < n * n := by
  have : (a + 1) * n ≤ n * n := Nat.mul_le_mul_right _ ha
  rw [Nat.add_mul, Nat.one_mul] at this
  omega
theorem sq_le {n : Nat} (h : n ≤ 60) : n * n ≤ 3600 := Nat.mul_le_mul h h

theorem Tab.val {n : Nat} {m : List Int} (T : Tab n m) {a b : Nat} (ha : a < n) (hb : b < n) : m.getD (a * n + b) 0 = ((op m n a b : Nat) : Int) := by
  have := T.rng _ (at_lt ha hb)
  unfold op; omega
theorem Tab.lt {n : Nat} {m : List Int} (T : Tab n m) {a b : Nat} (ha : a < n) (hb : b < n) : op m n a b < n := by
  have := T.rng _ (at_lt ha hb)
  unfold op; omega

theorem at_nat (a n b : Nat) : ((a : Int) * (n : Int) + (b : Int)).toNat = a * n + b := by
  have : (a : Int) * (n : Int) = ((a * n : Nat) : Int) := (Int.natCast_mul a n).symm
  omega

theorem m_c {n : Nat} {m : List Int} (T : Tab n m) {a b : Nat} (ha : a < n) (hb : b < n) : FnC Tryd.prog 75 [gp n m, .int .i64 a, .int .i64 b] (.int .i64 (op m n a b : Nat)) := by
  have h1 := at_lt ha hb
  have h2 := sq_le T.big
  have h3 := T.len
  have hc : (a : Int) * (n : Int) = ((a * n : Nat) : Int) := (Int.natCast_mul a n).symm
  have hv := T.val ha hb
  refine fnc_of tab_ok Tryd.func75 rfl (by kernel_rfl) (by rw [Tryd.ntmps75]; exact Nat.le_add_left 3 _) ?_; rw [Tryd.ntmps75]
  refine qm ?_
  refine hk_region fun K hK => runs_eval tab_ok ?_
  simp only [ev0, evA, evB, evP, fl, gp, tab, simprocAttr, reduceCtorEq, reduceIte]
  refine fin_run ?_ (hK _ ?_) <;> clear hK <;> clear K
  · (first | exact trivial | omega | (simp only [In64] at *; omega) | (simp [In64] at *; omega) | (simp_all; done) | skip)
  refine qa (qm ?_)
  refine hk_region fun K hK => runs_eval tab_ok ?_
  simp only [ev0, evA, evB, evP, fl, gp, tab, simprocAttr, reduceCtorEq, reduceIte, at_nat, il_get (show a * n + b < m.length by omega), hv]
  refine fin_run ?_ (hK _ ?_) <;> clear hK <;> clear K
  · rw [hc]; simp only [In64]; omega
  refine qa (qk ?_)
  simp only [Tryd.results75, enA, ev0, evA, evB, evP, fl, gp, tab, simprocAttr, reduceCtorEq, reduceIte]
  all_goals (rfl)

def isE (m : List Int) (n a : Nat) : Prop := ∀ b, b < n → op m n a b = b ∧ op m n b a = b
instance (m : List Int) (n a : Nat) : Decidable (isE m n a) := by unfold isE; infer_instance

/-- The first that is the one; -1. -/
def eI (m : List Int) (n : Nat) : Int := match fst' (fun a => decide (isE m n a)) n with | some a => (a : Int) | none => -1

theorem dall_no {P : Nat → Prop} {b : Nat} [Decidable (∀ c, c < b + 1 → P c)] (h : ¬ P b) : decide (∀ c, c < b + 1 → P c) = false := by
  simp only [decide_eq_false_iff_not]
  exact fun h' => h (h' b (Nat.lt_succ_self b))
theorem dall_yes {P : Nat → Prop} {b : Nat} [Decidable (∀ c, c < b + 1 → P c)] [Decidable (∀ c, c < b → P c)] (h : P b) : decide (∀ c, c < b + 1 → P c) = decide (∀ c, c < b → P c) := by
  apply decide_eq_decide.2
  constructor
  · exact fun h' c hc => h' c (by omega)
  · intro h' c hc
    by_cases e : c = b
    · subst e; exact h
    · exact h' c (by omega)

theorem e_c {n : Nat} {m : List Int} (T : Tab n m) : FnC Tryd.prog 62 [gp n m] (.int .i64 (eI m n)) := by
  have hb := T.big
  refine fnc_of tab_ok Tryd.func62 rfl (by kernel_rfl) (by rw [Tryd.ntmps62]; exact Nat.le_add_left 1 _) ?_; rw [Tryd.ntmps62]
  refine qm ?_
  refine hk_region fun K hK => runs_eval tab_ok ?_
  simp only [ev0, evA, evB, evP, fl, gp, tab, simprocAttr, reduceCtorEq, reduceIte]
  refine fin_run ?_ (hK _ ?_) <;> clear hK <;> clear K
  · (first | exact trivial | omega | (simp only [In64] at *; omega) | (simp [In64] at *; omega) | (simp_all; done) | skip)
  refine qa (qm (qm ?_))
  refine hk_region fun K hK => runs_eval tab_ok ?_
  simp only [ev0, evA, evB, evP, fl, gp, tab, simprocAttr, reduceCtorEq, reduceIte]
  refine fin_run trivial (hK _ ?_) <;> clear hK <;> clear K
  refine qa (ql ?_)
  refine hk_loop (ι := Nat) (fun i => ⟨34, [(1, .ptr 0 0), (3, .p (.int .i64 i))], [.own [.p (.int .i64 n), .p (.list (il m))]]⟩) (fun i => i ≤ n ∧ ∀ j, j < i → ¬ isE m n j) (fun i => n - i) 0 ⟨Nat.zero_le _, fun j hj => by omega⟩ [0] (by simp only [leq, leA, ev0, evA, evB, evP, fl, gp, tab, simprocAttr, reduceCtorEq, reduceIte] <;> trivial) fun i hi => ?_
  obtain ⟨hi1, hi2⟩ := hi
  refine qm (qm ?_)
  refine hk_region fun K hK => runs_eval tab_ok ?_
  simp only [ev0, evA, evB, evP, fl, gp, tab, simprocAttr, reduceCtorEq, reduceIte]
  refine fin_run ?_ (hK _ ?_) <;> clear hK <;> clear K
  · (first | exact trivial | omega | (simp only [In64] at *; omega) | (simp [In64] at *; omega) | (simp_all; done) | skip)
  refine qa ?_
  refine hk_cond rfl (fun hC1 => ?_) (fun hC1 => ?_)
  · (try simp only [nhs] at hC1)
    have hlt : i < n := by omega
    refine qh (qa (qm (ql (qm ?_))))
    refine hk_region fun K hK => runs_eval tab_ok ?_
    simp only [ev0, evA, evB, evP, fl, gp, tab, simprocAttr, reduceCtorEq, reduceIte]
    refine fin_run trivial (hK _ ?_) <;> clear hK <;> clear K
    refine qa (qm (qm ?_))
    refine hk_region fun K hK => runs_eval tab_ok ?_
    simp only [ev0, evA, evB, evP, fl, gp, tab, simprocAttr, reduceCtorEq, reduceIte]
    refine fin_run trivial (hK _ ?_) <;> clear hK <;> clear K
    refine qa (ql ?_)
    refine hk_loop (ι := Nat) (fun b => ⟨34, [(1, .ptr 0 0), (3, .p (.int .i64 i)), (4, .p (.bool (decide (∀ c, c < b → op m n i c = c ∧ op m n c i = c)))), (5, .p (.int .i64 b))], [.own [.p (.int .i64 n), .p (.list (il m))]]⟩) (fun b => b ≤ n) (fun b => n - b) 0 (Nat.zero_le _) [0] (by simp only [leq, leA, ev0, evA, evB, evP, fl, gp, tab, simprocAttr, reduceCtorEq, reduceIte] <;> simp) fun b hb => ?_
    refine qm (qm ?_)
    refine hk_region fun K hK => runs_eval tab_ok ?_
    simp only [ev0, evA, evB, evP, fl, gp, tab, simprocAttr, reduceCtorEq, reduceIte]
    refine fin_run ?_ (hK _ ?_) <;> clear hK <;> clear K
    · (first | exact trivial | omega | (simp only [In64] at *; omega) | (simp [In64] at *; omega) | (simp_all; done) | skip)
    refine qa ?_
    refine hk_cond rfl (fun hC2 => ?_) (fun hC2 => ?_)
    · (try simp only [nhs] at hC2)
      have hbl : b < n := by omega
      refine qh (qa (qm (ql (qm ?_))))
      by_cases g8a : (((op m n i b : Nat) : Int) = (b : Nat))
      · refine hk_region fun K hK => runs_eval tab_ok ?_
        simp only [ev0, evA, evB, evP, fl, gp, tab, simprocAttr, reduceCtorEq, reduceIte, decide_eq_true g8a]
        refine fin_stop trivial (runs_call (m_c T hlt hbl) rfl rfl rfl (by simp only [dstOk, Nat.reduceLT]) (by repeat (first | exact trivial | constructor)) (runs_eval tab_ok ?_))
        simp only [ev0, evA, evB, evP, fl, gp, tab, simprocAttr, reduceCtorEq, reduceIte, decide_eq_true g8a]
        refine fin_stop trivial (runs_call (m_c T hbl hlt) rfl rfl rfl (by simp only [dstOk, Nat.reduceLT]) (by repeat (first | exact trivial | constructor)) (runs_eval tab_ok ?_))
        simp only [ev0, evA, evB, evP, fl, gp, tab, simprocAttr, reduceCtorEq, reduceIte, decide_eq_true g8a]
        refine fin_run ?_ (hK _ ?_) <;> clear hK <;> clear K
        · (first | exact trivial | omega | (simp only [In64] at *; omega) | (simp [In64] at *; omega) | (simp_all; done) | skip)
        refine qa ?_
        refine hk_cond rfl (fun hC3 => ?_) (fun hC3 => ?_)
        · (try simp only [nhs] at hC3)
          have hno : ¬ (op m n i b = b ∧ op m n b i = b) := by omega
          refine hk_region fun K hK => runs_eval tab_ok ?_
          simp only [ev0, evA, evB, evP, fl, gp, tab, simprocAttr, reduceCtorEq, reduceIte]
          refine fin_run trivial (hK _ ?_) <;> clear hK <;> clear K
          refine qd (qa ?_)
          refine hk_region fun K hK => runs_eval tab_ok ?_
          simp only [ev0, evA, evB, evP, fl, gp, tab, simprocAttr, reduceCtorEq, reduceIte]
          refine fin_run ?_ (hK _ ?_) <;> clear hK <;> clear K
          · (first | exact trivial | omega | (simp only [In64] at *; omega) | (simp [In64] at *; omega) | (simp_all; done) | skip)
          refine qa ?_
          refine ⟨b + 1, [0], by omega, by omega, ?_⟩
          first | rw [dall_no hno] | rw [dall_yes hyes]
          simp only [leq, leA, ev0, evA, evB, evP, fl, gp, tab, simprocAttr, reduceCtorEq, reduceIte] <;> trivial
        · (try simp only [nhs] at hC3)
          have hyes : op m n i b = b ∧ op m n b i = b := by omega
          refine qh (qd (qa ?_))
          refine hk_region fun K hK => runs_eval tab_ok ?_
          simp only [ev0, evA, evB, evP, fl, gp, tab, simprocAttr, reduceCtorEq, reduceIte]
          refine fin_run ?_ (hK _ ?_) <;> clear hK <;> clear K
          · (first | exact trivial | omega | (simp only [In64] at *; omega) | (simp [In64] at *; omega) | (simp_all; done) | skip)
          refine qa ?_
          refine ⟨b + 1, [0], by omega, by omega, ?_⟩
          first | rw [dall_no hno] | rw [dall_yes hyes]
          simp only [leq, leA, ev0, evA, evB, evP, fl, gp, tab, simprocAttr, reduceCtorEq, reduceIte] <;> trivial
      · refine hk_region fun K hK => runs_eval tab_ok ?_
        simp only [ev0, evA, evB, evP, fl, gp, tab, simprocAttr, reduceCtorEq, reduceIte, decide_eq_false g8a]
        refine fin_stop trivial (runs_call (m_c T hlt hbl) rfl rfl rfl (by simp only [dstOk, Nat.reduceLT]) (by repeat (first | exact trivial | constructor)) (runs_eval tab_ok ?_))
        simp only [ev0, evA, evB, evP, fl, gp, tab, simprocAttr, reduceCtorEq, reduceIte, decide_eq_false g8a]
        refine fin_run ?_ (hK _ ?_) <;> clear hK <;> clear K
        · (first | exact trivial | omega | (simp only [In64] at *; omega) | (simp [In64] at *; omega) | (simp_all; done) | skip)
        refine qa ?_
        refine hk_cond rfl (fun hC3 => ?_) (fun hC3 => ?_)
        · have hno : ¬ (op m n i b = b ∧ op m n b i = b) := by omega
          refine hk_region fun K hK => runs_eval tab_ok ?_
          simp only [ev0, evA, evB, evP, fl, gp, tab, simprocAttr, reduceCtorEq, reduceIte]
          refine fin_run trivial (hK _ ?_) <;> clear hK <;> clear K
          refine qd (qa ?_)
          refine hk_region fun K hK => runs_eval tab_ok ?_
          simp only [ev0, evA, evB, evP, fl, gp, tab, simprocAttr, reduceCtorEq, reduceIte]
          refine fin_run ?_ (hK _ ?_) <;> clear hK <;> clear K
          · (first | exact trivial | omega | (simp only [In64] at *; omega) | (simp [In64] at *; omega) | (simp_all; done) | skip)
          refine qa ?_
          refine ⟨b + 1, [0], by omega, by omega, ?_⟩
          first | rw [dall_no hno] | rw [dall_yes hyes]
          simp only [leq, leA, ev0, evA, evB, evP, fl, gp, tab, simprocAttr, reduceCtorEq, reduceIte] <;> trivial
        · cases hC3
    · (try simp only [nhs] at hC2)
      refine qj (qc (qc (qf (qa (qm ?_)))))
      refine hk_region fun K hK => runs_eval tab_ok ?_
      simp only [ev0, evA, evB, evP, fl, gp, tab, simprocAttr, reduceCtorEq, reduceIte]
      refine fin_run trivial (hK _ ?_) <;> clear hK <;> clear K
      refine qa ?_
      refine hk_cond rfl (fun hC4 => ?_) (fun hC4 => ?_)
      · (try simp only [nhs] at hC4)
        have hE : isE m n i := by
          have : b = n := by omega
          subst this; exact hC4
        refine qm ?_
        refine hk_region fun K hK => runs_eval tab_ok ?_
        simp only [ev0, evA, evB, evP, fl, gp, tab, simprocAttr, reduceCtorEq, reduceIte]
        refine fin_run trivial (hK _ ?_) <;> clear hK <;> clear K
        refine qa (qk (qe (qb (qb (qe (qb ?_))))))
        simp only [Tryd.results62, enA, ev0, evA, evB, evP, fl, gp, tab, simprocAttr, reduceCtorEq, reduceIte]
        all_goals (unfold eI; rw [fst_some hlt (decide_eq_true hE) fun j hj => decide_eq_false (hi2 j hj)])
      · (try simp only [nhs] at hC4)
        refine qh (qd (qa ?_))
        refine hk_region fun K hK => runs_eval tab_ok ?_
        simp only [ev0, evA, evB, evP, fl, gp, tab, simprocAttr, reduceCtorEq, reduceIte]
        refine fin_run ?_ (hK _ ?_) <;> clear hK <;> clear K
        · (first | exact trivial | omega | (simp only [In64] at *; omega) | (simp [In64] at *; omega) | (simp_all; done) | skip)
        refine qa ?_
        refine ⟨i + 1, [0], ⟨by omega, fun j hj => ?_⟩, by omega, ?_⟩
        · by_cases hj : j = i
          · subst hj
            have : b = n := by omega
            subst this; exact hC4
          · exact hi2 j (by omega)
        · simp only [leq, leA, ev0, evA, evB, evP, fl, gp, tab, simprocAttr, reduceCtorEq, reduceIte] <;> omega
  · (try simp only [nhs] at hC1)
    refine qj (qc (qc (qf (qa (qm ?_)))))
    refine hk_region fun K hK => runs_eval tab_ok ?_
    simp only [ev0, evA, evB, evP, fl, gp, tab, simprocAttr, reduceCtorEq, reduceIte]
    refine fin_run trivial (hK _ ?_) <;> clear hK <;> clear K
    refine qa (qk ?_)
    simp only [Tryd.results62, enA, ev0, evA, evB, evP, fl, gp, tab, simprocAttr, reduceCtorEq, reduceIte]
    all_goals (unfold eI; rw [fst_none fun j hj => decide_eq_false (hi2 j (by omega))])
end Go.Proofs.YtboadfahlflmhaaDoor

/-
  Walks: the document's words of groups: faults. Conditions: none.
-/
set_option linter.all false
namespace Go.Proofs.YtboadfahlflmhaaDoor
open Go.Pv

theorem f_c (c a : Int) : FnC Tryd.prog 23 [.int .i64 c, .int .i64 a] (fl (c, a)) := by
  refine fnc_of tab_ok Tryd.func23 rfl (by kernel_rfl) (by rw [Tryd.ntmps23]; exact Nat.le_add_left 2 _) ?_; rw [Tryd.ntmps23]
  refine qm ?_
  refine hk_region fun K hK => runs_eval tab_ok ?_
  simp only [ev0, evA, evB, evP, fl, gp, tab, simprocAttr, reduceCtorEq, reduceIte]
  refine fin_run ?_ (hK _ ?_) <;> clear hK <;> clear K
  · (first | exact trivial | omega | (simp only [In64] at *; omega) | (simp [In64] at *; omega) | (simp_all; done) | skip)
  refine qa (qm ?_)
  refine hk_region fun K hK => runs_eval tab_ok ?_
  simp only [ev0, evA, evB, evP, fl, gp, tab, simprocAttr, reduceCtorEq, reduceIte]
  refine fin_run ?_ (hK _ ?_) <;> clear hK <;> clear K
  · (first | exact trivial | omega | (simp only [In64] at *; omega) | (simp [In64] at *; omega) | (simp_all; done) | skip)
  refine qa (qk ?_)
  simp only [Tryd.results23, enA, ev0, evA, evB, evP, fl, gp, tab, simprocAttr, reduceCtorEq, reduceIte]
  all_goals (rfl)

def iI (m : List Int) (n a : Nat) : Int := match fst' (fun b => decide (((op m n a b : Nat) : Int) = eI m n ∧ ((op m n b a : Nat) : Int) = eI m n)) n with | some b => (b : Int) | none => -1

theorem i_c {n : Nat} {m : List Int} (T : Tab n m) {a : Nat} (ha : a < n) : FnC Tryd.prog 87 [gp n m, .int .i64 a] (.int .i64 (iI m n a)) := by
  have hb := T.big
  refine fnc_of tab_ok Tryd.func87 rfl (by kernel_rfl) (by rw [Tryd.ntmps87]; exact Nat.le_add_left 2 _) ?_; rw [Tryd.ntmps87]
  refine qm ?_
  refine hk_region fun K hK => runs_eval tab_ok ?_
  simp only [ev0, evA, evB, evP, fl, gp, tab, simprocAttr, reduceCtorEq, reduceIte]
  refine fin_run ?_ (hK _ ?_) <;> clear hK <;> clear K
  · (first | exact trivial | omega | (simp only [In64] at *; omega) | (simp [In64] at *; omega) | (simp_all; done) | skip)
  refine qa (qm ?_)
  refine hk_region fun K hK => runs_eval tab_ok ?_
  simp only [ev0, evA, evB, evP, fl, gp, tab, simprocAttr, reduceCtorEq, reduceIte]
  refine fin_stop trivial (runs_call (e_c T) rfl rfl rfl (by simp only [dstOk, Nat.reduceLT]) (by repeat (first | exact trivial | constructor)) (runs_eval tab_ok ?_))
  simp only [ev0, evA, evB, evP, fl, gp, tab, simprocAttr, reduceCtorEq, reduceIte]
  refine fin_run ?_ (hK _ ?_) <;> clear hK <;> clear K
  · (first | exact trivial | omega | (simp only [In64] at *; omega) | (simp [In64] at *; omega) | (simp_all; done) | skip)
  refine qa (qm (qm ?_))
  refine hk_region fun K hK => runs_eval tab_ok ?_
  simp only [ev0, evA, evB, evP, fl, gp, tab, simprocAttr, reduceCtorEq, reduceIte]
  refine fin_run trivial (hK _ ?_) <;> clear hK <;> clear K
  refine qa (ql ?_)
  refine hk_loop (ι := Nat) (fun i => ⟨30, [(1, .p (.int .i64 a)), (2, .ptr 0 0), (5, .p (.int .i64 (eI m n))), (6, .p (.int .i64 i))], [.own [.p (.int .i64 n), .p (.list (il m))]]⟩) (fun i => i ≤ n ∧ ∀ j, j < i → ¬ (((op m n a j : Nat) : Int) = eI m n ∧ ((op m n j a : Nat) : Int) = eI m n)) (fun i => n - i) 0 ⟨Nat.zero_le _, fun j hj => by omega⟩ [0] (by simp only [leq, leA, ev0, evA, evB, evP, fl, gp, tab, simprocAttr, reduceCtorEq, reduceIte] <;> trivial) fun i hi => ?_
  obtain ⟨hi1, hi2⟩ := hi
  refine qm (qm ?_)
  refine hk_region fun K hK => runs_eval tab_ok ?_
  simp only [ev0, evA, evB, evP, fl, gp, tab, simprocAttr, reduceCtorEq, reduceIte]
  refine fin_run ?_ (hK _ ?_) <;> clear hK <;> clear K
  · (first | exact trivial | omega | (simp only [In64] at *; omega) | (simp [In64] at *; omega) | (simp_all; done) | skip)
  refine qa ?_
  refine hk_cond rfl (fun hC1 => ?_) (fun hC1 => ?_)
  · (try simp only [nhs] at hC1)
    have hlt : i < n := by omega
    refine qh (qa (qm (ql (qm ?_))))
    by_cases g5a : ((op m n a i : Nat) : Int) = eI m n
    · refine hk_region fun K hK => runs_eval tab_ok ?_
      simp only [ev0, evA, evB, evP, fl, gp, tab, simprocAttr, reduceCtorEq, reduceIte, decide_eq_true g5a]
      refine fin_stop trivial (runs_call (m_c T ha hlt) rfl rfl rfl (by simp only [dstOk, Nat.reduceLT]) (by repeat (first | exact trivial | constructor)) (runs_eval tab_ok ?_))
      simp only [ev0, evA, evB, evP, fl, gp, tab, simprocAttr, reduceCtorEq, reduceIte, decide_eq_true g5a]
      refine fin_stop trivial (runs_call (m_c T hlt ha) rfl rfl rfl (by simp only [dstOk, Nat.reduceLT]) (by repeat (first | exact trivial | constructor)) (runs_eval tab_ok ?_))
      simp only [ev0, evA, evB, evP, fl, gp, tab, simprocAttr, reduceCtorEq, reduceIte, decide_eq_true g5a]
      refine fin_run ?_ (hK _ ?_) <;> clear hK <;> clear K
      · (first | exact trivial | omega | (simp only [In64] at *; omega) | (simp [In64] at *; omega) | (simp_all; done) | skip)
      refine qa ?_
      refine hk_cond rfl (fun hC2 => ?_) (fun hC2 => ?_)
      · (try simp only [nhs] at hC2)
        refine qm ?_
        refine hk_region fun K hK => runs_eval tab_ok ?_
        simp only [ev0, evA, evB, evP, fl, gp, tab, simprocAttr, reduceCtorEq, reduceIte]
        refine fin_run trivial (hK _ ?_) <;> clear hK <;> clear K
        refine qa (qk (qe (qb (qb (qe (qb ?_))))))
        simp only [Tryd.results87, enA, ev0, evA, evB, evP, fl, gp, tab, simprocAttr, reduceCtorEq, reduceIte]
        all_goals (unfold iI; rw [fst_some hlt (decide_eq_true ⟨g5a, hC2⟩) fun j hj => decide_eq_false (hi2 j hj)])
      · (try simp only [nhs] at hC2)
        have hno : ¬ (((op m n a i : Nat) : Int) = eI m n ∧ ((op m n i a : Nat) : Int) = eI m n) := fun h => by first | exact hC2 h.2 | exact g5a h.1
        refine qh (qd (qa ?_))
        refine hk_region fun K hK => runs_eval tab_ok ?_
        simp only [ev0, evA, evB, evP, fl, gp, tab, simprocAttr, reduceCtorEq, reduceIte]
        refine fin_run ?_ (hK _ ?_) <;> clear hK <;> clear K
        · (first | exact trivial | omega | (simp only [In64] at *; omega) | (simp [In64] at *; omega) | (simp_all; done) | skip)
        refine qa ?_
        refine ⟨i + 1, [0], ⟨by omega, fun j hj => ?_⟩, by omega, ?_⟩
        · by_cases hj : j = i
          · subst hj; exact hno
          · exact hi2 j (by omega)
        · simp only [leq, leA, ev0, evA, evB, evP, fl, gp, tab, simprocAttr, reduceCtorEq, reduceIte] <;> omega
    · refine hk_region fun K hK => runs_eval tab_ok ?_
      simp only [ev0, evA, evB, evP, fl, gp, tab, simprocAttr, reduceCtorEq, reduceIte, decide_eq_false g5a]
      refine fin_stop trivial (runs_call (m_c T ha hlt) rfl rfl rfl (by simp only [dstOk, Nat.reduceLT]) (by repeat (first | exact trivial | constructor)) (runs_eval tab_ok ?_))
      simp only [ev0, evA, evB, evP, fl, gp, tab, simprocAttr, reduceCtorEq, reduceIte, decide_eq_false g5a]
      refine fin_run ?_ (hK _ ?_) <;> clear hK <;> clear K
      · (first | exact trivial | omega | (simp only [In64] at *; omega) | (simp [In64] at *; omega) | (simp_all; done) | skip)
      refine qa ?_
      refine hk_cond rfl (fun hC2 => ?_) (fun hC2 => ?_)
      · cases hC2
      · have hno : ¬ (((op m n a i : Nat) : Int) = eI m n ∧ ((op m n i a : Nat) : Int) = eI m n) := fun h => by first | exact hC2 h.2 | exact g5a h.1
        refine qh (qd (qa ?_))
        refine hk_region fun K hK => runs_eval tab_ok ?_
        simp only [ev0, evA, evB, evP, fl, gp, tab, simprocAttr, reduceCtorEq, reduceIte]
        refine fin_run ?_ (hK _ ?_) <;> clear hK <;> clear K
        · (first | exact trivial | omega | (simp only [In64] at *; omega) | (simp [In64] at *; omega) | (simp_all; done) | skip)
        refine qa ?_
        refine ⟨i + 1, [0], ⟨by omega, fun j hj => ?_⟩, by omega, ?_⟩
        · by_cases hj : j = i
          · subst hj; exact hno
          · exact hi2 j (by omega)
        · simp only [leq, leA, ev0, evA, evB, evP, fl, gp, tab, simprocAttr, reduceCtorEq, reduceIte] <;> omega
  · (try simp only [nhs] at hC1)
    refine qj (qc (qc (qf (qa (qm ?_)))))
    refine hk_region fun K hK => runs_eval tab_ok ?_
    simp only [ev0, evA, evB, evP, fl, gp, tab, simprocAttr, reduceCtorEq, reduceIte]
    refine fin_run trivial (hK _ ?_) <;> clear hK <;> clear K
    refine qa (qk ?_)
    simp only [Tryd.results87, enA, ev0, evA, evB, evP, fl, gp, tab, simprocAttr, reduceCtorEq, reduceIte]
    all_goals (unfold iI; rw [fst_none fun j hj => decide_eq_false (hi2 j (by omega))])

def asc (m : List Int) (n a : Nat) : Prop := ∀ b, b < n → ∀ c, c < n → op m n (op m n a b) c = op m n a (op m n b c)
instance (m : List Int) (n a : Nat) : Decidable (asc m n a) := by unfold asc; infer_instance

def gf2 (m : List Int) (n : Nat) : Int × Int :=
  if eI m n < 0 then (6, 0)
  else match fst' (fun a => decide (¬ asc m n a)) n with
    | some a => (7, (a : Int))
    | none => match fst' (fun a => decide (iI m n a < 0)) n with
      | some a => (4, (a : Int))
      | none => (0, 0)

def bad (N : Int) (m : List Int) (i : Nat) : Bool := decide (m.getD i 0 < 0 ∨ m.getD i 0 ≥ N)

/-- THE FAULT of a table. -/
def gf (N : Int) (m : List Int) : Int × Int :=
  if N < 1 ∨ N > 60 then (2, 0)
  else if ¬ (m.length : Int) = N * N then (8, 0)
  else match fst' (bad N m) m.length with
    | some i => (3, (i : Int))
    | none => gf2 m N.toNat

theorem sq_int (n : Nat) : (n : Int) * (n : Int) = ((n * n : Nat) : Int) := (Int.natCast_mul n n).symm

theorem gf_size {n : Nat} {m : List Int} (h1 : 1 ≤ n) (h2 : n ≤ 60) (h3 : m.length ≠ n * n) : gf n m = (8, 0) := by
  unfold gf
  rw [if_neg (by omega), if_pos (by rw [sq_int]; omega)]
theorem gf_range {n : Nat} {m : List Int} (h1 : 1 ≤ n) (h2 : n ≤ 60) (h3 : m.length = n * n) {i : Nat} (hi : i < m.length) (hb : bad n m i = true) (hj : ∀ j, j < i → bad n m j = false) : gf n m = (3, (i : Int)) := by
  unfold gf
  rw [if_neg (by omega), if_neg (by rw [sq_int]; omega), fst_some hi hb hj]
theorem gf_tab {n : Nat} {m : List Int} (T : Tab n m) : gf n m = gf2 m n := by
  have h1 := T.pos
  have h2 := T.big
  have h3 := T.len
  unfold gf
  rw [if_neg (by omega), if_neg (by rw [sq_int]; omega), fst_none]
  · rfl
  · intro j hj
    have := T.rng j (by omega)
    exact decide_eq_false (by omega)

theorem gf2_6 {m : List Int} {n : Nat} (h : eI m n < 0) : gf2 m n = (6, 0) := by
  unfold gf2; rw [if_pos h]
theorem gf2_7 {m : List Int} {n a : Nat} (h : ¬ eI m n < 0) (ha : a < n) (hn : ¬ asc m n a) (hj : ∀ j, j < a → asc m n j) : gf2 m n = (7, (a : Int)) := by
  have : fst' (fun a => decide (¬ asc m n a)) n = some a := fst_some ha (decide_eq_true hn) fun j h => decide_eq_false fun h' => h' (hj j h)
  unfold gf2; rw [if_neg h, this]
theorem gf2_4 {m : List Int} {n a : Nat} (h : ¬ eI m n < 0) (hs : ∀ j, j < n → asc m n j) (ha : a < n) (hn : iI m n a < 0) (hj : ∀ j, j < a → ¬ iI m n j < 0) : gf2 m n = (4, (a : Int)) := by
  have h1 : fst' (fun a => decide (¬ asc m n a)) n = none := fst_none fun j h => decide_eq_false fun h' => h' (hs j h)
  have h2 : fst' (fun a => decide (iI m n a < 0)) n = some a := fst_some ha (decide_eq_true hn) fun j h => decide_eq_false (hj j h)
  unfold gf2; rw [if_neg h, h1, h2]
theorem gf2_0 {m : List Int} {n : Nat} (h : ¬ eI m n < 0) (hs : ∀ j, j < n → asc m n j) (hj : ∀ j, j < n → ¬ iI m n j < 0) : gf2 m n = (0, 0) := by
  have h1 : fst' (fun a => decide (¬ asc m n a)) n = none := fst_none fun j h => decide_eq_false fun h' => h' (hs j h)
  have h2 : fst' (fun a => decide (iI m n a < 0)) n = none := fst_none fun j h => decide_eq_false (hj j h)
  unfold gf2; rw [if_neg h, h1, h2]

set_option maxHeartbeats 2000000 in
theorem gf_c (N : Int) (m : List Int) (hm : m.length ≤ 1000000000000000) : FnC Tryd.prog 16 [gp N m] (fl (gf N m)) := by
  refine fnc_of tab_ok Tryd.func16 rfl (by kernel_rfl) (by rw [Tryd.ntmps16]; exact Nat.le_add_left 1 _) ?_; rw [Tryd.ntmps16]
  refine qm ?_
  refine hk_region fun K hK => runs_eval tab_ok ?_
  simp only [ev0, evA, evB, evP, fl, gp, tab, simprocAttr, reduceCtorEq, reduceIte]
  refine fin_run ?_ (hK _ ?_) <;> clear hK <;> clear K
  · (first | exact trivial | omega | (simp only [In64] at *; omega) | (simp [In64] at *; omega) | (simp_all; done) | skip)
  refine qa (qm (qm ?_))
  by_cases g1a : N < 1
  · refine hk_region fun K hK => runs_eval tab_ok ?_
    simp only [ev0, evA, evB, evP, fl, gp, tab, simprocAttr, reduceCtorEq, reduceIte, decide_eq_true g1a]
    refine fin_run ?_ (hK _ ?_) <;> clear hK <;> clear K
    · (first | exact trivial | omega | (simp only [In64] at *; omega) | (simp [In64] at *; omega) | (simp_all; done) | skip)
    refine qa ?_
    refine hk_cond rfl (fun hC1 => ?_) (fun hC1 => ?_)
    · refine qm ?_
      refine hk_region fun K hK => runs_eval tab_ok ?_
      simp only [ev0, evA, evB, evP, fl, gp, tab, simprocAttr, reduceCtorEq, reduceIte]
      refine fin_stop trivial (runs_call (f_c 2 0) rfl rfl rfl (by simp only [dstOk, Nat.reduceLT]) (by repeat (first | exact trivial | constructor)) (runs_eval tab_ok ?_))
      simp only [ev0, evA, evB, evP, fl, gp, tab, simprocAttr, reduceCtorEq, reduceIte]
      refine fin_run ?_ (hK _ ?_) <;> clear hK <;> clear K
      · (first | exact trivial | omega | (simp only [In64] at *; omega) | (simp [In64] at *; omega) | (simp_all; done) | skip)
      refine qa (qk (qb ?_))
      simp only [Tryd.results16, enA, ev0, evA, evB, evP, fl, gp, tab, simprocAttr, reduceCtorEq, reduceIte]
      all_goals (unfold gf; rw [if_pos (.inl g1a)]; simp)
    · cases hC1
  · refine hk_region fun K hK => runs_eval tab_ok ?_
    simp only [ev0, evA, evB, evP, fl, gp, tab, simprocAttr, reduceCtorEq, reduceIte, decide_eq_false g1a]
    refine fin_run ?_ (hK _ ?_) <;> clear hK <;> clear K
    · (first | exact trivial | omega | (simp only [In64] at *; omega) | (simp [In64] at *; omega) | (simp_all; done) | skip)
    refine qa ?_
    refine hk_cond rfl (fun hC1 => ?_) (fun hC1 => ?_)
    · (try simp only [nhs] at hC1)
      refine qm ?_
      refine hk_region fun K hK => runs_eval tab_ok ?_
      simp only [ev0, evA, evB, evP, fl, gp, tab, simprocAttr, reduceCtorEq, reduceIte]
      refine fin_stop trivial (runs_call (f_c 2 0) rfl rfl rfl (by simp only [dstOk, Nat.reduceLT]) (by repeat (first | exact trivial | constructor)) (runs_eval tab_ok ?_))
      simp only [ev0, evA, evB, evP, fl, gp, tab, simprocAttr, reduceCtorEq, reduceIte]
      refine fin_run ?_ (hK _ ?_) <;> clear hK <;> clear K
      · (first | exact trivial | omega | (simp only [In64] at *; omega) | (simp [In64] at *; omega) | (simp_all; done) | skip)
      refine qa (qk (qb ?_))
      simp only [Tryd.results16, enA, ev0, evA, evB, evP, fl, gp, tab, simprocAttr, reduceCtorEq, reduceIte]
      all_goals (unfold gf; rw [if_pos (.inr hC1)]; simp)
    · (try simp only [nhs] at hC1)
      obtain ⟨n, rfl⟩ := Int.eq_ofNat_of_zero_le (show 0 ≤ N by omega)
      have hnn := sq_int n
      have hsq := sq_le (show n ≤ 60 by omega)
      refine qh (qa (qm (qm ?_)))
      refine hk_region fun K hK => runs_eval tab_ok ?_
      simp only [ev0, evA, evB, evP, fl, gp, tab, simprocAttr, reduceCtorEq, reduceIte]
      refine fin_run ?_ (hK _ ?_) <;> clear hK <;> clear K
      · simp only [In64]; omega
      refine qa ?_
      refine hk_cond rfl (fun hC2 => ?_) (fun hC2 => ?_)
      · (try simp only [nhs] at hC2)
        refine qm ?_
        refine hk_region fun K hK => runs_eval tab_ok ?_
        simp only [ev0, evA, evB, evP, fl, gp, tab, simprocAttr, reduceCtorEq, reduceIte]
        refine fin_stop trivial (runs_call (f_c 8 0) rfl rfl rfl (by simp only [dstOk, Nat.reduceLT]) (by repeat (first | exact trivial | constructor)) (runs_eval tab_ok ?_))
        simp only [ev0, evA, evB, evP, fl, gp, tab, simprocAttr, reduceCtorEq, reduceIte]
        refine fin_run ?_ (hK _ ?_) <;> clear hK <;> clear K
        · (first | exact trivial | omega | (simp only [In64] at *; omega) | (simp [In64] at *; omega) | (simp_all; done) | skip)
        refine qa (qk (qb ?_))
        simp only [Tryd.results16, enA, ev0, evA, evB, evP, fl, gp, tab, simprocAttr, reduceCtorEq, reduceIte]
        all_goals (rw [gf_size (by omega) (by omega) (by omega)]; simp)
      · (try simp only [nhs] at hC2)
        have hl : m.length = n * n := by omega
        refine qh (qa (qm (qm ?_)))
        refine hk_region fun K hK => runs_eval tab_ok ?_
        simp only [ev0, evA, evB, evP, fl, gp, tab, simprocAttr, reduceCtorEq, reduceIte]
        refine fin_run trivial (hK _ ?_) <;> clear hK <;> clear K
        refine qa (ql ?_)
        refine hk_loop (ι := Nat) (fun i => ⟨104, [(1, .ptr 0 0), (2, .ptr 1 0), (3, .p (.int .i64 i))], [.own [.p (.int .i64 n), .p (.list (il m))], .own [.p (.int .i64 0), .p (.int .i64 0)]]⟩) (fun i => i ≤ m.length ∧ ∀ j, j < i → bad n m j = false) (fun i => m.length - i) 0 ⟨Nat.zero_le _, fun j hj => by omega⟩ [0, 1] (by simp only [leq, leA, ev0, evA, evB, evP, fl, gp, tab, simprocAttr, reduceCtorEq, reduceIte] <;> trivial) fun i hi => ?_
        obtain ⟨hi1, hi2⟩ := hi
        refine qm (qm ?_)
        refine hk_region fun K hK => runs_eval tab_ok ?_
        simp only [ev0, evA, evB, evP, fl, gp, tab, simprocAttr, reduceCtorEq, reduceIte]
        refine fin_run ?_ (hK _ ?_) <;> clear hK <;> clear K
        · (first | exact trivial | omega | (simp only [In64] at *; omega) | (simp [In64] at *; omega) | (simp_all; done) | skip)
        refine qa ?_
        refine hk_cond rfl (fun hC3 => ?_) (fun hC3 => ?_)
        · (try simp only [nhs] at hC3)
          have hlt : i < m.length := by omega
          refine qh (qa (qm (ql (qm ?_))))
          by_cases g8a : m.getD i 0 < 0
          · refine hk_draw mixed (by kernel_rfl) fun K hK => runs_eval tab_ok ?_
            simp only [ev0, evA, evB, evP, fl, gp, tab, simprocAttr, reduceCtorEq, reduceIte, il_get hlt, decide_eq_true g8a]
            refine fin_run ?_ (hK _ ?_) <;> clear hK <;> clear K
            · (first | exact trivial | omega | (simp only [In64] at *; omega) | (simp [In64] at *; omega) | (simp_all; done) | skip)
            refine qa ?_
            refine hk_cond rfl (fun hC4 => ?_) (fun hC4 => ?_)
            · refine qm ?_
              refine hk_region fun K hK => runs_eval tab_ok ?_
              simp only [ev0, evA, evB, evP, fl, gp, tab, simprocAttr, reduceCtorEq, reduceIte]
              refine fin_stop trivial (runs_call (f_c 3 i) rfl rfl rfl (by simp only [dstOk, Nat.reduceLT]) (by repeat (first | exact trivial | constructor)) (runs_eval tab_ok ?_))
              simp only [ev0, evA, evB, evP, fl, gp, tab, simprocAttr, reduceCtorEq, reduceIte]
              refine fin_run ?_ (hK _ ?_) <;> clear hK <;> clear K
              · (first | exact trivial | omega | (simp only [In64] at *; omega) | (simp [In64] at *; omega) | (simp_all; done) | skip)
              refine qa (qk (qe (qb (qb (qe (qb ?_))))))
              simp only [Tryd.results16, enA, ev0, evA, evB, evP, fl, gp, tab, simprocAttr, reduceCtorEq, reduceIte]
              all_goals (rw [gf_range (by omega) (by omega) hl hlt (decide_eq_true (.inl g8a)) hi2]; simp)
            · cases hC4
          · refine hk_draw mixed (by kernel_rfl) fun K hK => runs_eval tab_ok ?_
            simp only [ev0, evA, evB, evP, fl, gp, tab, simprocAttr, reduceCtorEq, reduceIte, il_get hlt, decide_eq_false g8a]
            refine fin_run ?_ (hK _ ?_) <;> clear hK <;> clear K
            · (first | exact trivial | omega | (simp only [In64] at *; omega) | (simp [In64] at *; omega) | (simp_all; done) | skip)
            refine qa ?_
            refine hk_cond rfl (fun hC4 => ?_) (fun hC4 => ?_)
            · (try simp only [nhs] at hC4)
              refine qm ?_
              refine hk_region fun K hK => runs_eval tab_ok ?_
              simp only [ev0, evA, evB, evP, fl, gp, tab, simprocAttr, reduceCtorEq, reduceIte]
              refine fin_stop trivial (runs_call (f_c 3 i) rfl rfl rfl (by simp only [dstOk, Nat.reduceLT]) (by repeat (first | exact trivial | constructor)) (runs_eval tab_ok ?_))
              simp only [ev0, evA, evB, evP, fl, gp, tab, simprocAttr, reduceCtorEq, reduceIte]
              refine fin_run ?_ (hK _ ?_) <;> clear hK <;> clear K
              · (first | exact trivial | omega | (simp only [In64] at *; omega) | (simp [In64] at *; omega) | (simp_all; done) | skip)
              refine qa (qk (qe (qb (qb (qe (qb ?_))))))
              simp only [Tryd.results16, enA, ev0, evA, evB, evP, fl, gp, tab, simprocAttr, reduceCtorEq, reduceIte]
              all_goals (rw [gf_range (by omega) (by omega) hl hlt (decide_eq_true (.inr hC4)) hi2]; simp)
            · (try simp only [nhs] at hC4)
              refine qh (qd (qa ?_))
              refine hk_region fun K hK => runs_eval tab_ok ?_
              simp only [ev0, evA, evB, evP, fl, gp, tab, simprocAttr, reduceCtorEq, reduceIte]
              refine fin_run ?_ (hK _ ?_) <;> clear hK <;> clear K
              · (first | exact trivial | omega | (simp only [In64] at *; omega) | (simp [In64] at *; omega) | (simp_all; done) | skip)
              refine qa ?_
              refine ⟨i + 1, [0, 1], ⟨by omega, fun j hj => ?_⟩, by omega, ?_⟩
              · by_cases hj : j = i
                · subst hj; exact decide_eq_false (by omega)
                · exact hi2 j (by omega)
              · simp only [leq, leA, ev0, evA, evB, evP, fl, gp, tab, simprocAttr, reduceCtorEq, reduceIte] <;> omega
        · (try simp only [nhs] at hC3)
          have T : Tab n m := by
            refine ⟨by omega, by omega, hl, fun j hj => ?_⟩
            have := of_decide_eq_false (hi2 j (by omega))
            omega
          refine qj (qc (qc (qf (qa (qm (qm ?_))))))
          refine hk_region fun K hK => runs_eval tab_ok ?_
          simp only [ev0, evA, evB, evP, fl, gp, tab, simprocAttr, reduceCtorEq, reduceIte]
          refine fin_stop trivial (runs_call (e_c T) rfl rfl rfl (by simp only [dstOk, Nat.reduceLT]) (by repeat (first | exact trivial | constructor)) (runs_eval tab_ok ?_))
          simp only [ev0, evA, evB, evP, fl, gp, tab, simprocAttr, reduceCtorEq, reduceIte]
          refine fin_run ?_ (hK _ ?_) <;> clear hK <;> clear K
          · (first | exact trivial | omega | (simp only [In64] at *; omega) | (simp [In64] at *; omega) | (simp_all; done) | skip)
          refine qa ?_
          refine hk_cond rfl (fun hC5 => ?_) (fun hC5 => ?_)
          · (try simp only [nhs] at hC5)
            refine qm ?_
            refine hk_region fun K hK => runs_eval tab_ok ?_
            simp only [ev0, evA, evB, evP, fl, gp, tab, simprocAttr, reduceCtorEq, reduceIte]
            refine fin_stop trivial (runs_call (f_c 6 0) rfl rfl rfl (by simp only [dstOk, Nat.reduceLT]) (by repeat (first | exact trivial | constructor)) (runs_eval tab_ok ?_))
            simp only [ev0, evA, evB, evP, fl, gp, tab, simprocAttr, reduceCtorEq, reduceIte]
            refine fin_run ?_ (hK _ ?_) <;> clear hK <;> clear K
            · (first | exact trivial | omega | (simp only [In64] at *; omega) | (simp [In64] at *; omega) | (simp_all; done) | skip)
            refine qa (qk (qb ?_))
            simp only [Tryd.results16, enA, ev0, evA, evB, evP, fl, gp, tab, simprocAttr, reduceCtorEq, reduceIte]
            all_goals (rw [gf_tab T, gf2_6 hC5]; simp)
          · (try simp only [nhs] at hC5)
            refine qh (qa (qm (qm ?_)))
            refine hk_region fun K hK => runs_eval tab_ok ?_
            simp only [ev0, evA, evB, evP, fl, gp, tab, simprocAttr, reduceCtorEq, reduceIte]
            refine fin_run trivial (hK _ ?_) <;> clear hK <;> clear K
            refine qa (ql ?_)
            refine hk_loop (ι := Nat) (fun a => ⟨104, [(1, .ptr 0 0), (2, .ptr 1 0), (4, .p (.int .i64 a))], [.own [.p (.int .i64 n), .p (.list (il m))], .own [.p (.int .i64 0), .p (.int .i64 0)]]⟩) (fun a => a ≤ n ∧ ∀ j, j < a → asc m n j) (fun a => n - a) 0 ⟨Nat.zero_le _, fun j hj => by omega⟩ [0, 1] (by simp only [leq, leA, ev0, evA, evB, evP, fl, gp, tab, simprocAttr, reduceCtorEq, reduceIte] <;> trivial) fun a ha => ?_
            obtain ⟨ha1, ha2⟩ := ha
            refine qm (qm ?_)
            refine hk_region fun K hK => runs_eval tab_ok ?_
            simp only [ev0, evA, evB, evP, fl, gp, tab, simprocAttr, reduceCtorEq, reduceIte]
            refine fin_run ?_ (hK _ ?_) <;> clear hK <;> clear K
            · (first | exact trivial | omega | (simp only [In64] at *; omega) | (simp [In64] at *; omega) | (simp_all; done) | skip)
            refine qa ?_
            refine hk_cond rfl (fun hC6 => ?_) (fun hC6 => ?_)
            · (try simp only [nhs] at hC6)
              have hal : a < n := by omega
              refine qh (qa (qm (ql (qm ?_))))
              refine hk_region fun K hK => runs_eval tab_ok ?_
              simp only [ev0, evA, evB, evP, fl, gp, tab, simprocAttr, reduceCtorEq, reduceIte]
              refine fin_run trivial (hK _ ?_) <;> clear hK <;> clear K
              refine qa (ql ?_)
              refine hk_loop (ι := Nat) (fun b => ⟨104, [(1, .ptr 0 0), (2, .ptr 1 0), (4, .p (.int .i64 a)), (5, .p (.int .i64 b))], [.own [.p (.int .i64 n), .p (.list (il m))], .own [.p (.int .i64 0), .p (.int .i64 0)]]⟩) (fun b => b ≤ n ∧ ∀ j, j < b → ∀ c, c < n → op m n (op m n a j) c = op m n a (op m n j c)) (fun b => n - b) 0 ⟨Nat.zero_le _, fun j hj => by omega⟩ [0, 1] (by simp only [leq, leA, ev0, evA, evB, evP, fl, gp, tab, simprocAttr, reduceCtorEq, reduceIte] <;> trivial) fun b hb => ?_
              obtain ⟨hb1, hb2⟩ := hb
              refine qm (qm ?_)
              refine hk_region fun K hK => runs_eval tab_ok ?_
              simp only [ev0, evA, evB, evP, fl, gp, tab, simprocAttr, reduceCtorEq, reduceIte]
              refine fin_run ?_ (hK _ ?_) <;> clear hK <;> clear K
              · (first | exact trivial | omega | (simp only [In64] at *; omega) | (simp [In64] at *; omega) | (simp_all; done) | skip)
              refine qa ?_
              refine hk_cond rfl (fun hC7 => ?_) (fun hC7 => ?_)
              · (try simp only [nhs] at hC7)
                have hbl : b < n := by omega
                refine qh (qa (qm (ql (qm ?_))))
                refine hk_region fun K hK => runs_eval tab_ok ?_
                simp only [ev0, evA, evB, evP, fl, gp, tab, simprocAttr, reduceCtorEq, reduceIte]
                refine fin_run trivial (hK _ ?_) <;> clear hK <;> clear K
                refine qa (ql ?_)
                refine hk_loop (ι := Nat) (fun c => ⟨104, [(1, .ptr 0 0), (2, .ptr 1 0), (4, .p (.int .i64 a)), (5, .p (.int .i64 b)), (6, .p (.int .i64 c))], [.own [.p (.int .i64 n), .p (.list (il m))], .own [.p (.int .i64 0), .p (.int .i64 0)]]⟩) (fun c => c ≤ n ∧ ∀ j, j < c → op m n (op m n a b) j = op m n a (op m n b j)) (fun c => n - c) 0 ⟨Nat.zero_le _, fun j hj => by omega⟩ [0, 1] (by simp only [leq, leA, ev0, evA, evB, evP, fl, gp, tab, simprocAttr, reduceCtorEq, reduceIte] <;> trivial) fun c hc => ?_
                obtain ⟨hc1, hc2⟩ := hc
                refine qm (qm ?_)
                refine hk_region fun K hK => runs_eval tab_ok ?_
                simp only [ev0, evA, evB, evP, fl, gp, tab, simprocAttr, reduceCtorEq, reduceIte]
                refine fin_run ?_ (hK _ ?_) <;> clear hK <;> clear K
                · (first | exact trivial | omega | (simp only [In64] at *; omega) | (simp [In64] at *; omega) | (simp_all; done) | skip)
                refine qa ?_
                refine hk_cond rfl (fun hC8 => ?_) (fun hC8 => ?_)
                · (try simp only [nhs] at hC8)
                  have hcl : c < n := by omega
                  refine qh (qa (qm (ql (qm ?_))))
                  refine hk_draw mixed (by kernel_rfl) fun K hK => runs_eval tab_ok ?_
                  simp only [ev0, evA, evB, evP, fl, gp, tab, simprocAttr, reduceCtorEq, reduceIte]
                  refine fin_stop trivial (runs_call (m_c T hal hbl) rfl rfl rfl (by simp only [dstOk, Nat.reduceLT]) (by repeat (first | exact trivial | constructor)) (runs_eval tab_ok ?_))
                  simp only [ev0, evA, evB, evP, fl, gp, tab, simprocAttr, reduceCtorEq, reduceIte]
                  refine fin_stop trivial (runs_call (m_c T (T.lt hal hbl) hcl) rfl rfl rfl (by simp only [dstOk, Nat.reduceLT]) (by repeat (first | exact trivial | constructor)) (runs_eval tab_ok ?_))
                  simp only [ev0, evA, evB, evP, fl, gp, tab, simprocAttr, reduceCtorEq, reduceIte]
                  refine fin_stop trivial (runs_call (m_c T hbl hcl) rfl rfl rfl (by simp only [dstOk, Nat.reduceLT]) (by repeat (first | exact trivial | constructor)) (runs_eval tab_ok ?_))
                  simp only [ev0, evA, evB, evP, fl, gp, tab, simprocAttr, reduceCtorEq, reduceIte]
                  refine fin_stop trivial (runs_call (m_c T hal (T.lt hbl hcl)) rfl rfl rfl (by simp only [dstOk, Nat.reduceLT]) (by repeat (first | exact trivial | constructor)) (runs_eval tab_ok ?_))
                  simp only [ev0, evA, evB, evP, fl, gp, tab, simprocAttr, reduceCtorEq, reduceIte]
                  refine fin_run ?_ (hK _ ?_) <;> clear hK <;> clear K
                  · (first | exact trivial | omega | (simp only [In64] at *; omega) | (simp [In64] at *; omega) | (simp_all; done) | skip)
                  refine qa ?_
                  refine hk_cond rfl (fun hC9 => ?_) (fun hC9 => ?_)
                  · (try simp only [nhs] at hC9)
                    refine qm ?_
                    refine hk_region fun K hK => runs_eval tab_ok ?_
                    simp only [ev0, evA, evB, evP, fl, gp, tab, simprocAttr, reduceCtorEq, reduceIte]
                    refine fin_stop trivial (runs_call (f_c 7 a) rfl rfl rfl (by simp only [dstOk, Nat.reduceLT]) (by repeat (first | exact trivial | constructor)) (runs_eval tab_ok ?_))
                    simp only [ev0, evA, evB, evP, fl, gp, tab, simprocAttr, reduceCtorEq, reduceIte]
                    refine fin_run ?_ (hK _ ?_) <;> clear hK <;> clear K
                    · (first | exact trivial | omega | (simp only [In64] at *; omega) | (simp [In64] at *; omega) | (simp_all; done) | skip)
                    refine qa (qk (qe (qb (qb (qe (qe (qb (qb (qe (qe (qb (qb (qe (qb ?_))))))))))))))
                    simp only [Tryd.results16, enA, ev0, evA, evB, evP, fl, gp, tab, simprocAttr, reduceCtorEq, reduceIte]
                    all_goals (rw [gf_tab T, gf2_7 hC5 hal (fun h => hC9 (by rw [h b hbl c hcl])) ha2]; simp)
                  · (try simp only [nhs] at hC9)
                    refine qh (qd (qa ?_))
                    refine hk_region fun K hK => runs_eval tab_ok ?_
                    simp only [ev0, evA, evB, evP, fl, gp, tab, simprocAttr, reduceCtorEq, reduceIte]
                    refine fin_run ?_ (hK _ ?_) <;> clear hK <;> clear K
                    · (first | exact trivial | omega | (simp only [In64] at *; omega) | (simp [In64] at *; omega) | (simp_all; done) | skip)
                    refine qa ?_
                    refine ⟨c + 1, [0, 1], ⟨by omega, fun j hj => ?_⟩, by omega, ?_⟩
                    · by_cases hj : j = c
                      · subst hj; omega
                      · exact hc2 j (by omega)
                    · simp only [leq, leA, ev0, evA, evB, evP, fl, gp, tab, simprocAttr, reduceCtorEq, reduceIte] <;> omega
                · (try simp only [nhs] at hC8)
                  refine qj (qc (qc (qf (qd (qa ?_)))))
                  refine hk_region fun K hK => runs_eval tab_ok ?_
                  simp only [ev0, evA, evB, evP, fl, gp, tab, simprocAttr, reduceCtorEq, reduceIte]
                  refine fin_run ?_ (hK _ ?_) <;> clear hK <;> clear K
                  · (first | exact trivial | omega | (simp only [In64] at *; omega) | (simp [In64] at *; omega) | (simp_all; done) | skip)
                  refine qa ?_
                  refine ⟨b + 1, [0, 1], ⟨by omega, fun j hj => ?_⟩, by omega, ?_⟩
                  · by_cases hj : j = b
                    · subst hj; exact fun c' hc' => hc2 c' (by omega)
                    · exact hb2 j (by omega)
                  · simp only [leq, leA, ev0, evA, evB, evP, fl, gp, tab, simprocAttr, reduceCtorEq, reduceIte] <;> omega
              · (try simp only [nhs] at hC7)
                refine qj (qc (qc (qf (qd (qa ?_)))))
                refine hk_region fun K hK => runs_eval tab_ok ?_
                simp only [ev0, evA, evB, evP, fl, gp, tab, simprocAttr, reduceCtorEq, reduceIte]
                refine fin_run ?_ (hK _ ?_) <;> clear hK <;> clear K
                · (first | exact trivial | omega | (simp only [In64] at *; omega) | (simp [In64] at *; omega) | (simp_all; done) | skip)
                refine qa ?_
                refine ⟨a + 1, [0, 1], ⟨by omega, fun j hj => ?_⟩, by omega, ?_⟩
                · by_cases hj : j = a
                  · subst hj; exact fun c' hc' => hb2 c' (by omega)
                  · exact ha2 j (by omega)
                · simp only [leq, leA, ev0, evA, evB, evP, fl, gp, tab, simprocAttr, reduceCtorEq, reduceIte] <;> omega
            · (try simp only [nhs] at hC6)
              refine qj (qc (qc (qf (qa (qm (qm ?_))))))
              refine hk_region fun K hK => runs_eval tab_ok ?_
              simp only [ev0, evA, evB, evP, fl, gp, tab, simprocAttr, reduceCtorEq, reduceIte]
              refine fin_run trivial (hK _ ?_) <;> clear hK <;> clear K
              refine qa (ql ?_)
              refine hk_loop (ι := Nat) (fun a => ⟨104, [(1, .ptr 0 0), (2, .ptr 1 0), (7, .p (.int .i64 a))], [.own [.p (.int .i64 n), .p (.list (il m))], .own [.p (.int .i64 0), .p (.int .i64 0)]]⟩) (fun a => a ≤ n ∧ ∀ j, j < a → ¬ iI m n j < 0) (fun a => n - a) 0 ⟨Nat.zero_le _, fun j hj => by omega⟩ [0, 1] (by simp only [leq, leA, ev0, evA, evB, evP, fl, gp, tab, simprocAttr, reduceCtorEq, reduceIte] <;> trivial) fun k hk => ?_
              obtain ⟨hk1, hk2⟩ := hk
              refine qm (qm ?_)
              refine hk_region fun K hK => runs_eval tab_ok ?_
              simp only [ev0, evA, evB, evP, fl, gp, tab, simprocAttr, reduceCtorEq, reduceIte]
              refine fin_run ?_ (hK _ ?_) <;> clear hK <;> clear K
              · (first | exact trivial | omega | (simp only [In64] at *; omega) | (simp [In64] at *; omega) | (simp_all; done) | skip)
              refine qa ?_
              refine hk_cond rfl (fun hC10 => ?_) (fun hC10 => ?_)
              · (try simp only [nhs] at hC10)
                have hkl : k < n := by omega
                refine qh (qa (qm (ql (qm ?_))))
                refine hk_region fun K hK => runs_eval tab_ok ?_
                simp only [ev0, evA, evB, evP, fl, gp, tab, simprocAttr, reduceCtorEq, reduceIte]
                refine fin_stop trivial (runs_call (i_c T hkl) rfl rfl rfl (by simp only [dstOk, Nat.reduceLT]) (by repeat (first | exact trivial | constructor)) (runs_eval tab_ok ?_))
                simp only [ev0, evA, evB, evP, fl, gp, tab, simprocAttr, reduceCtorEq, reduceIte]
                refine fin_run ?_ (hK _ ?_) <;> clear hK <;> clear K
                · (first | exact trivial | omega | (simp only [In64] at *; omega) | (simp [In64] at *; omega) | (simp_all; done) | skip)
                refine qa ?_
                refine hk_cond rfl (fun hC11 => ?_) (fun hC11 => ?_)
                · (try simp only [nhs] at hC11)
                  refine qm ?_
                  refine hk_region fun K hK => runs_eval tab_ok ?_
                  simp only [ev0, evA, evB, evP, fl, gp, tab, simprocAttr, reduceCtorEq, reduceIte]
                  refine fin_stop trivial (runs_call (f_c 4 k) rfl rfl rfl (by simp only [dstOk, Nat.reduceLT]) (by repeat (first | exact trivial | constructor)) (runs_eval tab_ok ?_))
                  simp only [ev0, evA, evB, evP, fl, gp, tab, simprocAttr, reduceCtorEq, reduceIte]
                  refine fin_run ?_ (hK _ ?_) <;> clear hK <;> clear K
                  · (first | exact trivial | omega | (simp only [In64] at *; omega) | (simp [In64] at *; omega) | (simp_all; done) | skip)
                  refine qa (qk (qe (qb (qb (qe (qb ?_))))))
                  simp only [Tryd.results16, enA, ev0, evA, evB, evP, fl, gp, tab, simprocAttr, reduceCtorEq, reduceIte]
                  all_goals (rw [gf_tab T, gf2_4 hC5 (fun j hj => ha2 j (by omega)) hkl hC11 hk2]; simp)
                · (try simp only [nhs] at hC11)
                  refine qh (qd (qa ?_))
                  refine hk_region fun K hK => runs_eval tab_ok ?_
                  simp only [ev0, evA, evB, evP, fl, gp, tab, simprocAttr, reduceCtorEq, reduceIte]
                  refine fin_run ?_ (hK _ ?_) <;> clear hK <;> clear K
                  · (first | exact trivial | omega | (simp only [In64] at *; omega) | (simp [In64] at *; omega) | (simp_all; done) | skip)
                  refine qa ?_
                  refine ⟨k + 1, [0, 1], ⟨by omega, fun j hj => ?_⟩, by omega, ?_⟩
                  · by_cases hj : j = k
                    · subst hj; omega
                    · exact hk2 j (by omega)
                  · simp only [leq, leA, ev0, evA, evB, evP, fl, gp, tab, simprocAttr, reduceCtorEq, reduceIte] <;> omega
              · (try simp only [nhs] at hC10)
                refine qj (qc (qc (qf (qa (qm ?_)))))
                refine hk_region fun K hK => runs_eval tab_ok ?_
                simp only [ev0, evA, evB, evP, fl, gp, tab, simprocAttr, reduceCtorEq, reduceIte]
                refine fin_run ?_ (hK _ ?_) <;> clear hK <;> clear K
                · (first | exact trivial | omega | (simp only [In64] at *; omega) | (simp [In64] at *; omega) | (simp_all; done) | skip)
                refine qa (qk ?_)
                simp only [Tryd.results16, enA, ev0, evA, evB, evP, fl, gp, tab, simprocAttr, reduceCtorEq, reduceIte]
                all_goals (rw [gf_tab T, gf2_0 hC5 (fun j hj => ha2 j (by omega)) (fun j hj => hk2 j (by omega))]; simp)
end Go.Proofs.YtboadfahlflmhaaDoor

/-
  Tables without fault are groups: plain laws, with no program in sight. Conditions: none.
-/
set_option linter.all false
namespace Go.Proofs.YtboadfahlflmhaaDoor
open Go.Pv

theorem isE_unique {m : List Int} {n a b : Nat} (ha : a < n) (hb : b < n) (h1 : isE m n a) (h2 : isE m n b) : a = b := by
  have e1 := (h1 b hb).1
  have e2 := (h2 a ha).2
  omega

theorem eI_cases (m : List Int) (n : Nat) : (eI m n = -1 ∧ ∀ a, a < n → ¬ isE m n a) ∨ ∃ e, e < n ∧ isE m n e ∧ eI m n = (e : Nat) := by
  unfold eI
  cases h : fst' (fun a => decide (isE m n a)) n with
  | none => exact .inl ⟨rfl, fun a ha => of_decide_eq_false (fst_spec0 h a ha)⟩
  | some e =>
    obtain ⟨h1, h2, _⟩ := fst_spec h
    exact .inr ⟨e, h1, of_decide_eq_true h2, rfl⟩
theorem eI_of {m : List Int} {n e : Nat} (he : e < n) (h : isE m n e) : eI m n = (e : Nat) := by
  rcases eI_cases m n with ⟨_, h2⟩ | ⟨e', h1, h2, h3⟩
  · exact absurd h (h2 e he)
  · rw [h3, isE_unique he h1 h h2]

theorem iI_cases (m : List Int) (n a : Nat) : (iI m n a = -1 ∧ ∀ b, b < n → ¬ (((op m n a b : Nat) : Int) = eI m n ∧ ((op m n b a : Nat) : Int) = eI m n)) ∨
    ∃ b, b < n ∧ ((op m n a b : Nat) : Int) = eI m n ∧ ((op m n b a : Nat) : Int) = eI m n ∧ iI m n a = (b : Nat) := by
  unfold iI
  cases h : fst' (fun b => decide (((op m n a b : Nat) : Int) = eI m n ∧ ((op m n b a : Nat) : Int) = eI m n)) n with
  | none => exact .inl ⟨rfl, fun b hb => of_decide_eq_false (fst_spec0 h b hb)⟩
  | some b =>
    obtain ⟨h1, h2, _⟩ := fst_spec h
    have h2 := of_decide_eq_true h2
    exact .inr ⟨b, h1, h2.1, h2.2, rfl⟩

/-- A row of numbers is a group's table. -/
def GT (N : Int) (m : List Int) (n e : Nat) : Prop := N = (n : Int) ∧ Tab n m ∧ Grp n (op m n) e

theorem gf_ok {N : Int} {m : List Int} (h : (gf N m).1 = 0) : ∃ n e, GT N m n e ∧ eI m n = (e : Nat) := by
  unfold gf at h
  by_cases h1 : N < 1 ∨ N > 60
  · rw [if_pos h1] at h; simp at h
  rw [if_neg h1] at h
  obtain ⟨n, rfl⟩ := Int.eq_ofNat_of_zero_le (show 0 ≤ N by omega)
  have hsq := sq_int n
  by_cases h2 : (m.length : Int) = (n : Int) * n
  · rw [if_neg (by simpa using h2)] at h
    cases h3 : fst' (bad n m) m.length with
    | some i => rw [h3] at h; simp at h
    | none =>
      rw [h3] at h
      have hl : m.length = n * n := by omega
      have T : Tab n m := by
        refine ⟨by omega, by omega, hl, fun j hj => ?_⟩
        have := of_decide_eq_false (fst_spec0 h3 j (by omega))
        omega
      simp only [Int.toNat_natCast] at h
      unfold gf2 at h
      by_cases h4 : eI m n < 0
      · rw [if_pos h4] at h; simp at h
      rw [if_neg h4] at h
      rcases eI_cases m n with ⟨h5, _⟩ | ⟨e, he, hE, heq⟩
      · omega
      cases h6 : fst' (fun a => decide (¬ asc m n a)) n with
      | some a => rw [h6] at h; simp at h
      | none =>
        rw [h6] at h
        simp only at h
        have hasc : ∀ a, a < n → asc m n a := fun a ha => by
          have := of_decide_eq_false (fst_spec0 h6 a ha)
          exact Classical.not_not.1 this
        cases h7 : fst' (fun a => decide (iI m n a < 0)) n with
        | some a => rw [h7] at h; simp at h
        | none =>
          have hinv : ∀ a, a < n → ¬ iI m n a < 0 := fun a ha => of_decide_eq_false (fst_spec0 h7 a ha)
          refine ⟨n, e, ⟨rfl, T, ⟨by omega, fun a b ha hb => T.lt ha hb, he, fun a ha => (hE a ha).1, fun a ha => (hE a ha).2, fun a b c ha hb hc => hasc a ha b hb c hc, fun a ha => ?_⟩⟩, heq⟩
          rcases iI_cases m n a with ⟨h8, _⟩ | ⟨b, hb, h8, h9, _⟩
          · have := hinv a ha; omega
          · exact ⟨b, hb, by omega, by omega⟩
  · rw [if_pos h2] at h; simp at h

theorem GT.one {N : Int} {m : List Int} {n e : Nat} (h : GT N m n e) : isE m n e := fun b hb => ⟨h.2.2.one_l b hb, h.2.2.one_r b hb⟩
theorem GT.eI {N : Int} {m : List Int} {n e : Nat} (h : GT N m n e) : eI m n = (e : Nat) := eI_of h.2.2.el h.one
theorem GT.iI {N : Int} {m : List Int} {n e a : Nat} (h : GT N m n e) (ha : a < n) : iI m n a = (iv n (op m n) e a : Nat) := by
  have G := h.2.2
  rcases iI_cases m n a with ⟨_, h2⟩ | ⟨b, hb, h8, h9, h10⟩
  · exact absurd ⟨by rw [h.eI, G.mul_iv ha], by rw [h.eI, G.iv_mul ha]⟩ (h2 _ (G.iv_lt ha))
  · rw [h10]
    rw [h.eI] at h8
    rw [G.iv_unique ha hb (.inl (by omega))]

theorem gf_of {N : Int} {m : List Int} {n e : Nat} (h : GT N m n e) : gf N m = (0, 0) := by
  obtain ⟨rfl, T, G⟩ := h
  have h' : GT n m n e := ⟨rfl, T, G⟩
  rw [gf_tab T, gf2_0 (by rw [h'.eI]; omega) (fun a ha b hb c hc => G.assoc a b c ha hb hc) fun a ha => by rw [h'.iI ha]; omega]

/-- In what is finite, who has an inverse at the right has it at the left too. -/
theorem right_inv {n : Nat} {f : Nat → Nat → Nat} {e : Nat} (hcl : ∀ a b, a < n → b < n → f a b < n) (he : e < n) (hl : ∀ a, a < n → f e a = a) (hr : ∀ a, a < n → f a e = a)
    (has : ∀ a b c, a < n → b < n → c < n → f (f a b) c = f a (f b c)) {a b : Nat} (ha : a < n) (hb : b < n) (h : f a b = e) : f b a = e := by
  obtain ⟨c, hc, h1⟩ := inj_onto (f := f b) (fun i hi => hcl b i hb hi) (fun i j hi hj hij => by
    have h2 : f a (f b i) = f a (f b j) := by rw [hij]
    rwa [← has a b i ha hb hi, ← has a b j ha hb hj, h, hl i hi, hl j hj] at h2) he
  have : a = c := by
    have h2 := has a b c ha hb hc
    rw [h, h1, hl c hc, hr a ha] at h2
    exact h2.symm
  rw [this]; exact h1

end Go.Proofs.YtboadfahlflmhaaDoor

/-
  Walks: the document's words of groups: things, orders, powers. Conditions: none.
-/
set_option linter.all false
namespace Go.Proofs.YtboadfahlflmhaaDoor
open Go.Pv

/-! ### Things -/

def okT (N : Int) (l : List Int) (i : Nat) : Prop := ¬ (l.getD i 0 < 0 ∨ l.getD i 0 ≥ N)
instance (N : Int) (l : List Int) (i : Nat) : Decidable (okT N l i) := by unfold okT; infer_instance

/-- The fault of a group and things of it. -/
def tf (N : Int) (m l : List Int) : Int × Int :=
  if ¬ (gf N m).1 = 0 then gf N m
  else match fst' (fun i => decide (¬ okT N l i)) l.length with
    | some i => (3, (i : Int) + 1)
    | none => (0, 0)

/-! ### Orders, powers -/

theorem o_c {n e : Nat} {m : List Int} (h : GT n m n e) {a : Nat} (ha : a < n) : FnC Tryd.prog 42 [gp n m, .int .i64 a] (.int .i64 (ord n (op m n) e a : Nat)) := by
  have G := h.2.2
  have T := h.2.1
  have hb := T.big
  obtain ⟨o1, o2, o3, o4⟩ := G.ord_spec ha
  refine fnc_of tab_ok Tryd.func42 rfl (by kernel_rfl) (by rw [Tryd.ntmps42]; exact Nat.le_add_left 2 _) ?_; rw [Tryd.ntmps42]
  refine qm ?_
  refine hk_region fun K hK => runs_eval tab_ok ?_
  simp only [ev0, evA, evB, evP, fl, gp, tab, simprocAttr, reduceCtorEq, reduceIte]
  refine fin_run ?_ (hK _ ?_) <;> clear hK <;> clear K
  · (first | exact trivial | omega | (simp only [In64] at *; omega) | (simp [In64] at *; omega) | (simp_all; done) | skip)
  refine qa (qm ?_)
  refine hk_region fun K hK => runs_eval tab_ok ?_
  simp only [ev0, evA, evB, evP, fl, gp, tab, simprocAttr, reduceCtorEq, reduceIte]
  refine fin_stop trivial (runs_call (e_c T) rfl rfl rfl (by simp only [dstOk, Nat.reduceLT]) (by repeat (first | exact trivial | constructor)) (runs_eval tab_ok ?_))
  simp only [ev0, evA, evB, evP, fl, gp, tab, simprocAttr, reduceCtorEq, reduceIte, h.eI]
  refine fin_run ?_ (hK _ ?_) <;> clear hK <;> clear K
  · (first | exact trivial | omega | (simp only [In64] at *; omega) | (simp [In64] at *; omega) | (simp_all; done) | skip)
  refine qa (qm ?_)
  refine hk_region fun K hK => runs_eval tab_ok ?_
  simp only [ev0, evA, evB, evP, fl, gp, tab, simprocAttr, reduceCtorEq, reduceIte]
  refine fin_run trivial (hK _ ?_) <;> clear hK <;> clear K
  refine qa (qm ?_)
  refine hk_region fun K hK => runs_eval tab_ok ?_
  simp only [ev0, evA, evB, evP, fl, gp, tab, simprocAttr, reduceCtorEq, reduceIte]
  refine fin_run trivial (hK _ ?_) <;> clear hK <;> clear K
  refine qa (qm (ql ?_))
  refine hk_loop (ι := Nat) (fun k => ⟨21, [(1, .p (.int .i64 a)), (2, .ptr 0 0), (5, .p (.int .i64 e)), (6, .p (.int .i64 (pw (op m n) e a k : Nat))), (7, .p (.int .i64 k))], [.own [.p (.int .i64 n), .p (.list (il m))]]⟩) (fun k => 1 ≤ k ∧ k ≤ ord n (op m n) e a) (fun k => ord n (op m n) e a - k) 1 ⟨Nat.le_refl _, o1⟩ [0] (by rw [G.pw_one ha]; simp only [leq, leA, ev0, evA, evB, evP, fl, gp, tab, simprocAttr, reduceCtorEq, reduceIte] <;> trivial) fun k hk => ?_
  obtain ⟨hk1, hk2⟩ := hk
  refine qm (qm ?_)
  refine hk_region fun K hK => runs_eval tab_ok ?_
  simp only [ev0, evA, evB, evP, fl, gp, tab, simprocAttr, reduceCtorEq, reduceIte]
  refine fin_run trivial (hK _ ?_) <;> clear hK <;> clear K
  refine qa ?_
  refine hk_cond rfl (fun hC1 => ?_) (fun hC1 => ?_)
  · (try simp only [nhs] at hC1)
    have hne : k ≠ ord n (op m n) e a := fun h => hC1 (by rw [h, o3])
    refine qh (qa (ql (qm ?_)))
    refine hk_region fun K hK => runs_eval tab_ok ?_
    simp only [ev0, evA, evB, evP, fl, gp, tab, simprocAttr, reduceCtorEq, reduceIte]
    refine fin_stop trivial (runs_call (m_c T ha (G.pw_lt ha k)) rfl rfl rfl (by simp only [dstOk, Nat.reduceLT]) (by repeat (first | exact trivial | constructor)) (runs_eval tab_ok ?_))
    simp only [ev0, evA, evB, evP, fl, gp, tab, simprocAttr, reduceCtorEq, reduceIte, (G.pw_succ' ha k).symm]
    refine fin_run ?_ (hK _ ?_) <;> clear hK <;> clear K
    · (first | exact trivial | omega | (simp only [In64] at *; omega) | (simp [In64] at *; omega) | (simp_all; done) | skip)
    refine qa ?_
    refine hk_region fun K hK => runs_eval tab_ok ?_
    simp only [ev0, evA, evB, evP, fl, gp, tab, simprocAttr, reduceCtorEq, reduceIte]
    refine fin_run ?_ (hK _ ?_) <;> clear hK <;> clear K
    · (first | exact trivial | omega | (simp only [In64] at *; omega) | (simp [In64] at *; omega) | (simp_all; done) | skip)
    refine qd (qa ?_)
    refine ⟨k + 1, [0], ⟨by omega, by omega⟩, by omega, ?_⟩
    simp only [leq, leA, ev0, evA, evB, evP, fl, gp, tab, simprocAttr, reduceCtorEq, reduceIte] <;> omega
  · (try simp only [nhs] at hC1)
    have hek : k = ord n (op m n) e a := by
      rcases Nat.lt_or_ge k (ord n (op m n) e a) with hlt | hge
      · exact absurd (by omega) (o4 k hk1 hlt)
      · omega
    refine qj (qc (qc (qf (qa (qm ?_)))))
    refine hk_region fun K hK => runs_eval tab_ok ?_
    simp only [ev0, evA, evB, evP, fl, gp, tab, simprocAttr, reduceCtorEq, reduceIte]
    refine fin_run trivial (hK _ ?_) <;> clear hK <;> clear K
    refine qa (qk ?_)
    simp only [Tryd.results42, enA, ev0, evA, evB, evP, fl, gp, tab, simprocAttr, reduceCtorEq, reduceIte]
    all_goals (rw [hek])

def abel (m : List Int) (n : Nat) : Prop := ∀ a, a < n → ∀ b, b < n → op m n a b = op m n b a
instance (m : List Int) (n : Nat) : Decidable (abel m n) := by unfold abel; infer_instance

end Go.Proofs.YtboadfahlflmhaaDoor

/-
  Walks: rows, groups, numbers: the document's and the laws' small words. Conditions: none.
-/
set_option linter.all false
namespace Go.Proofs.YtboadfahlflmhaaDoor
open Go.Pv

end Go.Proofs.YtboadfahlflmhaaDoor

/-
  Walks: the program's words of groups: faults, the one, inverses. Conditions: none.
-/
set_option linter.all false
namespace Go.Proofs.YtboadfahlflmhaaDoor
open Go.Pv

theorem fault_c (c a : Int) : FnC Tryd.prog 126 [.int .i64 c, .int .i64 a] (fl (c, a)) := by
  refine fnc_of tab_ok Tryd.func126 rfl (by kernel_rfl) (by rw [Tryd.ntmps126]; exact Nat.le_add_left 2 _) ?_; rw [Tryd.ntmps126]
  refine qm ?_
  refine hk_region fun K hK => runs_eval tab_ok ?_
  simp only [ev0, evA, evB, evP, fl, gp, tab, simprocAttr, reduceCtorEq, reduceIte]
  refine fin_run ?_ (hK _ ?_) <;> clear hK <;> clear K
  · (first | exact trivial | omega | (simp only [In64] at *; omega) | (simp [In64] at *; omega) | (simp_all; done) | skip)
  refine qa (qm ?_)
  refine hk_region fun K hK => runs_eval tab_ok ?_
  simp only [ev0, evA, evB, evP, fl, gp, tab, simprocAttr, reduceCtorEq, reduceIte]
  refine fin_run ?_ (hK _ ?_) <;> clear hK <;> clear K
  · (first | exact trivial | omega | (simp only [In64] at *; omega) | (simp [In64] at *; omega) | (simp_all; done) | skip)
  refine qa (qk ?_)
  simp only [Tryd.results126, enA, ev0, evA, evB, evP, fl, gp, tab, simprocAttr, reduceCtorEq, reduceIte]
  all_goals (rfl)

theorem of_c {n : Nat} {m : List Int} (T : Tab n m) {a b : Nat} (ha : a < n) (hb : b < n) : FnC Tryd.prog 108 [gp n m, .int .i64 a, .int .i64 b] (.int .i64 (op m n a b : Nat)) := by
  have h1 := at_lt ha hb
  have h2 := sq_le T.big
  have h3 := T.len
  have hc : (a : Int) * (n : Int) = ((a * n : Nat) : Int) := (Int.natCast_mul a n).symm
  have hv := T.val ha hb
  refine fnc_of tab_ok Tryd.func108 rfl (by kernel_rfl) (by rw [Tryd.ntmps108]; exact Nat.le_add_left 3 _) ?_; rw [Tryd.ntmps108]
  refine qm ?_
  refine hk_region fun K hK => runs_eval tab_ok ?_
  simp only [ev0, evA, evB, evP, fl, gp, tab, simprocAttr, reduceCtorEq, reduceIte]
  refine fin_run ?_ (hK _ ?_) <;> clear hK <;> clear K
  · (first | exact trivial | omega | (simp only [In64] at *; omega) | (simp [In64] at *; omega) | (simp_all; done) | skip)
  refine qa (qm ?_)
  refine hk_region fun K hK => runs_eval tab_ok ?_
  simp only [ev0, evA, evB, evP, fl, gp, tab, simprocAttr, reduceCtorEq, reduceIte, at_nat, il_get (show a * n + b < m.length by omega), hv]
  refine fin_run ?_ (hK _ ?_) <;> clear hK <;> clear K
  · rw [hc]; simp only [In64]; omega
  refine qa (qk ?_)
  simp only [Tryd.results108, enA, ev0, evA, evB, evP, fl, gp, tab, simprocAttr, reduceCtorEq, reduceIte]
  all_goals (rfl)

def ix (l : List Int) (x : Int) : Int := match fst' (fun i => decide (l.getD i 0 = x)) l.length with | some i => (i : Int) | none => -1

theorem index_c (l : List Int) (x : Int) (hl : l.length ≤ 1000000000000) : FnC Tryd.prog 122 [.list (il l), .int .i64 x] (.int .i64 (ix l x)) := by
  refine fnc_of tab_ok Tryd.func122 rfl (by kernel_rfl) (by rw [Tryd.ntmps122]; exact Nat.le_add_left 2 _) ?_; rw [Tryd.ntmps122]
  refine qm ?_
  refine hk_region fun K hK => runs_eval tab_ok ?_
  simp only [ev0, evA, evB, evP, fl, gp, tab, simprocAttr, reduceCtorEq, reduceIte]
  refine fin_run trivial (hK _ ?_) <;> clear hK <;> clear K
  refine qa (qm (qm ?_))
  refine hk_region fun K hK => runs_eval tab_ok ?_
  simp only [ev0, evA, evB, evP, fl, gp, tab, simprocAttr, reduceCtorEq, reduceIte]
  refine fin_run trivial (hK _ ?_) <;> clear hK <;> clear K
  refine qa (ql ?_)
  refine hk_loop (ι := Nat) (fun i => ⟨19, [(0, .p (.list (il l))), (1, .p (.int .i64 x)), (7, .p (.int .i64 l.length)), (8, .p (.int .i64 i))], []⟩) (fun i => i ≤ l.length ∧ ∀ j, j < i → ¬ l.getD j 0 = x) (fun i => l.length - i) 0 ⟨Nat.zero_le _, fun j hj => by omega⟩ [] (by simp only [leq, leA, ev0, evA, evB, evP, fl, gp, tab, simprocAttr, reduceCtorEq, reduceIte] <;> trivial) fun i hi => ?_
  obtain ⟨hi1, hi2⟩ := hi
  refine qm ?_
  refine hk_region fun K hK => runs_eval tab_ok ?_
  simp only [ev0, evA, evB, evP, fl, gp, tab, simprocAttr, reduceCtorEq, reduceIte]
  refine fin_run trivial (hK _ ?_) <;> clear hK <;> clear K
  refine qa (qm ?_)
  refine hk_cond rfl (fun hC1 => ?_) (fun hC1 => ?_)
  · (try simp only [nhs] at hC1)
    have hlt : i < l.length := by omega
    refine qh (qa (qm (ql (qm ?_))))
    refine hk_region fun K hK => runs_eval tab_ok ?_
    simp only [ev0, evA, evB, evP, fl, gp, tab, simprocAttr, reduceCtorEq, reduceIte]
    refine fin_run trivial (hK _ ?_) <;> clear hK <;> clear K
    refine qa (qm ?_)
    refine hk_region fun K hK => runs_eval tab_ok ?_
    simp only [ev0, evA, evB, evP, fl, gp, tab, simprocAttr, reduceCtorEq, reduceIte, il_get hlt]
    refine fin_run ?_ (hK _ ?_) <;> clear hK <;> clear K
    · (first | exact trivial | omega | (simp only [In64] at *; omega) | (simp [In64] at *; omega) | (simp_all; done) | skip)
    refine qa ?_
    refine hk_cond rfl (fun hC2 => ?_) (fun hC2 => ?_)
    · (try simp only [nhs] at hC2)
      refine qm ?_
      refine hk_region fun K hK => runs_eval tab_ok ?_
      simp only [ev0, evA, evB, evP, fl, gp, tab, simprocAttr, reduceCtorEq, reduceIte]
      refine fin_run trivial (hK _ ?_) <;> clear hK <;> clear K
      refine qa (qk (qe (qb (qb (qe (qb ?_))))))
      simp only [Tryd.results122, enA, ev0, evA, evB, evP, fl, gp, tab, simprocAttr, reduceCtorEq, reduceIte]
      all_goals (unfold ix; rw [fst_some hlt (decide_eq_true hC2.symm) fun j hj => decide_eq_false (hi2 j hj)])
    · (try simp only [nhs] at hC2)
      refine qh (qd (qa ?_))
      refine hk_region fun K hK => runs_eval tab_ok ?_
      simp only [ev0, evA, evB, evP, fl, gp, tab, simprocAttr, reduceCtorEq, reduceIte]
      refine fin_run ?_ (hK _ ?_) <;> clear hK <;> clear K
      · (first | exact trivial | omega | (simp only [In64] at *; omega) | (simp [In64] at *; omega) | (simp_all; done) | skip)
      refine qa ?_
      refine ⟨i + 1, [], ⟨by omega, fun j hj => ?_⟩, by omega, ?_⟩
      · by_cases hj : j = i
        · subst hj; exact fun h => hC2 h.symm
        · exact hi2 j (by omega)
      · simp only [leq, leA, ev0, evA, evB, evP, fl, gp, tab, simprocAttr, reduceCtorEq, reduceIte] <;> first | trivial | omega
  · (try simp only [nhs] at hC1)
    refine qj (qc (qc (qf (qa (qm ?_)))))
    refine hk_region fun K hK => runs_eval tab_ok ?_
    simp only [ev0, evA, evB, evP, fl, gp, tab, simprocAttr, reduceCtorEq, reduceIte]
    refine fin_run trivial (hK _ ?_) <;> clear hK <;> clear K
    refine qa (qk ?_)
    simp only [Tryd.results122, enA, ev0, evA, evB, evP, fl, gp, tab, simprocAttr, reduceCtorEq, reduceIte]
    all_goals (unfold ix; rw [fst_none fun j hj => decide_eq_false (hi2 j (by omega))])

theorem ix_mem (l : List Int) (x : Int) : ix l x ≥ 0 ↔ ∃ i, i < l.length ∧ l.getD i 0 = x := by
  unfold ix
  cases h : fst' (fun i => decide (l.getD i 0 = x)) l.length with
  | none =>
    constructor
    · intro h; simp at h
    · rintro ⟨i, hi, e⟩
      exact absurd e (of_decide_eq_false (fst_spec0 h i hi))
  | some i =>
    obtain ⟨h1, h2, _⟩ := fst_spec h
    exact ⟨fun _ => ⟨i, h1, of_decide_eq_true h2⟩, fun _ => by simp⟩

theorem contains_c (l : List Int) (x : Int) (hl : l.length ≤ 1000000000000) : FnC Tryd.prog 127 [.list (il l), .int .i64 x] (.bool (decide (ix l x ≥ 0))) := by
  refine fnc_of tab_ok Tryd.func127 rfl (by kernel_rfl) (by rw [Tryd.ntmps127]; exact Nat.le_add_left 2 _) ?_; rw [Tryd.ntmps127]
  refine qm ?_
  refine hk_region fun K hK => runs_eval tab_ok ?_
  simp only [ev0, evA, evB, evP, fl, gp, tab, simprocAttr, reduceCtorEq, reduceIte]
  refine fin_run trivial (hK _ ?_) <;> clear hK <;> clear K
  refine qa (qm ?_)
  refine hk_region fun K hK => runs_eval tab_ok ?_
  simp only [ev0, evA, evB, evP, fl, gp, tab, simprocAttr, reduceCtorEq, reduceIte]
  refine fin_stop trivial (runs_call (index_c l x hl) rfl rfl rfl (by simp only [dstOk, Nat.reduceLT]) (by repeat (first | exact trivial | constructor)) (runs_eval tab_ok ?_))
  simp only [ev0, evA, evB, evP, fl, gp, tab, simprocAttr, reduceCtorEq, reduceIte]
  refine fin_run trivial (hK _ ?_) <;> clear hK <;> clear K
  refine qa (qk ?_)
  simp only [Tryd.results127, enA, ev0, evA, evB, evP, fl, gp, tab, simprocAttr, reduceCtorEq, reduceIte]
  all_goals ((first | exact rfl | exact ⟨rfl, rfl⟩ | exact ⟨rfl, rfl, rfl⟩ | exact ⟨trivial, rfl⟩ | exact ⟨Nat.le_refl _, rfl⟩ | trivial | (simp; done)))

/-- A row of the table. -/
def row (m : List Int) (n a : Nat) : List Int := (m.drop (a * n)).take n

theorem row_len {m : List Int} {n a : Nat} (T : Tab n m) (ha : a < n) : (row m n a).length = n := by
  have : (a + 1) * n ≤ n * n := Nat.mul_le_mul_right _ ha
  rw [Nat.add_mul, Nat.one_mul] at this
  have := T.len
  simp [row]; omega
theorem row_get {m : List Int} {n a b : Nat} (T : Tab n m) (ha : a < n) (hb : b < n) : (row m n a).getD b 0 = ((op m n a b : Nat) : Int) := by
  rw [← T.val ha hb]
  simp only [row, List.getD, List.getElem?_take, if_pos hb, List.getElem?_drop]
theorem row_ix {m : List Int} {n a : Nat} (T : Tab n m) (ha : a < n) (x : Int) : ix (row m n a) x ≥ 0 ↔ ∃ b, b < n ∧ ((op m n a b : Nat) : Int) = x := by
  rw [ix_mem, row_len T ha]
  constructor
  · rintro ⟨b, hb, e⟩; exact ⟨b, hb, by rw [← row_get T ha hb]; exact e⟩
  · rintro ⟨b, hb, e⟩; exact ⟨b, hb, by rw [row_get T ha hb]; exact e⟩

/-- The last that is the one, among so many; -1. -/
def oneI (m : List Int) (n : Nat) : Nat → Int
  | 0 => -1
  | i + 1 => if isE m n i then (i : Int) else oneI m n i

theorem oneI_no {m : List Int} {n : Nat} (h : ∀ a, a < n → ¬ isE m n a) : ∀ i, i ≤ n → oneI m n i = -1
  | 0, _ => rfl
  | i + 1, hi => by simp only [oneI]; rw [if_neg (h i (by omega)), oneI_no h i (by omega)]
theorem oneI_yes {m : List Int} {n e : Nat} (he : e < n) (h : isE m n e) : ∀ i, i ≤ n → e < i → oneI m n i = (e : Nat)
  | 0, _, h2 => by omega
  | i + 1, hi, h2 => by
    simp only [oneI]
    by_cases hE : isE m n i
    · rw [if_pos hE, isE_unique he (by omega) h hE]
    · rw [if_neg hE]
      have : e ≠ i := fun h' => hE (h' ▸ h)
      exact oneI_yes he h i (by omega) (by omega)
theorem oneI_eI (m : List Int) (n : Nat) : oneI m n n = eI m n := by
  rcases eI_cases m n with ⟨h1, h2⟩ | ⟨e, he, h1, h2⟩
  · rw [h1, oneI_no h2 n (Nat.le_refl _)]
  · rw [h2, oneI_yes he h1 n (Nat.le_refl _) he]

/-- The program's test of an inverse, and the document's. -/
theorem inv_test {m : List Int} {n a : Nat} (T : Tab n m) (he : ¬ eI m n < 0) (hs : ∀ a, a < n → asc m n a) (ha : a < n) : ix (row m n a) (eI m n) ≥ 0 ↔ ¬ iI m n a < 0 := by
  rw [row_ix T ha]
  rcases eI_cases m n with ⟨h1, _⟩ | ⟨e, hel, hE, heq⟩
  · omega
  constructor
  · rintro ⟨b, hb, h⟩ h2
    rcases iI_cases m n a with ⟨_, h3⟩ | ⟨b', _, _, _, h4⟩
    · refine h3 b hb ⟨h, ?_⟩
      rw [heq] at h ⊢
      have := right_inv (f := op m n) (fun a b ha hb => T.lt ha hb) hel (fun a ha => (hE a ha).1) (fun a ha => (hE a ha).2) (fun a b c ha hb hc => hs a ha b hb c hc) ha hb (by omega)
      omega
    · omega
  · intro h
    rcases iI_cases m n a with ⟨h3, _⟩ | ⟨b, hb, h4, _, _⟩
    · omega
    · exact ⟨b, hb, h4⟩

theorem lo_nat (a n : Nat) : ((a : Int) * (n : Int)).toNat = a * n := by
  rw [← Int.natCast_mul]; rfl
theorem hi_nat (a n : Nat) : (((a : Int) + 1) * (n : Int)).toNat = (a + 1) * n := by
  have : ((a : Int) + 1) * (n : Int) = (((a + 1) * n : Nat) : Int) := by rw [Int.natCast_mul]; rfl
  rw [this]; rfl
theorem hi_sub (a n : Nat) : (a + 1) * n - a * n = n := by rw [Nat.add_mul, Nat.one_mul]; omega

set_option maxHeartbeats 1000000 in
theorem check_c (N : Int) (m : List Int) (hm : m.length ≤ 1000000000000000) : FnC Tryd.prog 76 [gp N m] (fl (gf N m)) := by
  refine fnc_of tab_ok Tryd.func76 rfl (by kernel_rfl) (by rw [Tryd.ntmps76]; exact Nat.le_add_left 1 _) ?_; rw [Tryd.ntmps76]
  refine qm ?_
  refine hk_region fun K hK => runs_eval tab_ok ?_
  simp only [ev0, evA, evB, evP, fl, gp, tab, simprocAttr, reduceCtorEq, reduceIte]
  refine fin_run ?_ (hK _ ?_) <;> clear hK <;> clear K
  · (first | exact trivial | omega | (simp only [In64] at *; omega) | (simp [In64] at *; omega) | (simp_all; done) | skip)
  refine qa (qm (qm ?_))
  by_cases g1a : N < 1
  · refine hk_region fun K hK => runs_eval tab_ok ?_
    simp only [ev0, evA, evB, evP, fl, gp, tab, simprocAttr, reduceCtorEq, reduceIte, decide_eq_true g1a]
    refine fin_run ?_ (hK _ ?_) <;> clear hK <;> clear K
    · (first | exact trivial | omega | (simp only [In64] at *; omega) | (simp [In64] at *; omega) | (simp_all; done) | skip)
    refine qa ?_
    refine hk_cond rfl (fun hC1 => ?_) (fun hC1 => ?_)
    · refine qm ?_
      refine hk_region fun K hK => runs_eval tab_ok ?_
      simp only [ev0, evA, evB, evP, fl, gp, tab, simprocAttr, reduceCtorEq, reduceIte]
      refine fin_stop trivial (runs_call (fault_c 2 0) rfl rfl rfl (by simp only [dstOk, Nat.reduceLT]) (by repeat (first | exact trivial | constructor)) (runs_eval tab_ok ?_))
      simp only [ev0, evA, evB, evP, fl, gp, tab, simprocAttr, reduceCtorEq, reduceIte]
      refine fin_run ?_ (hK _ ?_) <;> clear hK <;> clear K
      · (first | exact trivial | omega | (simp only [In64] at *; omega) | (simp [In64] at *; omega) | (simp_all; done) | skip)
      refine qa (qk (qb ?_))
      simp only [Tryd.results76, enA, ev0, evA, evB, evP, fl, gp, tab, simprocAttr, reduceCtorEq, reduceIte]
      all_goals (unfold gf; rw [if_pos (.inl g1a)]; simp)
    · cases hC1
  · refine hk_region fun K hK => runs_eval tab_ok ?_
    simp only [ev0, evA, evB, evP, fl, gp, tab, simprocAttr, reduceCtorEq, reduceIte, decide_eq_false g1a]
    refine fin_run ?_ (hK _ ?_) <;> clear hK <;> clear K
    · (first | exact trivial | omega | (simp only [In64] at *; omega) | (simp [In64] at *; omega) | (simp_all; done) | skip)
    refine qa ?_
    refine hk_cond rfl (fun hC1 => ?_) (fun hC1 => ?_)
    · (try simp only [nhs] at hC1)
      refine qm ?_
      refine hk_region fun K hK => runs_eval tab_ok ?_
      simp only [ev0, evA, evB, evP, fl, gp, tab, simprocAttr, reduceCtorEq, reduceIte]
      refine fin_stop trivial (runs_call (fault_c 2 0) rfl rfl rfl (by simp only [dstOk, Nat.reduceLT]) (by repeat (first | exact trivial | constructor)) (runs_eval tab_ok ?_))
      simp only [ev0, evA, evB, evP, fl, gp, tab, simprocAttr, reduceCtorEq, reduceIte]
      refine fin_run ?_ (hK _ ?_) <;> clear hK <;> clear K
      · (first | exact trivial | omega | (simp only [In64] at *; omega) | (simp [In64] at *; omega) | (simp_all; done) | skip)
      refine qa (qk (qb ?_))
      simp only [Tryd.results76, enA, ev0, evA, evB, evP, fl, gp, tab, simprocAttr, reduceCtorEq, reduceIte]
      all_goals (unfold gf; rw [if_pos (.inr hC1)]; simp)
    · (try simp only [nhs] at hC1)
      obtain ⟨n, rfl⟩ := Int.eq_ofNat_of_zero_le (show 0 ≤ N by omega)
      have hnn := sq_int n
      have hsq := sq_le (show n ≤ 60 by omega)
      refine qh (qa (qm (qm ?_)))
      refine hk_region fun K hK => runs_eval tab_ok ?_
      simp only [ev0, evA, evB, evP, fl, gp, tab, simprocAttr, reduceCtorEq, reduceIte]
      refine fin_run ?_ (hK _ ?_) <;> clear hK <;> clear K
      · simp only [In64]; omega
      refine qa ?_
      refine hk_cond rfl (fun hC2 => ?_) (fun hC2 => ?_)
      · (try simp only [nhs] at hC2)
        refine qm ?_
        refine hk_region fun K hK => runs_eval tab_ok ?_
        simp only [ev0, evA, evB, evP, fl, gp, tab, simprocAttr, reduceCtorEq, reduceIte]
        refine fin_stop trivial (runs_call (fault_c 8 0) rfl rfl rfl (by simp only [dstOk, Nat.reduceLT]) (by repeat (first | exact trivial | constructor)) (runs_eval tab_ok ?_))
        simp only [ev0, evA, evB, evP, fl, gp, tab, simprocAttr, reduceCtorEq, reduceIte]
        refine fin_run ?_ (hK _ ?_) <;> clear hK <;> clear K
        · (first | exact trivial | omega | (simp only [In64] at *; omega) | (simp [In64] at *; omega) | (simp_all; done) | skip)
        refine qa (qk (qb ?_))
        simp only [Tryd.results76, enA, ev0, evA, evB, evP, fl, gp, tab, simprocAttr, reduceCtorEq, reduceIte]
        all_goals (rw [gf_size (by omega) (by omega) (by omega)]; simp)
      · (try simp only [nhs] at hC2)
        have hl : m.length = n * n := by omega
        refine qh (qa (qm (qm ?_)))
        refine hk_region fun K hK => runs_eval tab_ok ?_
        simp only [ev0, evA, evB, evP, fl, gp, tab, simprocAttr, reduceCtorEq, reduceIte]
        refine fin_run ?_ (hK _ ?_) <;> clear hK <;> clear K
        · (first | exact trivial | omega | (simp only [In64] at *; omega) | (simp [In64] at *; omega) | (simp_all; done) | skip)
        refine qa (ql ?_)
        refine hk_loop (ι := Nat) (fun i => ⟨144, [(1, .ptr 0 0), (2, .ptr 1 0), (33, .p (.list (il m))), (34, .p (.int .i64 m.length)), (35, .p (.int .i64 i))], [.own [.p (.int .i64 n), .p (.list (il m))], .own [.p (.int .i64 0), .p (.int .i64 0)]]⟩) (fun i => i ≤ m.length ∧ ∀ j, j < i → bad n m j = false) (fun i => m.length - i) 0 ⟨Nat.zero_le _, fun j hj => by omega⟩ [0, 1] (by simp only [leq, leA, ev0, evA, evB, evP, fl, gp, tab, simprocAttr, reduceCtorEq, reduceIte] <;> trivial) fun i hi => ?_
        obtain ⟨hi1, hi2⟩ := hi
        refine qm ?_
        refine hk_region fun K hK => runs_eval tab_ok ?_
        simp only [ev0, evA, evB, evP, fl, gp, tab, simprocAttr, reduceCtorEq, reduceIte]
        refine fin_run trivial (hK _ ?_) <;> clear hK <;> clear K
        refine qa (qm ?_)
        refine hk_cond rfl (fun hC3 => ?_) (fun hC3 => ?_)
        · (try simp only [nhs] at hC3)
          have hlt : i < m.length := by omega
          refine qh (qa (qm (ql (qm ?_))))
          refine hk_region fun K hK => runs_eval tab_ok ?_
          simp only [ev0, evA, evB, evP, fl, gp, tab, simprocAttr, reduceCtorEq, reduceIte, il_get hlt]
          refine fin_run ?_ (hK _ ?_) <;> clear hK <;> clear K
          · (first | exact trivial | omega | (simp only [In64] at *; omega) | (simp [In64] at *; omega) | (simp_all; done) | skip)
          refine qa (qm ?_)
          by_cases g8a : m.getD i 0 < 0
          · refine hk_region fun K hK => runs_eval tab_ok ?_
            simp only [ev0, evA, evB, evP, fl, gp, tab, simprocAttr, reduceCtorEq, reduceIte, decide_eq_true g8a]
            refine fin_run trivial (hK _ ?_) <;> clear hK <;> clear K
            refine qa ?_
            refine hk_cond rfl (fun hC4 => ?_) (fun hC4 => ?_)
            · refine qm ?_
              refine hk_region fun K hK => runs_eval tab_ok ?_
              simp only [ev0, evA, evB, evP, fl, gp, tab, simprocAttr, reduceCtorEq, reduceIte]
              refine fin_stop trivial (runs_call (fault_c 3 i) rfl rfl rfl (by simp only [dstOk, Nat.reduceLT]) (by repeat (first | exact trivial | constructor)) (runs_eval tab_ok ?_))
              simp only [ev0, evA, evB, evP, fl, gp, tab, simprocAttr, reduceCtorEq, reduceIte]
              refine fin_run ?_ (hK _ ?_) <;> clear hK <;> clear K
              · (first | exact trivial | omega | (simp only [In64] at *; omega) | (simp [In64] at *; omega) | (simp_all; done) | skip)
              refine qa (qk (qe (qb (qb (qe (qb ?_))))))
              simp only [Tryd.results76, enA, ev0, evA, evB, evP, fl, gp, tab, simprocAttr, reduceCtorEq, reduceIte]
              all_goals (rw [gf_range (by omega) (by omega) hl hlt (decide_eq_true (.inl g8a)) hi2]; simp)
            · cases hC4
          · refine hk_region fun K hK => runs_eval tab_ok ?_
            simp only [ev0, evA, evB, evP, fl, gp, tab, simprocAttr, reduceCtorEq, reduceIte, decide_eq_false g8a]
            refine fin_run ?_ (hK _ ?_) <;> clear hK <;> clear K
            · (first | exact trivial | omega | (simp only [In64] at *; omega) | (simp [In64] at *; omega) | (simp_all; done) | skip)
            refine qa ?_
            refine hk_cond rfl (fun hC4 => ?_) (fun hC4 => ?_)
            · (try simp only [nhs] at hC4)
              refine qm ?_
              refine hk_region fun K hK => runs_eval tab_ok ?_
              simp only [ev0, evA, evB, evP, fl, gp, tab, simprocAttr, reduceCtorEq, reduceIte]
              refine fin_stop trivial (runs_call (fault_c 3 i) rfl rfl rfl (by simp only [dstOk, Nat.reduceLT]) (by repeat (first | exact trivial | constructor)) (runs_eval tab_ok ?_))
              simp only [ev0, evA, evB, evP, fl, gp, tab, simprocAttr, reduceCtorEq, reduceIte]
              refine fin_run ?_ (hK _ ?_) <;> clear hK <;> clear K
              · (first | exact trivial | omega | (simp only [In64] at *; omega) | (simp [In64] at *; omega) | (simp_all; done) | skip)
              refine qa (qk (qe (qb (qb (qe (qb ?_))))))
              simp only [Tryd.results76, enA, ev0, evA, evB, evP, fl, gp, tab, simprocAttr, reduceCtorEq, reduceIte]
              all_goals (rw [gf_range (by omega) (by omega) hl hlt (decide_eq_true (.inr hC4)) hi2]; simp)
            · (try simp only [nhs] at hC4)
              refine qh (qd (qa ?_))
              refine hk_region fun K hK => runs_eval tab_ok ?_
              simp only [ev0, evA, evB, evP, fl, gp, tab, simprocAttr, reduceCtorEq, reduceIte]
              refine fin_run ?_ (hK _ ?_) <;> clear hK <;> clear K
              · (first | exact trivial | omega | (simp only [In64] at *; omega) | (simp [In64] at *; omega) | (simp_all; done) | skip)
              refine qa ?_
              refine ⟨i + 1, [0, 1], ⟨by omega, fun j hj => ?_⟩, by omega, ?_⟩
              · by_cases hj : j = i
                · subst hj; exact decide_eq_false (by omega)
                · exact hi2 j (by omega)
              · simp only [leq, leA, ev0, evA, evB, evP, fl, gp, tab, simprocAttr, reduceCtorEq, reduceIte] <;> first | trivial | omega
        · (try simp only [nhs] at hC3)
          have T : Tab n m := by
            refine ⟨by omega, by omega, hl, fun j hj => ?_⟩
            have := of_decide_eq_false (hi2 j (by omega))
            omega
          refine qj (qc (qc (qf (qa (qm ?_)))))
          refine hk_region fun K hK => runs_eval tab_ok ?_
          simp only [ev0, evA, evB, evP, fl, gp, tab, simprocAttr, reduceCtorEq, reduceIte]
          refine fin_run trivial (hK _ ?_) <;> clear hK <;> clear K
          refine qa (qm (qm ?_))
          refine hk_region fun K hK => runs_eval tab_ok ?_
          simp only [ev0, evA, evB, evP, fl, gp, tab, simprocAttr, reduceCtorEq, reduceIte]
          refine fin_run ?_ (hK _ ?_) <;> clear hK <;> clear K
          · (first | exact trivial | omega | (simp only [In64] at *; omega) | (simp [In64] at *; omega) | (simp_all; done) | skip)
          refine qa (ql ?_)
          refine hk_loop (ι := Nat) (fun i => ⟨144, [(1, .ptr 0 0), (2, .ptr 1 0), (5, .p (.int .i64 (oneI m n i))), (52, .p (.int .i64 n)), (53, .p (.int .i64 i))], [.own [.p (.int .i64 n), .p (.list (il m))], .own [.p (.int .i64 0), .p (.int .i64 0)]]⟩) (fun i => i ≤ n) (fun i => n - i) 0 (Nat.zero_le _) [0, 1] (by simp only [leq, leA, ev0, evA, evB, evP, fl, gp, tab, simprocAttr, reduceCtorEq, reduceIte] <;> trivial) fun i hi => ?_
          refine qm ?_
          refine hk_region fun K hK => runs_eval tab_ok ?_
          simp only [ev0, evA, evB, evP, fl, gp, tab, simprocAttr, reduceCtorEq, reduceIte]
          refine fin_run trivial (hK _ ?_) <;> clear hK <;> clear K
          refine qa (qm ?_)
          refine hk_cond rfl (fun hC5 => ?_) (fun hC5 => ?_)
          · (try simp only [nhs] at hC5)
            have hil : i < n := by omega
            refine qh (qa (qm (ql (qm ?_))))
            refine hk_region fun K hK => runs_eval tab_ok ?_
            simp only [ev0, evA, evB, evP, fl, gp, tab, simprocAttr, reduceCtorEq, reduceIte]
            refine fin_run trivial (hK _ ?_) <;> clear hK <;> clear K
            refine qa (qm ?_)
            refine hk_region fun K hK => runs_eval tab_ok ?_
            simp only [ev0, evA, evB, evP, fl, gp, tab, simprocAttr, reduceCtorEq, reduceIte]
            refine fin_run trivial (hK _ ?_) <;> clear hK <;> clear K
            refine qa (qm (qm ?_))
            refine hk_region fun K hK => runs_eval tab_ok ?_
            simp only [ev0, evA, evB, evP, fl, gp, tab, simprocAttr, reduceCtorEq, reduceIte]
            refine fin_run ?_ (hK _ ?_) <;> clear hK <;> clear K
            · (first | exact trivial | omega | (simp only [In64] at *; omega) | (simp [In64] at *; omega) | (simp_all; done) | skip)
            refine qa (ql ?_)
            refine hk_loop (ι := Nat) (fun b => ⟨144, [(1, .ptr 0 0), (2, .ptr 1 0), (5, .p (.int .i64 (oneI m n i))), (6, .p (.int .i64 i)), (7, .p (.bool (decide (∀ c, c < b → op m n i c = c ∧ op m n c i = c)))), (52, .p (.int .i64 n)), (53, .p (.int .i64 i)), (57, .p (.int .i64 n)), (58, .p (.int .i64 b))], [.own [.p (.int .i64 n), .p (.list (il m))], .own [.p (.int .i64 0), .p (.int .i64 0)]]⟩) (fun b => b ≤ n) (fun b => n - b) 0 (Nat.zero_le _) [0, 1] (by simp only [leq, leA, ev0, evA, evB, evP, fl, gp, tab, simprocAttr, reduceCtorEq, reduceIte] <;> simp) fun b hb => ?_
            refine qm ?_
            refine hk_region fun K hK => runs_eval tab_ok ?_
            simp only [ev0, evA, evB, evP, fl, gp, tab, simprocAttr, reduceCtorEq, reduceIte]
            refine fin_run trivial (hK _ ?_) <;> clear hK <;> clear K
            refine qa (qm ?_)
            refine hk_cond rfl (fun hC6 => ?_) (fun hC6 => ?_)
            · (try simp only [nhs] at hC6)
              have hbl : b < n := by omega
              refine qh (qa (qm (ql (qm ?_))))
              refine hk_region fun K hK => runs_eval tab_ok ?_
              simp only [ev0, evA, evB, evP, fl, gp, tab, simprocAttr, reduceCtorEq, reduceIte]
              refine fin_run trivial (hK _ ?_) <;> clear hK <;> clear K
              refine qa ?_
              by_cases g19a : ∀ c, c < b → op m n i c = c ∧ op m n c i = c
              · by_cases g19b : ((op m n i b : Nat) : Int) = (b : Nat)
                · refine hk_region fun K hK => runs_eval tab_ok ?_
                  simp only [ev0, evA, evB, evP, fl, gp, tab, simprocAttr, reduceCtorEq, reduceIte, decide_eq_true g19a, decide_eq_true g19b]
                  refine fin_stop trivial (runs_call (of_c T hil hbl) rfl rfl rfl (by simp only [dstOk, Nat.reduceLT]) (by repeat (first | exact trivial | constructor)) (runs_eval tab_ok ?_))
                  simp only [ev0, evA, evB, evP, fl, gp, tab, simprocAttr, reduceCtorEq, reduceIte, decide_eq_true g19a, decide_eq_true g19b]
                  refine fin_stop trivial (runs_call (of_c T hbl hil) rfl rfl rfl (by simp only [dstOk, Nat.reduceLT]) (by repeat (first | exact trivial | constructor)) (runs_eval tab_ok ?_))
                  simp only [ev0, evA, evB, evP, fl, gp, tab, simprocAttr, reduceCtorEq, reduceIte, decide_eq_true g19a, decide_eq_true g19b]
                  refine fin_run ?_ (hK _ ?_) <;> clear hK <;> clear K
                  · (first | exact trivial | omega | (simp only [In64] at *; omega) | (simp [In64] at *; omega) | (simp_all; done) | skip)
                  refine qd (qa ?_)
                  refine hk_region fun K hK => runs_eval tab_ok ?_
                  simp only [ev0, evA, evB, evP, fl, gp, tab, simprocAttr, reduceCtorEq, reduceIte]
                  refine fin_run ?_ (hK _ ?_) <;> clear hK <;> clear K
                  · (first | exact trivial | omega | (simp only [In64] at *; omega) | (simp [In64] at *; omega) | (simp_all; done) | skip)
                  refine qa ?_
                  refine ⟨b + 1, [0, 1], by omega, by omega, ?_⟩
                  have hd : decide (∀ c, c < b + 1 → op m n i c = c ∧ op m n c i = c) = decide (((op m n b i : Nat) : Int) = (b : Nat)) := by
                    apply decide_eq_decide.2
                    constructor
                    · intro h; have := h b (by omega); omega
                    · intro h c hc
                      by_cases hcb : c = b
                      · subst hcb; omega
                      · exact g19a c (by omega)
                  rw [hd]
                  simp only [leq, leA, ev0, evA, evB, evP, fl, gp, tab, simprocAttr, reduceCtorEq, reduceIte] <;> first | trivial | omega
                · refine hk_region fun K hK => runs_eval tab_ok ?_
                  simp only [ev0, evA, evB, evP, fl, gp, tab, simprocAttr, reduceCtorEq, reduceIte, decide_eq_true g19a, decide_eq_false g19b]
                  refine fin_stop trivial (runs_call (of_c T hil hbl) rfl rfl rfl (by simp only [dstOk, Nat.reduceLT]) (by repeat (first | exact trivial | constructor)) (runs_eval tab_ok ?_))
                  simp only [ev0, evA, evB, evP, fl, gp, tab, simprocAttr, reduceCtorEq, reduceIte, decide_eq_true g19a, decide_eq_false g19b]
                  refine fin_run ?_ (hK _ ?_) <;> clear hK <;> clear K
                  · (first | exact trivial | omega | (simp only [In64] at *; omega) | (simp [In64] at *; omega) | (simp_all; done) | skip)
                  refine qd (qa ?_)
                  refine hk_region fun K hK => runs_eval tab_ok ?_
                  simp only [ev0, evA, evB, evP, fl, gp, tab, simprocAttr, reduceCtorEq, reduceIte]
                  refine fin_run ?_ (hK _ ?_) <;> clear hK <;> clear K
                  · (first | exact trivial | omega | (simp only [In64] at *; omega) | (simp [In64] at *; omega) | (simp_all; done) | skip)
                  refine qa ?_
                  refine ⟨b + 1, [0, 1], by omega, by omega, ?_⟩
                  rw [dall_no (P := fun c => op m n i c = c ∧ op m n c i = c) (b := b) fun h => by omega]
                  simp only [leq, leA, ev0, evA, evB, evP, fl, gp, tab, simprocAttr, reduceCtorEq, reduceIte] <;> first | trivial | omega
              · refine hk_region fun K hK => runs_eval tab_ok ?_
                simp only [ev0, evA, evB, evP, fl, gp, tab, simprocAttr, reduceCtorEq, reduceIte, decide_eq_false g19a]
                refine fin_run trivial (hK _ ?_) <;> clear hK <;> clear K
                refine qd (qa ?_)
                refine hk_region fun K hK => runs_eval tab_ok ?_
                simp only [ev0, evA, evB, evP, fl, gp, tab, simprocAttr, reduceCtorEq, reduceIte]
                refine fin_run ?_ (hK _ ?_) <;> clear hK <;> clear K
                · (first | exact trivial | omega | (simp only [In64] at *; omega) | (simp [In64] at *; omega) | (simp_all; done) | skip)
                refine qa ?_
                refine ⟨b + 1, [0, 1], by omega, by omega, ?_⟩
                rw [show decide (∀ c, c < b + 1 → op m n i c = c ∧ op m n c i = c) = false from decide_eq_false fun h => g19a fun c hc => h c (by omega)]
                simp only [leq, leA, ev0, evA, evB, evP, fl, gp, tab, simprocAttr, reduceCtorEq, reduceIte] <;> first | trivial | omega
            · (try simp only [nhs] at hC6)
              have hbn : b = n := by omega
              subst hbn
              refine qj (qc (qc (qf (qa (qm ?_)))))
              refine hk_region fun K hK => runs_eval tab_ok ?_
              simp only [ev0, evA, evB, evP, fl, gp, tab, simprocAttr, reduceCtorEq, reduceIte]
              refine fin_run trivial (hK _ ?_) <;> clear hK <;> clear K
              refine qa ?_
              refine hk_cond rfl (fun hone => ?_) (fun hone => ?_)
              · (try simp only [nhs] at hone)
                refine hk_region fun K hK => runs_eval tab_ok ?_
                simp only [ev0, evA, evB, evP, fl, gp, tab, simprocAttr, reduceCtorEq, reduceIte]
                refine fin_run trivial (hK _ ?_) <;> clear hK <;> clear K
                refine qd (qa ?_)
                refine hk_region fun K hK => runs_eval tab_ok ?_
                simp only [ev0, evA, evB, evP, fl, gp, tab, simprocAttr, reduceCtorEq, reduceIte]
                refine fin_run ?_ (hK _ ?_) <;> clear hK <;> clear K
                · (first | exact trivial | omega | (simp only [In64] at *; omega) | (simp [In64] at *; omega) | (simp_all; done) | skip)
                refine qa ?_
                refine ⟨i + 1, [0, 1], by omega, by omega, ?_⟩
                simp only [oneI]
                rw [if_pos (show isE m b i from hone)]
                simp only [leq, leA, ev0, evA, evB, evP, fl, gp, tab, simprocAttr, reduceCtorEq, reduceIte] <;> first | trivial | omega
              · (try simp only [nhs] at hone)
                refine qh (qd (qa ?_))
                refine hk_region fun K hK => runs_eval tab_ok ?_
                simp only [ev0, evA, evB, evP, fl, gp, tab, simprocAttr, reduceCtorEq, reduceIte]
                refine fin_run ?_ (hK _ ?_) <;> clear hK <;> clear K
                · (first | exact trivial | omega | (simp only [In64] at *; omega) | (simp [In64] at *; omega) | (simp_all; done) | skip)
                refine qa ?_
                refine ⟨i + 1, [0, 1], by omega, by omega, ?_⟩
                simp only [oneI]
                rw [if_neg (show ¬ isE m b i from hone)]
                simp only [leq, leA, ev0, evA, evB, evP, fl, gp, tab, simprocAttr, reduceCtorEq, reduceIte] <;> first | trivial | omega
          · (try simp only [nhs] at hC5)
            have hin : i = n := by omega
            subst hin
            rw [oneI_eI]
            refine qj (qc (qc (qf (qa (qm (qm ?_))))))
            refine hk_region fun K hK => runs_eval tab_ok ?_
            simp only [ev0, evA, evB, evP, fl, gp, tab, simprocAttr, reduceCtorEq, reduceIte]
            refine fin_run trivial (hK _ ?_) <;> clear hK <;> clear K
            refine qa ?_
            refine hk_cond rfl (fun hC8 => ?_) (fun hC8 => ?_)
            · (try simp only [nhs] at hC8)
              refine qm ?_
              refine hk_region fun K hK => runs_eval tab_ok ?_
              simp only [ev0, evA, evB, evP, fl, gp, tab, simprocAttr, reduceCtorEq, reduceIte]
              refine fin_stop trivial (runs_call (fault_c 6 0) rfl rfl rfl (by simp only [dstOk, Nat.reduceLT]) (by repeat (first | exact trivial | constructor)) (runs_eval tab_ok ?_))
              simp only [ev0, evA, evB, evP, fl, gp, tab, simprocAttr, reduceCtorEq, reduceIte]
              refine fin_run ?_ (hK _ ?_) <;> clear hK <;> clear K
              · (first | exact trivial | omega | (simp only [In64] at *; omega) | (simp [In64] at *; omega) | (simp_all; done) | skip)
              refine qa (qk (qb ?_))
              simp only [Tryd.results76, enA, ev0, evA, evB, evP, fl, gp, tab, simprocAttr, reduceCtorEq, reduceIte]
              all_goals (rw [gf_tab T, gf2_6 hC8]; simp)
            · (try simp only [nhs] at hC8)
              refine qh (qa (qm (qm ?_)))
              refine hk_region fun K hK => runs_eval tab_ok ?_
              simp only [ev0, evA, evB, evP, fl, gp, tab, simprocAttr, reduceCtorEq, reduceIte]
              refine fin_run ?_ (hK _ ?_) <;> clear hK <;> clear K
              · (first | exact trivial | omega | (simp only [In64] at *; omega) | (simp [In64] at *; omega) | (simp_all; done) | skip)
              refine qa (ql ?_)
              refine hk_loop (ι := Nat) (fun a => ⟨144, [(1, .ptr 0 0), (2, .ptr 1 0), (5, .p (.int .i64 (eI m i))), (86, .p (.int .i64 i)), (87, .p (.int .i64 a))], [.own [.p (.int .i64 i), .p (.list (il m))], .own [.p (.int .i64 0), .p (.int .i64 0)]]⟩) (fun a => a ≤ i ∧ ∀ j, j < a → asc m i j) (fun a => i - a) 0 ⟨Nat.zero_le _, fun j hj => by omega⟩ [0, 1] (by simp only [leq, leA, ev0, evA, evB, evP, fl, gp, tab, simprocAttr, reduceCtorEq, reduceIte] <;> trivial) fun a ha => ?_
              obtain ⟨ha1, ha2⟩ := ha
              refine qm ?_
              refine hk_region fun K hK => runs_eval tab_ok ?_
              simp only [ev0, evA, evB, evP, fl, gp, tab, simprocAttr, reduceCtorEq, reduceIte]
              refine fin_run trivial (hK _ ?_) <;> clear hK <;> clear K
              refine qa (qm ?_)
              refine hk_cond rfl (fun hC9 => ?_) (fun hC9 => ?_)
              · (try simp only [nhs] at hC9)
                have hal : a < i := by omega
                refine qh (qa (qm (ql (qm ?_))))
                refine hk_region fun K hK => runs_eval tab_ok ?_
                simp only [ev0, evA, evB, evP, fl, gp, tab, simprocAttr, reduceCtorEq, reduceIte]
                refine fin_run trivial (hK _ ?_) <;> clear hK <;> clear K
                refine qa (qm ?_)
                refine hk_region fun K hK => runs_eval tab_ok ?_
                simp only [ev0, evA, evB, evP, fl, gp, tab, simprocAttr, reduceCtorEq, reduceIte]
                refine fin_run ?_ (hK _ ?_) <;> clear hK <;> clear K
                · (first | exact trivial | omega | (simp only [In64] at *; omega) | (simp [In64] at *; omega) | (simp_all; done) | skip)
                refine qa (ql ?_)
                refine hk_loop (ι := Nat) (fun b => ⟨144, [(1, .ptr 0 0), (2, .ptr 1 0), (5, .p (.int .i64 (eI m i))), (9, .p (.int .i64 a)), (86, .p (.int .i64 i)), (87, .p (.int .i64 a)), (91, .p (.int .i64 i)), (92, .p (.int .i64 b))], [.own [.p (.int .i64 i), .p (.list (il m))], .own [.p (.int .i64 0), .p (.int .i64 0)]]⟩) (fun b => b ≤ i ∧ ∀ j, j < b → ∀ c, c < i → op m i (op m i a j) c = op m i a (op m i j c)) (fun b => i - b) 0 ⟨Nat.zero_le _, fun j hj => by omega⟩ [0, 1] (by simp only [leq, leA, ev0, evA, evB, evP, fl, gp, tab, simprocAttr, reduceCtorEq, reduceIte] <;> trivial) fun b hb => ?_
                obtain ⟨hb1, hb2⟩ := hb
                refine qm ?_
                refine hk_region fun K hK => runs_eval tab_ok ?_
                simp only [ev0, evA, evB, evP, fl, gp, tab, simprocAttr, reduceCtorEq, reduceIte]
                refine fin_run trivial (hK _ ?_) <;> clear hK <;> clear K
                refine qa (qm ?_)
                refine hk_cond rfl (fun hC10 => ?_) (fun hC10 => ?_)
                · (try simp only [nhs] at hC10)
                  have hbl : b < i := by omega
                  refine qh (qa (qm (ql (qm ?_))))
                  refine hk_region fun K hK => runs_eval tab_ok ?_
                  simp only [ev0, evA, evB, evP, fl, gp, tab, simprocAttr, reduceCtorEq, reduceIte]
                  refine fin_run trivial (hK _ ?_) <;> clear hK <;> clear K
                  refine qa (qm ?_)
                  refine hk_region fun K hK => runs_eval tab_ok ?_
                  simp only [ev0, evA, evB, evP, fl, gp, tab, simprocAttr, reduceCtorEq, reduceIte]
                  refine fin_run ?_ (hK _ ?_) <;> clear hK <;> clear K
                  · (first | exact trivial | omega | (simp only [In64] at *; omega) | (simp [In64] at *; omega) | (simp_all; done) | skip)
                  refine qa (ql ?_)
                  refine hk_loop (ι := Nat) (fun c => ⟨144, [(1, .ptr 0 0), (2, .ptr 1 0), (5, .p (.int .i64 (eI m i))), (9, .p (.int .i64 a)), (10, .p (.int .i64 b)), (86, .p (.int .i64 i)), (87, .p (.int .i64 a)), (91, .p (.int .i64 i)), (92, .p (.int .i64 b)), (96, .p (.int .i64 i)), (97, .p (.int .i64 c))], [.own [.p (.int .i64 i), .p (.list (il m))], .own [.p (.int .i64 0), .p (.int .i64 0)]]⟩) (fun c => c ≤ i ∧ ∀ j, j < c → op m i (op m i a b) j = op m i a (op m i b j)) (fun c => i - c) 0 ⟨Nat.zero_le _, fun j hj => by omega⟩ [0, 1] (by simp only [leq, leA, ev0, evA, evB, evP, fl, gp, tab, simprocAttr, reduceCtorEq, reduceIte] <;> trivial) fun c hc => ?_
                  obtain ⟨hc1, hc2⟩ := hc
                  refine qm ?_
                  refine hk_region fun K hK => runs_eval tab_ok ?_
                  simp only [ev0, evA, evB, evP, fl, gp, tab, simprocAttr, reduceCtorEq, reduceIte]
                  refine fin_run trivial (hK _ ?_) <;> clear hK <;> clear K
                  refine qa (qm ?_)
                  refine hk_cond rfl (fun hC11 => ?_) (fun hC11 => ?_)
                  · (try simp only [nhs] at hC11)
                    have hcl : c < i := by omega
                    refine qh (qa (qm (ql (qm ?_))))
                    refine hk_region fun K hK => runs_eval tab_ok ?_
                    simp only [ev0, evA, evB, evP, fl, gp, tab, simprocAttr, reduceCtorEq, reduceIte]
                    refine fin_run trivial (hK _ ?_) <;> clear hK <;> clear K
                    refine qa (qm ?_)
                    refine hk_draw mixed (by kernel_rfl) fun K hK => runs_eval tab_ok ?_
                    simp only [ev0, evA, evB, evP, fl, gp, tab, simprocAttr, reduceCtorEq, reduceIte]
                    refine fin_stop trivial (runs_call (of_c T hal hbl) rfl rfl rfl (by simp only [dstOk, Nat.reduceLT]) (by repeat (first | exact trivial | constructor)) (runs_eval tab_ok ?_))
                    simp only [ev0, evA, evB, evP, fl, gp, tab, simprocAttr, reduceCtorEq, reduceIte]
                    refine fin_stop trivial (runs_call (of_c T (T.lt hal hbl) hcl) rfl rfl rfl (by simp only [dstOk, Nat.reduceLT]) (by repeat (first | exact trivial | constructor)) (runs_eval tab_ok ?_))
                    simp only [ev0, evA, evB, evP, fl, gp, tab, simprocAttr, reduceCtorEq, reduceIte]
                    refine fin_stop trivial (runs_call (of_c T hbl hcl) rfl rfl rfl (by simp only [dstOk, Nat.reduceLT]) (by repeat (first | exact trivial | constructor)) (runs_eval tab_ok ?_))
                    simp only [ev0, evA, evB, evP, fl, gp, tab, simprocAttr, reduceCtorEq, reduceIte]
                    refine fin_stop trivial (runs_call (of_c T hal (T.lt hbl hcl)) rfl rfl rfl (by simp only [dstOk, Nat.reduceLT]) (by repeat (first | exact trivial | constructor)) (runs_eval tab_ok ?_))
                    simp only [ev0, evA, evB, evP, fl, gp, tab, simprocAttr, reduceCtorEq, reduceIte]
                    refine fin_run ?_ (hK _ ?_) <;> clear hK <;> clear K
                    · (first | exact trivial | omega | (simp only [In64] at *; omega) | (simp [In64] at *; omega) | (simp_all; done) | skip)
                    refine qa ?_
                    refine hk_cond rfl (fun hC12 => ?_) (fun hC12 => ?_)
                    · (try simp only [nhs] at hC12)
                      refine qm ?_
                      refine hk_region fun K hK => runs_eval tab_ok ?_
                      simp only [ev0, evA, evB, evP, fl, gp, tab, simprocAttr, reduceCtorEq, reduceIte]
                      refine fin_stop trivial (runs_call (fault_c 7 a) rfl rfl rfl (by simp only [dstOk, Nat.reduceLT]) (by repeat (first | exact trivial | constructor)) (runs_eval tab_ok ?_))
                      simp only [ev0, evA, evB, evP, fl, gp, tab, simprocAttr, reduceCtorEq, reduceIte]
                      refine fin_run ?_ (hK _ ?_) <;> clear hK <;> clear K
                      · (first | exact trivial | omega | (simp only [In64] at *; omega) | (simp [In64] at *; omega) | (simp_all; done) | skip)
                      refine qa (qk (qe (qb (qb (qe (qe (qb (qb (qe (qe (qb (qb (qe (qb ?_))))))))))))))
                      simp only [Tryd.results76, enA, ev0, evA, evB, evP, fl, gp, tab, simprocAttr, reduceCtorEq, reduceIte]
                      all_goals (rw [gf_tab T, gf2_7 hC8 hal (fun h => hC12 (by rw [h b hbl c hcl])) ha2]; simp)
                    · (try simp only [nhs] at hC12)
                      refine qh (qd (qa ?_))
                      refine hk_region fun K hK => runs_eval tab_ok ?_
                      simp only [ev0, evA, evB, evP, fl, gp, tab, simprocAttr, reduceCtorEq, reduceIte]
                      refine fin_run ?_ (hK _ ?_) <;> clear hK <;> clear K
                      · (first | exact trivial | omega | (simp only [In64] at *; omega) | (simp [In64] at *; omega) | (simp_all; done) | skip)
                      refine qa ?_
                      refine ⟨c + 1, [0, 1], ⟨by omega, fun j hj => ?_⟩, by omega, ?_⟩
                      · by_cases hj : j = c
                        · subst hj; omega
                        · exact hc2 j (by omega)
                      · simp only [leq, leA, ev0, evA, evB, evP, fl, gp, tab, simprocAttr, reduceCtorEq, reduceIte] <;> first | trivial | omega
                  · (try simp only [nhs] at hC11)
                    refine qj (qc (qc (qf (qd (qa ?_)))))
                    refine hk_region fun K hK => runs_eval tab_ok ?_
                    simp only [ev0, evA, evB, evP, fl, gp, tab, simprocAttr, reduceCtorEq, reduceIte]
                    refine fin_run ?_ (hK _ ?_) <;> clear hK <;> clear K
                    · (first | exact trivial | omega | (simp only [In64] at *; omega) | (simp [In64] at *; omega) | (simp_all; done) | skip)
                    refine qa ?_
                    refine ⟨b + 1, [0, 1], ⟨by omega, fun j hj => ?_⟩, by omega, ?_⟩
                    · by_cases hj : j = b
                      · subst hj; exact fun c' hc' => hc2 c' (by omega)
                      · exact hb2 j (by omega)
                    · simp only [leq, leA, ev0, evA, evB, evP, fl, gp, tab, simprocAttr, reduceCtorEq, reduceIte] <;> first | trivial | omega
                · (try simp only [nhs] at hC10)
                  refine qj (qc (qc (qf (qd (qa ?_)))))
                  refine hk_region fun K hK => runs_eval tab_ok ?_
                  simp only [ev0, evA, evB, evP, fl, gp, tab, simprocAttr, reduceCtorEq, reduceIte]
                  refine fin_run ?_ (hK _ ?_) <;> clear hK <;> clear K
                  · (first | exact trivial | omega | (simp only [In64] at *; omega) | (simp [In64] at *; omega) | (simp_all; done) | skip)
                  refine qa ?_
                  refine ⟨a + 1, [0, 1], ⟨by omega, fun j hj => ?_⟩, by omega, ?_⟩
                  · by_cases hj : j = a
                    · subst hj; exact fun c' hc' => hb2 c' (by omega)
                    · exact ha2 j (by omega)
                  · simp only [leq, leA, ev0, evA, evB, evP, fl, gp, tab, simprocAttr, reduceCtorEq, reduceIte] <;> first | trivial | omega
              · (try simp only [nhs] at hC9)
                have hs : ∀ a, a < i → asc m i a := fun j hj => ha2 j (by omega)
                refine qj (qc (qc (qf (qa (qm (qm ?_))))))
                refine hk_region fun K hK => runs_eval tab_ok ?_
                simp only [ev0, evA, evB, evP, fl, gp, tab, simprocAttr, reduceCtorEq, reduceIte]
                refine fin_run ?_ (hK _ ?_) <;> clear hK <;> clear K
                · (first | exact trivial | omega | (simp only [In64] at *; omega) | (simp [In64] at *; omega) | (simp_all; done) | skip)
                refine qa (ql ?_)
                refine hk_loop (ι := Nat) (fun a => ⟨144, [(1, .ptr 0 0), (2, .ptr 1 0), (5, .p (.int .i64 (eI m i))), (121, .p (.int .i64 i)), (122, .p (.int .i64 a))], [.own [.p (.int .i64 i), .p (.list (il m))], .own [.p (.int .i64 0), .p (.int .i64 0)]]⟩) (fun a => a ≤ i ∧ ∀ j, j < a → ¬ iI m i j < 0) (fun a => i - a) 0 ⟨Nat.zero_le _, fun j hj => by omega⟩ [0, 1] (by simp only [leq, leA, ev0, evA, evB, evP, fl, gp, tab, simprocAttr, reduceCtorEq, reduceIte] <;> trivial) fun k hk => ?_
                obtain ⟨hk1, hk2⟩ := hk
                refine qm ?_
                refine hk_region fun K hK => runs_eval tab_ok ?_
                simp only [ev0, evA, evB, evP, fl, gp, tab, simprocAttr, reduceCtorEq, reduceIte]
                refine fin_run trivial (hK _ ?_) <;> clear hK <;> clear K
                refine qa (qm ?_)
                refine hk_cond rfl (fun hC13 => ?_) (fun hC13 => ?_)
                · (try simp only [nhs] at hC13)
                  have hkl : k < i := by omega
                  have ht := inv_test T hC8 hs hkl
                  have hr1 := row_len T hkl
                  have hr2 : (k + 1) * i ≤ i * i := Nat.mul_le_mul_right _ hkl
                  have hr3 : k * i ≤ (k + 1) * i := Nat.mul_le_mul_right _ (by omega)
                  have hr4 : (k : Int) * (i : Int) = ((k * i : Nat) : Int) := (Int.natCast_mul k i).symm
                  have hr5 : ((k : Int) + 1) * (i : Int) = (((k + 1) * i : Nat) : Int) := by rw [Int.natCast_mul]; rfl
                  refine qh (qa (qm (ql (qm ?_))))
                  refine hk_region fun K hK => runs_eval tab_ok ?_
                  simp only [ev0, evA, evB, evP, fl, gp, tab, simprocAttr, reduceCtorEq, reduceIte]
                  refine fin_run trivial (hK _ ?_) <;> clear hK <;> clear K
                  refine qa (qm ?_)
                  refine hk_region fun K hK => runs_eval tab_ok ?_
                  simp only [ev0, evA, evB, evP, fl, gp, tab, simprocAttr, reduceCtorEq, reduceIte, lo_nat, hi_nat, hi_sub]
                  refine fin_stop ?_ (runs_call (contains_c (row m i k) (eI m i) (by omega)) rfl rfl rfl (by simp only [dstOk, Nat.reduceLT]) (by repeat (first | exact trivial | constructor)) (runs_eval tab_ok ?_))
                  · rw [hr4, hr5]; simp only [In64]; omega
                  simp only [ev0, evA, evB, evP, fl, gp, tab, simprocAttr, reduceCtorEq, reduceIte, lo_nat, hi_nat, hi_sub]
                  refine fin_run ?_ (hK _ ?_) <;> clear hK <;> clear K
                  · (first | exact trivial | omega | (simp only [In64] at *; omega) | (simp [In64] at *; omega) | (simp_all; done) | skip)
                  refine qa ?_
                  refine hk_cond rfl (fun hC14 => ?_) (fun hC14 => ?_)
                  · (try simp only [nhs] at hC14)
                    refine qm ?_
                    refine hk_region fun K hK => runs_eval tab_ok ?_
                    simp only [ev0, evA, evB, evP, fl, gp, tab, simprocAttr, reduceCtorEq, reduceIte]
                    refine fin_stop trivial (runs_call (fault_c 4 k) rfl rfl rfl (by simp only [dstOk, Nat.reduceLT]) (by repeat (first | exact trivial | constructor)) (runs_eval tab_ok ?_))
                    simp only [ev0, evA, evB, evP, fl, gp, tab, simprocAttr, reduceCtorEq, reduceIte]
                    refine fin_run ?_ (hK _ ?_) <;> clear hK <;> clear K
                    · (first | exact trivial | omega | (simp only [In64] at *; omega) | (simp [In64] at *; omega) | (simp_all; done) | skip)
                    refine qa (qk (qe (qb (qb (qe (qb ?_))))))
                    simp only [Tryd.results76, enA, ev0, evA, evB, evP, fl, gp, tab, simprocAttr, reduceCtorEq, reduceIte]
                    all_goals (rw [gf_tab T, gf2_4 hC8 hs hkl (Classical.not_not.1 fun h => hC14 (ht.2 h)) hk2]; simp)
                  · (try simp only [nhs] at hC14)
                    refine qh (qd (qa ?_))
                    refine hk_region fun K hK => runs_eval tab_ok ?_
                    simp only [ev0, evA, evB, evP, fl, gp, tab, simprocAttr, reduceCtorEq, reduceIte]
                    refine fin_run ?_ (hK _ ?_) <;> clear hK <;> clear K
                    · (first | exact trivial | omega | (simp only [In64] at *; omega) | (simp [In64] at *; omega) | (simp_all; done) | skip)
                    refine qa ?_
                    refine ⟨k + 1, [0, 1], ⟨by omega, fun j hj => ?_⟩, by omega, ?_⟩
                    · by_cases hj : j = k
                      · subst hj; exact ht.1 hC14
                      · exact hk2 j (by omega)
                    · simp only [leq, leA, ev0, evA, evB, evP, fl, gp, tab, simprocAttr, reduceCtorEq, reduceIte] <;> first | trivial | omega
                · (try simp only [nhs] at hC13)
                  refine qj (qc (qc (qf (qa (qm ?_)))))
                  refine hk_region fun K hK => runs_eval tab_ok ?_
                  simp only [ev0, evA, evB, evP, fl, gp, tab, simprocAttr, reduceCtorEq, reduceIte]
                  refine fin_run ?_ (hK _ ?_) <;> clear hK <;> clear K
                  · (first | exact trivial | omega | (simp only [In64] at *; omega) | (simp [In64] at *; omega) | (simp_all; done) | skip)
                  refine qa (qk ?_)
                  simp only [Tryd.results76, enA, ev0, evA, evB, evP, fl, gp, tab, simprocAttr, reduceCtorEq, reduceIte]
                  all_goals (rw [gf_tab T, gf2_0 hC8 hs (fun j hj => hk2 j (by omega))]; simp)
end Go.Proofs.YtboadfahlflmhaaDoor

/-
  Walks: the program's words of groups: things, powers, orders. Conditions: none.
-/
set_option linter.all false
namespace Go.Proofs.YtboadfahlflmhaaDoor
open Go.Pv

theorem oneOf_c {n e : Nat} {m : List Int} (h : GT n m n e) : FnC Tryd.prog 102 [gp n m] (.int .i64 (e : Nat)) := by
  have G := h.2.2
  have T := h.2.1
  have hb := T.big
  have hel := G.el
  refine fnc_of tab_ok Tryd.func102 rfl (by kernel_rfl) (by rw [Tryd.ntmps102]; exact Nat.le_add_left 1 _) ?_; rw [Tryd.ntmps102]
  refine qm ?_
  refine hk_region fun K hK => runs_eval tab_ok ?_
  simp only [ev0, evA, evB, evP, fl, gp, tab, simprocAttr, reduceCtorEq, reduceIte]
  refine fin_run ?_ (hK _ ?_) <;> clear hK <;> clear K
  · (first | exact trivial | omega | (simp only [In64] at *; omega) | (simp [In64] at *; omega) | (simp_all; done) | skip)
  refine qa (qm (qm ?_))
  refine hk_region fun K hK => runs_eval tab_ok ?_
  simp only [ev0, evA, evB, evP, fl, gp, tab, simprocAttr, reduceCtorEq, reduceIte]
  refine fin_run ?_ (hK _ ?_) <;> clear hK <;> clear K
  · (first | exact trivial | omega | (simp only [In64] at *; omega) | (simp [In64] at *; omega) | (simp_all; done) | skip)
  refine qa (ql ?_)
  refine hk_loop (ι := Nat) (fun i => ⟨17, [(1, .ptr 0 0), (5, .p (.int .i64 n)), (6, .p (.int .i64 i))], [.own [.p (.int .i64 n), .p (.list (il m))]]⟩) (fun i => i ≤ e) (fun i => n - i) 0 (Nat.zero_le _) [0] (by simp only [leq, leA, ev0, evA, evB, evP, fl, gp, tab, simprocAttr, reduceCtorEq, reduceIte] <;> trivial) fun i hi => ?_
  refine qm ?_
  refine hk_region fun K hK => runs_eval tab_ok ?_
  simp only [ev0, evA, evB, evP, fl, gp, tab, simprocAttr, reduceCtorEq, reduceIte]
  refine fin_run trivial (hK _ ?_) <;> clear hK <;> clear K
  refine qa (qm ?_)
  refine hk_cond rfl (fun hC1 => ?_) (fun hC1 => ?_)
  · (try simp only [nhs] at hC1)
    refine qh (qa (qm (ql (qm ?_))))
    refine hk_region fun K hK => runs_eval tab_ok ?_
    simp only [ev0, evA, evB, evP, fl, gp, tab, simprocAttr, reduceCtorEq, reduceIte]
    refine fin_run trivial (hK _ ?_) <;> clear hK <;> clear K
    refine qa (qm ?_)
    refine hk_region fun K hK => runs_eval tab_ok ?_
    simp only [ev0, evA, evB, evP, fl, gp, tab, simprocAttr, reduceCtorEq, reduceIte]
    refine fin_stop trivial (runs_call (of_c T (show i < n by omega) (show i < n by omega)) rfl rfl rfl (by simp only [dstOk, Nat.reduceLT]) (by repeat (first | exact trivial | constructor)) (runs_eval tab_ok ?_))
    simp only [ev0, evA, evB, evP, fl, gp, tab, simprocAttr, reduceCtorEq, reduceIte]
    refine fin_run ?_ (hK _ ?_) <;> clear hK <;> clear K
    · (first | exact trivial | omega | (simp only [In64] at *; omega) | (simp [In64] at *; omega) | (simp_all; done) | skip)
    refine qa ?_
    refine hk_cond rfl (fun hC2 => ?_) (fun hC2 => ?_)
    · (try simp only [nhs] at hC2)
      have hie : i = e := (G.idem (by omega)).1 (by omega)
      refine qm ?_
      refine hk_region fun K hK => runs_eval tab_ok ?_
      simp only [ev0, evA, evB, evP, fl, gp, tab, simprocAttr, reduceCtorEq, reduceIte]
      refine fin_run trivial (hK _ ?_) <;> clear hK <;> clear K
      refine qa (qk (qe (qb (qb (qe (qb ?_))))))
      simp only [Tryd.results102, enA, ev0, evA, evB, evP, fl, gp, tab, simprocAttr, reduceCtorEq, reduceIte]
      all_goals (rw [hie])
    · (try simp only [nhs] at hC2)
      have hie : i ≠ e := fun h => hC2 (by rw [(G.idem (show i < n by omega)).2 h])
      refine qh (qd (qa ?_))
      refine hk_region fun K hK => runs_eval tab_ok ?_
      simp only [ev0, evA, evB, evP, fl, gp, tab, simprocAttr, reduceCtorEq, reduceIte]
      refine fin_run ?_ (hK _ ?_) <;> clear hK <;> clear K
      · (first | exact trivial | omega | (simp only [In64] at *; omega) | (simp [In64] at *; omega) | (simp_all; done) | skip)
      refine qa ?_
      refine ⟨i + 1, [0], by omega, by omega, ?_⟩
      simp only [leq, leA, ev0, evA, evB, evP, fl, gp, tab, simprocAttr, reduceCtorEq, reduceIte] <;> first | trivial | omega
  · (try simp only [nhs] at hC1)
    omega

theorem ix_row {n e : Nat} {m : List Int} (h : GT n m n e) {a : Nat} (ha : a < n) : ix (row m n a) (e : Nat) = (iv n (op m n) e a : Nat) := by
  have G := h.2.2
  have T := h.2.1
  obtain ⟨i1, i2, i3, i4⟩ := G.iv_spec ha
  unfold ix
  rw [fst_some (a := iv n (op m n) e a) (by rw [row_len T ha]; exact i1) (decide_eq_true (by rw [row_get T ha i1, i2])) fun j hj => decide_eq_false fun hj2 => ?_]
  rw [row_get T ha (by omega)] at hj2
  have := i4 j (by omega) (.inl (by omega))
  omega

theorem invOf_c {n e : Nat} {m : List Int} (h : GT n m n e) {a : Nat} (ha : a < n) : FnC Tryd.prog 135 [gp n m, .int .i64 a] (.int .i64 (iv n (op m n) e a : Nat)) := by
  have G := h.2.2
  have T := h.2.1
  have hb := T.big
  have hr := ix_row h ha
  have hr1 := row_len T ha
  have hl := T.len
  have hsq := sq_le hb
  have hr2 : (a + 1) * n ≤ n * n := Nat.mul_le_mul_right _ ha
  have hr3 : a * n ≤ (a + 1) * n := Nat.mul_le_mul_right _ (by omega)
  have hr4 : (a : Int) * (n : Int) = ((a * n : Nat) : Int) := (Int.natCast_mul a n).symm
  have hr5 : ((a : Int) + 1) * (n : Int) = (((a + 1) * n : Nat) : Int) := by rw [Int.natCast_mul]; rfl
  refine fnc_of tab_ok Tryd.func135 rfl (by kernel_rfl) (by rw [Tryd.ntmps135]; exact Nat.le_add_left 2 _) ?_; rw [Tryd.ntmps135]
  refine qm ?_
  refine hk_region fun K hK => runs_eval tab_ok ?_
  simp only [ev0, evA, evB, evP, fl, gp, tab, simprocAttr, reduceCtorEq, reduceIte]
  refine fin_run ?_ (hK _ ?_) <;> clear hK <;> clear K
  · (first | exact trivial | omega | (simp only [In64] at *; omega) | (simp [In64] at *; omega) | (simp_all; done) | skip)
  refine qa (qm ?_)
  refine hk_draw mixed (by kernel_rfl) fun K hK => runs_eval tab_ok ?_
  simp only [ev0, evA, evB, evP, fl, gp, tab, simprocAttr, reduceCtorEq, reduceIte, lo_nat, hi_nat, hi_sub]
  refine fin_stop ?_ (runs_call (oneOf_c h) rfl rfl rfl (by simp only [dstOk, Nat.reduceLT]) (by repeat (first | exact trivial | constructor)) (runs_eval tab_ok ?_))
  · rw [hr4, hr5]; simp only [In64]; omega
  simp only [ev0, evA, evB, evP, fl, gp, tab, simprocAttr, reduceCtorEq, reduceIte, lo_nat, hi_nat, hi_sub]
  refine fin_stop trivial (runs_call (index_c (row m n a) (e : Nat) (by omega)) rfl rfl rfl (by simp only [dstOk, Nat.reduceLT]) (by repeat (first | exact trivial | constructor)) (runs_eval tab_ok ?_))
  simp only [ev0, evA, evB, evP, fl, gp, tab, simprocAttr, reduceCtorEq, reduceIte, lo_nat, hi_nat, hi_sub]
  refine fin_run ?_ (hK _ ?_) <;> clear hK <;> clear K
  · (first | exact trivial | omega | (simp only [In64] at *; omega) | (simp [In64] at *; omega) | (simp_all; done) | skip)
  refine qa (qk ?_)
  simp only [Tryd.results135, enA, ev0, evA, evB, evP, fl, gp, tab, simprocAttr, reduceCtorEq, reduceIte]
  all_goals (rw [hr])

/-! ### With their faults -/

theorem orderOf_c {n e : Nat} {m : List Int} (h : GT n m n e) {a : Nat} (ha : a < n) : FnC Tryd.prog 94 [gp n m, .int .i64 a] (.int .i64 (ord n (op m n) e a : Nat)) := by
  have G := h.2.2
  have T := h.2.1
  have hb := T.big
  obtain ⟨o1, o2, o3, o4⟩ := G.ord_spec ha
  refine fnc_of tab_ok Tryd.func94 rfl (by kernel_rfl) (by rw [Tryd.ntmps94]; exact Nat.le_add_left 2 _) ?_; rw [Tryd.ntmps94]
  refine qm ?_
  refine hk_region fun K hK => runs_eval tab_ok ?_
  simp only [ev0, evA, evB, evP, fl, gp, tab, simprocAttr, reduceCtorEq, reduceIte]
  refine fin_run ?_ (hK _ ?_) <;> clear hK <;> clear K
  · (first | exact trivial | omega | (simp only [In64] at *; omega) | (simp [In64] at *; omega) | (simp_all; done) | skip)
  refine qa (qm ?_)
  refine hk_region fun K hK => runs_eval tab_ok ?_
  simp only [ev0, evA, evB, evP, fl, gp, tab, simprocAttr, reduceCtorEq, reduceIte]
  refine fin_run trivial (hK _ ?_) <;> clear hK <;> clear K
  refine qa (qm (qm ?_))
  refine hk_region fun K hK => runs_eval tab_ok ?_
  simp only [ev0, evA, evB, evP, fl, gp, tab, simprocAttr, reduceCtorEq, reduceIte]
  refine fin_run trivial (hK _ ?_) <;> clear hK <;> clear K
  refine qa (ql ?_)
  refine hk_loop (ι := Nat) (fun k => ⟨19, [(1, .p (.int .i64 a)), (2, .ptr 0 0), (5, .p (.int .i64 k)), (6, .p (.int .i64 (pw (op m n) e a k : Nat)))], [.own [.p (.int .i64 n), .p (.list (il m))]]⟩) (fun k => 1 ≤ k ∧ k ≤ ord n (op m n) e a) (fun k => ord n (op m n) e a - k) 1 ⟨Nat.le_refl _, o1⟩ [0] (by rw [G.pw_one ha]; simp only [leq, leA, ev0, evA, evB, evP, fl, gp, tab, simprocAttr, reduceCtorEq, reduceIte] <;> trivial) fun k hk => ?_
  obtain ⟨hk1, hk2⟩ := hk
  refine qm (qm ?_)
  refine hk_region fun K hK => runs_eval tab_ok ?_
  simp only [ev0, evA, evB, evP, fl, gp, tab, simprocAttr, reduceCtorEq, reduceIte]
  refine fin_stop trivial (runs_call (oneOf_c h) rfl rfl rfl (by simp only [dstOk, Nat.reduceLT]) (by repeat (first | exact trivial | constructor)) (runs_eval tab_ok ?_))
  simp only [ev0, evA, evB, evP, fl, gp, tab, simprocAttr, reduceCtorEq, reduceIte]
  refine fin_run ?_ (hK _ ?_) <;> clear hK <;> clear K
  · (first | exact trivial | omega | (simp only [In64] at *; omega) | (simp [In64] at *; omega) | (simp_all; done) | skip)
  refine qa ?_
  refine hk_cond rfl (fun hC1 => ?_) (fun hC1 => ?_)
  · (try simp only [nhs] at hC1)
    have hne : k ≠ ord n (op m n) e a := fun h => hC1 (by rw [h, o3])
    refine qh (qa (qm (ql ?_)))
    refine hk_region fun K hK => runs_eval tab_ok ?_
    simp only [ev0, evA, evB, evP, fl, gp, tab, simprocAttr, reduceCtorEq, reduceIte]
    refine fin_run ?_ (hK _ ?_) <;> clear hK <;> clear K
    · (first | exact trivial | omega | (simp only [In64] at *; omega) | (simp [In64] at *; omega) | (simp_all; done) | skip)
    refine qd (qa ?_)
    refine hk_region fun K hK => runs_eval tab_ok ?_
    simp only [ev0, evA, evB, evP, fl, gp, tab, simprocAttr, reduceCtorEq, reduceIte]
    refine fin_stop trivial (runs_call (of_c T (G.pw_lt ha k) ha) rfl rfl rfl (by simp only [dstOk, Nat.reduceLT]) (by repeat (first | exact trivial | constructor)) (runs_eval tab_ok ?_))
    simp only [ev0, evA, evB, evP, fl, gp, tab, simprocAttr, reduceCtorEq, reduceIte]
    refine fin_run ?_ (hK _ ?_) <;> clear hK <;> clear K
    · (first | exact trivial | omega | (simp only [In64] at *; omega) | (simp [In64] at *; omega) | (simp_all; done) | skip)
    refine qa ?_
    refine ⟨k + 1, [0], ⟨by omega, by omega⟩, by omega, ?_⟩
    simp only [leq, leA, ev0, evA, evB, evP, fl, gp, tab, simprocAttr, reduceCtorEq, reduceIte] <;> first | trivial | omega
  · (try simp only [nhs] at hC1)
    have hek : k = ord n (op m n) e a := by
      rcases Nat.lt_or_ge k (ord n (op m n) e a) with hlt | hge
      · exact absurd (by omega) (o4 k hk1 hlt)
      · omega
    refine qj (qc (qc (qf (qa (qm ?_)))))
    refine hk_region fun K hK => runs_eval tab_ok ?_
    simp only [ev0, evA, evB, evP, fl, gp, tab, simprocAttr, reduceCtorEq, reduceIte]
    refine fin_run trivial (hK _ ?_) <;> clear hK <;> clear K
    refine qa (qk ?_)
    simp only [Tryd.results94, enA, ev0, evA, evB, evP, fl, gp, tab, simprocAttr, reduceCtorEq, reduceIte]
    all_goals (rw [hek])

/-- A row by a rule. -/
def rg (g : Nat → Int) (i : Nat) : List Int := (List.range i).map g
theorem rg_succ (g : Nat → Int) (i : Nat) : rg g (i + 1) = rg g i ++ [g i] := by simp [rg, List.range_succ]
theorem rg_len (g : Nat → Int) (i : Nat) : (rg g i).length = i := by simp [rg]
theorem rg_get (g : Nat → Int) {n i : Nat} (h : i < n) : (rg g n).getD i 0 = g i := by
  simp [rg, List.getD, List.getElem?_range h]

end Go.Proofs.YtboadfahlflmhaaDoor

/-
  Sets of things as bits: plain laws of bits; the words of package sub that reckon with them. Conditions: none.
-/
set_option linter.all false
namespace Go.Proofs.YtboadfahlflmhaaDoor
open Go.Pv

/-! ### Numbers of 64 bits -/

theorem wrap_u (z : Int) : IntKind.u64.wrap z = z % 18446744073709551616 := rfl
theorem wrap_n {a : Nat} (h : a < 2 ^ 64) : IntKind.u64.wrap (a : Int) = (a : Int) := by
  rw [wrap_u]; omega
theorem ofInt_n {a : Nat} (h : a < 2 ^ 64) : (BitVec.ofInt 64 (a : Int)).toNat = a := by
  rw [BitVec.toNat_ofInt]; omega

theorem bv_and {a b : Nat} (ha : a < 2 ^ 64) (hb : b < 2 ^ 64) : bitsV (fun _ x y => x &&& y) .u64 (a : Int) (b : Int) = .int .u64 ((a &&& b : Nat) : Int) := by
  show PV.int .u64 (IntKind.u64.wrap ((BitVec.ofInt 64 (a : Int) &&& BitVec.ofInt 64 (b : Int)).toNat : Int)) = _
  rw [BitVec.toNat_and, ofInt_n ha, ofInt_n hb, wrap_n (Nat.and_lt_two_pow a hb)]
theorem bv_or {a b : Nat} (ha : a < 2 ^ 64) (hb : b < 2 ^ 64) : bitsV (fun _ x y => x ||| y) .u64 (a : Int) (b : Int) = .int .u64 ((a ||| b : Nat) : Int) := by
  show PV.int .u64 (IntKind.u64.wrap ((BitVec.ofInt 64 (a : Int) ||| BitVec.ofInt 64 (b : Int)).toNat : Int)) = _
  rw [BitVec.toNat_or, ofInt_n ha, ofInt_n hb, wrap_n (Nat.or_lt_two_pow ha hb)]
theorem bits_u : IntKind.u64.bits = 64 := rfl
theorem shl_one {b : Nat} (hb : b < 64) : IntKind.u64.wrap (1 * 2 ^ (min b IntKind.u64.bits)) = ((2 ^ b : Nat) : Int) := by
  rw [bits_u, Nat.min_eq_left (by omega), Int.one_mul, show (2 : Int) ^ b = ((2 ^ b : Nat) : Int) by simp, wrap_n (Nat.pow_lt_pow_right (by omega) hb)]
theorem shr_n {a b : Nat} (hb : b < 64) : (a : Int).fdiv (2 ^ (min b IntKind.u64.bits)) = ((a / 2 ^ b : Nat) : Int) := by
  rw [bits_u, Nat.min_eq_left (by omega), show (2 : Int) ^ b = ((2 ^ b : Nat) : Int) by simp, Int.fdiv_eq_ediv_of_nonneg _ (Int.natCast_nonneg _), ← Int.natCast_ediv]

theorem bv_and1 {a : Nat} (ha : a < 2 ^ 64) : bitsV (fun _ x y => x &&& y) .u64 (a : Int) 1 = .int .u64 ((a % 2 : Nat) : Int) := by
  have := bv_and ha (show 1 < 2 ^ 64 by omega)
  rwa [Nat.and_one_is_mod] at this

/-! ### The lowest bit -/

/-- The lowest bit that is set. -/
def tz (s : Nat) : Nat := (fst' s.testBit 64).getD 64

theorem bit_lt {s i : Nat} (hs : s < 2 ^ 64) (h : s.testBit i = true) : i < 64 := by
  rcases Nat.lt_or_ge i 64 with h1 | h1
  · exact h1
  · have := Nat.testBit_lt_two_pow (Nat.lt_of_lt_of_le hs (Nat.pow_le_pow_right (by omega) h1))
    rw [h] at this; cases this
theorem tz_spec {s : Nat} (hs : s < 2 ^ 64) (h0 : s ≠ 0) : tz s < 64 ∧ s.testBit (tz s) = true ∧ ∀ j, j < tz s → s.testBit j = false := by
  cases h : fst' s.testBit 64 with
  | none =>
    obtain ⟨i, hi⟩ := Nat.exists_testBit_of_ne_zero h0
    have := fst_spec0 h i (bit_lt hs hi)
    rw [hi] at this; cases this
  | some a =>
    have e : tz s = a := by unfold tz; rw [h]; rfl
    rw [e]
    exact fst_spec h
theorem tz_split {s : Nat} (hs : s < 2 ^ 64) (h0 : s ≠ 0) : s = 2 ^ (tz s + 1) * (s / 2 ^ (tz s + 1)) + 2 ^ tz s := by
  obtain ⟨h1, h2, h3⟩ := tz_spec hs h0
  have e1 : s % 2 ^ (tz s + 1) = 2 ^ tz s := by
    refine Nat.eq_of_testBit_eq fun i => ?_
    rw [Nat.testBit_mod_two_pow, Nat.testBit_two_pow]
    rcases Nat.lt_trichotomy i (tz s) with h | h | h
    · rw [h3 i h]; simp; omega
    · subst h; rw [h2]; simp
    · have a1 : decide (i < tz s + 1) = false := by simp; omega
      have a2 : decide (tz s = i) = false := by simp; omega
      rw [a1, a2]; rfl
  have := Nat.div_add_mod s (2 ^ (tz s + 1))
  omega
theorem bit_pred {s : Nat} (hs : s < 2 ^ 64) (h0 : s ≠ 0) (i : Nat) : (s - 1).testBit i = if i < tz s then true else if i = tz s then false else s.testBit i := by
  have e := tz_split hs h0
  have hp : 0 < 2 ^ tz s := Nat.two_pow_pos _
  have e1 : s - 1 = 2 ^ (tz s + 1) * (s / 2 ^ (tz s + 1)) + (2 ^ tz s - 1) := by omega
  have hlt : 2 ^ tz s < 2 ^ (tz s + 1) := Nat.pow_lt_pow_right (by omega) (by omega)
  have b1 : s.testBit i = (2 ^ (tz s + 1) * (s / 2 ^ (tz s + 1)) + 2 ^ tz s).testBit i := by rw [← e]
  rw [e1, Nat.testBit_two_pow_mul_add _ (by omega), b1, Nat.testBit_two_pow_mul_add _ hlt, Nat.testBit_two_pow_sub_one]
  rcases Nat.lt_trichotomy i (tz s) with h | h | h
  · rw [if_pos (by omega), if_pos h]; simpa using h
  · rw [if_pos (by omega), if_neg (by omega), if_pos h]; simp; omega
  · rw [if_neg (by omega), if_neg (by omega), if_neg (by omega), if_neg (by omega)]
theorem low_bit {s : Nat} (hs : s < 2 ^ 64) (h0 : s ≠ 0) : s &&& (2 ^ 64 - s) = 2 ^ tz s := by
  obtain ⟨h1, h2, h3⟩ := tz_spec hs h0
  refine Nat.eq_of_testBit_eq fun i => ?_
  have e : 2 ^ 64 - s = 2 ^ 64 - ((s - 1) + 1) := by omega
  rw [Nat.testBit_and, e, Nat.testBit_two_pow_sub_succ (by omega), bit_pred hs h0, Nat.testBit_two_pow]
  rcases Nat.lt_trichotomy i (tz s) with h | h | h
  · rw [h3 i h]; simp; omega
  · subst h; rw [h2]; simp; omega
  · rw [if_neg (by omega), if_neg (by omega)]
    cases s.testBit i <;> simp <;> omega
/-- Without its lowest bit. -/
def cut (s : Nat) : Nat := s &&& (s - 1)
theorem cut_bit {s : Nat} (hs : s < 2 ^ 64) (h0 : s ≠ 0) (i : Nat) : (cut s).testBit i = (s.testBit i && !decide (i = tz s)) := by
  obtain ⟨h1, h2, h3⟩ := tz_spec hs h0
  unfold cut
  rw [Nat.testBit_and, bit_pred hs h0]
  rcases Nat.lt_trichotomy i (tz s) with h | h | h
  · rw [h3 i h]; simp
  · rw [if_neg (by omega), if_pos h]; simp [h]
  · rw [if_neg (by omega), if_neg (by omega)]
    have : decide (i = tz s) = false := by simp; omega
    rw [this]; simp
theorem cut_lt {s : Nat} (h0 : s ≠ 0) : cut s < s := by
  have : cut s ≤ s - 1 := Nat.and_le_right
  omega

/-! ### Lists of sets -/

/-- The things of which something holds, rising. -/
def thn' (n : Nat) (p : Nat → Bool) : List Nat := (List.range n).filter p
/-- As numbers of the program. -/
def thl (n : Nat) (p : Nat → Bool) : List Int := (thn' n p).map (fun (a : Nat) => (a : Int))

theorem thl_len (n : Nat) (p : Nat → Bool) : (thl n p).length = (thn' n p).length := by simp [thl]
theorem thn_congr {n : Nat} {p q : Nat → Bool} (h : ∀ a, a < n → p a = q a) : thn' n p = thn' n q := List.filter_congr fun a ha => h a (List.mem_range.1 ha)
theorem thl_congr {n : Nat} {p q : Nat → Bool} (h : ∀ a, a < n → p a = q a) : thl n p = thl n q := by unfold thl; rw [thn_congr h]
theorem thl_succ (n : Nat) (p : Nat → Bool) : thl (n + 1) p = thl n p ++ if p n = true then [(n : Int)] else [] := by
  unfold thl thn'
  rw [List.range_succ, List.filter_append, List.map_append]
  congr 1
  cases h : p n <;> simp [h]
theorem thl_ext {n m : Nat} {p : Nat → Bool} (h : n ≤ m) (hp : ∀ a, n ≤ a → a < m → p a = false) : thl m p = thl n p := by
  induction m with
  | zero => have : n = 0 := by omega
            subst this; rfl
  | succ m ih =>
    by_cases e : n = m + 1
    · subst e; rfl
    · rw [thl_succ, hp m (by omega) (by omega), ih (by omega) fun a h1 h2 => hp a h1 (by omega)]; simp
theorem mem_thn {n : Nat} {p : Nat → Bool} {a : Nat} : a ∈ thn' n p ↔ a < n ∧ p a = true := by simp [thn']
theorem thl_le (n : Nat) (p : Nat → Bool) : (thl n p).length ≤ n := by
  rw [thl_len]
  have := List.length_filter_le p (List.range n)
  rwa [List.length_range] at this
/-- The list of a set of bits. -/
def stl (s : Nat) : List Int := thl 64 s.testBit

theorem stl_zero : stl 0 = [] := by
  unfold stl thl thn'
  simp
theorem thn_first {n k : Nat} {p : Nat → Bool} (hk : k < n) (h1 : p k = true) (h2 : ∀ j, j < k → p j = false) : thn' n p = k :: thn' n (fun i => p i && !decide (i = k)) := by
  unfold thn'
  have e : n = k + ((n - k - 1) + 1) := by omega
  rw [e, List.range_add, List.filter_append, List.filter_append]
  have z : ∀ q : Nat → Bool, (∀ j, j < k → q j = false) → (List.range k).filter q = [] := by
    intro q hq
    rw [List.filter_eq_nil_iff]
    intro a ha
    rw [hq a (List.mem_range.1 ha)]; simp
  rw [z p h2, z _ (fun j hj => by rw [h2 j hj]; rfl), List.nil_append, List.nil_append, List.range_succ_eq_map, List.map_cons, List.filter_cons, List.filter_cons]
  rw [if_pos (by simpa using h1), if_neg (by simp)]
  simp only [Nat.add_zero, List.cons.injEq, true_and]
  refine List.filter_congr fun a ha => ?_
  simp only [List.map_map, List.mem_map, List.mem_range, Function.comp] at ha
  obtain ⟨j, _, rfl⟩ := ha
  have : decide (k + (j + 1) = k) = false := by simp
  simp [this]
theorem stl_cons {s : Nat} (hs : s < 2 ^ 64) (h0 : s ≠ 0) : stl s = (tz s : Int) :: stl (cut s) := by
  obtain ⟨h1, h2, h3⟩ := tz_spec hs h0
  unfold stl thl
  rw [thn_first h1 h2 h3, List.map_cons, thn_congr fun a _ => (cut_bit hs h0 a).symm]
theorem stl_len (s : Nat) : (stl s).length ≤ 64 := thl_le _ _

/-- Bits below n alone: the list is that of n things. -/
theorem stl_n {s n : Nat} (hn : n ≤ 64) (hs : s < 2 ^ n) : stl s = thl n s.testBit := by
  unfold stl
  refine thl_ext hn fun a h1 _ => Nat.testBit_lt_two_pow (Nat.lt_of_lt_of_le hs (Nat.pow_le_pow_right (by omega) h1))

/-! ### The walks -/

theorem has_s (s a : Nat) (hs : s < 2 ^ 64) (ha : a < 64) : FnC Tryd.prog 146 [.int .u64 s, .int .i64 a] (.bool (s.testBit a)) := by
  have h1 : s / 2 ^ a < 2 ^ 64 := Nat.lt_of_le_of_lt (Nat.div_le_self _ _) hs
  refine fnc_of tab_ok Tryd.func146 rfl (by kernel_rfl) (by rw [Tryd.ntmps146]; exact Nat.le_add_left 2 _) ?_; rw [Tryd.ntmps146]
  refine qm ?_
  refine hk_region fun K hK => runs_eval tab_ok ?_
  simp only [ev0, evA, evB, evP, fl, gp, tab, simprocAttr, reduceCtorEq, reduceIte]
  refine fin_run trivial (hK _ ?_) <;> clear hK <;> clear K
  refine qa (qm ?_)
  refine hk_region fun K hK => runs_eval tab_ok ?_
  simp only [ev0, evA, evB, evP, fl, gp, tab, simprocAttr, reduceCtorEq, reduceIte, shr_n ha, bv_and1 h1]
  refine fin_run ?_ (hK _ ?_) <;> clear hK <;> clear K
  · (first | exact trivial | omega | (simp only [In64] at *; omega) | (simp [In64] at *; omega) | (simp_all; done) | skip)
  refine qa (qk ?_)
  simp only [Tryd.results146, enA, ev0, evA, evB, evP, fl, gp, tab, simprocAttr, reduceCtorEq, reduceIte]
  all_goals (rw [Nat.testBit_eq_decide_div_mod_eq]; exact decide_eq_decide.2 (by omega))

theorem gva_0 : gva 0 = .p (.ptr glob0) := rfl /- 145 -/
theorem glob0_len : glob0.length = 64 := rfl /- 145 -/

/-- Where the table is asked. -/
def dix (k : Nat) : Nat := 2 ^ k * 285870213051353865 % 18446744073709551616 / 2 ^ 58
theorem deb_ix (k : Nat) : (IntKind.u64.wrap (((2 ^ k : Nat) : Int) * 285870213051353865)).fdiv (2 ^ min 58 IntKind.u64.bits) = ((dix k : Nat) : Int) := by
  rw [wrap_u, bits_u, Int.fdiv_eq_ediv_of_nonneg _ (by decide)]
  show (((2 ^ k : Nat) : Int) * ((285870213051353865 : Nat) : Int)) % ((18446744073709551616 : Nat) : Int) / (((2 ^ 58 : Nat)) : Int) = _
  rw [← Int.natCast_mul, ← Int.natCast_emod, ← Int.natCast_ediv]
  rfl
def isU8 (k : Nat) : PV → Bool
  | .int .u8 i => decide (i = (k : Int))
  | _ => false
theorem isU8_eq {k : Nat} {p : PV} (h : isU8 k p = true) : p = .int .u8 (k : Nat) := by
  unfold isU8 at h
  split at h
  · rw [of_decide_eq_true h]
  · cases h
theorem deb_all : ((List.range 64).all fun k => isU8 k ((glob0.drop (dix k * 1)).headD default)) = true := by decide +kernel /- 145 -/
theorem deb_at {k : Nat} (hk : k < 64) : (glob0.drop (dix k * 1)).headD default = .int .u8 (k : Nat) :=
  isU8_eq (List.all_eq_true.1 deb_all k (List.mem_range.2 hk)) /- 145 -/
theorem dix_lt (k : Nat) : dix k < 64 := by unfold dix; omega
theorem wrap_i8 {k : Nat} (hk : k < 64) : IntKind.i64.wrap (k : Int) = (k : Int) := by
  show (if _ then _ else _) = _
  have h1 : (k : Int) % (2 ^ IntKind.i64.bits : Int) = (k : Int) := by
    show (k : Int) % 18446744073709551616 = _
    omega
  rw [h1, if_neg]
  show ¬ (_ && decide ((k : Int) ≥ 9223372036854775808)) = true
  simp; omega

theorem tz_c (s : Nat) (hs : s < 2 ^ 64) (h0 : s ≠ 0) : FnC Tryd.prog 145 [.int .u64 s] (.int .i64 (tz s : Nat)) := by
  obtain ⟨h1, h2, h3⟩ := tz_spec hs h0
  have hneg : IntKind.u64.wrap (-(s : Int)) = ((2 ^ 64 - s : Nat) : Int) := by
    rw [wrap_u]; omega
  have hd := dix_lt (tz s)
  refine fnc_of tab_ok Tryd.func145 rfl (by kernel_rfl) (by rw [Tryd.ntmps145]; exact Nat.le_add_left 1 _) ?_; rw [Tryd.ntmps145]
  refine qm ?_
  refine hk_region fun K hK => runs_eval tab_ok ?_
  simp only [ev0, evA, evB, evP, fl, gp, tab, simprocAttr, reduceCtorEq, reduceIte]
  refine fin_run trivial (hK _ ?_) <;> clear hK <;> clear K
  refine qa (qm (qm ?_))
  refine hk_region fun K hK => runs_eval tab_ok ?_
  simp only [ev0, evA, evB, evP, fl, gp, tab, simprocAttr, reduceCtorEq, reduceIte]
  refine fin_run trivial (hK _ ?_) <;> clear hK <;> clear K
  refine qa ?_
  refine hk_cond rfl (fun hC1 => ?_) (fun hC1 => ?_)
  · (try simp only [nhs] at hC1)
    omega
  · (try simp only [nhs] at hC1)
    refine qh (qa (qm ?_))
    refine hk_region fun K hK => runs_eval tab_ok ?_
    simp only [ev0, evA, evB, evP, fl, gp, tab, simprocAttr, reduceCtorEq, reduceIte, hneg, bv_and hs (show 2 ^ 64 - s < 2 ^ 64 by omega), low_bit hs h0, gva_0, deb_ix, deb_at h1, wrap_i8 h1, glob0_len, List.length_drop]
    refine fin_run ?_ (hK _ ?_) <;> clear hK <;> clear K
    · (first | exact trivial | omega | (simp only [In64] at *; omega) | (simp [In64] at *; omega) | (simp_all; done) | skip)
    refine qa (qk ?_)
    simp only [Tryd.results145, enA, ev0, evA, evB, evP, fl, gp, tab, simprocAttr, reduceCtorEq, reduceIte]
    all_goals (rfl)
end Go.Proofs.YtboadfahlflmhaaDoor

/-
  Sets of things: lists and bits; what is looked at first; what is chosen. Conditions: none.
-/
set_option linter.all false
namespace Go.Proofs.YtboadfahlflmhaaDoor
open Go.Pv

/-! ### Lists and bits -/

theorem list_g (s : Nat) (hs : s < 2 ^ 64) : FnG Tryd.prog 113 [.int .u64 s] (.sl 0 0 (stl s).length) [.own (opl (il (stl s)))] := by
  refine fng_of tab_ok Tryd.func113 rfl (by kernel_rfl) (by rw [Tryd.ntmps113]; exact Nat.le_add_left 1 _) ?_; rw [Tryd.ntmps113]
  refine qm ?_
  refine hk_region fun K hK => runs_eval tab_ok ?_
  simp only [ev0, evA, evB, evP, fl, gp, tab, simprocAttr, reduceCtorEq, reduceIte]
  refine fin_run trivial (hK _ ?_) <;> clear hK <;> clear K
  refine qa (qm ?_)
  refine hk_region fun K hK => runs_eval tab_ok ?_
  simp only [ev0, evA, evB, evP, fl, gp, tab, simprocAttr, reduceCtorEq, reduceIte]
  refine fin_run trivial (hK _ ?_) <;> clear hK <;> clear K
  refine qa (qm (ql ?_))
  refine hk_own0 3 rfl ?_
  refine hk_loop (ι := Nat × List Int) (fun p => ⟨16, [(0, .p (.int .u64 p.1)), (3, .sl 0 0 p.2.length)], [.own (ol p.2)]⟩) (fun p => p.1 < 2 ^ 64 ∧ p.2 ++ stl p.1 = stl s) (fun p => p.1) (s, []) ⟨hs, rfl⟩ [0] (by simp only [leq, leA, ev0, evA, evB, evP, fl, gp, tab, simprocAttr, reduceCtorEq, reduceIte] <;> simp [ol_nil]) fun p hp => ?_
  obtain ⟨t, out⟩ := p
  obtain ⟨ht, ho⟩ := hp
  simp only at ht ho
  refine qm (qm ?_)
  refine hk_region fun K hK => runs_eval tab_ok ?_
  simp only [ev0, evA, evB, evP, fl, gp, tab, simprocAttr, reduceCtorEq, reduceIte]
  refine fin_run trivial (hK _ ?_) <;> clear hK <;> clear K
  refine qa ?_
  refine hk_cond rfl (fun hC1 => ?_) (fun hC1 => ?_)
  · (try simp only [nhs] at hC1)
    have h0 : t ≠ 0 := by omega
    have ht1 : t - 1 < 2 ^ 64 := by omega
    have hsub : IntKind.u64.wrap ((t : Int) - 1) = ((t - 1 : Nat) : Int) := by rw [wrap_u]; omega
    have hcut : t &&& (t - 1) = cut t := rfl
    have hc := stl_cons ht h0
    have hlen : out.length + 1 ≤ 64 := by
      have h1 := stl_len s
      rw [← ho, hc] at h1
      simp at h1; omega
    refine qh (qa (qm (ql ?_)))
    refine hk_region fun K hK => runs_eval tab_ok ?_
    simp only [ev0, evA, evB, evP, fl, gp, tab, simprocAttr, reduceCtorEq, reduceIte]
    refine fin_stop trivial (runs_call (tz_c t ht h0) rfl rfl rfl (by simp only [dstOk, Nat.reduceLT]) (by repeat (first | exact trivial | constructor)) (runs_eval tab_ok ?_))
    simp only [ev0, evA, evB, evP, fl, gp, tab, simprocAttr, reduceCtorEq, reduceIte]
    refine fin_run ?_ (hK _ ?_) <;> clear hK <;> clear K
    · (first | exact trivial | omega | (simp only [In64] at *; omega) | (simp [In64] at *; omega) | (simp_all; done) | skip)
    refine qd (qa ?_)
    refine hk_region fun K hK => runs_eval tab_ok ?_
    simp only [ev0, evA, evB, evP, fl, gp, tab, simprocAttr, reduceCtorEq, reduceIte, hsub, bv_and ht ht1, hcut]
    refine fin_run ?_ (hK _ ?_) <;> clear hK <;> clear K
    · (first | exact trivial | omega | (simp only [In64] at *; omega) | (simp [In64] at *; omega) | (simp_all; done) | skip)
    refine qa ?_
    refine ⟨(cut t, out ++ [(tz t : Int)]), [1], ⟨?_, ?_⟩, cut_lt h0, ?_⟩
    · exact Nat.lt_trans (cut_lt h0) ht
    · show out ++ [(tz t : Int)] ++ stl (cut t) = stl s
      rw [← ho, hc]; simp
    · simp only [leq, leA, ev0, evA, evB, evP, fl, gp, tab, simprocAttr, reduceCtorEq, reduceIte] <;> first | trivial | omega
  · (try simp only [nhs] at hC1)
    have h0 : t = 0 := by omega
    rw [h0, stl_zero, List.append_nil] at ho
    refine qj (qc (qc (qf (qa (qm ?_)))))
    refine hk_region fun K hK => runs_eval tab_ok ?_
    simp only [ev0, evA, evB, evP, fl, gp, tab, simprocAttr, reduceCtorEq, reduceIte]
    refine fin_run trivial (hK _ ?_) <;> clear hK <;> clear K
    refine qa (qk ?_)
    simp only [Tryd.results113, PostG, endG, rvsA, rvA, mkTup, ev0, evA, evB, evP, fl, gp, tab, simprocAttr, reduceCtorEq, reduceIte]
    all_goals (rw [← ho]; exact ⟨[0], by simp only [leq, leA, ev0, evA, evB, evP, fl, gp, tab, simprocAttr, reduceCtorEq, reduceIte] <;> simp [ol, opl]⟩)
/-- The bits of a list of things. -/
def msk (l : List Int) : Nat := l.foldl (fun s a => s ||| 2 ^ a.toNat) 0
theorem msk_bit (l : List Int) (i : Nat) : (msk l).testBit i = decide (∃ a ∈ l, a.toNat = i) := by
  have key : ∀ (l : List Int) (s : Nat), (l.foldl (fun s a => s ||| 2 ^ a.toNat) s).testBit i = (s.testBit i || decide (∃ a ∈ l, a.toNat = i)) := by
    intro l
    induction l with
    | nil => intro s; simp
    | cons a r ih =>
      intro s
      rw [List.foldl_cons, ih, Nat.testBit_or, Nat.testBit_two_pow]
      by_cases h : a.toNat = i
      · simp [h]
      · simp [h]
  rw [msk, key]; simp
theorem msk_lt {l : List Int} {n : Nat} (h : ∀ a ∈ l, a.toNat < n) : msk l < 2 ^ n := by
  refine Nat.lt_pow_two_of_testBit _ fun i hi => ?_
  rw [msk_bit, decide_eq_false_iff_not]
  rintro ⟨a, ha, rfl⟩
  have := h a ha; omega

/-! ### Lists that rise -/

theorem mem_thl {n : Nat} {p : Nat → Bool} {x : Int} : x ∈ thl n p ↔ ∃ a, a < n ∧ p a = true ∧ x = (a : Int) := by
  unfold thl
  rw [List.mem_map]
  constructor
  · rintro ⟨a, ha, rfl⟩
    obtain ⟨h1, h2⟩ := mem_thn.1 ha
    exact ⟨a, h1, h2, rfl⟩
  · rintro ⟨a, h1, h2, rfl⟩
    exact ⟨a, mem_thn.2 ⟨h1, h2⟩, rfl⟩
theorem thl_asc (n : Nat) (p : Nat → Bool) : (thl n p).Pairwise (· < ·) := by
  unfold thl thn'
  rw [List.pairwise_map]
  refine (List.Pairwise.filter p List.pairwise_lt_range).imp fun {a b} h => by omega

/-! ### Choosing -/

theorem those_c (n : Nat) (m : List Int) (F : FuncId) (caps : List PV) (p : Nat → Bool) (hn : n ≤ 1000000) (hF : ∀ a, a < n → FnC Tryd.prog F (.int .i64 a :: caps) (.bool (p a))) : FnC Tryd.prog 40 [gp n m, .fn F caps] (.list (il (thl n p))) := by
  refine fnc_of tab_ok Tryd.func40 rfl (by kernel_rfl) (by rw [Tryd.ntmps40]; exact Nat.le_add_left 2 _) ?_; rw [Tryd.ntmps40]
  refine qm ?_
  refine hk_region fun K hK => runs_eval tab_ok ?_
  simp only [ev0, evA, evB, evP, fl, gp, tab, simprocAttr, reduceCtorEq, reduceIte]
  refine fin_run ?_ (hK _ ?_) <;> clear hK <;> clear K
  · (first | exact trivial | omega | (simp only [In64] at *; omega) | (simp [In64] at *; omega) | (simp_all; done) | skip)
  refine qa (qm ?_)
  refine hk_region fun K hK => runs_eval tab_ok ?_
  simp only [ev0, evA, evB, evP, fl, gp, tab, simprocAttr, reduceCtorEq, reduceIte]
  refine fin_run trivial (hK _ ?_) <;> clear hK <;> clear K
  refine qa (qm (qm ?_))
  refine hk_region fun K hK => runs_eval tab_ok ?_
  simp only [ev0, evA, evB, evP, fl, gp, tab, simprocAttr, reduceCtorEq, reduceIte]
  refine fin_run trivial (hK _ ?_) <;> clear hK <;> clear K
  refine qa (ql ?_)
  refine hk_own0 5 rfl ?_
  refine hk_loop (ι := Nat) (fun i => ⟨21, [(1, .p (.fn F caps)), (2, .ptr 0 0), (5, .sl 1 0 (thl i p).length), (6, .p (.int .i64 i))], [.own [.p (.int .i64 n), .p (.list (il m))], .own (ol (thl i p))]⟩) (fun i => i ≤ n) (fun i => n - i) 0 (Nat.zero_le _) [0, 1] (by simp only [leq, leA, ev0, evA, evB, evP, fl, gp, tab, simprocAttr, reduceCtorEq, reduceIte] <;> simp [thl, thn', ol_nil]) fun i hi => ?_
  have hl := thl_le i p
  refine qm (qm ?_)
  refine hk_region fun K hK => runs_eval tab_ok ?_
  simp only [ev0, evA, evB, evP, fl, gp, tab, simprocAttr, reduceCtorEq, reduceIte]
  refine fin_run ?_ (hK _ ?_) <;> clear hK <;> clear K
  · (first | exact trivial | omega | (simp only [In64] at *; omega) | (simp [In64] at *; omega) | (simp_all; done) | skip)
  refine qa ?_
  refine hk_cond rfl (fun hC1 => ?_) (fun hC1 => ?_)
  · (try simp only [nhs] at hC1)
    have hlt : i < n := by omega
    have hs := thl_succ i p
    refine qh (qa (qm (ql (qm ?_))))
    refine hk_region fun K hK => runs_eval tab_ok ?_
    simp only [ev0, evA, evB, evP, fl, gp, tab, simprocAttr, reduceCtorEq, reduceIte]
    refine fin_stop trivial (runs_call (hF i hlt) rfl rfl rfl (by simp only [dstOk, Nat.reduceLT]) (by repeat (first | exact trivial | constructor)) (runs_eval tab_ok ?_))
    simp only [ev0, evA, evB, evP, fl, gp, tab, simprocAttr, reduceCtorEq, reduceIte]
    refine fin_run trivial (hK _ ?_) <;> clear hK <;> clear K
    refine qa ?_
    refine hk_cond rfl (fun hC2 => ?_) (fun hC2 => ?_)
    · (try simp only [nhs] at hC2)
      rw [if_pos hC2] at hs
      refine hk_region fun K hK => runs_eval tab_ok ?_
      simp only [ev0, evA, evB, evP, fl, gp, tab, simprocAttr, reduceCtorEq, reduceIte]
      refine fin_run ?_ (hK _ ?_) <;> clear hK <;> clear K
      · (first | exact trivial | omega | (simp only [In64] at *; omega) | (simp [In64] at *; omega) | (simp_all; done) | skip)
      refine qd (qa ?_)
      refine hk_region fun K hK => runs_eval tab_ok ?_
      simp only [ev0, evA, evB, evP, fl, gp, tab, simprocAttr, reduceCtorEq, reduceIte]
      refine fin_run ?_ (hK _ ?_) <;> clear hK <;> clear K
      · (first | exact trivial | omega | (simp only [In64] at *; omega) | (simp [In64] at *; omega) | (simp_all; done) | skip)
      refine qa ?_
      refine ⟨i + 1, [0, 2], by omega, by omega, ?_⟩
      rw [hs]
      simp only [leq, leA, ev0, evA, evB, evP, fl, gp, tab, simprocAttr, reduceCtorEq, reduceIte] <;> first | trivial | omega
    · (try simp only [nhs] at hC2)
      rw [if_neg (by rw [hC2]; simp)] at hs
      refine qh (qd (qa ?_))
      refine hk_region fun K hK => runs_eval tab_ok ?_
      simp only [ev0, evA, evB, evP, fl, gp, tab, simprocAttr, reduceCtorEq, reduceIte]
      refine fin_run ?_ (hK _ ?_) <;> clear hK <;> clear K
      · (first | exact trivial | omega | (simp only [In64] at *; omega) | (simp [In64] at *; omega) | (simp_all; done) | skip)
      refine qa ?_
      refine ⟨i + 1, [0, 1], by omega, by omega, ?_⟩
      rw [hs, List.append_nil]
      simp only [leq, leA, ev0, evA, evB, evP, fl, gp, tab, simprocAttr, reduceCtorEq, reduceIte] <;> first | trivial | omega
  · (try simp only [nhs] at hC1)
    have hin : i = n := by omega
    subst hin
    refine hk_seal 5 1 rfl rfl ?_
    refine qj (qc (qc (qf (qa (qm ?_)))))
    refine hk_region fun K hK => runs_eval tab_ok ?_
    simp only [ev0, evA, evB, evP, fl, gp, tab, simprocAttr, reduceCtorEq, reduceIte]
    refine fin_run trivial (hK _ ?_) <;> clear hK <;> clear K
    refine qa (qk ?_)
    simp only [Tryd.results40, enA, ev0, evA, evB, evP, fl, gp, tab, simprocAttr, reduceCtorEq, reduceIte]
    all_goals (rfl)

end Go.Proofs.YtboadfahlflmhaaDoor

/-
  Sets of things: what they make, as the program has it. Conditions: none.
-/
set_option linter.all false
namespace Go.Proofs.YtboadfahlflmhaaDoor
open Go.Pv

/-- The bits of the things of which something holds. -/
def bo (n : Nat) (p : Nat → Bool) : Nat := msk (thl n p)
theorem bo_bit (n : Nat) (p : Nat → Bool) (i : Nat) : (bo n p).testBit i = (decide (i < n) && p i) := by
  unfold bo
  rw [msk_bit, Bool.eq_iff_iff, decide_eq_true_eq, Bool.and_eq_true, decide_eq_true_eq]
  constructor
  · rintro ⟨x, hx, rfl⟩
    obtain ⟨a, h1, h2, rfl⟩ := mem_thl.1 hx
    exact ⟨h1, h2⟩
  · rintro ⟨h1, h2⟩
    exact ⟨(i : Int), mem_thl.2 ⟨i, h1, h2, rfl⟩, rfl⟩
theorem bo_lt (n : Nat) (p : Nat → Bool) : bo n p < 2 ^ n := msk_lt fun x hx => by
  obtain ⟨a, h1, _, rfl⟩ := mem_thl.1 hx
  exact h1
theorem bo_lt64 {n : Nat} (hn : n ≤ 60) (p : Nat → Bool) : bo n p < 2 ^ 64 := Nat.lt_of_lt_of_le (bo_lt n p) (Nat.pow_le_pow_right (by omega) (by omega))
theorem bo_eq {n s : Nat} {p : Nat → Bool} (hs : s < 2 ^ n) (h : ∀ i, i < n → s.testBit i = p i) : s = bo n p := by
  refine Nat.eq_of_testBit_eq fun i => ?_
  rw [bo_bit]
  by_cases hi : i < n
  · rw [h i hi]; simp [hi]
  · rw [Nat.testBit_lt_two_pow (Nat.lt_of_lt_of_le hs (Nat.pow_le_pow_right (by omega) (by omega)))]; simp [hi]
theorem bo_congr {n : Nat} {p q : Nat → Bool} (h : ∀ a, a < n → p a = q a) : bo n p = bo n q := by unfold bo; rw [thl_congr h]
theorem bo_inj {n : Nat} {p q : Nat → Bool} (h : bo n p = bo n q) {a : Nat} (ha : a < n) : p a = q a := by
  have h1 := bo_bit n p a
  rw [h, bo_bit] at h1
  simpa [ha] using h1.symm
theorem stl_bo {n : Nat} (hn : n ≤ 60) (p : Nat → Bool) : stl (bo n p) = thl n p := by
  rw [stl_n (by omega) (bo_lt n p)]
  exact thl_congr fun a ha => by rw [bo_bit]; simp [ha]
theorem pow_lt64 {b : Nat} (hb : b < 64) : 2 ^ b < 2 ^ 64 := Nat.pow_lt_pow_right (by omega) hb
theorem lt64 {n s : Nat} (hn : n ≤ 60) (hs : s < 2 ^ n) : s < 2 ^ 64 := Nat.lt_of_lt_of_le hs (Nat.pow_le_pow_right (by omega) (by omega))
theorem bit_ltn {n s i : Nat} (hs : s < 2 ^ n) (h : s.testBit i = true) : i < n := by
  rcases Nat.lt_or_ge i n with h1 | h1
  · exact h1
  · rw [Nat.testBit_lt_two_pow (Nat.lt_of_lt_of_le hs (Nat.pow_le_pow_right (by omega) h1))] at h; cases h

theorem app_at (pre w : List Int) (a : Int) (d : AV) : (ol (pre ++ a :: w)).getD pre.length d = .p (.int .i64 a) := by
  simp [ol, il, List.getD]

/-- What holds while a set grows. -/
structure GrowI (n : Nat) (f : Nat → Nat → Nat) (e s out : Nat) (w : List Int) : Prop where
  lt : out < 2 ^ n
  one : out.testBit e = true
  gen : ∀ a, out.testBit a = true → Gen n f e s.testBit a
  wait : ∀ x ∈ w, ∃ a, x = ((a : Nat) : Int) ∧ out.testBit a = true
  nd : w.Nodup

theorem or_bit (s b i : Nat) : (s ||| 2 ^ b).testBit i = (s.testBit i || decide (b = i)) := by rw [Nat.testBit_or, Nat.testBit_two_pow]
theorem GrowI.len {n e s out : Nat} {f : Nat → Nat → Nat} {w : List Int} (h : GrowI n f e s out w) : w.length ≤ n := by
  have h1 := List.Nodup.length_le_of_subset h.nd (l₂ := thl n fun _ => true) fun x hx => by
    obtain ⟨a, rfl, ha⟩ := h.wait x hx
    exact mem_thl.2 ⟨a, bit_ltn h.lt ha, rfl, rfl⟩
  exact Nat.le_trans h1 (thl_le _ _)
theorem GrowI.add {n e s out a z : Nat} {f : Nat → Nat → Nat} {w : List Int} (h : GrowI n f e s out w) (ha : out.testBit a = true) (hz : s.testBit z = true) (hzn : z < n) (hn : f a z < n) (hno : out.testBit (f a z) = false) :
    GrowI n f e s (out ||| 2 ^ f a z) (w ++ [((f a z : Nat) : Int)]) where
  lt := Nat.or_lt_two_pow h.lt (Nat.pow_lt_pow_right (by omega) hn)
  one := by rw [or_bit, h.one]; rfl
  gen y hy := by
    rw [or_bit, Bool.or_eq_true, decide_eq_true_eq] at hy
    rcases hy with hy | rfl
    · exact h.gen y hy
    · exact .step a z (h.gen a ha) hzn hz
  wait x hx := by
    rcases List.mem_append.1 hx with hx | hx
    · obtain ⟨y, e1, e2⟩ := h.wait x hx
      exact ⟨y, e1, by rw [or_bit, e2]; rfl⟩
    · exact ⟨_, List.mem_singleton.1 hx, by rw [or_bit]; simp⟩
  nd := by
    refine List.nodup_append.2 ⟨h.nd, by simp, fun x hx y hy e => ?_⟩
    rw [List.mem_singleton] at hy
    obtain ⟨y', e1, e2⟩ := h.wait x hx
    have : y' = f a z := by omega
    rw [this, hno] at e2; cases e2

theorem grow_c {n e : Nat} {m : List Int} (h : GT n m n e) (s : Nat) (hs : s < 2 ^ n) (q : Nat → Bool) (hq : ∀ a, a < n → (q a = true ↔ Gen n (op m n) e s.testBit a)) : FnC Tryd.prog 111 [gp n m, .int .u64 s] (.int .u64 (bo n q)) := by
  have G := h.2.2
  have T := h.2.1
  have hb := T.big
  have hel := G.el
  have hs64 := lt64 hb hs
  have hone := pow_lt64 (b := e) (by omega)
  have hbe : ∀ a, (2 ^ e).testBit a = true → a = e := fun a ha => by rw [Nat.testBit_two_pow] at ha; simp at ha; exact ha.symm
  have hstl : ∀ x ∈ stl (2 ^ e), x = (e : Int) := fun x hx => by
    obtain ⟨a, _, h2, rfl⟩ := mem_thl.1 hx
    rw [hbe a h2]
  have hstl2 : (e : Int) ∈ stl (2 ^ e) := mem_thl.2 ⟨e, by omega, by rw [Nat.testBit_two_pow]; simp, rfl⟩
  refine fnc_of tab_ok Tryd.func111 rfl (by kernel_rfl) (by rw [Tryd.ntmps111]; exact Nat.le_add_left 2 _) ?_; rw [Tryd.ntmps111]
  refine qm ?_
  refine hk_region fun K hK => runs_eval tab_ok ?_
  simp only [ev0, evA, evB, evP, fl, gp, tab, simprocAttr, reduceCtorEq, reduceIte]
  refine fin_run ?_ (hK _ ?_) <;> clear hK <;> clear K
  · (first | exact trivial | omega | (simp only [In64] at *; omega) | (simp [In64] at *; omega) | (simp_all; done) | skip)
  refine qa (qm ?_)
  refine hk_region fun K hK => runs_eval tab_ok ?_
  simp only [ev0, evA, evB, evP, fl, gp, tab, simprocAttr, reduceCtorEq, reduceIte]
  refine fin_stop trivial (runs_call (oneOf_c h) rfl rfl rfl (by simp only [dstOk, Nat.reduceLT]) (by repeat (first | exact trivial | constructor)) (runs_eval tab_ok ?_))
  simp only [ev0, evA, evB, evP, fl, gp, tab, simprocAttr, reduceCtorEq, reduceIte, shl_one (show e < 64 by omega)]
  refine fin_run ?_ (hK _ ?_) <;> clear hK <;> clear K
  · (first | exact trivial | omega | (simp only [In64] at *; omega) | (simp [In64] at *; omega) | (simp_all; done) | skip)
  refine qa (qm ?_)
  refine hk_region fun K hK => runs_eval tab_ok ?_
  simp only [ev0, evA, evB, evP, fl, gp, tab, simprocAttr, reduceCtorEq, reduceIte]
  refine fin_stop trivial (runs_callG (list_g (2 ^ e) hone) rfl rfl (by first | rfl | (simp [scG, scA, sc1, opl]; done) | (simp only [scG, List.all_cons, List.all_nil, ol_sc, Bool.and_true]; rfl)) (by simp only [dstOk, Nat.reduceLT]) (by repeat (first | exact trivial | constructor)) (runs_eval tab_ok ?_))
  simp only [Go.Pv.shf, List.range', Blk.ren, opl_ren, ren, ren1, ev0, evA, evB, evP, fl, gp, tab, simprocAttr, reduceCtorEq, reduceIte]
  refine fin_run trivial (hK _ ?_) <;> clear hK <;> clear K
  refine qa (qm (ql ?_))
  refine hk_loop (ι := Nat × List Int × List Int) (fun p => ⟨48, [(1, .p (.int .u64 s)), (2, .ptr 0 0), (5, .p (.int .u64 p.1)), (6, .sl 1 p.2.1.length p.2.2.length)], [.own [.p (.int .i64 n), .p (.list (il m))], .own (ol (p.2.1 ++ p.2.2))]⟩) (fun p => GrowI n (op m n) e s p.1 p.2.2 ∧ ∀ a, p.1.testBit a = true → ((a : Nat) : Int) ∉ p.2.2 → ∀ b, s.testBit b = true → p.1.testBit (op m n a b) = true) (fun p => 2 * (2 ^ 64 - p.1) + p.2.2.length) (2 ^ e, [], stl (2 ^ e)) ⟨⟨Nat.pow_lt_pow_right (by omega) hel, by rw [Nat.testBit_two_pow]; simp, fun a ha => by rw [hbe a ha]; exact .one, fun x hx => ⟨e, hstl x hx, by rw [Nat.testBit_two_pow]; simp⟩, (thl_asc _ _).imp fun h => by omega⟩, fun a ha hn => absurd (by rw [hbe a ha]; exact hstl2) hn⟩ [0, 1] (by simp only [leq, leA, ev0, evA, evB, evP, fl, gp, tab, simprocAttr, reduceCtorEq, reduceIte] <;> first | trivial | simp [ol, opl]) fun p hp => ?_
  obtain ⟨out, pre, w⟩ := p
  obtain ⟨⟨i1, i2, i3, i4, i6⟩, i5⟩ := hp
  simp only at i1 i2 i3 i4 i5
  refine qm (qm ?_)
  refine hk_region fun K hK => runs_eval tab_ok ?_
  simp only [ev0, evA, evB, evP, fl, gp, tab, simprocAttr, reduceCtorEq, reduceIte]
  refine fin_run trivial (hK _ ?_) <;> clear hK <;> clear K
  refine qa ?_
  refine hk_cond rfl (fun hC1 => ?_) (fun hC1 => ?_)
  · (try simp only [nhs] at hC1)
    obtain ⟨x, w', rfl⟩ : ∃ x w', w = x :: w' := by
      cases w with
      | nil => simp at hC1
      | cons x w' => exact ⟨x, w', rfl⟩
    obtain ⟨a, rfl, hoa⟩ := i4 x (by simp)
    have hal := bit_ltn i1 hoa
    refine qh (qa (ql (qm ?_)))
    refine hk_region fun K hK => runs_eval tab_ok ?_
    simp only [ev0, evA, evB, evP, fl, gp, tab, simprocAttr, reduceCtorEq, reduceIte, app_at, Nat.add_zero]
    refine fin_run ?_ (hK _ ?_) <;> clear hK <;> clear K
    · (first | exact trivial | omega | (simp only [In64] at *; omega) | (simp [In64] at *; omega) | (simp_all; done) | skip)
    refine qa (qm ?_)
    refine hk_region fun K hK => runs_eval tab_ok ?_
    simp only [ev0, evA, evB, evP, fl, gp, tab, simprocAttr, reduceCtorEq, reduceIte]
    refine fin_run ?_ (hK _ ?_) <;> clear hK <;> clear K
    · (first | exact trivial | omega | (simp only [In64] at *; omega) | (simp [In64] at *; omega) | (simp_all; done) | skip)
    refine qa (qm ?_)
    refine hk_region fun K hK => runs_eval tab_ok ?_
    simp only [ev0, evA, evB, evP, fl, gp, tab, simprocAttr, reduceCtorEq, reduceIte]
    refine fin_run trivial (hK _ ?_) <;> clear hK <;> clear K
    refine qa (ql ?_)
    refine hk_loop (ι := Nat × Nat × List Int × List Int) (fun p => ⟨48, [(1, .p (.int .u64 s)), (2, .ptr 0 0), (5, .p (.int .u64 p.2.1)), (6, .sl 1 p.2.2.1.length p.2.2.2.length), (7, .p (.int .i64 a)), (8, .p (.int .u64 p.1))], [.own [.p (.int .i64 n), .p (.list (il m))], .own (ol (p.2.2.1 ++ p.2.2.2))]⟩) (fun p => GrowI n (op m n) e s p.2.1 p.2.2.2 ∧ (∀ i, p.1.testBit i = true → s.testBit i = true) ∧ p.1 < 2 ^ 64 ∧ (∀ y, p.2.1.testBit y = true → ((y : Nat) : Int) ∉ p.2.2.2 → y ≠ a → ∀ b, s.testBit b = true → p.2.1.testBit (op m n y b) = true) ∧ (∀ b, s.testBit b = true → p.1.testBit b = false → p.2.1.testBit (op m n a b) = true) ∧ p.2.1.testBit a = true ∧ 2 * (2 ^ 64 - p.2.1) + p.2.2.2.length ≤ 2 * (2 ^ 64 - out) + w'.length) (fun p => p.1) (s, out, pre ++ [(a : Int)], w') ⟨⟨i1, i2, i3, fun x hx => i4 x (by simp [hx]), (List.nodup_cons.1 i6).2⟩, fun i hi => hi, hs64, fun y hy hn hya b hbs => i5 y hy (by simp only [List.mem_cons, not_or]; exact ⟨by omega, hn⟩) b hbs, fun b hb1 hb2 => absurd (hb1.symm.trans hb2) (by simp), hoa, Nat.le_refl _⟩ [0, 1] (by simp only [leq, leA, ev0, evA, evB, evP, fl, gp, tab, simprocAttr, reduceCtorEq, reduceIte] <;> first | trivial | (simp; done) | (simp; rw [List.take_of_length_le (by simp; omega)])) fun p hp => ?_
    obtain ⟨t, out2, pre2, w2⟩ := p
    obtain ⟨jI, j5, j6, j7, j8, j9, j10⟩ := hp
    simp only at jI j5 j6 j7 j8 j9 j10
    have hw2 := jI.len
    have j1 := jI.lt
    refine qm (qm ?_)
    refine hk_region fun K hK => runs_eval tab_ok ?_
    simp only [ev0, evA, evB, evP, fl, gp, tab, simprocAttr, reduceCtorEq, reduceIte]
    refine fin_run trivial (hK _ ?_) <;> clear hK <;> clear K
    refine qa ?_
    refine hk_cond rfl (fun hC2 => ?_) (fun hC2 => ?_)
    · (try simp only [nhs] at hC2)
      have h0 : t ≠ 0 := by omega
      obtain ⟨z1, z2, z3⟩ := tz_spec j6 h0
      have hzs := j5 _ z2
      have hzn := bit_ltn hs hzs
      have hfn := G.cl a (tz t) hal hzn
      have ht1 : t - 1 < 2 ^ 64 := by omega
      have hsub : IntKind.u64.wrap ((t : Int) - 1) = ((t - 1 : Nat) : Int) := by rw [wrap_u]; omega
      have hcut : t &&& (t - 1) = cut t := rfl
      have ho64 := lt64 hb j1
      have hp64 := pow_lt64 (b := op m n a (tz t)) (by omega)
      refine qh (qa (qm (ql (qm ?_))))
      refine hk_draw mixed (by kernel_rfl) fun K hK => runs_eval tab_ok ?_
      simp only [ev0, evA, evB, evP, fl, gp, tab, simprocAttr, reduceCtorEq, reduceIte]
      refine fin_stop trivial (runs_call (tz_c t j6 h0) rfl rfl rfl (by simp only [dstOk, Nat.reduceLT]) (by repeat (first | exact trivial | constructor)) (runs_eval tab_ok ?_))
      simp only [ev0, evA, evB, evP, fl, gp, tab, simprocAttr, reduceCtorEq, reduceIte]
      refine fin_stop trivial (runs_call (of_c T hal hzn) rfl rfl rfl (by simp only [dstOk, Nat.reduceLT]) (by repeat (first | exact trivial | constructor)) (runs_eval tab_ok ?_))
      simp only [ev0, evA, evB, evP, fl, gp, tab, simprocAttr, reduceCtorEq, reduceIte]
      refine fin_run ?_ (hK _ ?_) <;> clear hK <;> clear K
      · (first | exact trivial | omega | (simp only [In64] at *; omega) | (simp [In64] at *; omega) | (simp_all; done) | skip)
      refine qa (qm ?_)
      refine hk_region fun K hK => runs_eval tab_ok ?_
      simp only [ev0, evA, evB, evP, fl, gp, tab, simprocAttr, reduceCtorEq, reduceIte]
      refine fin_stop trivial (runs_call (has_s out2 (op m n a (tz t)) ho64 (by omega)) rfl rfl rfl (by simp only [dstOk, Nat.reduceLT]) (by repeat (first | exact trivial | constructor)) (runs_eval tab_ok ?_))
      simp only [ev0, evA, evB, evP, fl, gp, tab, simprocAttr, reduceCtorEq, reduceIte]
      refine fin_run trivial (hK _ ?_) <;> clear hK <;> clear K
      refine qa ?_
      refine hk_cond rfl (fun hC3 => ?_) (fun hC3 => ?_)
      · (try simp only [nhs] at hC3)
        have hno : out2.testBit (op m n a (tz t)) = false := hC3
        have hlt2 : out2 < out2 ||| 2 ^ op m n a (tz t) := by
          rcases Nat.lt_or_eq_of_le (Nat.left_le_or (n := out2) (m := 2 ^ op m n a (tz t))) with h1 | h1
          · exact h1
          · exfalso
            have h2 := or_bit out2 (op m n a (tz t)) (op m n a (tz t))
            rw [← h1, hno] at h2
            simp at h2
        refine qm ?_
        refine hk_region fun K hK => runs_eval tab_ok ?_
        simp only [ev0, evA, evB, evP, fl, gp, tab, simprocAttr, reduceCtorEq, reduceIte, shl_one (show op m n a (tz t) < 64 by omega), bv_or ho64 hp64]
        refine fin_run ?_ (hK _ ?_) <;> clear hK <;> clear K
        · (first | exact trivial | omega | (simp only [In64] at *; omega) | (simp [In64] at *; omega) | (simp_all; done) | skip)
        refine qa ?_
        refine hk_region fun K hK => runs_eval tab_ok ?_
        simp only [ev0, evA, evB, evP, fl, gp, tab, simprocAttr, reduceCtorEq, reduceIte]
        refine fin_run ?_ (hK _ ?_) <;> clear hK <;> clear K
        · simp only [List.length_append]; omega
        refine qd (qa ?_)
        refine hk_region fun K hK => runs_eval tab_ok ?_
        simp only [ev0, evA, evB, evP, fl, gp, tab, simprocAttr, reduceCtorEq, reduceIte, hsub, bv_and j6 ht1, hcut]
        refine fin_run ?_ (hK _ ?_) <;> clear hK <;> clear K
        · (first | exact trivial | omega | (simp only [In64] at *; omega) | (simp [In64] at *; omega) | (simp_all; done) | skip)
        refine qa ?_
        have hI := jI.add j9 hzs hzn hfn hno
        have hI1 := lt64 hb hI.lt
        refine ⟨(cut t, out2 ||| 2 ^ op m n a (tz t), [], w2 ++ [((op m n a (tz t) : Nat) : Int)]), [0, 2], ⟨hI, fun i hi => ?_, ?_, fun y hy hn hya b hbs => ?_, fun b hb1 hb2 => ?_, ?_, ?_⟩, ?_, ?_⟩
        · simp only [cut_bit j6 h0, Bool.and_eq_true] at hi
          exact j5 i hi.1
        · exact Nat.lt_trans (cut_lt h0) j6
        · simp only [or_bit, Bool.or_eq_true, decide_eq_true_eq] at hy ⊢
          simp only [List.mem_append, List.mem_singleton, not_or] at hn
          rcases hy with hy | hy
          · exact .inl (j7 y hy hn.1 hya b hbs)
          · exact absurd (by rw [hy]) hn.2
        · simp only [cut_bit j6 h0] at hb2
          simp only [or_bit, Bool.or_eq_true, decide_eq_true_eq]
          by_cases hbz : b = tz t
          · right; rw [hbz]
          · left
            refine j8 b hb1 ?_
            cases htb : t.testBit b with
            | false => rfl
            | true => rw [htb] at hb2; simp at hb2; exact absurd hb2 hbz
        · simp only [or_bit, j9, Bool.true_or]
        · simp only [List.length_append, List.length_cons, List.length_nil]
          omega
        · exact cut_lt h0
        · simp only [leq, leA, ev0, evA, evB, evP, fl, gp, tab, simprocAttr, reduceCtorEq, reduceIte]
          rw [List.drop_left, List.take_length, List.take_of_length_le (by simp)]
      · (try simp only [nhs] at hC3)
        refine qh (qd (qa ?_))
        refine hk_region fun K hK => runs_eval tab_ok ?_
        simp only [ev0, evA, evB, evP, fl, gp, tab, simprocAttr, reduceCtorEq, reduceIte, hsub, bv_and j6 ht1, hcut]
        refine fin_run ?_ (hK _ ?_) <;> clear hK <;> clear K
        · (first | exact trivial | omega | (simp only [In64] at *; omega) | (simp [In64] at *; omega) | (simp_all; done) | skip)
        refine qa ?_
        refine ⟨(cut t, out2, pre2, w2), [0, 1], ⟨jI, fun i hi => ?_, ?_, j7, fun b hb1 hb2 => ?_, j9, j10⟩, cut_lt h0, ?_⟩
        · simp only [cut_bit j6 h0, Bool.and_eq_true] at hi
          exact j5 i hi.1
        · exact Nat.lt_trans (cut_lt h0) j6
        · simp only [cut_bit j6 h0] at hb2
          by_cases hbz : b = tz t
          · show out2.testBit (op m n a b) = true
            rw [hbz]; exact hC3
          · refine j8 b hb1 ?_
            cases htb : t.testBit b with
            | false => rfl
            | true => rw [htb] at hb2; simp at hb2; exact absurd hb2 hbz
        · simp only [leq, leA, ev0, evA, evB, evP, fl, gp, tab, simprocAttr, reduceCtorEq, reduceIte] <;> first | trivial | omega
    · (try simp only [nhs] at hC2)
      have ht0 : t = 0 := by omega
      subst ht0
      refine qj (qc (qc (qf (qd (qa ?_)))))
      refine ⟨(out2, pre2, w2), [0, 1], ⟨jI, fun y hy hn b hbs => ?_⟩, ?_, ?_⟩
      · by_cases hya : y = a
        · rw [hya]; exact j8 b hbs (by simp)
        · exact j7 y hy hn hya b hbs
      · have ho := lt64 hb j1
        have ho2 := lt64 hb i1
        simp only [List.length_cons]
        omega
      · simp only [leq, leA, ev0, evA, evB, evP, fl, gp, tab, simprocAttr, reduceCtorEq, reduceIte] <;> first | trivial | omega
  · (try simp only [nhs] at hC1)
    have hw0 : w = [] := by
      cases w with
      | nil => rfl
      | cons x r => simp at hC1
    subst hw0
    have hfin : out = bo n q := by
      refine bo_eq i1 fun i hi => ?_
      rw [Bool.eq_iff_iff, hq i hi]
      refine ⟨i3 i, fun hg => ?_⟩
      exact Gen.least i2 (fun a b _ _ hb hH => i5 a hH (by simp) b hb) hg
    refine qj (qc (qc (qf (qa (qm ?_)))))
    refine hk_region fun K hK => runs_eval tab_ok ?_
    simp only [ev0, evA, evB, evP, fl, gp, tab, simprocAttr, reduceCtorEq, reduceIte]
    refine fin_run trivial (hK _ ?_) <;> clear hK <;> clear K
    refine qa (qk ?_)
    simp only [Tryd.results111, enA, ev0, evA, evB, evP, fl, gp, tab, simprocAttr, reduceCtorEq, reduceIte]
    all_goals (rw [hfin])
end Go.Proofs.YtboadfahlflmhaaDoor

/-
  Sets of things: what they make, as the document has it. Conditions: none.
-/
set_option linter.all false
namespace Go.Proofs.YtboadfahlflmhaaDoor
open Go.Pv

/-! ### Looked at -/

theorem thl_get_asc {n : Nat} {p : Nat → Bool} {i j : Nat} (hij : i < j) (hj : j < (thl n p).length) : (thl n p).getD i 0 < (thl n p).getD j 0 := by
  have := List.pairwise_iff_getElem.1 (thl_asc n p) i j (by omega) hj hij
  simpa [List.getD, List.getElem?_eq_getElem hj, List.getElem?_eq_getElem (show i < (thl n p).length by omega)] using this
theorem thl_get {n : Nat} {p : Nat → Bool} {i : Nat} (hi : i < (thl n p).length) : ∃ a, a < n ∧ p a = true ∧ (thl n p).getD i 0 = ((a : Nat) : Int) := by
  have : (thl n p).getD i 0 ∈ thl n p := by simp [List.getD, List.getElem?_eq_getElem hi]
  exact mem_thl.1 this
theorem mem_thl_n {n : Nat} {p : Nat → Bool} {a : Nat} (ha : a < n) : ((a : Nat) : Int) ∈ thl n p ↔ p a = true := by
  rw [mem_thl]
  constructor
  · rintro ⟨b, _, h2, e⟩
    have : a = b := by omega
    subst this; exact h2
  · exact fun h => ⟨a, ha, h, rfl⟩
/-! ### Rows of truths -/

end Go.Proofs.YtboadfahlflmhaaDoor

/-
  Walks: groups that are made of a product. Conditions: none.
-/
set_option linter.all false
namespace Go.Proofs.YtboadfahlflmhaaDoor
open Go.Pv

/-- A table, by a rule. -/
def tbr (g : Nat → Nat → Int) (n : Nat) : Nat → List Int := rg fun i => g (i / n) (i % n)
def tbl (g : Nat → Nat → Int) (n : Nat) : List Int := tbr g n (n * n)

theorem tbr_succ (g : Nat → Nat → Int) {n a b : Nat} (hb : b < n) : tbr g n (a * n + (b + 1)) = tbr g n (a * n + b) ++ [g a b] := by
  unfold tbr
  rw [← Nat.add_assoc, rg_succ]
  have h1 : (a * n + b) / n = a := by
    rw [Nat.mul_comm, Nat.mul_add_div (by omega), Nat.div_eq_of_lt hb]; omega
  have h2 : (a * n + b) % n = b := by
    rw [Nat.mul_comm, Nat.mul_add_mod, Nat.mod_eq_of_lt hb]
  simp only [h1, h2]
theorem tbr_len (g : Nat → Nat → Int) (n k : Nat) : (tbr g n k).length = k := rg_len _ k
theorem tbl_len (g : Nat → Nat → Int) (n : Nat) : (tbl g n).length = n * n := rg_len _ _
theorem tbl_get (g : Nat → Nat → Int) {n a b : Nat} (ha : a < n) (hb : b < n) : (tbl g n).getD (a * n + b) 0 = g a b := by
  unfold tbl tbr
  rw [rg_get _ (at_lt ha hb)]
  have h1 : (a * n + b) / n = a := by
    rw [Nat.mul_comm, Nat.mul_add_div (by omega), Nat.div_eq_of_lt hb]; omega
  have h2 : (a * n + b) % n = b := by
    rw [Nat.mul_comm, Nat.mul_add_mod, Nat.mod_eq_of_lt hb]
  rw [h1, h2]

def cyc (n a b : Nat) : Nat := (a + b) % n
def dih (n a b : Nat) : Nat := (a % n + (if a / n = 1 then n - b % n else b % n)) % n + (a / n + b / n) % 2 * n
theorem tm_lit (a : Nat) : Int.tmod (a : Int) 2 = ((a % 2 : Nat) : Int) := rfl

end Go.Proofs.YtboadfahlflmhaaDoor

/-
  Sets of things: centres; the square's group; an example of the document. Conditions: none.
-/
set_option linter.all false
namespace Go.Proofs.YtboadfahlflmhaaDoor
open Go.Pv

/-! ### What two lists have -/

/-! ### Functions of the library -/

/-! ### What commutes with a set -/

/-! ### The square's group -/

def sq8 : List Int := tbl (fun a b => (dih 4 a b : Nat)) 8
theorem sq8_gf : (gf 8 sq8).1 = 0 := by decide +kernel
theorem sq8_gt : ∃ e, GT (8 : Nat) sq8 8 e := by
  obtain ⟨n, e, h, _⟩ := gf_ok sq8_gf
  obtain rfl : n = 8 := by have := h.1; omega
  exact ⟨e, h⟩

theorem tm4 (a : Nat) : Int.tmod (a : Int) 4 = ((a % 4 : Nat) : Int) := rfl
theorem td4 (a : Nat) : Int.tdiv (a : Int) 4 = ((a / 4 : Nat) : Int) := rfl

theorem square_c : FnC Tryd.prog 88 [] (gp 8 sq8) := by
  have hlen := tbr_len (fun a b => (dih 4 a b : Nat)) 8
  refine fnc_of tab_ok Tryd.func88 rfl (by kernel_rfl) (by rw [Tryd.ntmps88]; exact Nat.le_add_left 0 _) ?_; rw [Tryd.ntmps88]
  refine qm ?_
  refine hk_region fun K hK => runs_eval tab_ok ?_
  simp only [ev0, evA, evB, evP, fl, gp, tab, simprocAttr, reduceCtorEq, reduceIte]
  refine fin_run ?_ (hK _ ?_) <;> clear hK <;> clear K
  · (first | exact trivial | omega | (simp only [In64] at *; omega) | (simp [In64] at *; omega) | (simp_all; done) | skip)
  refine qa (qm ?_)
  refine hk_region fun K hK => runs_eval tab_ok ?_
  simp only [ev0, evA, evB, evP, fl, gp, tab, simprocAttr, reduceCtorEq, reduceIte]
  refine fin_run ?_ (hK _ ?_) <;> clear hK <;> clear K
  · (first | exact trivial | omega | (simp only [In64] at *; omega) | (simp [In64] at *; omega) | (simp_all; done) | skip)
  refine qa (qm (qm ?_))
  refine hk_own0c 1 1 rfl rfl ?_
  simp only [hset, List.cons_append, List.nil_append, List.set, List.length_cons, List.length_nil]
  refine hk_region fun K hK => runs_eval tab_ok ?_
  simp only [ev0, evA, evB, evP, fl, gp, tab, simprocAttr, reduceCtorEq, reduceIte]
  refine fin_run trivial (hK _ ?_) <;> clear hK <;> clear K
  refine qa (ql ?_)
  refine hk_loop (ι := Nat) (fun a => ⟨39, [(0, .ptr 0 0), (1, .ptr 1 0), (2, .p (.int .i64 a))], [.own [.p (.int .i64 0), .p .nil], .own [.p (.int .i64 8), .sl 2 0 (tbr (fun a b => (dih 4 a b : Nat)) 8 (a * 8)).length], .own (ol (tbr (fun a b => (dih 4 a b : Nat)) 8 (a * 8)))]⟩) (fun a => a ≤ 8) (fun a => 8 - a) 0 (Nat.zero_le _) [0, 1, 2] (by simp only [leq, leA, ev0, evA, evB, evP, fl, gp, tab, simprocAttr, reduceCtorEq, reduceIte] <;> simp [tbr, rg, ol_nil]) fun a ha => ?_
  refine qm (qm ?_)
  refine hk_region fun K hK => runs_eval tab_ok ?_
  simp only [ev0, evA, evB, evP, fl, gp, tab, simprocAttr, reduceCtorEq, reduceIte]
  refine fin_run trivial (hK _ ?_) <;> clear hK <;> clear K
  refine qa ?_
  refine hk_cond rfl (fun hC1 => ?_) (fun hC1 => ?_)
  · (try simp only [nhs] at hC1)
    have hal : a < 8 := by omega
    refine qh (qa (qm (ql (qm ?_))))
    refine hk_region fun K hK => runs_eval tab_ok ?_
    simp only [ev0, evA, evB, evP, fl, gp, tab, simprocAttr, reduceCtorEq, reduceIte]
    refine fin_run trivial (hK _ ?_) <;> clear hK <;> clear K
    refine qa (ql ?_)
    refine hk_loop (ι := Nat) (fun b => ⟨39, [(0, .ptr 0 0), (1, .ptr 1 0), (2, .p (.int .i64 a)), (3, .p (.int .i64 b))], [.own [.p (.int .i64 0), .p .nil], .own [.p (.int .i64 8), .sl 2 0 (tbr (fun a b => (dih 4 a b : Nat)) 8 (a * 8 + b)).length], .own (ol (tbr (fun a b => (dih 4 a b : Nat)) 8 (a * 8 + b)))]⟩) (fun b => b ≤ 8) (fun b => 8 - b) 0 (Nat.zero_le _) [0, 1, 2] (by rw [Nat.add_zero]; simp only [leq, leA, ev0, evA, evB, evP, fl, gp, tab, simprocAttr, reduceCtorEq, reduceIte] <;> trivial) fun b hb => ?_
    refine qm (qm ?_)
    refine hk_region fun K hK => runs_eval tab_ok ?_
    simp only [ev0, evA, evB, evP, fl, gp, tab, simprocAttr, reduceCtorEq, reduceIte]
    refine fin_run trivial (hK _ ?_) <;> clear hK <;> clear K
    refine qa ?_
    refine hk_cond rfl (fun hC2 => ?_) (fun hC2 => ?_)
    · (try simp only [nhs] at hC2)
      have hbl : b < 8 := by omega
      have hl := hlen (a * 8 + b)
      have hs : (4 : Int) - ((b % 4 : Nat) : Int) = ((4 - b % 4 : Nat) : Int) := by omega
      have hm : (((a / 4 + b / 4) % 2 : Nat) : Int) * 4 = (((a / 4 + b / 4) % 2 * 4 : Nat) : Int) := by omega
      refine qh (qa (qm (ql (qm ?_))))
      refine hk_region fun K hK => runs_eval tab_ok ?_
      simp only [ev0, evA, evB, evP, fl, gp, tab, simprocAttr, reduceCtorEq, reduceIte, tm4]
      refine fin_run ?_ (hK _ ?_) <;> clear hK <;> clear K
      · (first | exact trivial | omega | (simp only [In64] at *; omega) | (simp [In64] at *; omega) | (simp_all; done) | skip)
      refine qa (qm (qm ?_))
      refine hk_region fun K hK => runs_eval tab_ok ?_
      simp only [ev0, evA, evB, evP, fl, gp, tab, simprocAttr, reduceCtorEq, reduceIte]
      refine fin_run trivial (hK _ ?_) <;> clear hK <;> clear K
      refine qa ?_
      refine hk_cond rfl (fun hC3 => ?_) (fun hC3 => ?_)
      · (try simp only [nhs] at hC3)
        have hd : dih 4 a b = (a % 4 + (4 - b % 4)) % 4 + (a / 4 + b / 4) % 2 * 4 := by rw [dih, if_pos (by omega)]
        refine hk_region fun K hK => runs_eval tab_ok ?_
        simp only [ev0, evA, evB, evP, fl, gp, tab, simprocAttr, reduceCtorEq, reduceIte, hs]
        refine fin_run ?_ (hK _ ?_) <;> clear hK <;> clear K
        · (first | exact trivial | omega | (simp only [In64] at *; omega) | (simp [In64] at *; omega) | (simp_all; done) | skip)
        refine qa ?_
        refine hk_region fun K hK => runs_eval tab_ok ?_
        simp only [ev0, evA, evB, evP, fl, gp, tab, simprocAttr, reduceCtorEq, reduceIte, tm4, td4, ← Int.natCast_add, tm_lit, hm]
        refine fin_run ?_ (hK _ ?_) <;> clear hK <;> clear K
        · simp only [In64]; omega
        refine qd (qa ?_)
        refine hk_region fun K hK => runs_eval tab_ok ?_
        simp only [ev0, evA, evB, evP, fl, gp, tab, simprocAttr, reduceCtorEq, reduceIte]
        refine fin_run ?_ (hK _ ?_) <;> clear hK <;> clear K
        · (first | exact trivial | omega | (simp only [In64] at *; omega) | (simp [In64] at *; omega) | (simp_all; done) | skip)
        refine qa ?_
        refine ⟨b + 1, [0, 1, 3], by omega, by omega, ?_⟩
        rw [tbr_succ (fun a b => (dih 4 a b : Nat)) hbl]
        simp only [hd]
        simp only [leq, leA, ev0, evA, evB, evP, fl, gp, tab, simprocAttr, reduceCtorEq, reduceIte] <;> first | trivial | omega
      · (try simp only [nhs] at hC3)
        have hd : dih 4 a b = (a % 4 + b % 4) % 4 + (a / 4 + b / 4) % 2 * 4 := by rw [dih, if_neg (by omega)]
        refine qh (qa ?_)
        refine hk_region fun K hK => runs_eval tab_ok ?_
        simp only [ev0, evA, evB, evP, fl, gp, tab, simprocAttr, reduceCtorEq, reduceIte, tm4, td4, ← Int.natCast_add, tm_lit, hm]
        refine fin_run ?_ (hK _ ?_) <;> clear hK <;> clear K
        · simp only [In64]; omega
        refine qd (qa ?_)
        refine hk_region fun K hK => runs_eval tab_ok ?_
        simp only [ev0, evA, evB, evP, fl, gp, tab, simprocAttr, reduceCtorEq, reduceIte]
        refine fin_run ?_ (hK _ ?_) <;> clear hK <;> clear K
        · (first | exact trivial | omega | (simp only [In64] at *; omega) | (simp [In64] at *; omega) | (simp_all; done) | skip)
        refine qa ?_
        refine ⟨b + 1, [0, 1, 3], by omega, by omega, ?_⟩
        rw [tbr_succ (fun a b => (dih 4 a b : Nat)) hbl]
        simp only [hd]
        simp only [leq, leA, ev0, evA, evB, evP, fl, gp, tab, simprocAttr, reduceCtorEq, reduceIte] <;> first | trivial | omega
    · (try simp only [nhs] at hC2)
      have hbn : b = 8 := by omega
      refine qj (qc (qc (qf (qd (qa ?_)))))
      refine hk_region fun K hK => runs_eval tab_ok ?_
      simp only [ev0, evA, evB, evP, fl, gp, tab, simprocAttr, reduceCtorEq, reduceIte]
      refine fin_run ?_ (hK _ ?_) <;> clear hK <;> clear K
      · (first | exact trivial | omega | (simp only [In64] at *; omega) | (simp [In64] at *; omega) | (simp_all; done) | skip)
      refine qa ?_
      refine ⟨a + 1, [0, 1, 2], by omega, by omega, ?_⟩
      rw [hbn, show (a + 1) * 8 = a * 8 + 8 by rw [Nat.add_mul, Nat.one_mul]]
      simp only [leq, leA, ev0, evA, evB, evP, fl, gp, tab, simprocAttr, reduceCtorEq, reduceIte] <;> first | trivial | omega
  · (try simp only [nhs] at hC1)
    have han : a = 8 := by omega
    refine qj (qc (qc (qf (qa (qm ?_)))))
    refine hk_region fun K hK => runs_eval tab_ok ?_
    simp only [ev0, evA, evB, evP, fl, gp, tab, simprocAttr, reduceCtorEq, reduceIte]
    refine fin_run ?_ (hK _ ?_) <;> clear hK <;> clear K
    · (first | exact trivial | omega | (simp only [In64] at *; omega) | (simp [In64] at *; omega) | (simp_all; done) | skip)
    refine qa (qk ?_)
    simp only [Tryd.results88, enA, ev0, evA, evB, evP, fl, gp, tab, simprocAttr, reduceCtorEq, reduceIte]
    all_goals (simp [han, sq8, tbl])

end Go.Proofs.YtboadfahlflmhaaDoor

/-
  Sets of things: conjugated things, commutators, what they make. Conditions: none.
-/
set_option linter.all false
namespace Go.Proofs.YtboadfahlflmhaaDoor
open Go.Pv

theorem conj_s {n e : Nat} {m : List Int} (h : GT n m n e) {x a : Nat} (hx : x < n) (ha : a < n) : FnC Tryd.prog 84 [gp n m, .int .i64 x, .int .i64 a] (.int .i64 (cjr n (op m n) e x a : Nat)) := by
  have G := h.2.2
  have ia := G.iv_lt ha
  refine fnc_of tab_ok Tryd.func84 rfl (by kernel_rfl) (by rw [Tryd.ntmps84]; exact Nat.le_add_left 3 _) ?_; rw [Tryd.ntmps84]
  refine qm ?_
  refine hk_region fun K hK => runs_eval tab_ok ?_
  simp only [ev0, evA, evB, evP, fl, gp, tab, simprocAttr, reduceCtorEq, reduceIte]
  refine fin_run ?_ (hK _ ?_) <;> clear hK <;> clear K
  · (first | exact trivial | omega | (simp only [In64] at *; omega) | (simp [In64] at *; omega) | (simp_all; done) | skip)
  refine qa (qm ?_)
  refine hk_draw mixed (by kernel_rfl) fun K hK => runs_eval tab_ok ?_
  simp only [ev0, evA, evB, evP, fl, gp, tab, simprocAttr, reduceCtorEq, reduceIte]
  refine fin_stop trivial (runs_call (invOf_c h ha) rfl rfl rfl (by simp only [dstOk, Nat.reduceLT]) (by repeat (first | exact trivial | constructor)) (runs_eval tab_ok ?_))
  simp only [ev0, evA, evB, evP, fl, gp, tab, simprocAttr, reduceCtorEq, reduceIte]
  refine fin_stop trivial (runs_call (of_c h.2.1 ia hx) rfl rfl rfl (by simp only [dstOk, Nat.reduceLT]) (by repeat (first | exact trivial | constructor)) (runs_eval tab_ok ?_))
  simp only [ev0, evA, evB, evP, fl, gp, tab, simprocAttr, reduceCtorEq, reduceIte]
  refine fin_stop trivial (runs_call (of_c h.2.1 (G.cl _ _ ia hx) ha) rfl rfl rfl (by simp only [dstOk, Nat.reduceLT]) (by repeat (first | exact trivial | constructor)) (runs_eval tab_ok ?_))
  simp only [ev0, evA, evB, evP, fl, gp, tab, simprocAttr, reduceCtorEq, reduceIte]
  refine fin_run ?_ (hK _ ?_) <;> clear hK <;> clear K
  · (first | exact trivial | omega | (simp only [In64] at *; omega) | (simp [In64] at *; omega) | (simp_all; done) | skip)
  refine qa (qk ?_)
  simp only [Tryd.results84, enA, ev0, evA, evB, evP, fl, gp, tab, simprocAttr, reduceCtorEq, reduceIte]
  all_goals (rfl)
/-! ### Commutators of two lists -/

/-! ### Small words -/

end Go.Proofs.YtboadfahlflmhaaDoor

/-
  Subgroups, conjugated: Moved, Normaliser, Normal, Core, Closure, and what the document has. Conditions: none.
-/
set_option linter.all false
namespace Go.Proofs.YtboadfahlflmhaaDoor
open Go.Pv

/-! ### A set, conjugated -/

/-! ### As the document has them -/

end Go.Proofs.YtboadfahlflmhaaDoor

/-
  How many bits are set: by sums of neighbours. Conditions: none.
-/
set_option linter.all false
namespace Go.Proofs.YtboadfahlflmhaaDoor
open Go.Pv

def p1 (M x : Nat) : Nat := (x / 2 &&& M) + (x &&& M)
def p2 (M x : Nat) : Nat := (x / 4 &&& M) + (x &&& M)
theorem dv {a B q : Nat} (h : a < B) : (a + B * q) / B = q := by
  rw [Nat.add_mul_div_left _ _ (Nat.lt_of_le_of_lt (Nat.zero_le _) h), Nat.div_eq_of_lt h, Nat.zero_add]
theorem l3 {E0 E1 E2 E3 : Nat} (h0 : E0 ≤ 5000) (h1 : E1 ≤ 5000) (h2 : E2 ≤ 5000) (h3 : E3 ≤ 5000) :
    let y4 := E0 + 65536 * (E1 + 65536 * (E2 + 65536 * E3))
    let y5 := y4 + y4 / 65536
    (y5 + y5 / 4294967296) % 128 = (E0 + E1 + E2 + E3) % 128 := by
  intro y4 y5
  have a1 : y4 / 65536 = E1 + 65536 * (E2 + 65536 * E3) := dv (by omega)
  have a2 : y5 = ((E0 + E1) + 65536 * (E1 + E2)) + 4294967296 * ((E2 + E3) + 65536 * E3) := by
    show y4 + y4 / 65536 = _
    rw [a1]; show E0 + 65536 * (E1 + 65536 * (E2 + 65536 * E3)) + _ = _
    omega
  have a3 : y5 / 4294967296 = (E2 + E3) + 65536 * E3 := by rw [a2]; exact dv (by omega)
  rw [a3, a2]
  omega
theorem l1 {d0 d1 d2 d3 d4 d5 d6 d7 : Nat} : d0 + 256 * (d1 + 256 * (d2 + 256 * (d3 + 256 * (d4 + 256 * (d5 + 256 * (d6 + 256 * d7)))))) + (d1 + 256 * (d2 + 256 * (d3 + 256 * (d4 + 256 * (d5 + 256 * (d6 + 256 * d7)))))) =
    (d0 + d1 + 256 * (d1 + d2)) + 65536 * ((d2 + d3 + 256 * (d3 + d4)) + 65536 * ((d4 + d5 + 256 * (d5 + d6)) + 65536 * (d6 + d7 + 256 * d7))) := by
  omega

end Go.Proofs.YtboadfahlflmhaaDoor
