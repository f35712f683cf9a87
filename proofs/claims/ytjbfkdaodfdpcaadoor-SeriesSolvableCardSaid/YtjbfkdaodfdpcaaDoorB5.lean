/-
  Texts of this proof, one behind the other: what each says stands at its head. Conditions: none.
-/
import Derived.Test.YtjbfkdaodfdpcaaDoorB4
import Derived.Test.YtjbfkdaodfdpcaaDoorB3

/-
  Classes: by what is alike; of conjugate things. Conditions: none.
-/
set_option linter.all false
namespace Go.Proofs.YtjbfkdaodfdpcaaDoor
open Go.Pv

/-- The classes whose least things are below a. -/
def cstp (n : Nat) (r : Nat → Nat → Bool) (a : Nat) : List (List Int) := ((List.range a).filter (lead r)).map fun x => thl n (r x)
def cst (n : Nat) (r : Nat → Nat → Bool) : List (List Int) := cstp n r n
theorem cstp_succ (n : Nat) (r : Nat → Nat → Bool) (a : Nat) : cstp n r (a + 1) = cstp n r a ++ if lead r a = true then [thl n (r a)] else [] := by
  unfold cstp
  rw [List.range_succ, List.filter_append, List.map_append]
  congr 1
  cases h : lead r a <;> simp [h]
theorem cstp_len (n : Nat) (r : Nat → Nat → Bool) (a : Nat) : (cstp n r a).length ≤ a := by
  unfold cstp
  rw [List.length_map]
  have := List.length_filter_le (lead r) (List.range a)
  rwa [List.length_range] at this
/-- The class at a place: its least thing. -/
theorem cst_get {n : Nat} {r : Nat → Nat → Bool} {i : Nat} (hi : i < (cst n r).length) : ∃ x, x < n ∧ lead r x = true ∧ (cst n r).getD i [] = thl n (r x) ∧ (mem n (lead r)).getD i 0 = x := by
  unfold cst cstp at hi ⊢
  rw [List.length_map] at hi
  have hm := List.getElem_mem hi
  obtain ⟨h1, h2⟩ := List.mem_filter.1 hm
  refine ⟨_, List.mem_range.1 h1, h2, ?_, ?_⟩
  · simp [List.getD, List.getElem?_eq_getElem hi]
  · unfold mem
    simp [List.getD, List.getElem?_eq_getElem hi]
/-- The first of a list of things. -/
theorem thl_head {n : Nat} {p : Nat → Bool} {a : Nat} (ha : a < n) (h1 : p a = true) (h2 : ∀ b, b < a → p b = false) : 0 < (thl n p).length ∧ (thl n p).getD 0 0 = (a : Int) := by
  have : thl n p = (a : Int) :: (thn' n fun i => p i && !decide (i = a)).map (fun (a : Nat) => (a : Int)) := by
    unfold thl
    rw [thn_first ha h1 h2]; rfl
  rw [this]
  exact ⟨by simp, rfl⟩
theorem head_thl {n : Nat} {p : Nat → Bool} {a : Nat} (ha : a < n) (h0 : 0 < (thl n p).length) (h : (thl n p).getD 0 0 = (a : Int)) : p a = true ∧ ∀ b, b < a → p b = false := by
  obtain ⟨x, x1, x2, x3⟩ := thl_get h0
  have : x = a := by omega
  subst this
  refine ⟨x2, fun b hb => ?_⟩
  cases hpb : p b with
  | false => rfl
  | true =>
    exfalso
    obtain ⟨i, i1, i2⟩ := thl_at (n := n) (p := p) (show b < n by omega) hpb
    rcases Nat.eq_zero_or_pos i with h' | h'
    · subst h'; omega
    · have := thl_get_asc (n := n) (p := p) h' i1
      omega
theorem lead_head {n : Nat} {r : Nat → Nat → Bool} {a : Nat} (ha : a < n) : lead r a = true ↔ 0 < (thl n (r a)).length ∧ (thl n (r a)).getD 0 0 = (a : Int) := by
  rw [lead_iff]
  exact ⟨fun h => thl_head ha h.1 h.2, fun h => head_thl ha h.1 h.2⟩



theorem thl_one {n x : Nat} (hx : x < n) : thl n (fun y => decide (y = x)) = [(x : Int)] := by
  refine asc_ext (thl_asc _ _) (by simp) fun z => ?_
  rw [mem_thl, List.mem_singleton]
  constructor
  · rintro ⟨a, _, h2, rfl⟩
    rw [decide_eq_true_eq] at h2
    rw [h2]
  · rintro rfl
    exact ⟨x, hx, by simp, rfl⟩
/-! ### Rows of rows, compared -/

/-- Rows of rows, typed. -/
def lln (ls : List (List Int)) : List PV := ls.map fun w => .nn (il w)
/-! ### Classes of conjugate things -/

theorem bo_or (n : Nat) (p q : Nat → Bool) : bo n p ||| bo n q = bo n fun a => p a || q a := by
  refine Nat.eq_of_testBit_eq fun i => ?_
  rw [Nat.testBit_or, bo_bit, bo_bit, bo_bit]
  cases decide (i < n) <;> simp
/-- What is in a class of an earlier thing. -/
def hadp (r : Nat → Nat → Bool) (x y : Nat) : Bool := decide (∃ z, z < x ∧ r z y = true)
/-- What is x, conjugated by an earlier thing. -/
def sp (n : Nat) (f : Nat → Nat → Nat) (e x a y : Nat) : Bool := decide (∃ b, b < a ∧ cjr n f e x b = y)
theorem bo_zero (n : Nat) : bo n (fun _ => false) = 0 := by
  refine Nat.eq_of_testBit_eq fun i => ?_
  rw [bo_bit]; simp

theorem sq8_e : GT (8 : Nat) sq8 8 0 := by
  obtain ⟨e, h⟩ := sq8_gt
  have h1 := h.eI
  have h2 : eI sq8 8 = 0 := by decide +kernel
  have : e = 0 := by omega
  subst this
  exact h

end Go.Proofs.YtjbfkdaodfdpcaaDoor

/-
  Cosets: right, left and double; how many, how great. Conditions: none.
-/
set_option linter.all false
namespace Go.Proofs.YtjbfkdaodfdpcaaDoor
open Go.Pv

/-- The one alone. -/
def onp (e x : Nat) : Bool := decide (x = e)
/-- Is b = x a y for some x of p, y of q? -/
def dco (n : Nat) (f : Nat → Nat → Nat) (p q : Nat → Bool) (a b : Nat) : Bool := decide (∃ x, x < n ∧ p x = true ∧ ∃ y, y < n ∧ q y = true ∧ f (f x a) y = b)

theorem mem_bij {n : Nat} {P Q : Nat → Bool} (g : Nat → Nat) (h1 : ∀ x, x < n → P x = true → g x < n ∧ Q (g x) = true) (hi : ∀ x y, x < n → y < n → P x = true → P y = true → g x = g y → x = y) (h2 : ∀ y, y < n → Q y = true → ∃ x, x < n ∧ P x = true ∧ g x = y) : (mem n P).length = (mem n Q).length := by
  rw [← List.length_map (f := g) («as» := mem n P)]
  refine same_len (nodup_map (List.nodup_range.filter _) fun x hx y hy he => hi x y (mem_mem.1 hx).1 (mem_mem.1 hy).1 (mem_mem.1 hx).2 (mem_mem.1 hy).2 he) (List.nodup_range.filter _) fun y => ?_
  rw [List.mem_map, mem_mem]
  constructor
  · rintro ⟨x, hx, rfl⟩
    exact h1 x (mem_mem.1 hx).1 (mem_mem.1 hx).2
  · rintro ⟨y1, y2⟩
    obtain ⟨x, x1, x2, x3⟩ := h2 y y1 y2
    exact ⟨x, mem_mem.2 ⟨x1, x2⟩, x3⟩
theorem mem_congr {n : Nat} {P Q : Nat → Bool} (h : ∀ a, a < n → P a = Q a) : mem n P = mem n Q := List.filter_congr fun a ha => h a (List.mem_range.1 ha)

section
variable {n : Nat} {f : Nat → Nat → Nat} {e : Nat} {p q : Nat → Bool}
theorem dco_iff {a b : Nat} : dco n f p q a b = true ↔ ∃ x y, x < n ∧ y < n ∧ p x = true ∧ q y = true ∧ f (f x a) y = b := by
  unfold dco; rw [decide_eq_true_iff]
  exact ⟨fun ⟨x, h1, h2, y, h3, h4, h5⟩ => ⟨x, y, h1, h3, h2, h4, h5⟩, fun ⟨x, y, h1, h3, h2, h4, h5⟩ => ⟨x, h1, h2, y, h3, h4, h5⟩⟩
theorem onp_iff {x : Nat} : onp e x = true ↔ x = e := by unfold onp; exact decide_eq_true_iff
theorem Grp.onp_sub (G : Grp n f e) : Sub n f e (onp e) :=
  sub_of G (onp_iff.2 rfl) fun a b ha hb h1 h2 => by
    rw [onp_iff] at *; subst h1; subst h2; exact G.one_l _ ha

theorem Grp.dco_eqv (G : Grp n f e) (hp : Sub n f e p) (hq : Sub n f e q) : Eqv n (dco n f p q) where
  refl a ha := dco_iff.2 ⟨e, e, G.el, G.el, hp.one, hq.one, by rw [G.one_l a ha, G.one_r a ha]⟩
  symm a b ha hb h := by
    obtain ⟨x, y, x1, y1, x2, y2, rfl⟩ := dco_iff.1 h
    have ix := G.iv_lt x1
    have iy := G.iv_lt y1
    have hxa := G.cl _ _ x1 ha
    refine dco_iff.2 ⟨iv n f e x, iv n f e y, ix, iy, hp.inv x x1 x2, hq.inv y y1 y2, ?_⟩
    rw [← G.assoc _ _ y ix hxa y1, ← G.assoc _ x a ix x1 ha, G.iv_mul x1, G.one_l a ha, G.assoc a y _ ha y1 iy, G.mul_iv y1, G.one_r a ha]
  trans a b c ha hb hc h1 h2 := by
    obtain ⟨x, y, x1, y1, x2, y2, rfl⟩ := dco_iff.1 h1
    obtain ⟨u, v, u1, v1, u2, v2, rfl⟩ := dco_iff.1 h2
    have hxa := G.cl _ _ x1 ha
    refine dco_iff.2 ⟨f u x, f y v, G.cl _ _ u1 x1, G.cl _ _ y1 v1, hp.mul _ _ u1 x1 u2 x2, hq.mul _ _ y1 v1 y2 v2, ?_⟩
    rw [G.assoc u x a u1 x1 ha, ← G.assoc _ y v (G.cl _ _ u1 hxa) y1 v1, G.assoc u (f x a) y u1 hxa y1]
/-- Right and left ones. -/
theorem Grp.rco_iff (G : Grp n f e) {a b : Nat} (ha : a < n) (hb : b < n) : dco n f p (onp e) a b = p (f b (iv n f e a)) := by
  rw [Bool.eq_iff_iff, dco_iff]
  constructor
  · rintro ⟨x, y, x1, y1, x2, y2, rfl⟩
    rw [onp_iff.1 y2, G.one_r _ (G.cl _ _ x1 ha), G.assoc x a _ x1 ha (G.iv_lt ha), G.mul_iv ha, G.one_r x x1]; exact x2
  · intro h
    refine ⟨f b (iv n f e a), e, G.cl _ _ hb (G.iv_lt ha), G.el, h, onp_iff.2 rfl, ?_⟩
    rw [G.assoc b _ a hb (G.iv_lt ha) ha, G.iv_mul ha, G.one_r b hb, G.one_r b hb]
/-- As many things in each. -/
theorem Grp.rco_len (G : Grp n f e) {a : Nat} (ha : a < n) : (mem n (dco n f p (onp e) a)).length = (mem n p).length := by
  refine (mem_bij (fun x => f x a) (fun x hx h => ⟨G.cl _ _ hx ha, dco_iff.2 ⟨x, e, hx, G.el, h, onp_iff.2 rfl, G.one_r _ (G.cl _ _ hx ha)⟩⟩) (fun x y hx hy _ _ h => G.cancel_r ha hx hy h) fun y hy h => ?_).symm
  obtain ⟨x, z, x1, z1, x2, z2, rfl⟩ := dco_iff.1 h
  exact ⟨x, x1, x2, by rw [onp_iff.1 z2, G.one_r _ (G.cl _ _ x1 ha)]⟩
theorem sum_same {α : Type} {g : α → Nat} {k : Nat} : ∀ {l : List α}, (∀ x ∈ l, g x = k) → (l.map g).sum = l.length * k
  | [], _ => by simp
  | a :: l, h => by
    rw [List.map_cons, List.sum_cons, sum_same (l := l) fun x hx => h x (by simp [hx]), h a (by simp), List.length_cons, Nat.add_mul, Nat.one_mul, Nat.add_comm]
theorem Grp.rco_num (G : Grp n f e) (hp : Sub n f e p) : (mem n (lead (dco n f p (onp e)))).length * (mem n p).length = n := by
  have h := (G.dco_eqv hp G.onp_sub).sum
  rwa [sum_same fun x hx => G.rco_len (mem_mem.1 hx).1] at h
theorem Sub.pos (hp : Sub n f e p) (he : e < n) : 0 < (mem n p).length := List.length_pos_of_mem (mem_mem.2 ⟨he, hp.one⟩)
/-- A subgroup, conjugated. -/
theorem Grp.shf_sub (G : Grp n f e) (hp : Sub n f e p) {a : Nat} (ha : a < n) : Sub n f e (shf n f e p a) :=
  sub_of G (shf_iff.2 ⟨e, G.el, hp.one, G.cjr_one ha⟩) fun x y hx hy h1 h2 => by
    obtain ⟨u, u1, u2, rfl⟩ := shf_iff.1 h1
    obtain ⟨v, v1, v2, rfl⟩ := shf_iff.1 h2
    exact shf_iff.2 ⟨f u v, G.cl _ _ u1 v1, hp.mul _ _ u1 v1 u2 v2, G.cjr_hom u1 v1 ha⟩
theorem Grp.shf_len (G : Grp n f e) {a : Nat} (ha : a < n) : (mem n (shf n f e p a)).length = (mem n p).length := by
  refine (mem_bij (fun x => cjr n f e x a) (fun x hx h => ⟨G.cjr_lt hx ha, shf_iff.2 ⟨x, hx, h, rfl⟩⟩) (fun x y hx hy _ _ h => ?_) fun y hy h => ?_).symm
  · have := congrArg (fun z => cjr n f e z (iv n f e a)) h
    simp only [G.cjr_iv hx ha, G.cjr_iv hy ha] at this
    exact this
  · obtain ⟨x, x1, x2, x3⟩ := shf_iff.1 h
    exact ⟨x, x1, x2, x3⟩
/-- FROBENIUS: how many things a double coset has. -/
theorem Grp.dco_count (G : Grp n f e) (hp : Sub n f e p) (hq : Sub n f e q) {a : Nat} (ha : a < n) : (mem n (dco n f p q a)).length * (mem n fun x => shf n f e p a x && q x).length = (mem n p).length * (mem n q).length := by
  have h := G.prod_count (G.shf_sub hp ha) hq
  rw [G.shf_len ha] at h
  rw [← h]
  congr 1
  have ia := G.iv_lt ha
  refine mem_bij (fun x => f (iv n f e a) x) (fun x hx h => ⟨G.cl _ _ ia hx, ?_⟩) (fun x y hx hy _ _ h => G.cancel_l ia hx hy h) fun y hy h => ?_
  · obtain ⟨u, v, u1, v1, u2, v2, rfl⟩ := dco_iff.1 h
    have hua := G.cl _ _ u1 ha
    have hc := G.cjr_lt u1 ha
    refine pr2_iff.2 ⟨cjr n f e u a, hc, shf_iff.2 ⟨u, u1, u2, rfl⟩, ?_⟩
    have : f (iv n f e a) (f (f u a) v) = f (cjr n f e u a) v := by
      unfold cjr
      rw [← G.assoc _ (f u a) v ia hua v1, ← G.assoc _ u a ia u1 ha]
    rw [this, ← G.assoc _ _ v (G.iv_lt hc) hc v1, G.iv_mul hc, G.one_l v v1]; exact v2
  · obtain ⟨i, i1, i2, i3⟩ := pr2_iff.1 h
    obtain ⟨u, u1, u2, rfl⟩ := shf_iff.1 i2
    refine ⟨f a y, G.cl _ _ ha hy, dco_iff.2 ⟨u, _, u1, G.cl _ _ (G.iv_lt i1) hy, u2, i3, ?_⟩, ?_⟩
    · have hua := G.cl _ _ u1 ha
      have : f u a = f a (cjr n f e u a) := by
        unfold cjr
        rw [← G.assoc a _ a ha (G.cl _ _ ia u1) ha, ← G.assoc a _ u ha ia u1, G.mul_iv ha, G.one_l u u1]
      rw [this, G.assoc a _ _ ha i1 (G.cl _ _ (G.iv_lt i1) hy), ← G.assoc _ _ y i1 (G.iv_lt i1) hy, G.mul_iv i1, G.one_l y hy]
    · show f (iv n f e a) (f a y) = y
      rw [← G.assoc _ a y ia ha hy, G.iv_mul ha, G.one_l y hy]

/-! ### Towers -/

/-- Classes in a set that has whole classes. -/
theorem Eqv.part {r : Nat → Nat → Bool} (h : Eqv n r) {K : Nat → Bool} (hK : ∀ x y, x < n → y < n → r x y = true → K x = true → K y = true) : ((mem n fun x => lead r x && K x).map fun x => (mem n (r x)).length).sum = (mem n K).length := by
  have h1 := sum_filter (fun x y => r x y) (mem n fun x => lead r x && K x) (List.range n)
  have h2 : ∀ y, y ∈ List.range n → ((mem n fun x => lead r x && K x).filter fun x => r x y).length = if K y = true then 1 else 0 := fun y hy => by
    have y1 := List.mem_range.1 hy
    by_cases hk : K y = true
    · rw [if_pos hk, ← h.one y1]
      congr 1
      unfold mem
      rw [List.filter_filter, List.filter_filter]
      refine List.filter_congr fun x hx => ?_
      have x1 := List.mem_range.1 hx
      cases hr : r x y with
      | false => simp
      | true => rw [hK y x y1 x1 (h.symm x y x1 y1 hr) hk]; simp
    · rw [if_neg hk, List.length_eq_zero_iff, List.filter_eq_nil_iff]
      intro x hx hr
      obtain ⟨x1, x2⟩ := mem_mem.1 hx
      rw [Bool.and_eq_true] at x2
      exact hk (hK x y x1 y1 hr x2.2)
  have h3 : ((List.range n).map fun y => ((mem n fun x => lead r x && K x).filter fun x => r x y).length).sum = (mem n K).length := by
    rw [List.map_congr_left h2]
    unfold mem
    generalize List.range n = L
    induction L with
    | nil => rfl
    | cons a L ih => rw [List.map_cons, List.sum_cons, ih, List.filter_cons]; by_cases hk : K a = true <;> simp [hk, Nat.add_comm]
  exact h1.trans h3
/-! ### Sides -/

end
end Go.Proofs.YtjbfkdaodfdpcaaDoor

/-
  Series of subgroups: commutators of commutators, from all on; what commutes up to the last one, from the one on. Conditions: none.
-/
set_option linter.all false
namespace Go.Proofs.YtjbfkdaodfdpcaaDoor
open Go.Pv

/-- Commutators of two sets. -/
def dnp (n : Nat) (f : Nat → Nat → Nat) (e : Nat) (p q : Nat → Bool) (x : Nat) : Bool := decide (∃ a, a < n ∧ p a = true ∧ ∃ b, b < n ∧ q b = true ∧ cmt n f e a b = x)
/-- What commutes with all, up to a set. -/
def unx (n : Nat) (f : Nat → Nat → Nat) (e : Nat) (p : Nat → Bool) (a : Nat) : Bool := decide (∀ b, b < n → p (cmt n f e a b) = true)
def itr (nx : (Nat → Bool) → Nat → Bool) (p : Nat → Bool) : Nat → Nat → Bool
  | 0 => p
  | k + 1 => nx (itr nx p k)
/-- A series comes to its end at K. -/
structure Stp (n : Nat) (T : Nat → Nat → Bool) (K : Nat) : Prop where
  eq : ∀ a, a < n → T (K + 1) a = T K a
  ne : ∀ j, j < K → ¬ ∀ a, a < n → T (j + 1) a = T j a

theorem mem_lt {n : Nat} {p q : Nat → Bool} (h : ∀ a, a < n → q a = true → p a = true) (hne : ¬ ∀ a, a < n → q a = p a) : (mem n q).length < (mem n p).length := by
  have h1 : mem n q = (mem n p).filter q := by
    unfold mem
    rw [List.filter_filter]
    refine List.filter_congr fun a ha => ?_
    have := h a (List.mem_range.1 ha)
    cases hq : q a with
    | false => simp
    | true => simp [this hq]
  have h2 : (mem n q).Sublist (mem n p) := by rw [h1]; exact List.filter_sublist
  rcases Nat.lt_or_eq_of_le h2.length_le with h3 | h3
  · exact h3
  · exfalso
    have h4 := h2.eq_of_length h3
    refine hne fun a ha => ?_
    rw [Bool.eq_iff_iff]
    have : a ∈ mem n q ↔ a ∈ mem n p := by rw [h4]
    rw [mem_mem, mem_mem] at this
    exact ⟨fun h => (this.1 ⟨ha, h⟩).2, fun h => (this.2 ⟨ha, h⟩).2⟩

theorem stop_ex {n : Nat} {T : Nat → Nat → Bool} (c : Nat → Nat) (hc : ∀ k, (¬ ∀ a, a < n → T (k + 1) a = T k a) → c (k + 1) < c k) : ∃ K, K ≤ c 0 ∧ Stp n T K := by
  cases hf : fst' (fun k => decide (∀ a, a < n → T (k + 1) a = T k a)) (c 0 + 1) with
  | some K =>
    obtain ⟨h1, h2, h3⟩ := fst_spec hf
    exact ⟨K, by omega, ⟨of_decide_eq_true h2, fun j hj => of_decide_eq_false (h3 j hj)⟩⟩
  | none =>
    exfalso
    have h := fst_spec0 hf
    have key : ∀ k, k ≤ c 0 + 1 → c k + k ≤ c 0 := by
      intro k
      induction k with
      | zero => intro _; omega
      | succ k ih =>
        intro hk
        have h1 := hc k (of_decide_eq_false (h k (by omega)))
        have h2 := ih (by omega)
        omega
    have := key (c 0 + 1) (by omega)
    omega

theorem Stp.after {n : Nat} {nx : (Nat → Bool) → Nat → Bool} {p : Nat → Bool} {K : Nat} (hx : ∀ p q : Nat → Bool, (∀ a, a < n → p a = q a) → ∀ a, a < n → nx p a = nx q a) (h : Stp n (itr nx p) K) : ∀ j a, a < n → itr nx p (K + j) a = itr nx p K a
  | 0, a, ha => rfl
  | j + 1, a, ha => by
    have h1 := hx _ _ (fun b hb => Stp.after hx h j b hb) a ha
    exact h1.trans (h.eq a ha)

section
variable {n : Nat} {f : Nat → Nat → Nat} {e : Nat}
theorem dnp_iff {p q : Nat → Bool} {x : Nat} : dnp n f e p q x = true ↔ ∃ a b, a < n ∧ b < n ∧ p a = true ∧ q b = true ∧ cmt n f e a b = x := by
  unfold dnp; rw [decide_eq_true_iff]
  exact ⟨fun ⟨a, h1, h2, b, h3, h4, h5⟩ => ⟨a, b, h1, h3, h2, h4, h5⟩, fun ⟨a, b, h1, h3, h2, h4, h5⟩ => ⟨a, h1, h2, b, h3, h4, h5⟩⟩
theorem unx_iff {p : Nat → Bool} {a : Nat} : unx n f e p a = true ↔ ∀ b, b < n → p (cmt n f e a b) = true := by unfold unx; exact decide_eq_true_iff
theorem nx_ex (n : Nat) (f : Nat → Nat → Nat) (e : Nat) (P : (Nat → Bool) → Nat → Bool) : ∃ nx : (Nat → Bool) → Nat → Bool, ∀ p a, a < n → (nx p a = true ↔ Gen n f e (P p) a) :=
  ⟨fun p => Classical.choose (gen_ex n f e (P p)), fun p => Classical.choose_spec (gen_ex n f e (P p))⟩
theorem Gen.congr {p q : Nat → Bool} (h : ∀ a, a < n → p a = q a) {a : Nat} : Gen n f e p a ↔ Gen n f e q a :=
  ⟨Gen.mono fun b hb h1 => by rw [← h b hb]; exact h1, Gen.mono fun b hb h1 => by rw [h b hb]; exact h1⟩
theorem nx_congr {P : (Nat → Bool) → Nat → Bool} {nx : (Nat → Bool) → Nat → Bool} (hnx : ∀ p a, a < n → (nx p a = true ↔ Gen n f e (P p) a)) (hP : ∀ p q : Nat → Bool, (∀ a, a < n → p a = q a) → ∀ a, a < n → P p a = P q a) : ∀ p q : Nat → Bool, (∀ a, a < n → p a = q a) → ∀ a, a < n → nx p a = nx q a := fun p q h a ha => by
  rw [Bool.eq_iff_iff, hnx p a ha, hnx q a ha]
  exact Gen.congr (hP p q h)
theorem Grp.all_sub (G : Grp n f e) : Sub n f e fun _ => true := sub_of G rfl fun _ _ _ _ _ _ => rfl
theorem Grp.one_nml (G : Grp n f e) : Nml n f e (onp e) := fun a ha x hx h => by
  rw [onp_iff] at *
  rw [h, G.cjr_one ha]
theorem Grp.dnp_nml (G : Grp n f e) {p q : Nat → Bool} (hp : Nml n f e p) (hq : Nml n f e q) : Nml n f e (dnp n f e p q) := fun c hc x hx h => by
  obtain ⟨a, b, a1, b1, a2, b2, rfl⟩ := dnp_iff.1 h
  rw [G.cjr_cmt a1 b1 hc]
  exact dnp_iff.2 ⟨_, _, G.cjr_lt a1 hc, G.cjr_lt b1 hc, hp c hc a a1 a2, hq c hc b b1 b2, rfl⟩
theorem Grp.cmt_in (G : Grp n f e) {p : Nat → Bool} (hs : Sub n f e p) (hn : Nml n f e p) {x b : Nat} (hx : x < n) (hb : b < n) (h : p x = true) : p (cmt n f e x b) = true := by
  rw [G.cmt_cjr hx hb]
  exact hs.mul _ _ (G.iv_lt hx) (G.cjr_lt hx hb) (hs.inv x hx h) (hn b hb x hx h)

/-! ### Falling -/

section
variable {nx : (Nat → Bool) → Nat → Bool}
theorem Grp.fall (G : Grp n f e) {P : (Nat → Bool) → Nat → Bool} (hnx : ∀ p a, a < n → (nx p a = true ↔ Gen n f e (P p) a)) (hP : ∀ p, Nml n f e p → Nml n f e (P p)) : ∀ k, Sub n f e (itr nx (fun _ => true) k) ∧ Nml n f e (itr nx (fun _ => true) k)
  | 0 => ⟨G.all_sub, fun _ _ _ _ _ => rfl⟩
  | k + 1 => ⟨gen_sub G (hnx _), G.gen_nml (hP _ (G.fall hnx hP k).2) (hnx _)⟩
theorem Grp.fall_le (G : Grp n f e) {P : (Nat → Bool) → Nat → Bool} (hnx : ∀ p a, a < n → (nx p a = true ↔ Gen n f e (P p) a)) (hP : ∀ p, Nml n f e p → Nml n f e (P p)) (hle : ∀ p, Sub n f e p → Nml n f e p → ∀ x, x < n → P p x = true → p x = true) (k : Nat) {a : Nat} (ha : a < n) (h : itr nx (fun _ => true) (k + 1) a = true) : itr nx (fun _ => true) k a = true := by
  obtain ⟨h1, h2⟩ := G.fall hnx hP k
  exact ((hnx _ a ha).1 h).sub G h1 fun b hb hc => hle _ h1 h2 b hb hc
theorem Grp.fall_stop (G : Grp n f e) {P : (Nat → Bool) → Nat → Bool} (hnx : ∀ p a, a < n → (nx p a = true ↔ Gen n f e (P p) a)) (hP : ∀ p, Nml n f e p → Nml n f e (P p)) (hle : ∀ p, Sub n f e p → Nml n f e p → ∀ x, x < n → P p x = true → p x = true) : ∃ K, K ≤ n ∧ Stp n (itr nx fun _ => true) K := by
  obtain ⟨K, h1, h2⟩ := stop_ex (n := n) (T := itr nx fun _ => true) (fun k => (mem n (itr nx (fun _ => true) k)).length) fun k hk => mem_lt (fun a ha h => G.fall_le hnx hP hle k ha h) hk
  refine ⟨K, Nat.le_trans h1 ?_, h2⟩
  exact Nat.le_trans (List.length_filter_le _ _) (Nat.le_of_eq List.length_range)
end
theorem Grp.dd_nml (G : Grp n f e) (p : Nat → Bool) (hp : Nml n f e p) : Nml n f e (dnp n f e p p) := G.dnp_nml hp hp
theorem Grp.dd_le (G : Grp n f e) (p : Nat → Bool) (hs : Sub n f e p) (hp : Nml n f e p) (x : Nat) (hx : x < n) (h : dnp n f e p p x = true) : p x = true := by
  obtain ⟨a, b, a1, b1, a2, b2, rfl⟩ := dnp_iff.1 h
  exact G.cmt_in hs hp a1 b1 a2
theorem dd_congr (p q : Nat → Bool) (h : ∀ a, a < n → p a = q a) (x : Nat) (_ : x < n) : dnp n f e p p x = dnp n f e q q x := by
  rw [Bool.eq_iff_iff, dnp_iff, dnp_iff]
  exact ⟨fun ⟨a, b, a1, b1, a2, b2, h3⟩ => ⟨a, b, a1, b1, by rw [← h a a1]; exact a2, by rw [← h b b1]; exact b2, h3⟩, fun ⟨a, b, a1, b1, a2, b2, h3⟩ => ⟨a, b, a1, b1, by rw [h a a1]; exact a2, by rw [h b b1]; exact b2, h3⟩⟩
/-! ### Rising -/

theorem Grp.unx_in (G : Grp n f e) {p : Nat → Bool} (hs : Sub n f e p) (hn : Nml n f e p) {x : Nat} (hx : x < n) (h : p x = true) : unx n f e p x = true := unx_iff.2 fun b hb => G.cmt_in hs hn hx hb h
theorem Grp.unx_sub (G : Grp n f e) {p : Nat → Bool} (hs : Sub n f e p) (hn : Nml n f e p) : Sub n f e (unx n f e p) := by
  refine sub_of G (G.unx_in hs hn G.el hs.one) fun x y hx hy h1 h2 => unx_iff.2 fun b hb => ?_
  have ix := G.iv_lt hx
  have iy := G.iv_lt hy
  have hxb := G.cjr_lt hx hb
  have hyb := G.cjr_lt hy hb
  have hcx := G.cmt_lt hx hb
  have h3 := hs.mul _ _ (G.cjr_lt hcx hy) (G.cmt_lt hy hb) (hn y hy _ hcx (unx_iff.1 h1 b hb)) (unx_iff.1 h2 b hb)
  have : cmt n f e (f x y) b = f (cjr n f e (cmt n f e x b) y) (cmt n f e y b) := by
    have e1 : cjr n f e (cmt n f e x b) y = f (f (iv n f e y) (cmt n f e x b)) y := rfl
    rw [G.cmt_cjr (G.cl _ _ hx hy) hb, G.iv_prod hx hy, G.cjr_hom hx hy hb, e1, G.cmt_cjr hy hb, G.assoc (f (iv n f e y) (cmt n f e x b)) y _ (G.cl _ _ iy hcx) hy (G.cl _ _ iy hyb), ← G.assoc y (iv n f e y) _ hy iy hyb, G.mul_iv hy, G.one_l _ hyb, G.cmt_cjr hx hb, G.assoc (iv n f e y) (iv n f e x) _ iy ix (G.cl _ _ hxb hyb), ← G.assoc (iv n f e x) _ _ ix hxb hyb, ← G.assoc (iv n f e y) _ _ iy (G.cl _ _ ix hxb) hyb]
  rw [this]; exact h3
theorem Grp.unx_nml (G : Grp n f e) {p : Nat → Bool} (hn : Nml n f e p) : Nml n f e (unx n f e p) := fun c hc x hx h => unx_iff.2 fun b hb => by
  have ic := G.iv_lt hc
  have hbc := G.cjr_lt hb ic
  have h1 := hn c hc _ (G.cmt_lt hx hbc) (unx_iff.1 h _ hbc)
  rwa [G.cjr_cmt hx hbc hc, G.cjr_vi hb hc] at h1
theorem Grp.rise (G : Grp n f e) : ∀ k, Sub n f e (itr (unx n f e) (onp e) k) ∧ Nml n f e (itr (unx n f e) (onp e) k)
  | 0 => ⟨G.onp_sub, G.one_nml⟩
  | k + 1 => ⟨G.unx_sub (G.rise k).1 (G.rise k).2, G.unx_nml (G.rise k).2⟩
end
end Go.Proofs.YtjbfkdaodfdpcaaDoor

/-
  Series of subgroups, as the program has them. Conditions: none.
-/
set_option linter.all false
namespace Go.Proofs.YtjbfkdaodfdpcaaDoor
open Go.Pv

/-- A series, as lists, up to the one at K. -/
def cht (n : Nat) (T : Nat → Nat → Bool) (K : Nat) : List (List Int) := (List.range (K + 1)).map fun k => thl n (T k)
theorem cht_succ (n : Nat) (T : Nat → Nat → Bool) (k : Nat) : cht n T (k + 1) = cht n T k ++ [thl n (T (k + 1))] := by
  unfold cht
  rw [List.range_succ, List.map_append]; rfl
theorem cht_len (n : Nat) (T : Nat → Nat → Bool) (k : Nat) : (cht n T k).length = k + 1 := by simp [cht]
theorem cht_get {n : Nat} {T : Nat → Nat → Bool} {K i : Nat} (hi : i ≤ K) : (cht n T K).getD i [] = thl n (T i) := by
  unfold cht
  simp [List.getD, List.getElem?_map, List.getElem?_range (show i < K + 1 by omega)]
theorem tst_cml {n e : Nat} {f : Nat → Nat → Nat} (p q : Nat → Bool) : tst (cml n f e (thl n p) (thl n q)) = dnp n f e p q := by
  funext x
  rw [Bool.eq_iff_iff, dnp_iff]
  unfold tst
  rw [decide_eq_true_eq, mem_cml]
  constructor
  · rintro ⟨a, b, a1, b1, a2, b2, h⟩
    exact ⟨a, b, a1, b1, a2, b2, by omega⟩
  · rintro ⟨a, b, a1, b1, a2, b2, h⟩
    exact ⟨a, b, a1, b1, a2, b2, by omega⟩
theorem Stp.at {n : Nat} {T : Nat → Nat → Bool} {K k : Nat} (h : Stp n T K) (hk : k ≤ K) : bo n (T (k + 1)) = bo n (T k) ↔ k = K := by
  constructor
  · intro he
    rcases Nat.lt_or_eq_of_le hk with h1 | h1
    · exact absurd (fun a ha => bo_inj he ha) (h.ne k h1)
    · exact h1
  · rintro rfl
    exact bo_congr h.eq
theorem whole_bo (n : Nat) : 2 ^ n - 1 = bo n fun _ => true := by
  refine Nat.eq_of_testBit_eq fun i => ?_
  rw [bo_bit, Nat.testBit_two_pow_sub_one]; simp
theorem whole_s (n : Nat) (m : List Int) (hb : n ≤ 60) : FnC Tryd.prog 81 [gp n m] (.int .u64 (bo n fun _ => true)) := by
  have h1 : IntKind.u64.wrap (((2 ^ n : Nat) : Int) - 1) = ((bo n fun _ => true : Nat) : Int) := by
    rw [← whole_bo, wrap_u]
    have h2 := pow_lt64 (b := n) (by omega)
    have h3 : 0 < 2 ^ n := Nat.pow_pos (by omega)
    omega
  refine fnc_of tab_ok Tryd.func81 rfl (by kernel_rfl) (by rw [Tryd.ntmps81]; exact Nat.le_add_left 1 _) ?_; rw [Tryd.ntmps81]
  refine qm ?_
  refine hk_region fun K hK => runs_eval tab_ok ?_
  simp only [ev0, evA, evB, evP, fl, gp, tab, simprocAttr, reduceCtorEq, reduceIte]
  refine fin_run ?_ (hK _ ?_) <;> clear hK <;> clear K
  · (first | exact trivial | omega | (simp only [In64] at *; omega) | (simp [In64] at *; omega) | (simp_all; done) | skip)
  refine qa (qm ?_)
  refine hk_region fun K hK => runs_eval tab_ok ?_
  simp only [ev0, evA, evB, evP, fl, gp, tab, simprocAttr, reduceCtorEq, reduceIte, shl_one (show n < 64 by omega), h1]
  refine fin_run ?_ (hK _ ?_) <;> clear hK <;> clear K
  · (first | exact trivial | omega | (simp only [In64] at *; omega) | (simp [In64] at *; omega) | (simp_all; done) | skip)
  refine qa (qk ?_)
  simp only [Tryd.results81, enA, ev0, evA, evB, evP, fl, gp, tab, simprocAttr, reduceCtorEq, reduceIte]
  all_goals (rfl)

set_option maxHeartbeats 2000000 in
theorem down_ok {n e : Nat} {m : List Int} (h : GT n m n e) (F : FuncId) (caps : List PV) (T : Nat → Nat → Bool) (K : Nat) (hK : K ≤ n) (hS : Stp n T K) (h0 : T 0 = fun _ => true) (hF : ∀ k, FnC Tryd.prog F (.int .u64 (bo n (T k)) :: caps) (.int .u64 (bo n (T (k + 1))))) :
    FnC Tryd.prog 129 [gp n m, .fn F caps] (.tup [.list (ll (cht n T K)), fl (0, 0)]) := by
  have hb := h.2.1.big
  have hml := h.2.1.len
  have hsq := sq_le hb
  have hbt : ∀ p, bo n p < 2 ^ 64 := fun p => bo_lt64 hb p
  have h1 : ∀ k : Nat, ((k + 1) == 0) = false := fun k => rfl
  refine fnc_of tab_ok Tryd.func129 rfl (by kernel_rfl) (by rw [Tryd.ntmps129]; exact Nat.le_add_left 2 _) ?_; rw [Tryd.ntmps129]
  refine qm ?_
  refine hk_region fun K hK => runs_eval tab_ok ?_
  simp only [ev0, evA, evB, evP, fl, gp, tab, simprocAttr, reduceCtorEq, reduceIte]
  refine fin_run ?_ (hK _ ?_) <;> clear hK <;> clear K
  · (first | exact trivial | omega | (simp only [In64] at *; omega) | (simp [In64] at *; omega) | (simp_all; done) | skip)
  refine qa (qm (qm ?_))
  refine hk_region fun K hK => runs_eval tab_ok ?_
  simp only [ev0, evA, evB, evP, fl, gp, tab, simprocAttr, reduceCtorEq, reduceIte]
  refine fin_stop trivial (runs_call (check_c n m (by omega)) rfl rfl rfl (by simp only [dstOk, Nat.reduceLT]) (by repeat (first | exact trivial | constructor)) (runs_eval tab_ok ?_))
  simp only [ev0, evA, evB, evP, fl, gp, tab, simprocAttr, reduceCtorEq, reduceIte, gf_of h]
  refine fin_run ?_ (hK _ ?_) <;> clear hK <;> clear K
  · (first | exact trivial | omega | (simp only [In64] at *; omega) | (simp [In64] at *; omega) | (simp_all; done) | skip)
  refine qa (qm ?_)
  refine hk_region fun K hK => runs_eval tab_ok ?_
  simp only [ev0, evA, evB, evP, fl, gp, tab, simprocAttr, reduceCtorEq, reduceIte]
  refine fin_run ?_ (hK _ ?_) <;> clear hK <;> clear K
  · (first | exact trivial | omega | (simp only [In64] at *; omega) | (simp [In64] at *; omega) | (simp_all; done) | skip)
  refine qa ?_
  refine hk_cond rfl (fun hC1 => ?_) (fun hC1 => ?_)
  · cases hC1
  · (try simp only [nhs] at hC1)
    refine qh (qa (qm ?_))
    refine hk_region fun K hK => runs_eval tab_ok ?_
    simp only [ev0, evA, evB, evP, fl, gp, tab, simprocAttr, reduceCtorEq, reduceIte]
    refine fin_stop trivial (runs_call (whole_s n m hb) rfl rfl rfl (by simp only [dstOk, Nat.reduceLT]) (by repeat (first | exact trivial | constructor)) (runs_eval tab_ok ?_))
    simp only [ev0, evA, evB, evP, fl, gp, tab, simprocAttr, reduceCtorEq, reduceIte]
    refine fin_run ?_ (hK _ ?_) <;> clear hK <;> clear K
    · (first | exact trivial | omega | (simp only [In64] at *; omega) | (simp [In64] at *; omega) | (simp_all; done) | skip)
    refine qa (qm ?_)
    refine hk_region fun K hK => runs_eval tab_ok ?_
    simp only [ev0, evA, evB, evP, fl, gp, tab, simprocAttr, reduceCtorEq, reduceIte]
    refine fin_stop trivial (runs_call (list_s (bo n fun _ => true) (hbt _)) rfl rfl rfl (by simp only [dstOk, Nat.reduceLT]) (by repeat (first | exact trivial | constructor)) (runs_eval tab_ok ?_))
    simp only [ev0, evA, evB, evP, fl, gp, tab, simprocAttr, reduceCtorEq, reduceIte, stl_bo hb]
    refine fin_run ?_ (hK _ ?_) <;> clear hK <;> clear K
    · (first | exact trivial | omega | (simp only [In64] at *; omega) | (simp [In64] at *; omega) | (simp_all; done) | skip)
    refine qa (ql ?_)
    refine hk_loop (ι := Nat) (fun k => ⟨35, [(1, .p (.fn F caps)), (5, .ptr 0 0), (7, .p (.int .u64 (bo n (T k)))), (8, bif k == 0 then .p (.nn [.list (il (thl n (T 0)))]) else .sl 1 0 (cht n T k).length)], bif k == 0 then [.own [.p (.int .i64 0), .p (.int .i64 0)]] else [.own [.p (.int .i64 0), .p (.int .i64 0)], .own (opl (ll (cht n T k)))]⟩) (fun k => k ≤ K) (fun k => K - k) 0 (Nat.zero_le _) [1] (by rw [h0]; simp only [leq, leA, ev0, evA, evB, evP, fl, gp, tab, simprocAttr, reduceCtorEq, reduceIte, beq_self_eq_true, cond_true] <;> first | trivial | (simp; done)) fun k hk => ?_
    refine ql (qm ?_)
    by_cases hk0 : (k == 0) = true
    · simp only [hk0, cond_true]
      have hkz : k = 0 := by simpa using hk0
      refine hk_region fun K hK => runs_eval tab_ok ?_
      simp only [ev0, evA, evB, evP, fl, gp, tab, simprocAttr, reduceCtorEq, reduceIte]
      refine fin_stop trivial (runs_call (hF k) rfl rfl rfl (by simp only [dstOk, Nat.reduceLT]) (by repeat (first | exact trivial | constructor)) (runs_eval tab_ok ?_))
      simp only [ev0, evA, evB, evP, fl, gp, tab, simprocAttr, reduceCtorEq, reduceIte]
      refine fin_run trivial (hK _ ?_) <;> clear hK <;> clear K
      refine qa (qm (qm ?_))
      refine hk_region fun K hK => runs_eval tab_ok ?_
      simp only [ev0, evA, evB, evP, fl, gp, tab, simprocAttr, reduceCtorEq, reduceIte]
      refine fin_run trivial (hK _ ?_) <;> clear hK <;> clear K
      refine qa ?_
      refine hk_cond rfl (fun hC2 => ?_) (fun hC2 => ?_)
      · (try simp only [nhs] at hC2)
        have hkK : k = K := (hS.at hk).1 (by omega)
        refine qm ?_
        refine hk_region fun K hK => runs_eval tab_ok ?_
        simp only [ev0, evA, evB, evP, fl, gp, tab, simprocAttr, reduceCtorEq, reduceIte]
        refine fin_run ?_ (hK _ ?_) <;> clear hK <;> clear K
        · (first | exact trivial | omega | (simp only [In64] at *; omega) | (simp [In64] at *; omega) | (simp_all; done) | skip)
        refine qa (qk (qb (qe (qb (qe ?_)))))
        simp only [Tryd.results129, enA, ev0, evA, evB, evP, fl, gp, tab, simprocAttr, reduceCtorEq, reduceIte]
        all_goals (rw [← hkK, hkz]; rfl)
      · (try simp only [nhs] at hC2)
        have hkK : k < K := by
          rcases Nat.lt_or_eq_of_le hk with h | h
          · exact h
          · exact absurd (by rw [(hS.at hk).2 h]) hC2
        have hs := cht_succ n T k
        refine qh (qa (qm ?_))
        refine hk_region fun K hK => runs_eval tab_ok ?_
        simp only [ev0, evA, evB, evP, fl, gp, tab, simprocAttr, reduceCtorEq, reduceIte]
        refine fin_run trivial (hK _ ?_) <;> clear hK <;> clear K
        refine qa ?_
        refine hk_region fun K hK => runs_eval tab_ok ?_
        simp only [ev0, evA, evB, evP, fl, gp, tab, simprocAttr, reduceCtorEq, reduceIte, ll_takeL, oll_ok, ll_snoc]
        refine fin_stop trivial (runs_call (list_s (bo n (T (k + 1))) (hbt _)) rfl rfl rfl (by simp only [dstOk, Nat.reduceLT]) (by repeat (first | exact trivial | constructor)) (runs_eval tab_ok ?_))
        simp only [ev0, evA, evB, evP, fl, gp, tab, simprocAttr, reduceCtorEq, reduceIte, stl_bo hb, ll_takeL, oll_ok, ll_snoc]
        refine fin_run ?_ (hK _ ?_) <;> clear hK <;> clear K
        · first | (simp [cellOk, PV.one]; done) | (simp [cellOk, PV.one]; omega)
        refine qd (qa ?_)
        refine ⟨k + 1, [0, 1], by omega, by omega, ?_⟩
        have hs0 : ll (cht n T (k + 1)) = [.list (il (thl n (T 0))), .list (il (thl n (T (k + 1))))] := by rw [hs, hkz]; rfl
        have hl0 := cht_len n T (k + 1)
        simp only [leq, leA, ev0, evA, evB, evP, fl, gp, tab, simprocAttr, reduceCtorEq, reduceIte, h1, cond_false] <;> first | trivial | omega | (rw [hs0, hl0, hkz]; exact ⟨rfl, rfl⟩)
    · rw [Bool.not_eq_true] at hk0
      simp only [hk0, cond_false]
      have hlen := cht_len n T k
      have hll := ll_length (cht n T k)
      refine hk_region fun K hK => runs_eval tab_ok ?_
      simp only [ev0, evA, evB, evP, fl, gp, tab, simprocAttr, reduceCtorEq, reduceIte]
      refine fin_stop trivial (runs_call (hF k) rfl rfl rfl (by simp only [dstOk, Nat.reduceLT]) (by repeat (first | exact trivial | constructor)) (runs_eval tab_ok ?_))
      simp only [ev0, evA, evB, evP, fl, gp, tab, simprocAttr, reduceCtorEq, reduceIte]
      refine fin_run trivial (hK _ ?_) <;> clear hK <;> clear K
      refine qa (qm (qm ?_))
      refine hk_region fun K hK => runs_eval tab_ok ?_
      simp only [ev0, evA, evB, evP, fl, gp, tab, simprocAttr, reduceCtorEq, reduceIte]
      refine fin_run trivial (hK _ ?_) <;> clear hK <;> clear K
      refine qa ?_
      refine hk_cond rfl (fun hC2 => ?_) (fun hC2 => ?_)
      · (try simp only [nhs] at hC2)
        have hkK : k = K := (hS.at hk).1 (by omega)
        refine qm ?_
        rw [← ll_length (cht n T k)]
        refine hk_sealp 8 1 (ll_all _) rfl rfl ?_
        refine hk_region fun K hK => runs_eval tab_ok ?_
        simp only [ev0, evA, evB, evP, fl, gp, tab, simprocAttr, reduceCtorEq, reduceIte]
        refine fin_run ?_ (hK _ ?_) <;> clear hK <;> clear K
        · (first | exact trivial | omega | (simp only [In64] at *; omega) | (simp [In64] at *; omega) | (simp_all; done) | skip)
        refine qa (qk (qb (qe (qb (qe ?_)))))
        simp only [Tryd.results129, enA, ev0, evA, evB, evP, fl, gp, tab, simprocAttr, reduceCtorEq, reduceIte]
        all_goals (rw [← hkK])
      · (try simp only [nhs] at hC2)
        have hkK : k < K := by
          rcases Nat.lt_or_eq_of_le hk with h | h
          · exact h
          · exact absurd (by rw [(hS.at hk).2 h]) hC2
        have hs := cht_succ n T k
        refine qh (qa (qm ?_))
        refine hk_region fun K hK => runs_eval tab_ok ?_
        simp only [ev0, evA, evB, evP, fl, gp, tab, simprocAttr, reduceCtorEq, reduceIte]
        refine fin_run trivial (hK _ ?_) <;> clear hK <;> clear K
        refine qa ?_
        refine hk_region fun K hK => runs_eval tab_ok ?_
        simp only [ev0, evA, evB, evP, fl, gp, tab, simprocAttr, reduceCtorEq, reduceIte, ll_takeL, oll_ok, ll_snoc]
        refine fin_stop trivial (runs_call (list_s (bo n (T (k + 1))) (hbt _)) rfl rfl rfl (by simp only [dstOk, Nat.reduceLT]) (by repeat (first | exact trivial | constructor)) (runs_eval tab_ok ?_))
        simp only [ev0, evA, evB, evP, fl, gp, tab, simprocAttr, reduceCtorEq, reduceIte, stl_bo hb, ll_takeL, oll_ok, ll_snoc]
        refine fin_run ?_ (hK _ ?_) <;> clear hK <;> clear K
        · first | (simp [cellOk, PV.one]; done) | (simp [cellOk, PV.one]; omega)
        refine qd (qa ?_)
        refine ⟨k + 1, [0, 2], by omega, by omega, ?_⟩
        rw [hs]
        simp only [leq, leA, ev0, evA, evB, evP, fl, gp, tab, simprocAttr, reduceCtorEq, reduceIte, h1, cond_false, ll_takeL, ll_snoc, ll_takeS] <;> first | trivial | omega | (simp [ll]; done)
theorem down_no (N : Int) (m : List Int) (F : FuncId) (caps : List PV) (hm : m.length ≤ 1000000000000000) (hf : ¬ (gf N m).1 = 0) : FnC Tryd.prog 129 [gp N m, .fn F caps] (.tup [.list (ll []), fl (gf N m)]) := by
  refine fnc_of tab_ok Tryd.func129 rfl (by kernel_rfl) (by rw [Tryd.ntmps129]; exact Nat.le_add_left 2 _) ?_; rw [Tryd.ntmps129]
  refine qm ?_
  refine hk_region fun K hK => runs_eval tab_ok ?_
  simp only [ev0, evA, evB, evP, fl, gp, tab, simprocAttr, reduceCtorEq, reduceIte]
  refine fin_run ?_ (hK _ ?_) <;> clear hK <;> clear K
  · (first | exact trivial | omega | (simp only [In64] at *; omega) | (simp [In64] at *; omega) | (simp_all; done) | skip)
  refine qa (qm (qm ?_))
  refine hk_region fun K hK => runs_eval tab_ok ?_
  simp only [ev0, evA, evB, evP, fl, gp, tab, simprocAttr, reduceCtorEq, reduceIte]
  refine fin_stop trivial (runs_call (check_c N m hm) rfl rfl rfl (by simp only [dstOk, Nat.reduceLT]) (by repeat (first | exact trivial | constructor)) (runs_eval tab_ok ?_))
  simp only [ev0, evA, evB, evP, fl, gp, tab, simprocAttr, reduceCtorEq, reduceIte]
  refine fin_run ?_ (hK _ ?_) <;> clear hK <;> clear K
  · (first | exact trivial | omega | (simp only [In64] at *; omega) | (simp [In64] at *; omega) | (simp_all; done) | skip)
  refine qa (qm ?_)
  refine hk_region fun K hK => runs_eval tab_ok ?_
  simp only [ev0, evA, evB, evP, fl, gp, tab, simprocAttr, reduceCtorEq, reduceIte]
  refine fin_run ?_ (hK _ ?_) <;> clear hK <;> clear K
  · (first | exact trivial | omega | (simp only [In64] at *; omega) | (simp [In64] at *; omega) | (simp_all; done) | skip)
  refine qa ?_
  refine hk_cond rfl (fun hC1 => ?_) (fun hC1 => ?_)
  · (try simp only [nhs] at hC1)
    refine qm ?_
    refine hk_draw mixed (by kernel_rfl) fun K hK => runs_eval tab_ok ?_
    simp only [ev0, evA, evB, evP, fl, gp, tab, simprocAttr, reduceCtorEq, reduceIte]
    refine fin_run ?_ (hK _ ?_) <;> clear hK <;> clear K
    · (first | exact trivial | omega | (simp only [In64] at *; omega) | (simp [In64] at *; omega) | (simp_all; done) | skip)
    refine qa (qk (qb ?_))
    simp only [Tryd.results129, enA, ev0, evA, evB, evP, fl, gp, tab, simprocAttr, reduceCtorEq, reduceIte]
    all_goals (simp [ll])
  · (try simp only [nhs] at hC1)
    exact absurd hC1 hf

/-! ### Derived, Lower -/

section
variable {n e : Nat} {m : List Int}
theorem derived1_c (h : GT n m n e) (p r : Nat → Bool) (hr : ∀ a, a < n → (r a = true ↔ Gen n (op m n) e (dnp n (op m n) e p p) a)) : FnC Tryd.prog 130 [.int .u64 (bo n p), .ptr [.int .i64 n, .list (il m)]] (.int .u64 (bo n r)) := by
  refine fnc_of tab_ok Tryd.func130 rfl (by kernel_rfl) (by rw [Tryd.ntmps130]; exact Nat.le_add_left 2 _) ?_; rw [Tryd.ntmps130]
  refine qm ?_
  refine hk_region fun K hK => runs_eval tab_ok ?_
  simp only [ev0, evA, evB, evP, fl, gp, tab, simprocAttr, reduceCtorEq, reduceIte]
  refine fin_run trivial (hK _ ?_) <;> clear hK <;> clear K
  refine qa (qm ?_)
  refine hk_region fun K hK => runs_eval tab_ok ?_
  simp only [ev0, evA, evB, evP, fl, gp, tab, simprocAttr, reduceCtorEq, reduceIte]
  refine fin_stop trivial (runs_call (derive_s h p p r (fun a ha => by rw [tst_cml]; exact hr a ha)) rfl rfl rfl (by simp only [dstOk, Nat.reduceLT]) (by repeat (first | exact trivial | constructor)) (runs_eval tab_ok ?_))
  simp only [ev0, evA, evB, evP, fl, gp, tab, simprocAttr, reduceCtorEq, reduceIte]
  refine fin_run ?_ (hK _ ?_) <;> clear hK <;> clear K
  · (first | exact trivial | omega | (simp only [In64] at *; omega) | (simp [In64] at *; omega) | (simp_all; done) | skip)
  refine qa (qk ?_)
  simp only [Tryd.results130, enA, ev0, evA, evB, evP, fl, gp, tab, simprocAttr, reduceCtorEq, reduceIte]
  all_goals (rfl)
theorem derived_ok (h : GT n m n e) (nx : (Nat → Bool) → Nat → Bool) (hnx : ∀ p a, a < n → (nx p a = true ↔ Gen n (op m n) e (dnp n (op m n) e p p) a)) (Z : Nat) (hZ : Z ≤ n) (hS : Stp n (itr nx fun _ => true) Z) :
    FnC Tryd.prog 71 [gp n m] (.tup [.list (ll (cht n (itr nx fun _ => true) Z)), fl (0, 0)]) := by
  refine fnc_of tab_ok Tryd.func71 rfl (by kernel_rfl) (by rw [Tryd.ntmps71]; exact Nat.le_add_left 1 _) ?_; rw [Tryd.ntmps71]
  refine qm ?_
  refine hk_region fun K hK => runs_eval tab_ok ?_
  simp only [ev0, evA, evB, evP, fl, gp, tab, simprocAttr, reduceCtorEq, reduceIte]
  refine fin_run ?_ (hK _ ?_) <;> clear hK <;> clear K
  · (first | exact trivial | omega | (simp only [In64] at *; omega) | (simp [In64] at *; omega) | (simp_all; done) | skip)
  refine qa (qm ?_)
  refine hk_freeze 0 rfl rfl ?_
  simp only [hset]
  refine hk_region fun K hK => runs_eval tab_ok ?_
  simp only [ev0, evA, evB, evP, fl, gp, tab, simprocAttr, reduceCtorEq, reduceIte]
  refine fin_stop trivial (runs_call (down_ok h _ _ (itr nx fun _ => true) Z hZ hS rfl (fun k => derived1_c h _ _ (hnx _))) rfl rfl rfl (by simp only [dstOk, Nat.reduceLT]) (by repeat (first | exact trivial | constructor)) (runs_eval tab_ok ?_))
  simp only [ev0, evA, evB, evP, fl, gp, tab, simprocAttr, reduceCtorEq, reduceIte]
  refine fin_run ?_ (hK _ ?_) <;> clear hK <;> clear K
  · (first | exact trivial | omega | (simp only [In64] at *; omega) | (simp [In64] at *; omega) | (simp_all; done) | skip)
  refine qa (qk ?_)
  simp only [Tryd.results71, enA, ev0, evA, evB, evP, fl, gp, tab, simprocAttr, reduceCtorEq, reduceIte]
  all_goals ((first | exact rfl | exact ⟨rfl, rfl⟩ | exact ⟨rfl, rfl, rfl⟩ | exact ⟨trivial, rfl⟩ | exact ⟨Nat.le_refl _, rfl⟩ | trivial | (simp; done)))
end
theorem derived_no (N : Int) (m : List Int) (hm : m.length ≤ 1000000000000000) (hf : ¬ (gf N m).1 = 0) : FnC Tryd.prog 71 [gp N m] (.tup [.list (ll []), fl (gf N m)]) := by
  refine fnc_of tab_ok Tryd.func71 rfl (by kernel_rfl) (by rw [Tryd.ntmps71]; exact Nat.le_add_left 1 _) ?_; rw [Tryd.ntmps71]
  refine qm ?_
  refine hk_region fun K hK => runs_eval tab_ok ?_
  simp only [ev0, evA, evB, evP, fl, gp, tab, simprocAttr, reduceCtorEq, reduceIte]
  refine fin_run ?_ (hK _ ?_) <;> clear hK <;> clear K
  · (first | exact trivial | omega | (simp only [In64] at *; omega) | (simp [In64] at *; omega) | (simp_all; done) | skip)
  refine qa (qm ?_)
  refine hk_freeze 0 rfl rfl ?_
  simp only [hset]
  refine hk_region fun K hK => runs_eval tab_ok ?_
  simp only [ev0, evA, evB, evP, fl, gp, tab, simprocAttr, reduceCtorEq, reduceIte]
  refine fin_stop trivial (runs_call (down_no N m _ _ hm hf) rfl rfl rfl (by simp only [dstOk, Nat.reduceLT]) (by repeat (first | exact trivial | constructor)) (runs_eval tab_ok ?_))
  simp only [ev0, evA, evB, evP, fl, gp, tab, simprocAttr, reduceCtorEq, reduceIte]
  refine fin_run ?_ (hK _ ?_) <;> clear hK <;> clear K
  · (first | exact trivial | omega | (simp only [In64] at *; omega) | (simp [In64] at *; omega) | (simp_all; done) | skip)
  refine qa (qk ?_)
  simp only [Tryd.results71, enA, ev0, evA, evB, evP, fl, gp, tab, simprocAttr, reduceCtorEq, reduceIte]
  all_goals ((first | exact rfl | exact ⟨rfl, rfl⟩ | exact ⟨rfl, rfl, rfl⟩ | exact ⟨trivial, rfl⟩ | exact ⟨Nat.le_refl _, rfl⟩ | trivial | (simp; done)))
/-! ### Upper -/

/-- Of what is below a: what commutes with all, up to a set. -/
def upl (n : Nat) (f : Nat → Nat → Nat) (e : Nat) (p : Nat → Bool) (a x : Nat) : Bool := decide (x < a) && unx n f e p x
/-! ### An example of the document -/

theorem sq8_der (nx : (Nat → Bool) → Nat → Bool) (hnx : ∀ p a, a < 8 → (nx p a = true ↔ Gen 8 (op sq8 8) 0 (dnp 8 (op sq8 8) 0 p p) a)) : Stp 8 (itr nx fun _ => true) 2 ∧ thl 8 (itr nx (fun _ => true) 1) = [0, 2] := by
  have G := sq8_e.2.2
  have e1 : ∀ a, a < 8 → itr nx (fun _ => true) 1 a = (a == 0 || a == 2) := fun a ha => by
    rw [Bool.eq_iff_iff]
    refine (hnx _ a ha).trans ?_
    constructor
    · intro hg
      have hs : Sub 8 (op sq8 8) 0 fun a => a == 0 || a == 2 := by
        refine sub_of G rfl fun a b ha hb h1 h2 => ?_
        have key : ∀ a, a < 8 → ∀ b, b < 8 → (a == 0 || a == 2) = true → (b == 0 || b == 2) = true → (op sq8 8 a b == 0 || op sq8 8 a b == 2) = true := by decide +kernel
        exact key a ha b hb h1 h2
      refine hg.sub G hs fun b hb hc => ?_
      have key : ∀ b, b < 8 → dnp 8 (op sq8 8) 0 (fun _ => true) (fun _ => true) b = true → (b == 0 || b == 2) = true := by decide +kernel
      exact key b hb hc
    · intro h'
      have : a = 0 ∨ a = 2 := by simpa using h'
      rcases this with rfl | rfl
      · exact .one
      · exact .mem G (by omega) (by show dnp 8 (op sq8 8) 0 (fun _ => true) (fun _ => true) 2 = true; decide +kernel)
  have step : ∀ k, (∀ a, a < 8 → itr nx (fun _ => true) k a = true → (a = 0 ∨ a = 2)) → ∀ a, a < 8 → itr nx (fun _ => true) (k + 1) a = (a == 0) := fun k hk a ha => by
    rw [Bool.eq_iff_iff]
    refine (hnx _ a ha).trans ?_
    constructor
    · intro hg
      have hs := G.onp_sub
      have := hg.sub G hs fun b hb hc => by
        obtain ⟨x, y, x1, y1, x2, y2, rfl⟩ := dnp_iff.1 hc
        have key : ∀ x, x < 8 → ∀ y, y < 8 → (x = 0 ∨ x = 2) → (y = 0 ∨ y = 2) → onp 0 (cmt 8 (op sq8 8) 0 x y) = true := by decide +kernel
        exact key x x1 y y1 (hk x x1 x2) (hk y y1 y2)
      simpa [onp] using this
    · intro h'
      have : a = 0 := by simpa using h'
      subst this
      exact .one
  have e2 : ∀ a, a < 8 → itr nx (fun _ => true) 2 a = (a == 0) := step 1 fun a ha h => by rw [e1 a ha] at h; simpa using h
  have e3 : ∀ a, a < 8 → itr nx (fun _ => true) 3 a = (a == 0) := step 2 fun a ha h => by rw [e2 a ha] at h; exact .inl (by simpa using h)
  refine ⟨⟨fun a ha => by rw [e2 a ha]; exact e3 a ha, fun j hj hall => ?_⟩, ?_⟩
  · match j, hj with
    | 0, _ => have := hall 1 (by omega); rw [e1 1 (by omega)] at this; cases this
    | 1, _ => have := hall 2 (by omega); rw [e1 2 (by omega)] at this; rw [show itr nx (fun _ => true) (1 + 1) 2 = _ from e2 2 (by omega)] at this; cases this
  · rw [thl_congr e1]; decide +kernel
theorem seriesBegun_c : FnC Tryd.prog 14 [] (.bool true) := by
  obtain ⟨nx, hnx⟩ := nx_ex 8 (op sq8 8) 0 fun p => dnp 8 (op sq8 8) 0 p p
  obtain ⟨hS, h1⟩ := sq8_der nx hnx
  have hl : (cht 8 (itr nx fun _ => true) 2).length = 3 := cht_len _ _ _
  have hg : (cht 8 (itr nx fun _ => true) 2).getD 1 [] = [0, 2] := by rw [cht_get (by omega), h1]
  have hll : (ll (cht 8 (itr nx fun _ => true) 2)).getD 1 default = .list (il [0, 2]) := by rw [ll_get (by omega), hg]
  refine fnc_of tab_ok Tryd.func14 rfl (by kernel_rfl) (by rw [Tryd.ntmps14]; exact Nat.le_add_left 0 _) ?_; rw [Tryd.ntmps14]
  refine qm ?_
  refine hk_region fun K hK => runs_eval tab_ok ?_
  simp only [ev0, evA, evB, evP, fl, gp, tab, simprocAttr, reduceCtorEq, reduceIte]
  refine fin_run trivial (hK _ ?_) <;> clear hK <;> clear K
  refine qa (qm ?_)
  refine hk_region fun K hK => runs_eval tab_ok ?_
  simp only [ev0, evA, evB, evP, fl, gp, tab, simprocAttr, reduceCtorEq, reduceIte]
  refine fin_stop trivial (runs_call (square_c) rfl rfl rfl (by simp only [dstOk, Nat.reduceLT]) (by repeat (first | exact trivial | constructor)) (runs_eval tab_ok ?_))
  simp only [ev0, evA, evB, evP, fl, gp, tab, simprocAttr, reduceCtorEq, reduceIte]
  refine fin_stop trivial (runs_call (derived_ok sq8_e nx hnx 2 (by omega) hS) rfl rfl rfl (by simp only [dstOk, Nat.reduceLT]) (by repeat (first | exact trivial | constructor)) (runs_eval tab_ok ?_))
  simp only [ev0, evA, evB, evP, fl, gp, tab, simprocAttr, reduceCtorEq, reduceIte]
  refine fin_run ?_ (hK _ ?_) <;> clear hK <;> clear K
  · (first | exact trivial | omega | (simp only [In64] at *; omega) | (simp [In64] at *; omega) | (simp_all; done) | skip)
  refine qa (qm ?_)
  refine hk_region fun K hK => runs_eval tab_ok ?_
  simp only [ev0, evA, evB, evP, fl, gp, tab, simprocAttr, reduceCtorEq, reduceIte, ll_length, hl, hll]
  refine fin_stop trivial (runs_call (FnC.sub (args' := [.list (il [0, 2]), .nn (il [0, 2])]) (ints_c [0, 2] [0, 2] (by decide)) (And.intro (.same _) (And.intro (.nn _) trivial))) rfl rfl rfl (by simp only [dstOk, Nat.reduceLT]) (by repeat (first | exact trivial | constructor)) (runs_eval tab_ok ?_))
  simp only [ev0, evA, evB, evP, fl, gp, tab, simprocAttr, reduceCtorEq, reduceIte, ll_length, hl, hll]
  refine fin_run ?_ (hK _ ?_) <;> clear hK <;> clear K
  · (first | exact trivial | omega | (simp only [In64] at *; omega) | (simp [In64] at *; omega) | (simp_all; done) | skip)
  refine qa (qk ?_)
  simp only [Tryd.results14, enA, ev0, evA, evB, evP, fl, gp, tab, simprocAttr, reduceCtorEq, reduceIte]
  all_goals (rfl)
end Go.Proofs.YtjbfkdaodfdpcaaDoor

/-
  What reads as one value reads as another. Conditions: none.
-/
set_option linter.all false
namespace Go.Proofs.YtjbfkdaodfdpcaaDoor
open Go.Pv

/-! ### What reads as one reads as another -/

def Rle (a b : PV) : Prop := ∀ (ok : Nat → Prop) (w : World) (v : Value), Reads ok w a v → Reads ok w b v
theorem Rle.rfl {a : PV} : Rle a a := fun _ _ _ h => h
theorem Rle.nn {l : List PV} : Rle (.nn l) (.list l) := fun _ _ _ h => h.nn_list
def Rles : List PV → List PV → Prop
  | [], [] => True
  | a :: r, b :: s => Rle a b ∧ Rles r s
  | _, _ => False
theorem Rles.len : ∀ {l r : List PV}, Rles l r → l.length = r.length
  | [], [], _ => by rfl
  | a :: l, b :: r, h => by simp [Rles.len h.2]
  | [], _ :: _, h => h.elim
  | _ :: _, [], h => h.elim
theorem Rles.get : ∀ {l r : List PV}, Rles l r → ∀ (i : Nat) (h : i < l.length) (h' : i < r.length), Rle l[i] r[i]
  | a :: l, b :: r, h, 0, _, _ => h.1
  | a :: l, b :: r, h, i + 1, h1, h2 => by simpa using Rles.get h.2 i (by simpa using h1) (by simpa using h2)
  | [], [], _, i, h, _ => by simp at h
  | [], _ :: _, h, _, _, _ => h.elim
  | _ :: _, [], h, _, _, _ => h.elim
end Go.Proofs.YtjbfkdaodfdpcaaDoor

/-
  Classes: where things stand; powers of classes; pairs that commute. Conditions: none.
-/
set_option linter.all false
namespace Go.Proofs.YtjbfkdaodfdpcaaDoor
open Go.Pv

theorem cst_len (n : Nat) (r : Nat → Nat → Bool) : (cst n r).length = (mem n (lead r)).length := by
  unfold cst cstp mem
  rw [List.length_map]

/-- The place of the first list that has a thing; -1: none has. -/
def wch (l : List (List Int)) (x : Int) : Int := match fst' (fun i => decide (x ∈ l.getD i [])) l.length with | some i => (i : Int) | none => -1

/-- A row by a rule. -/
def rgz (n : Nat) (g : Nat → Int) : List Int := (List.range n).map g
theorem rgz_len (n : Nat) (g : Nat → Int) : (rgz n g).length = n := by simp [rgz]
theorem rgz_get {n : Nat} {g : Nat → Int} {a : Nat} (ha : a < n) : (rgz n g).getD a 0 = g a := by
  simp [rgz, List.getD, List.getElem?_map, List.getElem?_range ha]
theorem rgz_congr {n : Nat} {g g' : Nat → Int} (h : ∀ a, a < n → g a = g' a) : rgz n g = rgz n g' := List.map_congr_left fun a ha => h a (List.mem_range.1 ha)
theorem rgz_set (n : Nat) (g : Nat → Int) (c : Nat) (x : Int) : (rgz n g).set c x = rgz n fun a => if a = c then x else g a := by
  refine List.ext_getElem (by simp [rgz]) fun i h1 h2 => ?_
  rw [List.getElem_set]
  by_cases e : c = i
  · subst e; simp [rgz]
  · rw [if_neg e]
    simp [rgz, Ne.symm e]
theorem rgz_new (n : Nat) : List.replicate n (AV.p (.int .i64 0)) = ol (rgz n fun _ => 0) := by
  refine List.ext_getElem (by simp [ol, il, rgz]) fun i h1 h2 => ?_
  simp [ol, il, rgz]

/-- Where each thing's class stands. -/
def whl (n : Nat) (r : Nat → Nat → Bool) : List Int := rgz n fun a => wch (cst n r) a

theorem cst_apart {n : Nat} {r : Nat → Nat → Bool} (h : Eqv n r) {i j a : Nat} (hi : i < (cst n r).length) (hj : j < (cst n r).length) (ha : a < n) (h1 : ((a : Nat) : Int) ∈ (cst n r).getD i []) (h2 : ((a : Nat) : Int) ∈ (cst n r).getD j []) : i = j := by
  obtain ⟨x, x1, x2, x3, x4⟩ := cst_get hi
  obtain ⟨y, y1, y2, y3, y4⟩ := cst_get hj
  rw [x3, mem_thl_n ha] at h1
  rw [y3, mem_thl_n ha] at h2
  have hxy : x = y := h.lead_eq x1 y1 x2 y2 (h.trans x a y x1 ha y1 h1 (h.symm y a y1 ha h2))
  subst hxy
  have hn : (mem n (lead r)).Nodup := List.nodup_range.filter _
  have hl := cst_len n r
  exact at_inj hn (by omega) (by omega) (x4.trans y4.symm)
theorem cst_in {n : Nat} {r : Nat → Nat → Bool} (h : Eqv n r) {a : Nat} (ha : a < n) : ∃ i, i < (cst n r).length ∧ ((a : Nat) : Int) ∈ (cst n r).getD i [] := by
  obtain ⟨x, x1, x2, x3⟩ := h.least ha
  obtain ⟨i, hi, e⟩ := List.getElem_of_mem (mem_mem.2 ⟨x1, x2⟩ : x ∈ mem n (lead r))
  have hl := cst_len n r
  refine ⟨i, by omega, ?_⟩
  obtain ⟨y, y1, y2, y3, y4⟩ := cst_get (n := n) (r := r) (i := i) (by omega)
  rw [y3, mem_thl_n ha]
  have : y = x := by rw [← y4]; simp [List.getD, List.getElem?_eq_getElem hi, e]
  rw [this]; exact x3
theorem wch_at {n : Nat} {r : Nat → Nat → Bool} (h : Eqv n r) {i a : Nat} (hi : i < (cst n r).length) (ha : a < n) (h1 : ((a : Nat) : Int) ∈ (cst n r).getD i []) : wch (cst n r) a = (i : Int) := by
  have e : fst' (fun k => decide (((a : Nat) : Int) ∈ (cst n r).getD k [])) (cst n r).length = some i := fst_some hi (decide_eq_true h1) fun j hj => decide_eq_false fun h2 => by
    have := cst_apart h hi (by omega) ha h1 h2
    omega
  simp only [wch, e]

end Go.Proofs.YtjbfkdaodfdpcaaDoor

/-
  Cosets: right, left and double, of the program and of the document. Conditions: none.
-/
set_option linter.all false
namespace Go.Proofs.YtjbfkdaodfdpcaaDoor
open Go.Pv

/-! ### Gathered -/

set_option maxHeartbeats 2000000 in
theorem gather_c (n : Nat) (hb : n ≤ 60) (F : FuncId) (caps : List PV) (r : Nat → Nat → Bool) (E : Eqv n r) (hF : ∀ a, a < n → FnC Tryd.prog F (.int .i64 a :: caps) (.int .u64 (bo n (r a)))) : FnC Tryd.prog 115 [.int .i64 n, .fn F caps] (.list (ll (cst n r))) := by
  have hz : bo n (hadp r 0) = 0 := by
    have h1 : bo n (hadp r 0) = bo n fun _ => false := bo_congr fun a _ => by simp [hadp]
    rw [h1, bo_zero]
  have hlead : ∀ x, x < n → lead r x = !hadp r x x := by
    intro x hx
    rw [Bool.eq_iff_iff, lead_iff, Bool.not_eq_true']
    unfold hadp
    rw [decide_eq_false_iff_not]
    constructor
    · rintro ⟨_, h2⟩ ⟨z, z1, z2⟩
      have := E.symm z x (by omega) hx z2
      rw [h2 z z1] at this; cases this
    · intro h1
      refine ⟨E.refl x hx, fun b hb' => ?_⟩
      cases hv : r x b with
      | false => rfl
      | true => exact absurd ⟨b, hb', E.symm x b hx (by omega) hv⟩ h1
  refine fnc_of tab_ok Tryd.func115 rfl (by kernel_rfl) (by rw [Tryd.ntmps115]; exact Nat.le_add_left 2 _) ?_; rw [Tryd.ntmps115]
  refine qm ?_
  refine hk_region fun K hK => runs_eval tab_ok ?_
  simp only [ev0, evA, evB, evP, fl, gp, tab, simprocAttr, reduceCtorEq, reduceIte]
  refine fin_run trivial (hK _ ?_) <;> clear hK <;> clear K
  refine qa (qm ?_)
  refine hk_region fun K hK => runs_eval tab_ok ?_
  simp only [ev0, evA, evB, evP, fl, gp, tab, simprocAttr, reduceCtorEq, reduceIte]
  refine fin_run trivial (hK _ ?_) <;> clear hK <;> clear K
  refine qa (qm ?_)
  refine hk_own0 5 rfl ?_
  refine hk_region fun K hK => runs_eval tab_ok ?_
  simp only [ev0, evA, evB, evP, fl, gp, tab, simprocAttr, reduceCtorEq, reduceIte]
  refine fin_run trivial (hK _ ?_) <;> clear hK <;> clear K
  refine qa (qm (qm ?_))
  refine hk_region fun K hK => runs_eval tab_ok ?_
  simp only [ev0, evA, evB, evP, fl, gp, tab, simprocAttr, reduceCtorEq, reduceIte]
  refine fin_run trivial (hK _ ?_) <;> clear hK <;> clear K
  refine qa (ql ?_)
  refine hk_loop (ι := Nat) (fun x => ⟨29, [(1, .p (.fn F caps)), (5, .sl 0 0 (cstp n r x).length), (6, .p (.int .u64 (bo n (hadp r x)))), (9, .p (.int .i64 n)), (10, .p (.int .i64 x))], [.own (opl (ll (cstp n r x)))]⟩) (fun x => x ≤ n) (fun x => n - x) 0 (Nat.zero_le _) [0] (by simp only [leq, leA, ev0, evA, evB, evP, fl, gp, tab, simprocAttr, reduceCtorEq, reduceIte, ll_takeL, ll_snoc, ll_takeS] <;> first | trivial | (simp [cstp, ll, opl, hz]; done) | (simp [cstp, ll, opl]; done)) fun x hx => ?_
  have hlen := cstp_len n r x
  have hll := ll_length (cstp n r x)
  refine qm ?_
  refine hk_region fun K hK => runs_eval tab_ok ?_
  simp only [ev0, evA, evB, evP, fl, gp, tab, simprocAttr, reduceCtorEq, reduceIte]
  refine fin_run trivial (hK _ ?_) <;> clear hK <;> clear K
  refine qa (qm ?_)
  refine hk_cond rfl (fun hC1 => ?_) (fun hC1 => ?_)
  · (try simp only [nhs] at hC1)
    have hlt : x < n := by omega
    have hs := cstp_succ n r x
    have hhb : (bo n (hadp r x)).testBit x = hadp r x x := by rw [bo_bit]; simp [hlt]
    have hb1 := bo_lt64 hb (hadp r x)
    have hb2 := bo_lt64 hb (r x)
    refine qh (qa (qm (ql (qm ?_))))
    refine hk_region fun K hK => runs_eval tab_ok ?_
    simp only [ev0, evA, evB, evP, fl, gp, tab, simprocAttr, reduceCtorEq, reduceIte]
    refine fin_run trivial (hK _ ?_) <;> clear hK <;> clear K
    refine qa (qm (qm ?_))
    refine hk_region fun K hK => runs_eval tab_ok ?_
    simp only [ev0, evA, evB, evP, fl, gp, tab, simprocAttr, reduceCtorEq, reduceIte]
    refine fin_stop trivial (runs_call (has_s (bo n (hadp r x)) x hb1 (by omega)) rfl rfl rfl (by simp only [dstOk, Nat.reduceLT]) (by repeat (first | exact trivial | constructor)) (runs_eval tab_ok ?_))
    simp only [ev0, evA, evB, evP, fl, gp, tab, simprocAttr, reduceCtorEq, reduceIte, hhb]
    refine fin_run trivial (hK _ ?_) <;> clear hK <;> clear K
    refine qa ?_
    refine hk_cond rfl (fun hC2 => ?_) (fun hC2 => ?_)
    · (try simp only [nhs] at hC2)
      have hld : lead r x = false := by rw [hlead x hlt, hC2]; rfl
      rw [if_neg (by rw [hld]; simp), List.append_nil] at hs
      have hh : bo n (hadp r (x + 1)) = bo n (hadp r x) := bo_congr fun y hy => by
        unfold hadp at hC2 ⊢
        rw [decide_eq_true_eq] at hC2
        refine decide_eq_decide.2 ⟨?_, fun ⟨z, z1, z2⟩ => ⟨z, by omega, z2⟩⟩
        rintro ⟨z, z1, z2⟩
        by_cases hzx : z = x
        · subst hzx
          obtain ⟨w, w1, w2⟩ := hC2
          exact ⟨w, w1, E.trans w z y (by omega) hlt hy w2 z2⟩
        · exact ⟨z, by omega, z2⟩
      refine qj (qc (qf (qa ?_)))
      refine hk_region fun K hK => runs_eval tab_ok ?_
      simp only [ev0, evA, evB, evP, fl, gp, tab, simprocAttr, reduceCtorEq, reduceIte]
      refine fin_run ?_ (hK _ ?_) <;> clear hK <;> clear K
      · (first | exact trivial | omega | (simp only [In64] at *; omega) | (simp [In64] at *; omega) | (simp_all; done) | skip)
      refine qa ?_
      refine ⟨x + 1, [0], by omega, by omega, ?_⟩
      rw [hs, hh]
      simp only [leq, leA, ev0, evA, evB, evP, fl, gp, tab, simprocAttr, reduceCtorEq, reduceIte, ll_takeL, ll_snoc, ll_takeS] <;> first | trivial | omega
    · (try simp only [nhs] at hC2)
      have hld : lead r x = true := by rw [hlead x hlt, hC2]; rfl
      rw [if_pos hld] at hs
      have hh : bo n (hadp r (x + 1)) = bo n (fun y => hadp r x y || r x y) := bo_congr fun y hy => by
        unfold hadp
        rw [Bool.eq_iff_iff, Bool.or_eq_true, decide_eq_true_eq, decide_eq_true_eq]
        constructor
        · rintro ⟨z, z1, z2⟩
          by_cases hzx : z = x
          · subst hzx; exact .inr z2
          · exact .inl ⟨z, by omega, z2⟩
        · rintro (⟨z, z1, z2⟩ | h')
          · exact ⟨z, by omega, z2⟩
          · exact ⟨x, by omega, h'⟩
      refine qh (qa (qm ?_))
      refine hk_region fun K hK => runs_eval tab_ok ?_
      simp only [ev0, evA, evB, evP, fl, gp, tab, simprocAttr, reduceCtorEq, reduceIte]
      refine fin_stop trivial (runs_call (hF x hlt) rfl rfl rfl (by simp only [dstOk, Nat.reduceLT]) (by repeat (first | exact trivial | constructor)) (runs_eval tab_ok ?_))
      simp only [ev0, evA, evB, evP, fl, gp, tab, simprocAttr, reduceCtorEq, reduceIte]
      refine fin_run trivial (hK _ ?_) <;> clear hK <;> clear K
      refine qa (qm ?_)
      refine hk_region fun K hK => runs_eval tab_ok ?_
      simp only [ev0, evA, evB, evP, fl, gp, tab, simprocAttr, reduceCtorEq, reduceIte, bv_or hb1 hb2, bo_or]
      refine fin_run ?_ (hK _ ?_) <;> clear hK <;> clear K
      · (first | exact trivial | omega | (simp only [In64] at *; omega) | (simp [In64] at *; omega) | (simp_all; done) | skip)
      refine qa ?_
      refine hk_region fun K hK => runs_eval tab_ok ?_
      simp only [ev0, evA, evB, evP, fl, gp, tab, simprocAttr, reduceCtorEq, reduceIte, ll_takeL, oll_ok, ll_snoc]
      refine fin_stop trivial (runs_call (list_s (bo n (r x)) hb2) rfl rfl rfl (by simp only [dstOk, Nat.reduceLT]) (by repeat (first | exact trivial | constructor)) (runs_eval tab_ok ?_))
      simp only [ev0, evA, evB, evP, fl, gp, tab, simprocAttr, reduceCtorEq, reduceIte, stl_bo hb, ll_takeL, oll_ok, ll_snoc]
      refine fin_run ?_ (hK _ ?_) <;> clear hK <;> clear K
      · (first | exact trivial | omega | (simp only [In64] at *; omega) | (simp [In64] at *; omega) | (simp_all; done) | skip)
      refine qd (qa ?_)
      refine hk_region fun K hK => runs_eval tab_ok ?_
      simp only [ev0, evA, evB, evP, fl, gp, tab, simprocAttr, reduceCtorEq, reduceIte]
      refine fin_run ?_ (hK _ ?_) <;> clear hK <;> clear K
      · (first | exact trivial | omega | (simp only [In64] at *; omega) | (simp [In64] at *; omega) | (simp_all; done) | skip)
      refine qa ?_
      refine ⟨x + 1, [1], by omega, by omega, ?_⟩
      rw [hs, hh]
      simp only [leq, leA, ev0, evA, evB, evP, fl, gp, tab, simprocAttr, reduceCtorEq, reduceIte, ll_takeL, ll_snoc, ll_takeS] <;> first | trivial | omega | (simp [ll]; done)
  · (try simp only [nhs] at hC1)
    have hxn : x = n := by omega
    subst hxn
    rw [← ll_length (cstp x r x)]
    refine hk_sealp 5 0 (ll_all _) rfl rfl ?_
    refine qj (qc (qc (qf (qa (qm ?_)))))
    refine hk_region fun K hK => runs_eval tab_ok ?_
    simp only [ev0, evA, evB, evP, fl, gp, tab, simprocAttr, reduceCtorEq, reduceIte]
    refine fin_run trivial (hK _ ?_) <;> clear hK <;> clear K
    refine qa (qk ?_)
    simp only [Tryd.results115, enA, ev0, evA, evB, evP, fl, gp, tab, simprocAttr, reduceCtorEq, reduceIte]
    all_goals (rfl)

/-! ### Products of a set, a thing and a set -/

def pdr (f : Nat → Nat → Nat) (x a : Nat) (lm : List Int) : List Int := lm.map fun y => ((f (f x a) y.toNat : Nat) : Int)
def pdl (f : Nat → Nat → Nat) (a : Nat) (l lm : List Int) : List Int := l.flatMap fun x => pdr f x.toNat a lm
theorem pdl_succ (f : Nat → Nat → Nat) (a : Nat) {l : List Int} (lm : List Int) {i : Nat} (hi : i < l.length) : pdl f a (l.take (i + 1)) lm = pdl f a (l.take i) lm ++ pdr f (l.getD i 0).toNat a lm := by
  unfold pdl
  rw [List.take_succ_eq_append_getElem hi, List.flatMap_append]
  congr 1
  have : l[i] = l.getD i 0 := by simp [List.getD, List.getElem?_eq_getElem hi]
  rw [this]; simp
theorem pdr_succ (f : Nat → Nat → Nat) (x a : Nat) {lm : List Int} {j : Nat} (hj : j < lm.length) : pdr f x a (lm.take (j + 1)) = pdr f x a (lm.take j) ++ [((f (f x a) (lm.getD j 0).toNat : Nat) : Int)] := by
  unfold pdr
  rw [List.take_succ_eq_append_getElem hj, List.map_append]
  have : lm[j] = lm.getD j 0 := by simp [List.getD, List.getElem?_eq_getElem hj]
  rw [this]; rfl
theorem mem_pdl {n a : Nat} {f : Nat → Nat → Nat} {p q : Nat → Bool} {z : Int} : z ∈ pdl f a (thl n p) (thl n q) ↔ ∃ x y, x < n ∧ y < n ∧ p x = true ∧ q y = true ∧ z = ((f (f x a) y : Nat) : Int) := by
  unfold pdl pdr
  rw [List.mem_flatMap]
  constructor
  · rintro ⟨u, hu, hz⟩
    obtain ⟨v, hv, rfl⟩ := List.mem_map.1 hz
    obtain ⟨x, x1, x2, rfl⟩ := mem_thl.1 hu
    obtain ⟨y, y1, y2, rfl⟩ := mem_thl.1 hv
    exact ⟨x, y, x1, y1, x2, y2, by simp⟩
  · rintro ⟨x, y, x1, y1, x2, y2, rfl⟩
    exact ⟨_, (mem_thl_n x1).2 x2, List.mem_map.2 ⟨_, (mem_thl_n y1).2 y2, by simp⟩⟩
theorem msk_pdl {n e a : Nat} {f : Nat → Nat → Nat} (G : Grp n f e) (p q : Nat → Bool) (ha : a < n) : msk (pdl f a (thl n p) (thl n q)) = bo n (dco n f p q a) := by
  refine Nat.eq_of_testBit_eq fun i => ?_
  rw [msk_bit, bo_bit, Bool.eq_iff_iff, decide_eq_true_eq, Bool.and_eq_true, decide_eq_true_eq, dco_iff]
  constructor
  · rintro ⟨z, hz, rfl⟩
    obtain ⟨x, y, x1, y1, x2, y2, rfl⟩ := mem_pdl.1 hz
    exact ⟨by simpa using G.cl _ _ (G.cl _ _ x1 ha) y1, x, y, x1, y1, x2, y2, by simp⟩
  · rintro ⟨_, x, y, x1, y1, x2, y2, rfl⟩
    exact ⟨_, mem_pdl.2 ⟨x, y, x1, y1, x2, y2, rfl⟩, by simp⟩

theorem product_s {n e : Nat} {m : List Int} (h : GT n m n e) (p q : Nat → Bool) {a : Nat} (ha : a < n) : FnC Tryd.prog 117 [gp n m, .list (il (thl n p)), .int .i64 a, .list (il (thl n q))] (.int .u64 (bo n (dco n (op m n) p q a))) := by
  have G := h.2.2
  have hb := h.2.1.big
  have hlp := thl_le n p
  have hlq := thl_le n q
  refine fnc_of tab_ok Tryd.func117 rfl (by kernel_rfl) (by rw [Tryd.ntmps117]; exact Nat.le_add_left 4 _) ?_; rw [Tryd.ntmps117]
  refine qm ?_
  refine hk_region fun K hK => runs_eval tab_ok ?_
  simp only [ev0, evA, evB, evP, fl, gp, tab, simprocAttr, reduceCtorEq, reduceIte]
  refine fin_run ?_ (hK _ ?_) <;> clear hK <;> clear K
  · (first | exact trivial | omega | (simp only [In64] at *; omega) | (simp [In64] at *; omega) | (simp_all; done) | skip)
  refine qa (qm ?_)
  refine hk_region fun K hK => runs_eval tab_ok ?_
  simp only [ev0, evA, evB, evP, fl, gp, tab, simprocAttr, reduceCtorEq, reduceIte]
  refine fin_run trivial (hK _ ?_) <;> clear hK <;> clear K
  refine qa (qm (qm ?_))
  refine hk_region fun K hK => runs_eval tab_ok ?_
  simp only [ev0, evA, evB, evP, fl, gp, tab, simprocAttr, reduceCtorEq, reduceIte, il_length]
  refine fin_run trivial (hK _ ?_) <;> clear hK <;> clear K
  refine qa (ql ?_)
  refine hk_loop (ι := Nat) (fun i => ⟨39, [(2, .p (.int .i64 a)), (3, .p (.list (il (thl n q)))), (4, .ptr 0 0), (9, .p (.int .u64 (msk (pdl (op m n) a ((thl n p).take i) (thl n q))))), (14, .p (.list (il (thl n p)))), (15, .p (.int .i64 (thl n p).length)), (16, .p (.int .i64 i))], [.own [.p (.int .i64 n), .p (.list (il m))]]⟩) (fun i => i ≤ (thl n p).length) (fun i => (thl n p).length - i) 0 (Nat.zero_le _) [0] (by simp only [leq, leA, ev0, evA, evB, evP, fl, gp, tab, simprocAttr, reduceCtorEq, reduceIte] <;> first | trivial | simp [pdl, msk]) fun i hi => ?_
  refine qm ?_
  refine hk_region fun K hK => runs_eval tab_ok ?_
  simp only [ev0, evA, evB, evP, fl, gp, tab, simprocAttr, reduceCtorEq, reduceIte]
  refine fin_run trivial (hK _ ?_) <;> clear hK <;> clear K
  refine qa (qm ?_)
  refine hk_cond rfl (fun hC1 => ?_) (fun hC1 => ?_)
  · (try simp only [nhs] at hC1)
    have hlt : i < (thl n p).length := by omega
    obtain ⟨x, x1, x2, x3⟩ := thl_get hlt
    refine qh (qa (qm (ql (qm ?_))))
    refine hk_region fun K hK => runs_eval tab_ok ?_
    simp only [ev0, evA, evB, evP, fl, gp, tab, simprocAttr, reduceCtorEq, reduceIte, il_get hlt, x3]
    refine fin_run ?_ (hK _ ?_) <;> clear hK <;> clear K
    · (first | exact trivial | omega | (simp only [In64] at *; omega) | (simp [In64] at *; omega) | (simp_all; done) | skip)
    refine qa (qm ?_)
    refine hk_region fun K hK => runs_eval tab_ok ?_
    simp only [ev0, evA, evB, evP, fl, gp, tab, simprocAttr, reduceCtorEq, reduceIte, il_length]
    refine fin_run trivial (hK _ ?_) <;> clear hK <;> clear K
    refine qa (ql ?_)
    refine hk_loop (ι := Nat) (fun j => ⟨39, [(2, .p (.int .i64 a)), (3, .p (.list (il (thl n q)))), (4, .ptr 0 0), (9, .p (.int .u64 (msk (pdl (op m n) a ((thl n p).take i) (thl n q) ++ pdr (op m n) x a ((thl n q).take j))))), (11, .p (.int .i64 x)), (14, .p (.list (il (thl n p)))), (15, .p (.int .i64 (thl n p).length)), (16, .p (.int .i64 i)), (20, .p (.list (il (thl n q)))), (21, .p (.int .i64 (thl n q).length)), (22, .p (.int .i64 j))], [.own [.p (.int .i64 n), .p (.list (il m))]]⟩) (fun j => j ≤ (thl n q).length) (fun j => (thl n q).length - j) 0 (Nat.zero_le _) [0] (by simp only [leq, leA, ev0, evA, evB, evP, fl, gp, tab, simprocAttr, reduceCtorEq, reduceIte] <;> first | trivial | simp [pdr]) fun j hj => ?_
    refine qm ?_
    refine hk_region fun K hK => runs_eval tab_ok ?_
    simp only [ev0, evA, evB, evP, fl, gp, tab, simprocAttr, reduceCtorEq, reduceIte]
    refine fin_run trivial (hK _ ?_) <;> clear hK <;> clear K
    refine qa (qm ?_)
    refine hk_cond rfl (fun hC2 => ?_) (fun hC2 => ?_)
    · (try simp only [nhs] at hC2)
      have hjl : j < (thl n q).length := by omega
      obtain ⟨y, y1, y2, y3⟩ := thl_get hjl
      have hxa := G.cl _ _ x1 ha
      have hc := G.cl _ _ hxa y1
      have hp := pow_lt64 (b := op m n (op m n x a) y) (by omega)
      have hall : ∀ z ∈ pdl (op m n) a ((thl n p).take i) (thl n q) ++ pdr (op m n) x a ((thl n q).take j), z.toNat < n := fun z hz => by
        rcases List.mem_append.1 hz with hz | hz
        · obtain ⟨u, hu, hv⟩ := List.mem_flatMap.1 hz
          obtain ⟨w, hw, rfl⟩ := List.mem_map.1 hv
          obtain ⟨u', u1, u2⟩ := thl_rng2 u (List.mem_of_mem_take hu)
          obtain ⟨w', w1, w2⟩ := thl_rng2 w hw
          subst u2; subst w2
          exact G.cl _ _ (G.cl _ _ u1 ha) w1
        · obtain ⟨w, hw, rfl⟩ := List.mem_map.1 hz
          obtain ⟨w', w1, w2⟩ := thl_rng2 w (List.mem_of_mem_take hw)
          subst w2
          exact G.cl _ _ hxa w1
      have hm := lt64 hb (msk_lt hall)
      refine qh (qa (qm (ql (qm ?_))))
      refine hk_region fun K hK => runs_eval tab_ok ?_
      simp only [ev0, evA, evB, evP, fl, gp, tab, simprocAttr, reduceCtorEq, reduceIte, il_get hjl, y3]
      refine fin_run ?_ (hK _ ?_) <;> clear hK <;> clear K
      · (first | exact trivial | omega | (simp only [In64] at *; omega) | (simp [In64] at *; omega) | (simp_all; done) | skip)
      refine qa ?_
      refine hk_draw mixed (by kernel_rfl) fun K hK => runs_eval tab_ok ?_
      simp only [ev0, evA, evB, evP, fl, gp, tab, simprocAttr, reduceCtorEq, reduceIte]
      refine fin_stop trivial (runs_call (of_c h.2.1 x1 ha) rfl rfl rfl (by simp only [dstOk, Nat.reduceLT]) (by repeat (first | exact trivial | constructor)) (runs_eval tab_ok ?_))
      simp only [ev0, evA, evB, evP, fl, gp, tab, simprocAttr, reduceCtorEq, reduceIte]
      refine fin_stop trivial (runs_call (of_c h.2.1 hxa y1) rfl rfl rfl (by simp only [dstOk, Nat.reduceLT]) (by repeat (first | exact trivial | constructor)) (runs_eval tab_ok ?_))
      simp only [ev0, evA, evB, evP, fl, gp, tab, simprocAttr, reduceCtorEq, reduceIte, shl_one (show op m n (op m n x a) y < 64 by omega), bv_or hm hp]
      refine fin_run ?_ (hK _ ?_) <;> clear hK <;> clear K
      · (first | exact trivial | omega | (simp only [In64] at *; omega) | (simp [In64] at *; omega) | (simp_all; done) | skip)
      refine qd (qa ?_)
      refine hk_region fun K hK => runs_eval tab_ok ?_
      simp only [ev0, evA, evB, evP, fl, gp, tab, simprocAttr, reduceCtorEq, reduceIte]
      refine fin_run ?_ (hK _ ?_) <;> clear hK <;> clear K
      · (first | exact trivial | omega | (simp only [In64] at *; omega) | (simp [In64] at *; omega) | (simp_all; done) | skip)
      refine qa ?_
      refine ⟨j + 1, [0], by omega, by omega, ?_⟩
      rw [pdr_succ (op m n) x a hjl, ← List.append_assoc, msk_snoc, y3]
      simp only [leq, leA, ev0, evA, evB, evP, fl, gp, tab, simprocAttr, reduceCtorEq, reduceIte] <;> first | trivial | omega
    · (try simp only [nhs] at hC2)
      have hjn : j = (thl n q).length := by omega
      rw [hjn, List.take_length]
      refine qj (qc (qc (qf (qd (qa ?_)))))
      refine hk_region fun K hK => runs_eval tab_ok ?_
      simp only [ev0, evA, evB, evP, fl, gp, tab, simprocAttr, reduceCtorEq, reduceIte]
      refine fin_run ?_ (hK _ ?_) <;> clear hK <;> clear K
      · (first | exact trivial | omega | (simp only [In64] at *; omega) | (simp [In64] at *; omega) | (simp_all; done) | skip)
      refine qa ?_
      refine ⟨i + 1, [0], by omega, by omega, ?_⟩
      rw [pdl_succ (op m n) a (thl n q) hlt, x3]
      simp only [leq, leA, ev0, evA, evB, evP, fl, gp, tab, simprocAttr, reduceCtorEq, reduceIte] <;> first | trivial | omega
  · (try simp only [nhs] at hC1)
    have hin : i = (thl n p).length := by omega
    rw [hin, List.take_length, msk_pdl G p q ha]
    refine qj (qc (qc (qf (qa (qm ?_)))))
    refine hk_region fun K hK => runs_eval tab_ok ?_
    simp only [ev0, evA, evB, evP, fl, gp, tab, simprocAttr, reduceCtorEq, reduceIte]
    refine fin_run trivial (hK _ ?_) <;> clear hK <;> clear K
    refine qa (qk ?_)
    simp only [Tryd.results117, enA, ev0, evA, evB, evP, fl, gp, tab, simprocAttr, reduceCtorEq, reduceIte]
    all_goals (rfl)

theorem one_s {n e : Nat} {m : List Int} (h : GT n m n e) : FnC Tryd.prog 118 [gp n m] (.list (il (thl n (onp e)))) := by
  have ht : thl n (onp e) = [(e : Int)] := thl_one h.2.2.el
  refine fnc_of tab_ok Tryd.func118 rfl (by kernel_rfl) (by rw [Tryd.ntmps118]; exact Nat.le_add_left 1 _) ?_; rw [Tryd.ntmps118]
  refine qm ?_
  refine hk_region fun K hK => runs_eval tab_ok ?_
  simp only [ev0, evA, evB, evP, fl, gp, tab, simprocAttr, reduceCtorEq, reduceIte]
  refine fin_run ?_ (hK _ ?_) <;> clear hK <;> clear K
  · (first | exact trivial | omega | (simp only [In64] at *; omega) | (simp [In64] at *; omega) | (simp_all; done) | skip)
  refine qa (qm ?_)
  refine hk_region fun K hK => runs_eval tab_ok ?_
  simp only [ev0, evA, evB, evP, fl, gp, tab, simprocAttr, reduceCtorEq, reduceIte]
  refine fin_stop trivial (runs_call (oneOf_c h) rfl rfl rfl (by simp only [dstOk, Nat.reduceLT]) (by repeat (first | exact trivial | constructor)) (runs_eval tab_ok ?_))
  simp only [ev0, evA, evB, evP, fl, gp, tab, simprocAttr, reduceCtorEq, reduceIte]
  refine fin_run ?_ (hK _ ?_) <;> clear hK <;> clear K
  · (first | exact trivial | omega | (simp only [In64] at *; omega) | (simp [In64] at *; omega) | (simp_all; done) | skip)
  refine qa (qk ?_)
  simp only [Tryd.results118, enA, ev0, evA, evB, evP, fl, gp, tab, simprocAttr, reduceCtorEq, reduceIte]
  all_goals (rw [ht]; rfl)

theorem right1_c {n e : Nat} {m : List Int} (h : GT n m n e) (p : Nat → Bool) {a : Nat} (ha : a < n) : FnC Tryd.prog 116 [.int .i64 a, .ptr [.int .i64 n, .list (il m)], .ptr [.list (il (thl n p))]] (.int .u64 (bo n (dco n (op m n) p (onp e) a))) := by
  refine fnc_of tab_ok Tryd.func116 rfl (by kernel_rfl) (by rw [Tryd.ntmps116]; exact Nat.le_add_left 3 _) ?_; rw [Tryd.ntmps116]
  refine qm ?_
  refine hk_region fun K hK => runs_eval tab_ok ?_
  simp only [ev0, evA, evB, evP, fl, gp, tab, simprocAttr, reduceCtorEq, reduceIte]
  refine fin_run trivial (hK _ ?_) <;> clear hK <;> clear K
  refine qa (qm ?_)
  refine hk_draw mixed (by kernel_rfl) fun K hK => runs_eval tab_ok ?_
  simp only [ev0, evA, evB, evP, fl, gp, tab, simprocAttr, reduceCtorEq, reduceIte]
  refine fin_stop trivial (runs_call (one_s h) rfl rfl rfl (by simp only [dstOk, Nat.reduceLT]) (by repeat (first | exact trivial | constructor)) (runs_eval tab_ok ?_))
  simp only [ev0, evA, evB, evP, fl, gp, tab, simprocAttr, reduceCtorEq, reduceIte]
  refine fin_stop trivial (runs_call (product_s h p (onp e) ha) rfl rfl rfl (by simp only [dstOk, Nat.reduceLT]) (by repeat (first | exact trivial | constructor)) (runs_eval tab_ok ?_))
  simp only [ev0, evA, evB, evP, fl, gp, tab, simprocAttr, reduceCtorEq, reduceIte]
  refine fin_run ?_ (hK _ ?_) <;> clear hK <;> clear K
  · (first | exact trivial | omega | (simp only [In64] at *; omega) | (simp [In64] at *; omega) | (simp_all; done) | skip)
  refine qa (qk ?_)
  simp only [Tryd.results116, enA, ev0, evA, evB, evP, fl, gp, tab, simprocAttr, reduceCtorEq, reduceIte]
  all_goals (rfl)
theorem right_ok {n e : Nat} {m : List Int} (h : GT n m n e) (p : Nat → Bool) (hs : Sub n (op m n) e p) : FnC Tryd.prog 56 [gp n m, .list (il (thl n p))] (.tup [.list (ll (cst n (dco n (op m n) p (onp e)))), fl (0, 0)]) := by
  have G := h.2.2
  have hb := h.2.1.big
  refine fnc_of tab_ok Tryd.func56 rfl (by kernel_rfl) (by rw [Tryd.ntmps56]; exact Nat.le_add_left 2 _) ?_; rw [Tryd.ntmps56]
  refine qm ?_
  refine hk_region fun K hK => runs_eval tab_ok ?_
  simp only [ev0, evA, evB, evP, fl, gp, tab, simprocAttr, reduceCtorEq, reduceIte]
  refine fin_run ?_ (hK _ ?_) <;> clear hK <;> clear K
  · (first | exact trivial | omega | (simp only [In64] at *; omega) | (simp [In64] at *; omega) | (simp_all; done) | skip)
  refine qa (qm (qm ?_))
  refine hk_region fun K hK => runs_eval tab_ok ?_
  simp only [ev0, evA, evB, evP, fl, gp, tab, simprocAttr, reduceCtorEq, reduceIte]
  refine fin_stop trivial (runs_call (group_ok h p true (by simp [hs])) rfl rfl rfl (by simp only [dstOk, Nat.reduceLT]) (by repeat (first | exact trivial | constructor)) (runs_eval tab_ok ?_))
  simp only [ev0, evA, evB, evP, fl, gp, tab, simprocAttr, reduceCtorEq, reduceIte, ufb]
  refine fin_run ?_ (hK _ ?_) <;> clear hK <;> clear K
  · (first | exact trivial | omega | (simp only [In64] at *; omega) | (simp [In64] at *; omega) | (simp_all; done) | skip)
  refine qa (qm ?_)
  refine hk_region fun K hK => runs_eval tab_ok ?_
  simp only [ev0, evA, evB, evP, fl, gp, tab, simprocAttr, reduceCtorEq, reduceIte]
  refine fin_run ?_ (hK _ ?_) <;> clear hK <;> clear K
  · (first | exact trivial | omega | (simp only [In64] at *; omega) | (simp [In64] at *; omega) | (simp_all; done) | skip)
  refine qa ?_
  refine hk_cond rfl (fun hC1 => ?_) (fun hC1 => ?_)
  · cases hC1
  · (try simp only [nhs] at hC1)
    refine qh (qa (qm ?_))
    refine hk_freeze 0 rfl rfl ?_
    refine hk_freeze 1 rfl rfl ?_
    simp only [hset]
    refine hk_region fun K hK => runs_eval tab_ok ?_
    simp only [ev0, evA, evB, evP, fl, gp, tab, simprocAttr, reduceCtorEq, reduceIte]
    refine fin_stop trivial (runs_call (gather_c n hb _ _ (dco n (op m n) p (onp e)) (G.dco_eqv hs G.onp_sub) (fun a ha => right1_c h p ha)) rfl rfl rfl (by simp only [dstOk, Nat.reduceLT]) (by repeat (first | exact trivial | constructor)) (runs_eval tab_ok ?_))
    simp only [ev0, evA, evB, evP, fl, gp, tab, simprocAttr, reduceCtorEq, reduceIte]
    refine fin_run ?_ (hK _ ?_) <;> clear hK <;> clear K
    · (first | exact trivial | omega | (simp only [In64] at *; omega) | (simp [In64] at *; omega) | (simp_all; done) | skip)
    refine qa (qk ?_)
    simp only [Tryd.results56, enA, ev0, evA, evB, evP, fl, gp, tab, simprocAttr, reduceCtorEq, reduceIte]
    all_goals ((first | exact rfl | exact ⟨rfl, rfl⟩ | exact ⟨rfl, rfl, rfl⟩ | exact ⟨trivial, rfl⟩ | exact ⟨Nat.le_refl _, rfl⟩ | trivial | (simp; done)))
/-! ### As the document has them -/

/-! ### An example of the document -/

def cy4 : List Int := [0, 1, 2, 3, 1, 2, 3, 0, 2, 3, 0, 1, 3, 0, 1, 2]
def ev4 (x : Nat) : Bool := x == 0 || x == 2
end Go.Proofs.YtjbfkdaodfdpcaaDoor

/-
  The quotient of a group by a congruence; by a normal subgroup. Conditions: none.
-/
set_option linter.all false
namespace Go.Proofs.YtjbfkdaodfdpcaaDoor
open Go.Pv

/-- Places for classes: of each thing its place; of each place a thing. -/
structure Qm (n : Nat) (f : Nat → Nat → Nat) (k : Nat) (cl rep : Nat → Nat) : Prop where
  lt : ∀ a, a < n → cl a < k
  rlt : ∀ i, i < k → rep i < n
  at_ : ∀ i, i < k → cl (rep i) = i
  cong : ∀ a b c d, a < n → b < n → c < n → d < n → cl a = cl b → cl c = cl d → cl (f a c) = cl (f b d)

section
variable {n : Nat} {f : Nat → Nat → Nat} {e : Nat} {p : Nat → Bool}
def qop (f : Nat → Nat → Nat) (cl rep : Nat → Nat) (i j : Nat) : Nat := cl (f (rep i) (rep j))
theorem Qm.op {k : Nat} {cl rep : Nat → Nat} (Q : Qm n f k cl rep) {a b : Nat} (ha : a < n) (hb : b < n) : qop f cl rep (cl a) (cl b) = cl (f a b) :=
  Q.cong _ _ _ _ (Q.rlt _ (Q.lt a ha)) ha (Q.rlt _ (Q.lt b hb)) hb (Q.at_ _ (Q.lt a ha)) (Q.at_ _ (Q.lt b hb))
theorem Qm.grp {k : Nat} {cl rep : Nat → Nat} (Q : Qm n f k cl rep) (G : Grp n f e) : Grp k (qop f cl rep) (cl e) where
  pos := Nat.lt_of_le_of_lt (Nat.zero_le _) (Q.lt e G.el)
  cl i j hi hj := Q.lt _ (G.cl _ _ (Q.rlt i hi) (Q.rlt j hj))
  el := Q.lt e G.el
  one_l i hi := by
    have h1 := Q.rlt i hi
    have h2 := Q.op G.el h1
    rw [Q.at_ i hi, G.one_l _ h1, Q.at_ i hi] at h2; exact h2
  one_r i hi := by
    have h1 := Q.rlt i hi
    have h2 := Q.op h1 G.el
    rw [Q.at_ i hi, G.one_r _ h1, Q.at_ i hi] at h2; exact h2
  assoc i j l hi hj hl := by
    have h1 := Q.rlt i hi
    have h2 := Q.rlt j hj
    have h3 := Q.rlt l hl
    have e1 := Q.op (G.cl _ _ h1 h2) h3
    have e2 := Q.op h1 (G.cl _ _ h2 h3)
    rw [Q.at_ l hl] at e1
    rw [Q.at_ i hi] at e2
    have e3 : qop f cl rep i j = cl (f (rep i) (rep j)) := rfl
    have e4 : qop f cl rep j l = cl (f (rep j) (rep l)) := rfl
    rw [e3, e4, e1, e2, G.assoc _ _ _ h1 h2 h3]
  inv i hi := by
    have h1 := Q.rlt i hi
    have h2 := G.iv_lt h1
    have e1 := Q.op h1 h2
    have e2 := Q.op h2 h1
    rw [Q.at_ i hi] at e1 e2
    exact ⟨_, Q.lt _ h2, by rw [e1, G.mul_iv h1], by rw [e2, G.iv_mul h1]⟩

/-- Of a normal subgroup: alike things have alike products. -/
theorem Grp.rco_cong (G : Grp n f e) (hp : Sub n f e p) (hn : Nml n f e p) {a b c d : Nat} (ha : a < n) (hb : b < n) (hc : c < n) (hd : d < n) (h1 : dco n f p (onp e) a b = true) (h2 : dco n f p (onp e) c d = true) : dco n f p (onp e) (f a c) (f b d) = true := by
  have ia := G.iv_lt ha
  have ic := G.iv_lt hc
  have h3 := G.cl _ _ hb ia
  have h4 := G.cl _ _ hd ic
  rw [G.rco_iff ha hb] at h1
  rw [G.rco_iff hc hd] at h2
  rw [G.rco_iff (G.cl _ _ ha hc) (G.cl _ _ hb hd), G.iv_prod ha hc]
  -- b d c' a' = (b a') (a (d c') a')
  have h5 := hn _ ia _ h4 h2
  unfold cjr at h5
  rw [G.iv_iv ha] at h5
  have h6 := hp.mul _ _ h3 (G.cl _ _ (G.cl _ _ ha h4) ia) h1 h5
  have e1 : f (f b (iv n f e a)) (f (f a (f d (iv n f e c))) (iv n f e a)) = f (f b d) (f (iv n f e c) (iv n f e a)) := by
    rw [G.assoc b _ _ hb ia (G.cl _ _ (G.cl _ _ ha h4) ia), G.assoc a _ _ ha h4 ia, ← G.assoc _ a _ ia ha (G.cl _ _ h4 ia), G.iv_mul ha, G.one_l _ (G.cl _ _ h4 ia), G.assoc d _ _ hd ic ia, ← G.assoc b d _ hb hd (G.cl _ _ ic ia)]
  rw [← e1]; exact h6
end
end Go.Proofs.YtjbfkdaodfdpcaaDoor

/-
  Tables by a rule. Conditions: none.
-/
set_option linter.all false
namespace Go.Proofs.YtjbfkdaodfdpcaaDoor
open Go.Pv

theorem Grp.cong' {n : Nat} {f f' : Nat → Nat → Nat} {e : Nat} (G : Grp n f e) (h : ∀ a b, a < n → b < n → f' a b = f a b) : Grp n f' e := by
  refine ⟨G.pos, fun a b ha hb => by rw [h a b ha hb]; exact G.cl a b ha hb, G.el, fun a ha => by rw [h e a G.el ha]; exact G.one_l a ha, fun a ha => by rw [h a e ha G.el]; exact G.one_r a ha, fun a b c ha hb hc => ?_, fun a ha => ?_⟩
  · rw [h a b ha hb, h _ c (G.cl a b ha hb) hc, h b c hb hc, h a _ ha (G.cl b c hb hc)]
    exact G.assoc a b c ha hb hc
  · obtain ⟨b, hb, h1, h2⟩ := G.inv a ha
    exact ⟨b, hb, by rw [h a b ha hb]; exact h1, by rw [h b a hb ha]; exact h2⟩
theorem tbl_op' (g : Nat → Nat → Nat) {n a b : Nat} (ha : a < n) (hb : b < n) : op (tbl (fun a b => (g a b : Nat)) n) n a b = g a b := by
  unfold op
  rw [tbl_get _ ha hb]; rfl
theorem tbl_Tab {n : Nat} {g : Nat → Nat → Nat} (h1 : 1 ≤ n) (hn : n ≤ 60) (hg : ∀ a b, a < n → b < n → g a b < n) : Tab n (tbl (fun a b => (g a b : Nat)) n) := by
  refine ⟨h1, hn, tbl_len _ _, fun i hi => ?_⟩
  have h1 : i / n < n := Nat.div_lt_of_lt_mul hi
  have h2 : i % n < n := Nat.mod_lt _ (by omega)
  have h3 : i / n * n + i % n = i := by rw [Nat.mul_comm]; exact Nat.div_add_mod i n
  have := tbl_get (fun a b => ((g a b : Nat) : Int)) h1 h2
  rw [h3] at this
  rw [this]
  have := hg _ _ h1 h2
  omega
theorem tbl_GT' {n e : Nat} {g : Nat → Nat → Nat} (hn : n ≤ 60) (G : Grp n g e) : GT n (tbl (fun a b => (g a b : Nat)) n) n e :=
  ⟨rfl, tbl_Tab G.pos hn G.cl, G.cong' fun a b ha hb => tbl_op' g ha hb⟩

end Go.Proofs.YtjbfkdaodfdpcaaDoor

/-
  Quotients, of the program and of the document. Conditions: none.
-/
set_option linter.all false
namespace Go.Proofs.YtjbfkdaodfdpcaaDoor
open Go.Pv

/-- The fault of a subgroup that is, or is not, normal. -/
def nfb (b : Bool) : Int × Int := bif b then (0, 0) else (4, 0)
theorem nfb_t : nfb true = (0, 0) := rfl
theorem qfault_c (c a : Int) : FnC Tryd.prog 141 [.int .i64 c, .int .i64 a] (fl (c, a)) := by
  refine fnc_of tab_ok Tryd.func141 rfl (by kernel_rfl) (by rw [Tryd.ntmps141]; exact Nat.le_add_left 2 _) ?_; rw [Tryd.ntmps141]
  refine qm ?_
  refine hk_region fun K hK => runs_eval tab_ok ?_
  simp only [ev0, evA, evB, evP, fl, gp, tab, simprocAttr, reduceCtorEq, reduceIte]
  refine fin_run ?_ (hK _ ?_) <;> clear hK <;> clear K
  · (first | exact trivial | omega | (simp only [In64] at *; omega) | (simp [In64] at *; omega) | (simp_all; done) | skip)
  refine qa (qm ?_)
  refine hk_region fun K hK => runs_eval tab_ok ?_
  simp only [ev0, evA, evB, evP, fl, gp, tab, simprocAttr, reduceCtorEq, reduceIte]
  refine fin_run ?_ (hK _ ?_) <;> clear hK <;> clear K
  · (first | exact trivial | omega | (simp only [In64] at *; omega) | (simp [In64] at *; omega) | (simp_all; done) | skip)
  refine qa (qk ?_)
  simp only [Tryd.results141, enA, ev0, evA, evB, evP, fl, gp, tab, simprocAttr, reduceCtorEq, reduceIte]
  all_goals ((first | exact rfl | exact ⟨rfl, rfl⟩ | exact ⟨rfl, rfl, rfl⟩ | exact ⟨trivial, rfl⟩ | exact ⟨Nat.le_refl _, rfl⟩ | trivial | (simp; done)))
theorem quotN_ok {n e : Nat} {m : List Int} (h : GT n m n e) (p : Nat → Bool) (hs : Sub n (op m n) e p) (b : Bool) (hb' : b = true ↔ Nml n (op m n) e p) : FnC Tryd.prog 91 [gp n m, .list (il (thl n p))] (fl (nfb b)) := by
  refine fnc_of tab_ok Tryd.func91 rfl (by kernel_rfl) (by rw [Tryd.ntmps91]; exact Nat.le_add_left 2 _) ?_; rw [Tryd.ntmps91]
  refine qm ?_
  refine hk_region fun K hK => runs_eval tab_ok ?_
  simp only [ev0, evA, evB, evP, fl, gp, tab, simprocAttr, reduceCtorEq, reduceIte]
  refine fin_run ?_ (hK _ ?_) <;> clear hK <;> clear K
  · (first | exact trivial | omega | (simp only [In64] at *; omega) | (simp [In64] at *; omega) | (simp_all; done) | skip)
  refine qa (qm ?_)
  refine hk_region fun K hK => runs_eval tab_ok ?_
  simp only [ev0, evA, evB, evP, fl, gp, tab, simprocAttr, reduceCtorEq, reduceIte]
  refine fin_stop trivial (runs_call (normal_ok h p hs b hb') rfl rfl rfl (by simp only [dstOk, Nat.reduceLT]) (by repeat (first | exact trivial | constructor)) (runs_eval tab_ok ?_))
  simp only [ev0, evA, evB, evP, fl, gp, tab, simprocAttr, reduceCtorEq, reduceIte]
  refine fin_run ?_ (hK _ ?_) <;> clear hK <;> clear K
  · (first | exact trivial | omega | (simp only [In64] at *; omega) | (simp [In64] at *; omega) | (simp_all; done) | skip)
  refine qa (qm (qm ?_))
  refine hk_region fun K hK => runs_eval tab_ok ?_
  simp only [ev0, evA, evB, evP, fl, gp, tab, simprocAttr, reduceCtorEq, reduceIte]
  refine fin_run ?_ (hK _ ?_) <;> clear hK <;> clear K
  · (first | exact trivial | omega | (simp only [In64] at *; omega) | (simp [In64] at *; omega) | (simp_all; done) | skip)
  refine qa ?_
  refine hk_cond rfl (fun hC1 => ?_) (fun hC1 => ?_)
  · (try simp only [nhs] at hC1)
    have hbf : b = false := by simpa using hC1
    refine qm ?_
    refine hk_region fun K hK => runs_eval tab_ok ?_
    simp only [ev0, evA, evB, evP, fl, gp, tab, simprocAttr, reduceCtorEq, reduceIte]
    refine fin_stop trivial (runs_call (qfault_c 4 0) rfl rfl rfl (by simp only [dstOk, Nat.reduceLT]) (by repeat (first | exact trivial | constructor)) (runs_eval tab_ok ?_))
    simp only [ev0, evA, evB, evP, fl, gp, tab, simprocAttr, reduceCtorEq, reduceIte]
    refine fin_run ?_ (hK _ ?_) <;> clear hK <;> clear K
    · (first | exact trivial | omega | (simp only [In64] at *; omega) | (simp [In64] at *; omega) | (simp_all; done) | skip)
    refine qa (qk (qb ?_))
    simp only [Tryd.results91, enA, ev0, evA, evB, evP, fl, gp, tab, simprocAttr, reduceCtorEq, reduceIte]
    all_goals (rw [hbf]; exact ⟨rfl, rfl⟩)
  · (try simp only [nhs] at hC1)
    have hbt : b = true := by simpa using hC1
    refine qh (qa (qm ?_))
    refine hk_region fun K hK => runs_eval tab_ok ?_
    simp only [ev0, evA, evB, evP, fl, gp, tab, simprocAttr, reduceCtorEq, reduceIte]
    refine fin_run ?_ (hK _ ?_) <;> clear hK <;> clear K
    · (first | exact trivial | omega | (simp only [In64] at *; omega) | (simp [In64] at *; omega) | (simp_all; done) | skip)
    refine qa (qk ?_)
    simp only [Tryd.results91, enA, ev0, evA, evB, evP, fl, gp, tab, simprocAttr, reduceCtorEq, reduceIte]
    all_goals (rw [hbt]; exact ⟨rfl, rfl⟩)
/-! ### Places of classes -/

def rpq (n : Nat) (r : Nat → Nat → Bool) (i : Nat) : Nat := (mem n (lead r)).getD i 0
def clq (n : Nat) (r : Nat → Nat → Bool) (a : Nat) : Nat := (wch (cst n r) a).toNat
section
variable {n : Nat} {r : Nat → Nat → Bool}
theorem clq_at (E : Eqv n r) {a : Nat} (ha : a < n) : clq n r a < (cst n r).length ∧ wch (cst n r) a = (clq n r a : Int) ∧ ((a : Nat) : Int) ∈ (cst n r).getD (clq n r a) [] := by
  obtain ⟨i, i1, i2⟩ := cst_in E ha
  have h1 := wch_at E i1 ha i2
  have h2 : clq n r a = i := by unfold clq; rw [h1]; rfl
  rw [h2]
  exact ⟨i1, h1, i2⟩
theorem clq_iff (E : Eqv n r) {a b : Nat} (ha : a < n) (hb : b < n) : clq n r a = clq n r b ↔ r a b = true := by
  obtain ⟨a1, a2, a3⟩ := clq_at E ha
  obtain ⟨b1, b2, b3⟩ := clq_at E hb
  obtain ⟨x, x1, x2, x3, x4⟩ := cst_get a1
  rw [x3, mem_thl_n ha] at a3
  constructor
  · intro he
    rw [← he, x3, mem_thl_n hb] at b3
    exact E.trans a x b ha x1 hb (E.symm x a x1 ha a3) b3
  · intro hr
    have : ((b : Nat) : Int) ∈ (cst n r).getD (clq n r a) [] := by rw [x3, mem_thl_n hb]; exact E.trans x a b x1 ha hb a3 hr
    exact cst_apart E a1 b1 hb this b3
theorem rpq_at (E : Eqv n r) {i : Nat} (hi : i < (cst n r).length) : rpq n r i < n ∧ clq n r (rpq n r i) = i ∧ (cst n r).getD i [] = thl n (r (rpq n r i)) ∧ lead r (rpq n r i) = true := by
  obtain ⟨x, x1, x2, x3, x4⟩ := cst_get hi
  have h1 : rpq n r i = x := x4
  rw [h1]
  have h2 : ((x : Nat) : Int) ∈ (cst n r).getD i [] := by rw [x3, mem_thl_n x1]; exact E.refl x x1
  have h3 := wch_at E hi x1 h2
  exact ⟨x1, by unfold clq; rw [h3]; rfl, x3, x2⟩
theorem whl_get (E : Eqv n r) {a : Nat} (ha : a < n) : (whl n r).getD a 0 = (clq n r a : Int) := by
  unfold whl; rw [rgz_get ha]; exact (clq_at E ha).2.1
theorem whl_len (n : Nat) (r : Nat → Nat → Bool) : (whl n r).length = n := rgz_len _ _
theorem cst_qm {f : Nat → Nat → Nat} {e : Nat} (G : Grp n f e) (E : Eqv n r) (hc : ∀ a b c d, a < n → b < n → c < n → d < n → r a b = true → r c d = true → r (f a c) (f b d) = true) : Qm n f (cst n r).length (clq n r) (rpq n r) where
  lt a ha := (clq_at E ha).1
  rlt i hi := (rpq_at E hi).1
  at_ i hi := (rpq_at E hi).2.1
  cong a b c d ha hb hc' hd h1 h2 := (clq_iff E (G.cl _ _ ha hc') (G.cl _ _ hb hd)).2 (hc a b c d ha hb hc' hd ((clq_iff E ha hb).1 h1) ((clq_iff E hc' hd).1 h2))
end
/-- The quotient's table. -/
def qtb (n : Nat) (f : Nat → Nat → Nat) (r : Nat → Nat → Bool) : List Int := tbl (fun i j => ((qop f (clq n r) (rpq n r) i j : Nat) : Int)) (cst n r).length

theorem quotient_w (N : Int) (m l : List Int) (w : Int × Int) (hG : FnC Tryd.prog 91 [gp N m, .list (il l)] (fl w)) (hw : ¬ w.1 = 0) : FnC Tryd.prog 28 [gp N m, .list (il l)] (.tup [gp 0 [], .list [], fl w]) := by
  refine fnc_of tab_ok Tryd.func28 rfl (by kernel_rfl) (by rw [Tryd.ntmps28]; exact Nat.le_add_left 2 _) ?_; rw [Tryd.ntmps28]
  refine qm ?_
  refine hk_region fun K hK => runs_eval tab_ok ?_
  simp only [ev0, evA, evB, evP, fl, gp, tab, simprocAttr, reduceCtorEq, reduceIte]
  refine fin_run ?_ (hK _ ?_) <;> clear hK <;> clear K
  · (first | exact trivial | omega | (simp only [In64] at *; omega) | (simp [In64] at *; omega) | (simp_all; done) | skip)
  refine qa (qm (qm ?_))
  refine hk_region fun K hK => runs_eval tab_ok ?_
  simp only [ev0, evA, evB, evP, fl, gp, tab, simprocAttr, reduceCtorEq, reduceIte]
  refine fin_stop trivial (runs_call (hG) rfl rfl rfl (by simp only [dstOk, Nat.reduceLT]) (by repeat (first | exact trivial | constructor)) (runs_eval tab_ok ?_))
  simp only [ev0, evA, evB, evP, fl, gp, tab, simprocAttr, reduceCtorEq, reduceIte]
  refine fin_run ?_ (hK _ ?_) <;> clear hK <;> clear K
  · (first | exact trivial | omega | (simp only [In64] at *; omega) | (simp [In64] at *; omega) | (simp_all; done) | skip)
  refine qa (qm ?_)
  refine hk_region fun K hK => runs_eval tab_ok ?_
  simp only [ev0, evA, evB, evP, fl, gp, tab, simprocAttr, reduceCtorEq, reduceIte]
  refine fin_run ?_ (hK _ ?_) <;> clear hK <;> clear K
  · (first | exact trivial | omega | (simp only [In64] at *; omega) | (simp [In64] at *; omega) | (simp_all; done) | skip)
  refine qa ?_
  refine hk_cond rfl (fun hC1 => ?_) (fun hC1 => ?_)
  · (try simp only [nhs] at hC1)
    refine qm ?_
    refine hk_draw2 mixed fun K hK => runs2_eval tab_ok ?_
    simp only [evD, ev0, evA, evB, evP, fl, gp, tab, simprocAttr, reduceCtorEq, reduceIte]
    refine fin2_run ?_ (hK _ _ (by first | kernel_rfl | rfl) ?_) <;> clear hK <;> clear K
    · (first | exact trivial | omega | (simp only [In64] at *; omega) | (simp [In64] at *; omega) | (simp_all; done) | skip)
    refine qa (qk (qb ?_))
    simp only [Tryd.results28, enA, ev0, evA, evB, evP, fl, gp, tab, simprocAttr, reduceCtorEq, reduceIte]
    all_goals (simp [il])
  · (try simp only [nhs] at hC1)
    exact absurd hC1 hw

set_option maxHeartbeats 4000000 in
theorem quotient_ok {n e : Nat} {m : List Int} (h : GT n m n e) (p : Nat → Bool) (hs : Sub n (op m n) e p) (hN : Nml n (op m n) e p) :
    FnC Tryd.prog 28 [gp n m, .list (il (thl n p))] (.tup [gp (cst n (dco n (op m n) p (onp e))).length (qtb n (op m n) (dco n (op m n) p (onp e))), .list (il (whl n (dco n (op m n) p (onp e)))), fl (0, 0)]) := by
  have G := h.2.2
  have hb := h.2.1.big
  have E := G.dco_eqv hs G.onp_sub
  have hR := right_ok h p hs
  have Q := cst_qm G E fun a b c d ha hb' hc hd h1 h2 => G.rco_cong hs hN ha hb' hc hd h1 h2
  generalize dco n (op m n) p (onp e) = r at *
  have hcl : (cst n r).length ≤ n := cstp_len _ _ _
  have hsq := sq_le (show (cst n r).length ≤ 60 by omega)
  have hlen := tbr_len (fun i j => ((qop (op m n) (clq n r) (rpq n r) i j : Nat) : Int)) (cst n r).length
  refine fnc_of tab_ok Tryd.func28 rfl (by kernel_rfl) (by rw [Tryd.ntmps28]; exact Nat.le_add_left 2 _) ?_; rw [Tryd.ntmps28]
  refine qm ?_
  refine hk_region fun K hK => runs_eval tab_ok ?_
  simp only [ev0, evA, evB, evP, fl, gp, tab, simprocAttr, reduceCtorEq, reduceIte]
  refine fin_run ?_ (hK _ ?_) <;> clear hK <;> clear K
  · (first | exact trivial | omega | (simp only [In64] at *; omega) | (simp [In64] at *; omega) | (simp_all; done) | skip)
  refine qa (qm (qm ?_))
  refine hk_region fun K hK => runs_eval tab_ok ?_
  simp only [ev0, evA, evB, evP, fl, gp, tab, simprocAttr, reduceCtorEq, reduceIte, nfb_t]
  refine fin_stop trivial (runs_call (quotN_ok h p hs true (by simp [hN])) rfl rfl rfl (by simp only [dstOk, Nat.reduceLT]) (by repeat (first | exact trivial | constructor)) (runs_eval tab_ok ?_))
  simp only [ev0, evA, evB, evP, fl, gp, tab, simprocAttr, reduceCtorEq, reduceIte, nfb_t]
  refine fin_run ?_ (hK _ ?_) <;> clear hK <;> clear K
  · (first | exact trivial | omega | (simp only [In64] at *; omega) | (simp [In64] at *; omega) | (simp_all; done) | skip)
  refine qa (qm ?_)
  refine hk_region fun K hK => runs_eval tab_ok ?_
  simp only [ev0, evA, evB, evP, fl, gp, tab, simprocAttr, reduceCtorEq, reduceIte]
  refine fin_run ?_ (hK _ ?_) <;> clear hK <;> clear K
  · (first | exact trivial | omega | (simp only [In64] at *; omega) | (simp [In64] at *; omega) | (simp_all; done) | skip)
  refine qa ?_
  refine hk_cond rfl (fun hC1 => ?_) (fun hC1 => ?_)
  · cases hC1
  · (try simp only [nhs] at hC1)
    refine qh (qa (qm ?_))
    refine hk_region fun K hK => runs_eval tab_ok ?_
    simp only [ev0, evA, evB, evP, fl, gp, tab, simprocAttr, reduceCtorEq, reduceIte]
    refine fin_stop trivial (runs_call (hR) rfl rfl rfl (by simp only [dstOk, Nat.reduceLT]) (by repeat (first | exact trivial | constructor)) (runs_eval tab_ok ?_))
    simp only [ev0, evA, evB, evP, fl, gp, tab, simprocAttr, reduceCtorEq, reduceIte]
    refine fin_run ?_ (hK _ ?_) <;> clear hK <;> clear K
    · (first | exact trivial | omega | (simp only [In64] at *; omega) | (simp [In64] at *; omega) | (simp_all; done) | skip)
    refine qa (qm (qm ?_))
    refine hk_region fun K hK => runs_eval tab_ok ?_
    simp only [ev0, evA, evB, evP, fl, gp, tab, simprocAttr, reduceCtorEq, reduceIte]
    refine fin_run ?_ (hK _ ?_) <;> clear hK <;> clear K
    · (first | exact trivial | omega | (simp only [In64] at *; omega) | (simp [In64] at *; omega) | (simp_all; done) | skip)
    refine qa ?_
    refine hk_cond rfl (fun hC2 => ?_) (fun hC2 => ?_)
    · cases hC2
    · (try simp only [nhs] at hC2)
      refine qh (qa (qm ?_))
      refine hk_region fun K hK => runs_eval tab_ok ?_
      simp only [ev0, evA, evB, evP, fl, gp, tab, simprocAttr, reduceCtorEq, reduceIte, makeSliceA.eq_def, rgz_new]
      refine fin_run ?_ (hK _ ?_) <;> clear hK <;> clear K
      · omega
      refine qa (qm (qm ?_))
      refine hk_region fun K hK => runs_eval tab_ok ?_
      simp only [ev0, evA, evB, evP, fl, gp, tab, simprocAttr, reduceCtorEq, reduceIte]
      refine fin_run trivial (hK _ ?_) <;> clear hK <;> clear K
      refine qa (ql ?_)
      refine hk_loop (ι := Nat × (Nat → Int)) (fun p => ⟨97, [(2, .ptr 0 0), (4, .ptr 1 0), (6, .ptr 2 0), (8, .p (.list (ll (cst n r)))), (9, .ptr 3 0), (10, .sl 4 0 n), (42, .p (.list (ll (cst n r)))), (43, .p (.int .i64 (cst n r).length)), (44, .p (.int .i64 p.1))], [.own [.p (.int .i64 n), .p (.list (il m))], .own [.p (.int .i64 0), .p .nil], .own [.p (.int .i64 0), .p (.int .i64 0)], .own [.p (.int .i64 0), .p (.int .i64 0)], .own (ol (rgz n p.2))]⟩) (fun p => p.1 ≤ (cst n r).length ∧ ∀ a, a < n → ∀ k, k < p.1 → ((a : Nat) : Int) ∈ (cst n r).getD k [] → p.2 a = (k : Int)) (fun p => (cst n r).length - p.1) (0, fun _ => 0) ⟨Nat.zero_le _, fun a _ k hk => by simp only at hk; omega⟩ [0, 1, 2, 4, 5] (by simp only [leq, leA, ev0, evA, evB, evP, fl, gp, tab, simprocAttr, reduceCtorEq, reduceIte, ll_length] <;> first | trivial | (simp; done)) fun p hp => ?_
      obtain ⟨i, g⟩ := p
      obtain ⟨hi1, hi2⟩ := hp
      simp only at hi1 hi2
      refine qm ?_
      refine hk_region fun K hK => runs_eval tab_ok ?_
      simp only [ev0, evA, evB, evP, fl, gp, tab, simprocAttr, reduceCtorEq, reduceIte]
      refine fin_run trivial (hK _ ?_) <;> clear hK <;> clear K
      refine qa (qm ?_)
      refine hk_cond rfl (fun hC3 => ?_) (fun hC3 => ?_)
      · (try simp only [nhs] at hC3)
        have hlt : i < (cst n r).length := by omega
        obtain ⟨x, x1, x2, x3, x4⟩ := cst_get hlt
        have l1 := thl_le n (r x)
        refine qh (qa (qm (ql (qm ?_))))
        refine hk_region fun K hK => runs_eval tab_ok ?_
        simp only [ev0, evA, evB, evP, fl, gp, tab, simprocAttr, reduceCtorEq, reduceIte, ll_length, ll_get hlt, x3]
        refine fin_run ?_ (hK _ ?_) <;> clear hK <;> clear K
        · (first | exact trivial | omega | (simp only [In64] at *; omega) | (simp [In64] at *; omega) | (simp_all; done) | skip)
        refine qa (qm ?_)
        refine hk_region fun K hK => runs_eval tab_ok ?_
        simp only [ev0, evA, evB, evP, fl, gp, tab, simprocAttr, reduceCtorEq, reduceIte, il_length]
        refine fin_run trivial (hK _ ?_) <;> clear hK <;> clear K
        refine qa (ql ?_)
        refine hk_loop (ι := Nat × (Nat → Int)) (fun p => ⟨97, [(2, .ptr 0 0), (4, .ptr 1 0), (6, .ptr 2 0), (8, .p (.list (ll (cst n r)))), (9, .ptr 3 0), (10, .sl 4 0 n), (11, .p (.int .i64 i)), (42, .p (.list (ll (cst n r)))), (43, .p (.int .i64 (cst n r).length)), (44, .p (.int .i64 i)), (49, .p (.list (il (thl n (r x))))), (50, .p (.int .i64 (thl n (r x)).length)), (51, .p (.int .i64 p.1))], [.own [.p (.int .i64 n), .p (.list (il m))], .own [.p (.int .i64 0), .p .nil], .own [.p (.int .i64 0), .p (.int .i64 0)], .own [.p (.int .i64 0), .p (.int .i64 0)], .own (ol (rgz n p.2))]⟩) (fun p => p.1 ≤ (thl n (r x)).length ∧ (∀ a, a < n → ∀ k, k < i → ((a : Nat) : Int) ∈ (cst n r).getD k [] → p.2 a = (k : Int)) ∧ ∀ a, a < n → ∀ k, k < p.1 → (thl n (r x)).getD k 0 = (a : Int) → p.2 a = (i : Int)) (fun p => (thl n (r x)).length - p.1) (0, g) ⟨Nat.zero_le _, hi2, fun a _ k hk => by simp only at hk; omega⟩ [0, 1, 2, 3, 4] (by simp only [leq, leA, ev0, evA, evB, evP, fl, gp, tab, simprocAttr, reduceCtorEq, reduceIte] <;> first | trivial | (simp; done)) fun p hp => ?_
        obtain ⟨j, g'⟩ := p
        obtain ⟨hj1, hj2, hj3⟩ := hp
        simp only at hj1 hj2 hj3
        refine qm ?_
        refine hk_region fun K hK => runs_eval tab_ok ?_
        simp only [ev0, evA, evB, evP, fl, gp, tab, simprocAttr, reduceCtorEq, reduceIte]
        refine fin_run trivial (hK _ ?_) <;> clear hK <;> clear K
        refine qa (qm ?_)
        refine hk_cond rfl (fun hC4 => ?_) (fun hC4 => ?_)
        · (try simp only [nhs] at hC4)
          have hjl : j < (thl n (r x)).length := by omega
          obtain ⟨c, c1, c2, c3⟩ := thl_get hjl
          refine qh (qa (qm (ql (qm ?_))))
          refine hk_region fun K hK => runs_eval tab_ok ?_
          simp only [ev0, evA, evB, evP, fl, gp, tab, simprocAttr, reduceCtorEq, reduceIte, il_get hjl, c3]
          refine fin_run ?_ (hK _ ?_) <;> clear hK <;> clear K
          · (first | exact trivial | omega | (simp only [In64] at *; omega) | (simp [In64] at *; omega) | (simp_all; done) | skip)
          refine qa ?_
          refine hk_region fun K hK => runs_eval tab_ok ?_
          simp only [ev0, evA, evB, evP, fl, gp, tab, simprocAttr, reduceCtorEq, reduceIte]
          refine fin_run ?_ (hK _ ?_) <;> clear hK <;> clear K
          · rw [rgz_len]; omega
          refine qd (qa ?_)
          rw [ol_set, rgz_set]
          refine hk_region fun K hK => runs_eval tab_ok ?_
          simp only [ev0, evA, evB, evP, fl, gp, tab, simprocAttr, reduceCtorEq, reduceIte]
          refine fin_run ?_ (hK _ ?_) <;> clear hK <;> clear K
          · (first | exact trivial | omega | (simp only [In64] at *; omega) | (simp [In64] at *; omega) | (simp_all; done) | skip)
          refine qa ?_
          refine ⟨(j + 1, fun a => if a = c then (i : Int) else g' a), [0, 1, 2, 3, 4], ⟨by simp only; omega, fun a ha k hk hm => ?_, fun a ha k hk hm => ?_⟩, by simp only; omega, ?_⟩
          · have hne : a ≠ c := by
              intro he
              subst he
              have h3 : ((a : Nat) : Int) ∈ (cst n r).getD i [] := by rw [x3, mem_thl_n ha]; exact c2
              have := cst_apart E hlt (by omega) ha h3 hm
              omega
            simp only [if_neg hne]
            exact hj2 a ha k hk hm
          · simp only at hk ⊢
            by_cases hac : a = c
            · rw [if_pos hac]
            · rw [if_neg hac]
              have hkj : k ≠ j := by intro he; rw [he, c3] at hm; omega
              exact hj3 a ha k (by omega) hm
          · simp only [leq, leA, ev0, evA, evB, evP, fl, gp, tab, simprocAttr, reduceCtorEq, reduceIte] <;> first | trivial | omega | (simp [rgz]; done)
        · (try simp only [nhs] at hC4)
          have hjn : j = (thl n (r x)).length := by omega
          refine qj (qc (qc (qf (qd (qa ?_)))))
          refine hk_region fun K hK => runs_eval tab_ok ?_
          simp only [ev0, evA, evB, evP, fl, gp, tab, simprocAttr, reduceCtorEq, reduceIte]
          refine fin_run ?_ (hK _ ?_) <;> clear hK <;> clear K
          · (first | exact trivial | omega | (simp only [In64] at *; omega) | (simp [In64] at *; omega) | (simp_all; done) | skip)
          refine qa ?_
          refine ⟨(i + 1, g'), [0, 1, 2, 3, 4], ⟨by simp only; omega, fun a ha k hk hm => ?_⟩, by simp only; omega, ?_⟩
          · by_cases hki : k = i
            · subst hki
              rw [x3] at hm
              obtain ⟨q, q1, q2⟩ := thl_at (n := n) (p := r x) ha ((mem_thl_n ha).1 hm)
              exact hj3 a ha q (by omega) q2
            · exact hj2 a ha k (by simp only at hk; omega) hm
          · simp only [leq, leA, ev0, evA, evB, evP, fl, gp, tab, simprocAttr, reduceCtorEq, reduceIte] <;> first | trivial | omega | (simp [rgz]; done)
      · (try simp only [nhs] at hC3)
        have hin : i = (cst n r).length := by omega
        have hfin : rgz n g = whl n r := rgz_congr fun a ha => by
          obtain ⟨k, k1, k2⟩ := cst_in E ha
          rw [hi2 a ha k (by omega) k2, wch_at E k1 ha k2]
        rw [hfin]
        have hwl := whl_len n r
        refine hk_seal 10 4 (by show AV.sl 4 0 n = AV.sl 4 0 _; rw [hwl]) rfl ?_
        refine qj (qc (qc (qf (qa (qm ?_)))))
        refine hk_region fun K hK => runs_eval tab_ok ?_
        simp only [ev0, evA, evB, evP, fl, gp, tab, simprocAttr, reduceCtorEq, reduceIte, ll_length]
        refine fin_run ?_ (hK _ ?_) <;> clear hK <;> clear K
        · (first | exact trivial | omega | (simp only [In64] at *; omega) | (simp [In64] at *; omega) | (simp_all; done) | skip)
        refine qa (qm (qm ?_))
        refine hk_own0c 5 1 rfl rfl ?_
        simp only [hset, List.cons_append, List.nil_append, List.set, List.length_cons, List.length_nil]
        refine hk_region fun K hK => runs_eval tab_ok ?_
        simp only [ev0, evA, evB, evP, fl, gp, tab, simprocAttr, reduceCtorEq, reduceIte, ll_length]
        refine fin_run trivial (hK _ ?_) <;> clear hK <;> clear K
        refine qa (ql ?_)
        refine hk_loop (ι := Nat) (fun i => ⟨97, [(2, .ptr 0 0), (4, .ptr 1 0), (6, .ptr 2 0), (8, .p (.list (ll (cst n r)))), (9, .ptr 3 0), (10, .p (.list (il (whl n r)))), (15, .ptr 4 0), (64, .p (.list (ll (cst n r)))), (65, .p (.int .i64 (cst n r).length)), (66, .p (.int .i64 i))], [.own [.p (.int .i64 n), .p (.list (il m))], .own [.p (.int .i64 0), .p .nil], .own [.p (.int .i64 0), .p (.int .i64 0)], .own [.p (.int .i64 0), .p (.int .i64 0)], .own [.p (.int .i64 (cst n r).length), .sl 5 0 (tbr (fun i j => ((qop (op m n) (clq n r) (rpq n r) i j : Nat) : Int)) (cst n r).length (i * (cst n r).length)).length], .own (ol (tbr (fun i j => ((qop (op m n) (clq n r) (rpq n r) i j : Nat) : Int)) (cst n r).length (i * (cst n r).length)))]⟩) (fun i => i ≤ (cst n r).length) (fun i => (cst n r).length - i) 0 (Nat.zero_le _) [0, 1, 2, 3, 5, 6] (by rw [Nat.zero_mul]; simp only [leq, leA, ev0, evA, evB, evP, fl, gp, tab, simprocAttr, reduceCtorEq, reduceIte] <;> first | trivial | simp [tbr, rg, ol_nil]) fun i hi => ?_
        refine qm ?_
        refine hk_region fun K hK => runs_eval tab_ok ?_
        simp only [ev0, evA, evB, evP, fl, gp, tab, simprocAttr, reduceCtorEq, reduceIte]
        refine fin_run trivial (hK _ ?_) <;> clear hK <;> clear K
        refine qa (qm ?_)
        refine hk_cond rfl (fun hC5 => ?_) (fun hC5 => ?_)
        · (try simp only [nhs] at hC5)
          have hlt : i < (cst n r).length := by omega
          obtain ⟨x1, x2, x3, x4⟩ := rpq_at E hlt
          obtain ⟨hd1, hd2⟩ := (lead_head x1).1 x4
          refine qh (qa (qm (ql (qm ?_))))
          refine hk_region fun K hK => runs_eval tab_ok ?_
          simp only [ev0, evA, evB, evP, fl, gp, tab, simprocAttr, reduceCtorEq, reduceIte, ll_length, ll_get hlt, x3]
          refine fin_run ?_ (hK _ ?_) <;> clear hK <;> clear K
          · (first | exact trivial | omega | (simp only [In64] at *; omega) | (simp [In64] at *; omega) | (simp_all; done) | skip)
          refine qa (qm ?_)
          refine hk_region fun K hK => runs_eval tab_ok ?_
          simp only [ev0, evA, evB, evP, fl, gp, tab, simprocAttr, reduceCtorEq, reduceIte, ll_length]
          refine fin_run trivial (hK _ ?_) <;> clear hK <;> clear K
          refine qa (ql ?_)
          refine hk_loop (ι := Nat) (fun j => ⟨97, [(2, .ptr 0 0), (4, .ptr 1 0), (6, .ptr 2 0), (8, .p (.list (ll (cst n r)))), (9, .ptr 3 0), (10, .p (.list (il (whl n r)))), (15, .ptr 4 0), (17, .p (.list (il (thl n (r (rpq n r i)))))), (64, .p (.list (ll (cst n r)))), (65, .p (.int .i64 (cst n r).length)), (66, .p (.int .i64 i)), (70, .p (.list (ll (cst n r)))), (71, .p (.int .i64 (cst n r).length)), (72, .p (.int .i64 j))], [.own [.p (.int .i64 n), .p (.list (il m))], .own [.p (.int .i64 0), .p .nil], .own [.p (.int .i64 0), .p (.int .i64 0)], .own [.p (.int .i64 0), .p (.int .i64 0)], .own [.p (.int .i64 (cst n r).length), .sl 5 0 (tbr (fun i j => ((qop (op m n) (clq n r) (rpq n r) i j : Nat) : Int)) (cst n r).length (i * (cst n r).length + j)).length], .own (ol (tbr (fun i j => ((qop (op m n) (clq n r) (rpq n r) i j : Nat) : Int)) (cst n r).length (i * (cst n r).length + j)))]⟩) (fun j => j ≤ (cst n r).length) (fun j => (cst n r).length - j) 0 (Nat.zero_le _) [0, 1, 2, 3, 4, 5] (by rw [Nat.add_zero]; simp only [leq, leA, ev0, evA, evB, evP, fl, gp, tab, simprocAttr, reduceCtorEq, reduceIte] <;> trivial) fun j hj => ?_
          refine qm ?_
          refine hk_region fun K hK => runs_eval tab_ok ?_
          simp only [ev0, evA, evB, evP, fl, gp, tab, simprocAttr, reduceCtorEq, reduceIte]
          refine fin_run trivial (hK _ ?_) <;> clear hK <;> clear K
          refine qa (qm ?_)
          refine hk_cond rfl (fun hC6 => ?_) (fun hC6 => ?_)
          · (try simp only [nhs] at hC6)
            have hjl : j < (cst n r).length := by omega
            obtain ⟨y1, y2, y3, y4⟩ := rpq_at E hjl
            obtain ⟨he1, he2⟩ := (lead_head y1).1 y4
            have hxy := G.cl _ _ x1 y1
            have hat := at_lt hlt hjl
            have hl := hlen (i * (cst n r).length + j)
            have hwl := whl_len n r
            have hwg := whl_get E hxy
            have hwi : op m n (rpq n r i) (rpq n r j) < (whl n r).length := by omega
            refine qh (qa (qm (ql (qm ?_))))
            refine hk_region fun K hK => runs_eval tab_ok ?_
            simp only [ev0, evA, evB, evP, fl, gp, tab, simprocAttr, reduceCtorEq, reduceIte, ll_length, ll_get hjl, y3]
            refine fin_run ?_ (hK _ ?_) <;> clear hK <;> clear K
            · (first | exact trivial | omega | (simp only [In64] at *; omega) | (simp [In64] at *; omega) | (simp_all; done) | skip)
            refine qa ?_
            refine hk_draw2 mixed fun K hK => runs2_eval tab_ok ?_
            simp only [evD, ev0, evA, evB, evP, fl, gp, tab, simprocAttr, reduceCtorEq, reduceIte, il_length, il_get hd1, hd2, il_get he1, he2, il_get hwi, hwg]
            refine fin2_stop ?_ (runs2_call (of_c h.2.1 x1 y1) rfl rfl rfl rfl (by simp only [dstOk, Nat.reduceLT]) (by repeat (first | exact trivial | constructor)) (runs2_eval tab_ok ?_))
            · (first | exact trivial | omega | (simp only [In64] at *; omega) | (simp [In64] at *; omega) | (simp_all; done) | skip)
            simp only [evD, ev0, evA, evB, evP, fl, gp, tab, simprocAttr, reduceCtorEq, reduceIte, il_length, il_get hd1, hd2, il_get he1, he2, il_get hwi, hwg]
            refine fin2_run ?_ (hK _ _ (by first | kernel_rfl | rfl) ?_) <;> clear hK <;> clear K
            · (first | exact trivial | omega | (simp only [In64] at *; omega) | (simp [In64] at *; omega) | (simp_all; done) | skip)
            refine qd (qa ?_)
            refine hk_region fun K hK => runs_eval tab_ok ?_
            simp only [ev0, evA, evB, evP, fl, gp, tab, simprocAttr, reduceCtorEq, reduceIte]
            refine fin_run ?_ (hK _ ?_) <;> clear hK <;> clear K
            · (first | exact trivial | omega | (simp only [In64] at *; omega) | (simp [In64] at *; omega) | (simp_all; done) | skip)
            refine qa ?_
            refine ⟨j + 1, [0, 1, 2, 3, 4, 6], by omega, by omega, ?_⟩
            rw [tbr_succ (fun i j => ((qop (op m n) (clq n r) (rpq n r) i j : Nat) : Int)) hjl]
            simp only [leq, leA, ev0, evA, evB, evP, fl, gp, tab, simprocAttr, reduceCtorEq, reduceIte] <;> first | trivial | omega
          · (try simp only [nhs] at hC6)
            have hjn : j = (cst n r).length := by omega
            refine qj (qc (qc (qf (qd (qa ?_)))))
            refine hk_region fun K hK => runs_eval tab_ok ?_
            simp only [ev0, evA, evB, evP, fl, gp, tab, simprocAttr, reduceCtorEq, reduceIte]
            refine fin_run ?_ (hK _ ?_) <;> clear hK <;> clear K
            · (first | exact trivial | omega | (simp only [In64] at *; omega) | (simp [In64] at *; omega) | (simp_all; done) | skip)
            refine qa ?_
            refine ⟨i + 1, [0, 1, 2, 3, 4, 5], by omega, by omega, ?_⟩
            rw [hjn, show (i + 1) * (cst n r).length = i * (cst n r).length + (cst n r).length by rw [Nat.add_mul, Nat.one_mul]]
            simp only [leq, leA, ev0, evA, evB, evP, fl, gp, tab, simprocAttr, reduceCtorEq, reduceIte] <;> first | trivial | omega
        · (try simp only [nhs] at hC5)
          have hin : i = (cst n r).length := by omega
          refine qj (qc (qc (qf (qa (qm ?_)))))
          refine hk_draw2 mixed fun K hK => runs2_eval tab_ok ?_
          simp only [evD, ev0, evA, evB, evP, fl, gp, tab, simprocAttr, reduceCtorEq, reduceIte]
          refine fin2_run ?_ (hK _ _ (by first | kernel_rfl | rfl) ?_) <;> clear hK <;> clear K
          · (first | exact trivial | omega | (simp only [In64] at *; omega) | (simp [In64] at *; omega) | (simp_all; done) | skip)
          refine qa (qk ?_)
          simp only [Tryd.results28, enA, ev0, evA, evB, evP, fl, gp, tab, simprocAttr, reduceCtorEq, reduceIte]
          all_goals (simp [hin, tbl, qtb])
end Go.Proofs.YtjbfkdaodfdpcaaDoor

/-
  Parts of a group as groups; what a group does with cosets: by maps. Conditions: none.
-/
set_option linter.all false
namespace Go.Proofs.YtjbfkdaodfdpcaaDoor
open Go.Pv

/-! ### Parts -/

/-- Where a thing stands among those of which something is so. -/
def pix (p : Nat → Bool) (x : Nat) : Nat := (thl x p).length
theorem thl_split (n x : Nat) (p : Nat → Bool) (hx : x < n) (hp : p x = true) : ∃ r, thl n p = thl x p ++ (x : Int) :: r := by
  induction n with
  | zero => omega
  | succ n ih =>
    rw [thl_succ]
    by_cases h : x = n
    · subst h
      rw [if_pos hp]; exact ⟨[], rfl⟩
    · obtain ⟨r, hr⟩ := ih (by omega)
      rw [hr]
      exact ⟨r ++ (if p n = true then [(n : Int)] else []), by simp⟩
theorem pix_at {n x : Nat} {p : Nat → Bool} (hx : x < n) (hp : p x = true) : pix p x < (thl n p).length ∧ (thl n p).getD (pix p x) 0 = (x : Int) := by
  obtain ⟨r, hr⟩ := thl_split n x p hx hp
  unfold pix
  rw [hr]
  constructor
  · simp
  · simp [List.getD]
theorem pix_get {n i x : Nat} {p : Nat → Bool} (hi : i < (thl n p).length) (hx : x < n) (hp : p x = true) (h : (thl n p).getD i 0 = (x : Int)) : pix p x = i := by
  obtain ⟨h1, h2⟩ := pix_at hx hp
  rcases Nat.lt_trichotomy (pix p x) i with h3 | h3 | h3
  · have := thl_get_asc h3 hi; omega
  · exact h3
  · have := thl_get_asc h3 h1; omega
def lat (n : Nat) (p : Nat → Bool) (i : Nat) : Nat := ((thl n p).getD i 0).toNat
theorem lat_at {n i : Nat} {p : Nat → Bool} (hi : i < (thl n p).length) : lat n p i < n ∧ p (lat n p i) = true ∧ (thl n p).getD i 0 = (lat n p i : Int) ∧ pix p (lat n p i) = i := by
  obtain ⟨x, x1, x2, x3⟩ := thl_get hi
  have : lat n p i = x := by unfold lat; rw [x3]; rfl
  rw [this]
  exact ⟨x1, x2, x3, pix_get hi x1 x2 x3⟩
/-- The part's operation, by places. -/
def pop (n : Nat) (f : Nat → Nat → Nat) (p : Nat → Bool) (i j : Nat) : Nat := pix p (f (lat n p i) (lat n p j))
def ptb (n : Nat) (f : Nat → Nat → Nat) (p : Nat → Bool) : List Int := tbl (fun i j => ((pop n f p i j : Nat) : Int)) (thl n p).length
theorem pop_at {n e : Nat} {f : Nat → Nat → Nat} {p : Nat → Bool} (G : Grp n f e) (hs : Sub n f e p) {i j : Nat} (hi : i < (thl n p).length) (hj : j < (thl n p).length) : pop n f p i j < (thl n p).length ∧ lat n p (pop n f p i j) = f (lat n p i) (lat n p j) := by
  obtain ⟨x1, x2, _, _⟩ := lat_at hi
  obtain ⟨y1, y2, _, _⟩ := lat_at hj
  obtain ⟨h1, h2⟩ := pix_at (G.cl _ _ x1 y1) (hs.mul _ _ x1 y1 x2 y2)
  exact ⟨h1, by unfold pop lat at *; rw [h2]; rfl⟩
/-- A part is a group. -/
theorem ptb_grp {n e : Nat} {f : Nat → Nat → Nat} {p : Nat → Bool} (G : Grp n f e) (hs : Sub n f e p) : Grp (thl n p).length (pop n f p) (pix p e) := by
  have le := pix_at G.el hs.one
  have hat : ∀ {i}, i < (thl n p).length → pix p (lat n p i) = i := fun hi => (lat_at hi).2.2.2
  have hle : lat n p (pix p e) = e := by unfold lat; rw [le.2]; rfl
  refine ⟨by omega, fun i j hi hj => (pop_at G hs hi hj).1, le.1, fun i hi => ?_, fun i hi => ?_, fun i j k hi hj hk => ?_, fun i hi => ?_⟩
  · unfold pop; rw [hle, G.one_l _ (lat_at hi).1, hat hi]
  · unfold pop; rw [hle, G.one_r _ (lat_at hi).1, hat hi]
  · have h1 := pop_at G hs hi hj
    have h2 := pop_at G hs hj hk
    show pix p (f (lat n p (pop n f p i j)) (lat n p k)) = pix p (f (lat n p i) (lat n p (pop n f p j k)))
    rw [h1.2, h2.2, G.assoc _ _ _ (lat_at hi).1 (lat_at hj).1 (lat_at hk).1]
  · obtain ⟨x1, x2, _, _⟩ := lat_at hi
    have h1 := pix_at (G.iv_lt x1) (hs.inv _ x1 x2)
    have h2 : lat n p (pix p (iv n f e (lat n p i))) = iv n f e (lat n p i) := by
      show ((thl n p).getD (pix p (iv n f e (lat n p i))) 0).toNat = _
      rw [h1.2]; rfl
    refine ⟨_, h1.1, ?_, ?_⟩
    · show pix p (f (lat n p i) (lat n p (pix p (iv n f e (lat n p i))))) = _
      rw [h2, G.mul_iv x1]
    · show pix p (f (lat n p (pix p (iv n f e (lat n p i)))) (lat n p i)) = _
      rw [h2, G.iv_mul x1]

theorem take_snoc {l : List Int} {i : Nat} (h : i < l.length) : l.take (i + 1) = l.take i ++ [l.getD i 0] := by
  rw [List.take_succ_eq_append_getElem h]
  simp [List.getD, List.getElem?_eq_getElem h]
/-- Where a part's thing stands, as a value. -/
def pxv (p : Nat → Bool) (u : Int) : PV := .int .i64 (pix p u.toNat)

set_option maxHeartbeats 4000000 in
theorem part_ok {n e : Nat} {m : List Int} (h : GT n m n e) (p : Nat → Bool) (hs : Sub n (op m n) e p) : FnC Tryd.prog 27 [gp n m, .list (il (thl n p))] (.tup [gp (thl n p).length (ptb n (op m n) p), fl (0, 0)]) := by
  have G := h.2.2
  have hb := h.2.1.big
  have hlp := thl_le n p
  have hsq := sq_le (show (thl n p).length ≤ 60 by omega)
  have hlen := tbr_len (fun i j => ((pop n (op m n) p i j : Nat) : Int)) (thl n p).length
  refine fnc_of tab_ok Tryd.func27 rfl (by kernel_rfl) (by rw [Tryd.ntmps27]; exact Nat.le_add_left 2 _) ?_; rw [Tryd.ntmps27]
  refine qm ?_
  refine hk_region fun K hK => runs_eval tab_ok ?_
  simp only [ev0, evA, evB, evP, fl, gp, tab, simprocAttr, reduceCtorEq, reduceIte]
  refine fin_run ?_ (hK _ ?_) <;> clear hK <;> clear K
  · (first | exact trivial | omega | (simp only [In64] at *; omega) | (simp [In64] at *; omega) | (simp_all; done) | skip)
  refine qa (qm (qm ?_))
  refine hk_region fun K hK => runs_eval tab_ok ?_
  simp only [ev0, evA, evB, evP, fl, gp, tab, simprocAttr, reduceCtorEq, reduceIte]
  refine fin_stop trivial (runs_call (group_ok h p true (by simp [hs])) rfl rfl rfl (by simp only [dstOk, Nat.reduceLT]) (by repeat (first | exact trivial | constructor)) (runs_eval tab_ok ?_))
  simp only [ev0, evA, evB, evP, fl, gp, tab, simprocAttr, reduceCtorEq, reduceIte, ufb]
  refine fin_run ?_ (hK _ ?_) <;> clear hK <;> clear K
  · (first | exact trivial | omega | (simp only [In64] at *; omega) | (simp [In64] at *; omega) | (simp_all; done) | skip)
  refine qa (qm ?_)
  refine hk_region fun K hK => runs_eval tab_ok ?_
  simp only [ev0, evA, evB, evP, fl, gp, tab, simprocAttr, reduceCtorEq, reduceIte]
  refine fin_run ?_ (hK _ ?_) <;> clear hK <;> clear K
  · (first | exact trivial | omega | (simp only [In64] at *; omega) | (simp [In64] at *; omega) | (simp_all; done) | skip)
  refine qa ?_
  refine hk_cond rfl (fun hC1 => ?_) (fun hC1 => ?_)
  · cases hC1
  · (try simp only [nhs] at hC1)
    refine qh (qa (qm ?_))
    refine hk_region fun K hK => runs_eval tab_ok ?_
    simp only [ev0, evA, evB, evP, fl, gp, tab, simprocAttr, reduceCtorEq, reduceIte]
    refine fin_run ?_ (hK _ ?_) <;> clear hK <;> clear K
    · (first | exact trivial | omega | (simp only [In64] at *; omega) | (simp [In64] at *; omega) | (simp_all; done) | skip)
    refine qa (qm (qm ?_))
    refine hk_region fun K hK => runs_eval tab_ok ?_
    simp only [ev0, evA, evB, evP, fl, gp, tab, simprocAttr, reduceCtorEq, reduceIte, il_length]
    refine fin_run trivial (hK _ ?_) <;> clear hK <;> clear K
    refine qa (ql ?_)
    refine hk_loop (ι := Nat) (fun i => ⟨65, [(1, .p (.list (il (thl n p)))), (2, .ptr 0 0), (4, .ptr 1 0), (5, .ptr 2 0), (7, .mptr 3), (24, .p (.list (il (thl n p)))), (25, .p (.int .i64 (thl n p).length)), (26, .p (.int .i64 i))], [.own [.p (.int .i64 n), .p (.list (il m))], .own [.p (.int .i64 0), .p .nil], .own [.p (.int .i64 0), .p (.int .i64 0)], .mp .i64 (mpd ((thl n p).take i)) (mpv ((thl n p).take i) (pxv p))]⟩) (fun i => i ≤ (thl n p).length) (fun i => (thl n p).length - i) 0 (Nat.zero_le _) [0, 1, 2, 4] (by simp only [leq, leA, ev0, evA, evB, evP, fl, gp, tab, simprocAttr, reduceCtorEq, reduceIte] <;> first | trivial | (rw [mpd_nil, mpv_nil]; rfl)) fun i hi => ?_
    refine qm ?_
    refine hk_region fun K hK => runs_eval tab_ok ?_
    simp only [ev0, evA, evB, evP, fl, gp, tab, simprocAttr, reduceCtorEq, reduceIte]
    refine fin_run trivial (hK _ ?_) <;> clear hK <;> clear K
    refine qa (qm ?_)
    refine hk_cond rfl (fun hC2 => ?_) (fun hC2 => ?_)
    · (try simp only [nhs] at hC2)
      have hlt : i < (thl n p).length := by omega
      obtain ⟨x1, x2, x3, x4⟩ := lat_at hlt
      refine qh (qa (qm (ql (qm ?_))))
      refine hk_region fun K hK => runs_eval tab_ok ?_
      simp only [ev0, evA, evB, evP, fl, gp, tab, simprocAttr, reduceCtorEq, reduceIte, il_get hlt, x3]
      refine fin_run ?_ (hK _ ?_) <;> clear hK <;> clear K
      · (first | exact trivial | omega | (simp only [In64] at *; omega) | (simp [In64] at *; omega) | (simp_all; done) | skip)
      refine qa ?_
      refine hk_region fun K hK => runs_eval tab_ok ?_
      simp only [ev0, evA, evB, evP, fl, gp, tab, simprocAttr, reduceCtorEq, reduceIte]
      refine fin_run ?_ (hK _ ?_) <;> clear hK <;> clear K
      · (first | exact trivial | omega | (simp only [In64] at *; omega) | (simp [In64] at *; omega) | (simp_all; done) | skip)
      refine qd (qa ?_)
      refine hk_region fun K hK => runs_eval tab_ok ?_
      simp only [ev0, evA, evB, evP, fl, gp, tab, simprocAttr, reduceCtorEq, reduceIte]
      refine fin_run ?_ (hK _ ?_) <;> clear hK <;> clear K
      · (first | exact trivial | omega | (simp only [In64] at *; omega) | (simp [In64] at *; omega) | (simp_all; done) | skip)
      refine qa ?_
      refine ⟨i + 1, [0, 1, 2, 3], by omega, by omega, ?_⟩
      have hd := mpd_set ((thl n p).take i) (lat n p i : Int)
      have hv := mpv_set ((thl n p).take i) (lat n p i : Int) (pxv p)
      have hx : pxv p (lat n p i : Int) = .int .i64 (i : Int) := by unfold pxv; rw [Int.toNat_natCast, x4]
      rw [hx] at hv
      rw [take_snoc hlt, x3]
      simp only [leq, leA, ev0, evA, evB, evP, fl, gp, tab, simprocAttr, reduceCtorEq, reduceIte] <;> first | trivial | omega | (rw [hd, hv])
    · (try simp only [nhs] at hC2)
      have hin : i = (thl n p).length := by omega
      rw [hin, List.take_length]
      refine qj (qc (qc (qf (qa (qm ?_)))))
      refine hk_region fun K hK => runs_eval tab_ok ?_
      simp only [ev0, evA, evB, evP, fl, gp, tab, simprocAttr, reduceCtorEq, reduceIte, il_length]
      refine fin_run ?_ (hK _ ?_) <;> clear hK <;> clear K
      · (first | exact trivial | omega | (simp only [In64] at *; omega) | (simp [In64] at *; omega) | (simp_all; done) | skip)
      refine qa (qm (qm ?_))
      refine hk_own0c 4 1 rfl rfl ?_
      simp only [hset, List.cons_append, List.nil_append, List.set, List.length_cons, List.length_nil]
      refine hk_region fun K hK => runs_eval tab_ok ?_
      simp only [ev0, evA, evB, evP, fl, gp, tab, simprocAttr, reduceCtorEq, reduceIte, il_length]
      refine fin_run trivial (hK _ ?_) <;> clear hK <;> clear K
      refine qa (ql ?_)
      refine hk_loop (ι := Nat) (fun i => ⟨65, [(1, .p (.list (il (thl n p)))), (2, .ptr 0 0), (4, .ptr 1 0), (5, .ptr 2 0), (7, .mptr 3), (10, .ptr 4 0), (38, .p (.list (il (thl n p)))), (39, .p (.int .i64 (thl n p).length)), (40, .p (.int .i64 i))], [.own [.p (.int .i64 n), .p (.list (il m))], .own [.p (.int .i64 0), .p .nil], .own [.p (.int .i64 0), .p (.int .i64 0)], .mp .i64 (mpd (thl n p)) (mpv (thl n p) (pxv p)), .own [.p (.int .i64 (thl n p).length), .sl 5 0 (tbr (fun i j => ((pop n (op m n) p i j : Nat) : Int)) (thl n p).length (i * (thl n p).length)).length], .own (ol (tbr (fun i j => ((pop n (op m n) p i j : Nat) : Int)) (thl n p).length (i * (thl n p).length)))]⟩) (fun i => i ≤ (thl n p).length) (fun i => (thl n p).length - i) 0 (Nat.zero_le _) [0, 1, 2, 3, 4, 5] (by rw [Nat.zero_mul]; simp only [leq, leA, ev0, evA, evB, evP, fl, gp, tab, simprocAttr, reduceCtorEq, reduceIte] <;> first | trivial | simp [tbr, rg, ol_nil]) fun i hi => ?_
      refine qm ?_
      refine hk_region fun K hK => runs_eval tab_ok ?_
      simp only [ev0, evA, evB, evP, fl, gp, tab, simprocAttr, reduceCtorEq, reduceIte]
      refine fin_run trivial (hK _ ?_) <;> clear hK <;> clear K
      refine qa (qm ?_)
      refine hk_cond rfl (fun hC3 => ?_) (fun hC3 => ?_)
      · (try simp only [nhs] at hC3)
        have hlt : i < (thl n p).length := by omega
        obtain ⟨x1, x2, x3, x4⟩ := lat_at hlt
        refine qh (qa (qm (ql (qm ?_))))
        refine hk_region fun K hK => runs_eval tab_ok ?_
        simp only [ev0, evA, evB, evP, fl, gp, tab, simprocAttr, reduceCtorEq, reduceIte, il_get hlt, x3]
        refine fin_run ?_ (hK _ ?_) <;> clear hK <;> clear K
        · (first | exact trivial | omega | (simp only [In64] at *; omega) | (simp [In64] at *; omega) | (simp_all; done) | skip)
        refine qa (qm ?_)
        refine hk_region fun K hK => runs_eval tab_ok ?_
        simp only [ev0, evA, evB, evP, fl, gp, tab, simprocAttr, reduceCtorEq, reduceIte, il_length]
        refine fin_run trivial (hK _ ?_) <;> clear hK <;> clear K
        refine qa (ql ?_)
        refine hk_loop (ι := Nat) (fun j => ⟨65, [(1, .p (.list (il (thl n p)))), (2, .ptr 0 0), (4, .ptr 1 0), (5, .ptr 2 0), (7, .mptr 3), (10, .ptr 4 0), (12, .p (.int .i64 (lat n p i : Nat))), (38, .p (.list (il (thl n p)))), (39, .p (.int .i64 (thl n p).length)), (40, .p (.int .i64 i)), (44, .p (.list (il (thl n p)))), (45, .p (.int .i64 (thl n p).length)), (46, .p (.int .i64 j))], [.own [.p (.int .i64 n), .p (.list (il m))], .own [.p (.int .i64 0), .p .nil], .own [.p (.int .i64 0), .p (.int .i64 0)], .mp .i64 (mpd (thl n p)) (mpv (thl n p) (pxv p)), .own [.p (.int .i64 (thl n p).length), .sl 5 0 (tbr (fun i j => ((pop n (op m n) p i j : Nat) : Int)) (thl n p).length (i * (thl n p).length + j)).length], .own (ol (tbr (fun i j => ((pop n (op m n) p i j : Nat) : Int)) (thl n p).length (i * (thl n p).length + j)))]⟩) (fun j => j ≤ (thl n p).length) (fun j => (thl n p).length - j) 0 (Nat.zero_le _) [0, 1, 2, 3, 4, 5] (by rw [Nat.add_zero]; simp only [leq, leA, ev0, evA, evB, evP, fl, gp, tab, simprocAttr, reduceCtorEq, reduceIte] <;> trivial) fun j hj => ?_
        refine qm ?_
        refine hk_region fun K hK => runs_eval tab_ok ?_
        simp only [ev0, evA, evB, evP, fl, gp, tab, simprocAttr, reduceCtorEq, reduceIte]
        refine fin_run trivial (hK _ ?_) <;> clear hK <;> clear K
        refine qa (qm ?_)
        refine hk_cond rfl (fun hC4 => ?_) (fun hC4 => ?_)
        · (try simp only [nhs] at hC4)
          have hjl : j < (thl n p).length := by omega
          obtain ⟨y1, y2, y3, y4⟩ := lat_at hjl
          have hxy := G.cl _ _ x1 y1
          have hmem := (mem_thl_n hxy).2 (hs.mul _ _ x1 y1 x2 y2)
          have hin := mpd_in hmem
          have hvv := mpv_in (pxv p) hmem
          have hpx : pxv p ((op m n (lat n p i) (lat n p j) : Nat) : Int) = .int .i64 ((pop n (op m n) p i j : Nat) : Int) := by unfold pxv; rw [Int.toNat_natCast]; rfl
          have hat := at_lt hlt hjl
          have hl := hlen (i * (thl n p).length + j)
          refine qh (qa (qm (ql (qm ?_))))
          refine hk_region fun K hK => runs_eval tab_ok ?_
          simp only [ev0, evA, evB, evP, fl, gp, tab, simprocAttr, reduceCtorEq, reduceIte, il_get hjl, y3]
          refine fin_run ?_ (hK _ ?_) <;> clear hK <;> clear K
          · (first | exact trivial | omega | (simp only [In64] at *; omega) | (simp [In64] at *; omega) | (simp_all; done) | skip)
          refine qa ?_
          refine hk_draw2 mixed fun K hK => runs2_eval tab_ok ?_
          simp only [evD, ev0, evA, evB, evP, fl, gp, tab, simprocAttr, reduceCtorEq, reduceIte]
          refine fin2_stop trivial (runs2_call (of_c h.2.1 x1 y1) rfl rfl rfl rfl (by simp only [dstOk, Nat.reduceLT]) (by repeat (first | exact trivial | constructor)) (runs2_eval tab_ok ?_))
          simp only [evD, ev0, evA, evB, evP, fl, gp, tab, simprocAttr, reduceCtorEq, reduceIte, hin, cond_true, hvv, hpx]
          refine fin2_run ?_ (hK _ _ (by first | kernel_rfl | rfl) ?_) <;> clear hK <;> clear K
          · (first | exact trivial | omega | (simp only [In64] at *; omega) | (simp [In64] at *; omega) | (simp_all; done) | skip)
          refine qd (qa ?_)
          refine hk_region fun K hK => runs_eval tab_ok ?_
          simp only [ev0, evA, evB, evP, fl, gp, tab, simprocAttr, reduceCtorEq, reduceIte]
          refine fin_run ?_ (hK _ ?_) <;> clear hK <;> clear K
          · (first | exact trivial | omega | (simp only [In64] at *; omega) | (simp [In64] at *; omega) | (simp_all; done) | skip)
          refine qa ?_
          refine ⟨j + 1, [0, 1, 2, 3, 4, 6], by omega, by omega, ?_⟩
          rw [tbr_succ (fun i j => ((pop n (op m n) p i j : Nat) : Int)) hjl]
          simp only [leq, leA, ev0, evA, evB, evP, fl, gp, tab, simprocAttr, reduceCtorEq, reduceIte] <;> first | trivial | omega
        · (try simp only [nhs] at hC4)
          have hjn : j = (thl n p).length := by omega
          refine qj (qc (qc (qf (qd (qa ?_)))))
          refine hk_region fun K hK => runs_eval tab_ok ?_
          simp only [ev0, evA, evB, evP, fl, gp, tab, simprocAttr, reduceCtorEq, reduceIte]
          refine fin_run ?_ (hK _ ?_) <;> clear hK <;> clear K
          · (first | exact trivial | omega | (simp only [In64] at *; omega) | (simp [In64] at *; omega) | (simp_all; done) | skip)
          refine qa ?_
          refine ⟨i + 1, [0, 1, 2, 3, 4, 5], by omega, by omega, ?_⟩
          rw [hjn, show (i + 1) * (thl n p).length = i * (thl n p).length + (thl n p).length by rw [Nat.add_mul, Nat.one_mul]]
          simp only [leq, leA, ev0, evA, evB, evP, fl, gp, tab, simprocAttr, reduceCtorEq, reduceIte] <;> first | trivial | omega
      · (try simp only [nhs] at hC3)
        have hin : i = (thl n p).length := by omega
        refine qj (qc (qc (qf (qa (qm ?_)))))
        refine hk_region fun K hK => runs_eval tab_ok ?_
        simp only [ev0, evA, evB, evP, fl, gp, tab, simprocAttr, reduceCtorEq, reduceIte]
        refine fin_run ?_ (hK _ ?_) <;> clear hK <;> clear K
        · (first | exact trivial | omega | (simp only [In64] at *; omega) | (simp [In64] at *; omega) | (simp_all; done) | skip)
        refine qa (qk ?_)
        simp only [Tryd.results27, enA, ev0, evA, evB, evP, fl, gp, tab, simprocAttr, reduceCtorEq, reduceIte]
        all_goals (simp [hin, tbl, ptb])
end Go.Proofs.YtjbfkdaodfdpcaaDoor

/-
  Operations that are the same on a group's things: inverses, conjugates, what is made. Conditions: none.
-/
set_option linter.all false
namespace Go.Proofs.YtjbfkdaodfdpcaaDoor
open Go.Pv

section
variable {n e : Nat} {f g : Nat → Nat → Nat} {p : Nat → Bool}

theorem iv_cong (G : Grp n f e) (h : ∀ a b, a < n → b < n → g a b = f a b) {a : Nat} (ha : a < n) : iv n g e a = iv n f e a := by
  have G' := G.cong' h
  refine (G'.iv_unique ha (G.iv_lt ha) (.inl ?_)).symm
  rw [h _ _ ha (G.iv_lt ha), G.mul_iv ha]
theorem cjr_cong (G : Grp n f e) (h : ∀ a b, a < n → b < n → g a b = f a b) {x a : Nat} (hx : x < n) (ha : a < n) : cjr n g e x a = cjr n f e x a := by
  unfold cjr
  rw [iv_cong G h ha, h _ _ (G.iv_lt ha) hx, h _ _ (G.cl _ _ (G.iv_lt ha) hx) ha]
theorem cup_cong (G : Grp n f e) (h : ∀ a b, a < n → b < n → g a b = f a b) (y : Nat) : cup n g e p y = cup n f e p y := by
  rw [Bool.eq_iff_iff, cup_iff, cup_iff]
  constructor
  · rintro ⟨x, a, hx, ha, h1, h2⟩
    exact ⟨x, a, hx, ha, h1, by rw [← cjr_cong G h hx ha]; exact h2⟩
  · rintro ⟨x, a, hx, ha, h1, h2⟩
    exact ⟨x, a, hx, ha, h1, by rw [cjr_cong G h hx ha]; exact h2⟩
theorem Gen.cong_op (G : Grp n f e) (h : ∀ a b, a < n → b < n → g a b = f a b) {a : Nat} (hg : Gen n g e p a) : Gen n f e p a := by
  have G' := G.cong' h
  induction hg with
  | one => exact .one
  | step a b ha hb hp ih => rw [h a b (ih.lt G) hb]; exact .step a b ih hb hp
theorem Sub.cong_op (G : Grp n f e) (h : ∀ a b, a < n → b < n → g a b = f a b) (hs : Sub n g e p) : Sub n f e p :=
  sub_of G hs.one fun a b ha hb h1 h2 => by rw [← h a b ha hb]; exact hs.mul a b ha hb h1 h2
theorem Nml.cong_op (G : Grp n f e) (h : ∀ a b, a < n → b < n → g a b = f a b) (hs : Nml n g e p) : Nml n f e p := fun a ha x hx hp => by
  rw [← cjr_cong G h hx ha]; exact hs a ha x hx hp
theorem cong_symm {n : Nat} {f g : Nat → Nat → Nat} (h : ∀ a b, a < n → b < n → g a b = f a b) : ∀ a b, a < n → b < n → f a b = g a b := fun a b ha hb => (h a b ha hb).symm
end
end Go.Proofs.YtjbfkdaodfdpcaaDoor

/-
  Composition series: parts of parts; the greatest normal subgroup; Composition walked. Conditions: none.
-/
set_option linter.all false
namespace Go.Proofs.YtjbfkdaodfdpcaaDoor
open Go.Pv

/-! ### What a part has, in the whole -/

def lft (p q : Nat → Bool) (x : Nat) : Bool := p x && q (pix p x)
theorem lft_iff {p q : Nat → Bool} {x : Nat} : lft p q x = true ↔ p x = true ∧ q (pix p x) = true := by unfold lft; rw [Bool.and_eq_true]
theorem lat_pix {n x : Nat} {p : Nat → Bool} (hx : x < n) (hp : p x = true) : lat n p (pix p x) = x := by
  have := (pix_at hx hp).2
  unfold lat; rw [this]; rfl
theorem lat_low {n i : Nat} {p : Nat → Bool} (hi : i < (thl n p).length) : lat (n + 1) p i = lat n p i := by
  unfold lat
  rw [thl_succ, List.getD_eq_getElem?_getD, List.getElem?_append_left hi, ← List.getD_eq_getElem?_getD]
theorem lft_thl (p q : Nat → Bool) : ∀ n, (thl (thl n p).length q).map (fun z => ((lat n p z.toNat : Nat) : Int)) = thl n (lft p q)
  | 0 => rfl
  | n + 1 => by
    have ih := lft_thl p q n
    have hc : (thl (thl n p).length q).map (fun z => ((lat (n + 1) p z.toNat : Nat) : Int)) = thl n (lft p q) := by
      rw [← ih]
      refine List.map_congr_left fun z hz => ?_
      obtain ⟨i, i1, _, rfl⟩ := mem_thl.1 hz
      rw [Int.toNat_natCast, lat_low i1]
    rw [thl_succ n (lft p q)]
    by_cases hp : p n = true
    · have hl : (thl (n + 1) p).length = (thl n p).length + 1 := by rw [thl_succ, if_pos hp]; simp
      have ha : lat (n + 1) p (thl n p).length = n := by
        unfold lat
        rw [thl_succ, if_pos hp]; simp [List.getD]
      rw [hl, thl_succ, List.map_append, hc]
      have hv : lft p q n = q (thl n p).length := by unfold lft pix; rw [hp]; rfl
      rw [hv]
      by_cases hq : q (thl n p).length = true
      · rw [if_pos hq, if_pos hq]; simp [ha]
      · rw [if_neg hq, if_neg hq]; rfl
    · have hl : thl (n + 1) p = thl n p := by rw [thl_succ, if_neg hp]; simp
      have hv : lft p q n = false := by unfold lft; rw [Bool.not_eq_true] at hp; rw [hp]; rfl
      rw [hl, hv, if_neg (by simp), List.append_nil]
      exact hc

section
variable {n e : Nat} {f : Nat → Nat → Nat} {p q : Nat → Bool}

theorem pop_pix (hs : Sub n f e p) {a b : Nat} (ha : a < n) (hb : b < n) (pa : p a = true) (pb : p b = true) : pop n f p (pix p a) (pix p b) = pix p (f a b) := by
  unfold pop; rw [lat_pix ha pa, lat_pix hb pb]
theorem lft_sub (G : Grp n f e) (hs : Sub n f e p) (hq : Sub (thl n p).length (pop n f p) (pix p e) q) : Sub n f e (lft p q) :=
  sub_of G (lft_iff.2 ⟨hs.one, hq.one⟩) fun a b ha hb h1 h2 => by
    obtain ⟨a1, a2⟩ := lft_iff.1 h1
    obtain ⟨b1, b2⟩ := lft_iff.1 h2
    refine lft_iff.2 ⟨hs.mul _ _ ha hb a1 b1, ?_⟩
    rw [← pop_pix hs ha hb a1 b1]
    exact hq.mul _ _ (pix_at ha a1).1 (pix_at hb b1).1 a2 b2
theorem iv_pix (G : Grp n f e) (hs : Sub n f e p) {a : Nat} (ha : a < n) (pa : p a = true) : iv (thl n p).length (pop n f p) (pix p e) (pix p a) = pix p (iv n f e a) := by
  have Gp := ptb_grp G hs
  have hi := G.iv_lt ha
  have pi := hs.inv _ ha pa
  refine (Gp.iv_unique (pix_at ha pa).1 (pix_at hi pi).1 (.inl ?_)).symm
  rw [pop_pix hs ha hi pa pi, G.mul_iv ha]
theorem cjr_pix (G : Grp n f e) (hs : Sub n f e p) {x a : Nat} (hx : x < n) (ha : a < n) (px : p x = true) (pa : p a = true) : cjr (thl n p).length (pop n f p) (pix p e) (pix p x) (pix p a) = pix p (cjr n f e x a) := by
  unfold cjr
  have hi := G.iv_lt ha
  have pi := hs.inv _ ha pa
  rw [iv_pix G hs ha pa, pop_pix hs hi hx pi px, pop_pix hs (G.cl _ _ hi hx) ha (hs.mul _ _ hi hx pi px) pa]
theorem cjr_in (G : Grp n f e) (hs : Sub n f e p) {x a : Nat} (hx : x < n) (ha : a < n) (px : p x = true) (pa : p a = true) : p (cjr n f e x a) = true := by
  have hi := G.iv_lt ha
  have pi := hs.inv _ ha pa
  exact hs.mul _ _ (G.cl _ _ hi hx) ha (hs.mul _ _ hi hx pi px) pa

/-- A normal subgroup of a subgroup, not all of it; with any thing more, and what that is conjugated to, it is all. -/
structure Mxn (n : Nat) (f : Nat → Nat → Nat) (e : Nat) (p p' : Nat → Bool) : Prop where
  sub : Sub n f e p'
  le : ∀ x, x < n → p' x = true → p x = true
  nml : ∀ a x, a < n → x < n → p a = true → p' x = true → p' (cjr n f e x a) = true
  ne : ∃ x, x < n ∧ p x = true ∧ p' x = false
  mx : ∀ x, x < n → p x = true → p' x = false → ∀ t : Nat → Bool, Sub n f e t → (∀ y, y < n → p' y = true → t y = true) → (∀ b, b < n → p b = true → t (cjr n f e x b) = true) → ∀ y, y < n → p y = true → t y = true

def wth (q : Nat → Bool) (a x : Nat) : Bool := q x || decide (x = a)
/-- What the greatest normal subgroup is. -/
structure Grt (n : Nat) (f : Nat → Nat → Nat) (e : Nat) (q : Nat → Bool) : Prop where
  sub : Sub n f e q
  nml : Nml n f e q
  ne : ∃ x, x < n ∧ q x = false
  mx : ∀ a, a < n → q a = false → ∀ y, y < n → Gen n f e (cup n f e (wth q a)) y

theorem Grt.lift (G : Grp n f e) (hs : Sub n f e p) (hq : Grt (thl n p).length (pop n f p) (pix p e) q) : Mxn n f e p (lft p q) := by
  have Gp := ptb_grp G hs
  refine ⟨lft_sub G hs hq.sub, fun x _ h => (lft_iff.1 h).1, fun a x ha hx pa h => ?_, ?_, fun x hx px h t ht h1 h2 y hy py => ?_⟩
  · obtain ⟨x1, x2⟩ := lft_iff.1 h
    refine lft_iff.2 ⟨cjr_in G hs hx ha x1 pa, ?_⟩
    rw [← cjr_pix G hs hx ha x1 pa]
    exact hq.nml _ (pix_at ha pa).1 _ (pix_at hx x1).1 x2
  · obtain ⟨i, i1, i2⟩ := hq.ne
    obtain ⟨x1, x2, _, x4⟩ := lat_at i1
    refine ⟨_, x1, x2, ?_⟩
    unfold lft; rw [x2, x4, i2]; rfl
  · have hqx : q (pix p x) = false := by unfold lft at h; rw [px] at h; simpa using h
    have hall := hq.mx _ (pix_at hx px).1 hqx (pix p y) (pix_at hy py).1
    have hS : Sub (thl n p).length (pop n f p) (pix p e) fun i => t (lat n p i) := by
      refine sub_of Gp ?_ fun i j hi hj h1 h2 => ?_
      · rw [lat_pix G.el hs.one]; exact ht.one
      · rw [(pop_at G hs hi hj).2]
        exact ht.mul _ _ (lat_at hi).1 (lat_at hj).1 h1 h2
    have := hall.sub Gp hS fun b hb hc => by
      obtain ⟨u, v, u1, v1, u2, u3⟩ := cup_iff.1 hc
      obtain ⟨a1, a2, _, a4⟩ := lat_at u1
      obtain ⟨b1, b2, _, b4⟩ := lat_at v1
      have e1 : b = pix p (cjr n f e (lat n p u) (lat n p v)) := by
        rw [← u3, ← cjr_pix G hs a1 b1 a2 b2, a4, b4]
      rw [e1, lat_pix (G.cjr_lt a1 b1) (cjr_in G hs a1 b1 a2 b2)]
      unfold wth at u2
      rw [Bool.or_eq_true, decide_eq_true_eq] at u2
      rcases u2 with u2 | u2
      · refine h1 _ (G.cjr_lt a1 b1) (lft_iff.2 ⟨cjr_in G hs a1 b1 a2 b2, ?_⟩)
        rw [← cjr_pix G hs a1 b1 a2 b2, a4, b4]
        exact hq.nml _ v1 _ u1 u2
      · rw [u2, lat_pix hx px]
        exact h2 _ b1 b2
    rwa [lat_pix hy py] at this
theorem Mxn.lt (h : Mxn n f e p q) : (mem n q).length < (mem n p).length := mem_lt h.le fun hh => by
  obtain ⟨x, x1, x2, x3⟩ := h.ne
  rw [hh x x1] at x3; rw [x3] at x2; cases x2
theorem Mxn.half (G : Grp n f e) (hs : Sub n f e p) (h : Mxn n f e p q) : 2 * (mem n q).length ≤ (mem n p).length := by
  have h1 := h.sub.dvd G (K := p) fun a b ha hb h1 h2 => hs.mul _ _ ha hb h1 (h.le _ hb h2)
  have h2 := h.lt
  obtain ⟨c, hc⟩ := h1
  rw [hc] at h2 ⊢
  rcases c with _ | _ | c
  · omega
  · simp at h2
  · rw [Nat.mul_comm 2]; exact Nat.mul_le_mul_left _ (by omega)
end

theorem cl_ex (n : Nat) (f : Nat → Nat → Nat) (e : Nat) : ∃ cl : (Nat → Bool) → Nat → Nat → Bool, ∀ p a y, y < n → (cl p a y = true ↔ Gen n f e (cup n f e (wth p a)) y) := by
  have h : ∀ p : Nat → Bool, ∃ g : Nat → Nat → Bool, ∀ a y, y < n → (g a y = true ↔ Gen n f e (cup n f e (wth p a)) y) := fun p => by
    have h2 : ∀ a, ∃ r : Nat → Bool, ∀ y, y < n → (r y = true ↔ Gen n f e (cup n f e (wth p a)) y) := fun a => gen_ex n f e _
    obtain ⟨g, hg⟩ := Classical.axiomOfChoice h2
    exact ⟨g, hg⟩
  obtain ⟨cl, hcl⟩ := Classical.axiomOfChoice h
  exact ⟨cl, hcl⟩

/-- The first thing with which a set makes not all. -/
def gfa (n : Nat) (cl : (Nat → Bool) → Nat → Nat → Bool) (p : Nat → Bool) (a : Nat) : Bool := !p a && decide ((thl n (cl p a)).length < n)
def gnx (n : Nat) (cl : (Nat → Bool) → Nat → Nat → Bool) (p : Nat → Bool) : Nat → Bool :=
  match fst' (gfa n cl p) n with
  | some a => cl p a
  | none => p
theorem gnx_some {n a : Nat} {cl : (Nat → Bool) → Nat → Nat → Bool} {p : Nat → Bool} (ha : a < n) (h : gfa n cl p a = true) (hj : ∀ j, j < a → gfa n cl p j = false) : gnx n cl p = cl p a := by
  unfold gnx; rw [fst_some ha h hj]
theorem gnx_none {n : Nat} {cl : (Nat → Bool) → Nat → Nat → Bool} {p : Nat → Bool} (hj : ∀ j, j < n → gfa n cl p j = false) : gnx n cl p = p := by
  unfold gnx; rw [fst_none hj]

section
variable {n e : Nat} {f : Nat → Nat → Nat}
theorem cl_in (G : Grp n f e) {cl : (Nat → Bool) → Nat → Nat → Bool} (hcl : ∀ p a y, y < n → (cl p a y = true ↔ Gen n f e (cup n f e (wth p a)) y)) {p : Nat → Bool} {a : Nat} (ha : a < n) : (∀ x, x < n → p x = true → cl p a x = true) ∧ cl p a a = true :=
  ⟨fun x hx h => (hcl _ _ _ hx).2 (Gen.mem G hx (G.cup_in hx (by unfold wth; rw [h]; rfl))), (hcl _ _ _ ha).2 (Gen.mem G ha (G.cup_in ha (by unfold wth; simp)))⟩
theorem full_len {p : Nat → Bool} (h : ¬ (thl n p).length < n) : ∀ y, y < n → p y = true := by
  intro y hy
  cases hp : p y with
  | true => rfl
  | false =>
    exfalso
    have := mem_lt (n := n) (p := fun _ => true) (q := p) (fun _ _ _ => rfl) (fun hh => by have := hh y hy; rw [hp] at this; cases this)
    have e1 : (thl n p).length = (mem n p).length := thl_len _ _
    have e2 : (mem n fun _ => true).length = n := by unfold mem; rw [List.filter_eq_self.2 fun _ _ => rfl, List.length_range]
    omega
theorem gnx_stop (G : Grp n f e) (h1 : 1 < n) {cl : (Nat → Bool) → Nat → Nat → Bool} (hcl : ∀ p a y, y < n → (cl p a y = true ↔ Gen n f e (cup n f e (wth p a)) y)) :
    ∃ K, K ≤ n ∧ Stp n (itr (gnx n cl) (onp e)) K ∧ (∀ j, j < n → gfa n cl (itr (gnx n cl) (onp e) K) j = false) ∧ Grt n f e (itr (gnx n cl) (onp e) K) := by
  have up : ∀ p : Nat → Bool, ∀ x, x < n → p x = true → gnx n cl p x = true := fun p x hx h => by
    unfold gnx
    cases hf : fst' (gfa n cl p) n with
    | none => exact h
    | some a => exact (cl_in G hcl (fst_spec hf).1).1 x hx h
  obtain ⟨K, hK, hS⟩ := stop_ex (n := n) (T := itr (gnx n cl) (onp e)) (fun k => n - (mem n (itr (gnx n cl) (onp e) k)).length) fun k hne => by
    have := mem_lt (n := n) (p := itr (gnx n cl) (onp e) (k + 1)) (q := itr (gnx n cl) (onp e) k) (fun x hx h => up _ x hx h) (fun hh => hne fun a ha => (hh a ha).symm)
    have h3 : (mem n (itr (gnx n cl) (onp e) (k + 1))).length ≤ n := by
      have := List.length_filter_le (itr (gnx n cl) (onp e) (k + 1)) (List.range n)
      simpa [mem] using this
    omega
  have inv : ∀ k, Sub n f e (itr (gnx n cl) (onp e) k) ∧ Nml n f e (itr (gnx n cl) (onp e) k) ∧ (thl n (itr (gnx n cl) (onp e) k)).length < n := by
    intro k
    induction k with
    | zero =>
      refine ⟨G.onp_sub, G.one_nml, ?_⟩
      show (thl n fun y => decide (y = e)).length < n
      rw [thl_one G.el]; exact h1
    | succ k ih =>
      show Sub n f e (gnx n cl (itr (gnx n cl) (onp e) k)) ∧ Nml n f e (gnx n cl (itr (gnx n cl) (onp e) k)) ∧ (thl n (gnx n cl (itr (gnx n cl) (onp e) k))).length < n
      generalize itr (gnx n cl) (onp e) k = p at *
      unfold gnx
      cases hf : fst' (gfa n cl p) n with
      | none => exact ih
      | some a =>
        have h2 := (fst_spec hf).2.1
        unfold gfa at h2
        rw [Bool.and_eq_true, decide_eq_true_eq] at h2
        exact ⟨gen_sub G (hcl p a), G.gen_nml (G.cup_nml _) (hcl p a), h2.2⟩
  have none : ∀ j, j < n → gfa n cl (itr (gnx n cl) (onp e) K) j = false := by
    intro j hj
    cases hg : gfa n cl (itr (gnx n cl) (onp e) K) j with
    | false => rfl
    | true =>
      exfalso
      have hex : ∃ a, fst' (gfa n cl (itr (gnx n cl) (onp e) K)) n = some a := by
        cases hf : fst' (gfa n cl (itr (gnx n cl) (onp e) K)) n with
        | some a => exact ⟨a, rfl⟩
        | none => have := fst_spec0 hf j hj; rw [hg] at this; cases this
      obtain ⟨a, hf⟩ := hex
      obtain ⟨a1, a2, a3⟩ := fst_spec hf
      have h3 := hS.eq a a1
      have h4 : itr (gnx n cl) (onp e) (K + 1) = cl (itr (gnx n cl) (onp e) K) a := gnx_some a1 a2 a3
      rw [h4, (cl_in G hcl a1).2] at h3
      unfold gfa at a2
      rw [← h3] at a2; simp at a2
  obtain ⟨i1, i2, i3⟩ := inv K
  have hle : K ≤ n := by
    have : n - (mem n (itr (gnx n cl) (onp e) 0)).length ≤ n := Nat.sub_le _ _
    omega
  refine ⟨K, hle, hS, none, i1, i2, ?_, fun a ha hqa y hy => ?_⟩
  · refine Classical.byContradiction fun hh => ?_
    have hall : ∀ x, x < n → itr (gnx n cl) (onp e) K x = true := fun x hx => by
      cases hv : itr (gnx n cl) (onp e) K x with
      | true => rfl
      | false => exact absurd ⟨x, hx, hv⟩ hh
    have e1 : thl n (itr (gnx n cl) (onp e) K) = thl n fun _ => true := thl_congr fun x hx => hall x hx
    have e2 : (thl n fun _ => true).length = n := by rw [thl_len]; unfold thn'; rw [List.filter_eq_self.2 fun _ _ => rfl, List.length_range]
    rw [e1] at i3; omega
  · have h3 := none a ha
    unfold gfa at h3
    rw [hqa] at h3
    simp only [Bool.not_false, Bool.true_and, decide_eq_false_iff_not] at h3
    exact (hcl _ _ _ hy).1 (full_len h3 y hy)
end

/-! ### greatest -/

theorem bo_wth {n a : Nat} (p : Nat → Bool) (ha : a < n) : bo n p ||| 2 ^ a = bo n (wth p a) := by
  refine Nat.eq_of_testBit_eq fun i => ?_
  rw [Nat.testBit_or, bo_bit, bo_bit, Nat.testBit_two_pow]
  unfold wth
  by_cases hi : i < n
  · simp [hi, eq_comm]
  · have : ¬ a = i := by omega
    simp [hi, this]
theorem bo_gen0 {n e : Nat} {f : Nat → Nat → Nat} : ∀ a, a < n → (onp e a = true ↔ Gen n f e (Nat.testBit 0) a) := fun a ha => by
  rw [onp_iff]
  constructor
  · rintro rfl; exact .one
  · intro hg
    exact Gen.least (H := fun a => a = e) rfl (fun a b _ _ hb _ => by simp at hb) hg

set_option maxHeartbeats 2000000 in
theorem greatest_ok {n e : Nat} {m : List Int} (h : GT n m n e) (h1 : 1 < n) : ∃ q, Grt n (op m n) e q ∧ FnC Tryd.prog 83 [gp n m] (.list (il (thl n q))) := by
  have G := h.2.2
  have hb := h.2.1.big
  obtain ⟨cl, hcl⟩ := cl_ex n (op m n) e
  obtain ⟨K, hK, hS, hnone, hG⟩ := gnx_stop G h1 hcl
  have hT0 : itr (gnx n cl) (onp e) 0 = onp e := rfl
  have hTs : ∀ k, itr (gnx n cl) (onp e) (k + 1) = gnx n cl (itr (gnx n cl) (onp e) k) := fun k => rfl
  refine ⟨itr (gnx n cl) (onp e) K, hG, ?_⟩
  generalize itr (gnx n cl) (onp e) = T at *
  have hbt : ∀ p, bo n p < 2 ^ 64 := fun p => bo_lt64 hb p
  refine fnc_of tab_ok Tryd.func83 rfl (by kernel_rfl) (by rw [Tryd.ntmps83]; exact Nat.le_add_left 1 _) ?_; rw [Tryd.ntmps83]
  refine qm ?_
  refine hk_region fun K hK => runs_eval tab_ok ?_
  simp only [ev0, evA, evB, evP, fl, gp, tab, simprocAttr, reduceCtorEq, reduceIte]
  refine fin_run ?_ (hK _ ?_) <;> clear hK <;> clear K
  · (first | exact trivial | omega | (simp only [In64] at *; omega) | (simp [In64] at *; omega) | (simp_all; done) | skip)
  refine qa (qs (fun _ _ h => h) (qm ?_))
  refine hk_region fun K hK => runs_eval tab_ok ?_
  simp only [ev0, evA, evB, evP, fl, gp, tab, simprocAttr, reduceCtorEq, reduceIte]
  refine fin_stop trivial (runs_call (grow_c h 0 (Nat.pow_pos (by omega)) (onp e) bo_gen0) rfl rfl rfl (by simp only [dstOk, Nat.reduceLT]) (by repeat (first | exact trivial | constructor)) (runs_eval tab_ok ?_))
  simp only [ev0, evA, evB, evP, fl, gp, tab, simprocAttr, reduceCtorEq, reduceIte]
  refine fin_run ?_ (hK _ ?_) <;> clear hK <;> clear K
  · (first | exact trivial | omega | (simp only [In64] at *; omega) | (simp [In64] at *; omega) | (simp_all; done) | skip)
  refine qa (qm (qi (qa (ql ?_))))
  refine hk_loop (ι := Nat) (fun k => ⟨37, [(1, .ptr 0 0), (3, .p (.int .u64 (bo n (T k))))], [.own [.p (.int .i64 n), .p (.list (il m))]]⟩) (fun k => k ≤ K) (fun k => K - k) 0 (Nat.zero_le _) [0] (by rw [hT0]; simp only [leq, leA, ev0, evA, evB, evP, fl, gp, tab, simprocAttr, reduceCtorEq, reduceIte] <;> trivial) fun k hk => ?_
  refine ql (qm (qm ?_))
  refine hk_region fun K hK => runs_eval tab_ok ?_
  simp only [ev0, evA, evB, evP, fl, gp, tab, simprocAttr, reduceCtorEq, reduceIte]
  refine fin_run ?_ (hK _ ?_) <;> clear hK <;> clear K
  · (first | exact trivial | omega | (simp only [In64] at *; omega) | (simp [In64] at *; omega) | (simp_all; done) | skip)
  refine qa (ql ?_)
  refine hk_loop (ι := Nat) (fun a => ⟨37, [(1, .ptr 0 0), (3, .p (.int .u64 (bo n (T k)))), (10, .p (.int .i64 n)), (11, .p (.int .i64 a))], [.own [.p (.int .i64 n), .p (.list (il m))]]⟩) (fun a => a ≤ n ∧ ∀ j, j < a → gfa n cl (T k) j = false) (fun a => n - a) 0 ⟨Nat.zero_le _, fun j hj => by omega⟩ [0] (by simp only [leq, leA, ev0, evA, evB, evP, fl, gp, tab, simprocAttr, reduceCtorEq, reduceIte] <;> trivial) fun a ha => ?_
  obtain ⟨ha, hlow⟩ := ha
  refine qm ?_
  refine hk_region fun K hK => runs_eval tab_ok ?_
  simp only [ev0, evA, evB, evP, fl, gp, tab, simprocAttr, reduceCtorEq, reduceIte]
  refine fin_run trivial (hK _ ?_) <;> clear hK <;> clear K
  refine qa (qm ?_)
  refine hk_cond rfl (fun hC1 => ?_) (fun hC1 => ?_)
  · (try simp only [nhs] at hC1)
    have hal : a < n := by omega
    have hbit : (bo n (T k)).testBit a = T k a := by rw [bo_bit]; simp [hal]
    refine qh (qa (qm (ql (qm ?_))))
    refine hk_region fun K hK => runs_eval tab_ok ?_
    simp only [ev0, evA, evB, evP, fl, gp, tab, simprocAttr, reduceCtorEq, reduceIte]
    refine fin_run trivial (hK _ ?_) <;> clear hK <;> clear K
    refine qa (qm (qm ?_))
    refine hk_region fun K hK => runs_eval tab_ok ?_
    simp only [ev0, evA, evB, evP, fl, gp, tab, simprocAttr, reduceCtorEq, reduceIte]
    refine fin_stop trivial (runs_call (has_s (bo n (T k)) a (hbt _) (by omega)) rfl rfl rfl (by simp only [dstOk, Nat.reduceLT]) (by repeat (first | exact trivial | constructor)) (runs_eval tab_ok ?_))
    simp only [ev0, evA, evB, evP, fl, gp, tab, simprocAttr, reduceCtorEq, reduceIte, hbit]
    refine fin_run trivial (hK _ ?_) <;> clear hK <;> clear K
    refine qa ?_
    refine hk_cond rfl (fun hC2 => ?_) (fun hC2 => ?_)
    · (try simp only [nhs] at hC2)
      have hga : gfa n cl (T k) a = false := by unfold gfa; rw [hC2]; rfl
      refine qj (qc (qf (qa ?_)))
      refine hk_region fun K hK => runs_eval tab_ok ?_
      simp only [ev0, evA, evB, evP, fl, gp, tab, simprocAttr, reduceCtorEq, reduceIte]
      refine fin_run ?_ (hK _ ?_) <;> clear hK <;> clear K
      · (first | exact trivial | omega | (simp only [In64] at *; omega) | (simp [In64] at *; omega) | (simp_all; done) | skip)
      refine qa ?_
      refine ⟨a + 1, [0], ⟨by omega, fun j hj => ?_⟩, by omega, ?_⟩
      · by_cases hja : j = a
        · rw [hja]; exact hga
        · exact hlow j (by omega)
      · simp only [leq, leA, ev0, evA, evB, evP, fl, gp, tab, simprocAttr, reduceCtorEq, reduceIte] <;> omega
    · (try simp only [nhs] at hC2)
      have hw := bo_wth (T k) hal
      have hp2 := pow_lt64 (b := a) (by omega)
      refine qh (qa (qm ?_))
      refine hk_draw2 mixed fun K hK => runs2_eval tab_ok ?_
      simp only [evD, ev0, evA, evB, evP, fl, gp, tab, simprocAttr, reduceCtorEq, reduceIte, shl_one (show a < 64 by omega), bv_or (hbt (T k)) hp2, hw]
      refine fin2_stop ?_ (runs2_call (list_s (bo n (wth (T k) a)) (hbt _)) rfl rfl rfl rfl (by simp only [dstOk, Nat.reduceLT]) (by repeat (first | exact trivial | constructor)) (runs2_eval tab_ok ?_))
      · omega
      simp only [evD, ev0, evA, evB, evP, fl, gp, tab, simprocAttr, reduceCtorEq, reduceIte, stl_bo hb, shl_one (show a < 64 by omega), bv_or (hbt (T k)) hp2, hw]
      refine fin2_stop trivial (runs2_call (closure_ok h (wth (T k) a) (cl (T k) a) (hcl (T k) a)) rfl rfl rfl rfl (by simp only [dstOk, Nat.reduceLT]) (by repeat (first | exact trivial | constructor)) (runs2_eval tab_ok ?_))
      simp only [evD, ev0, evA, evB, evP, fl, gp, tab, simprocAttr, reduceCtorEq, reduceIte, shl_one (show a < 64 by omega), bv_or (hbt (T k)) hp2, hw]
      refine fin2_run ?_ (hK _ _ (by first | kernel_rfl | rfl) ?_) <;> clear hK <;> clear K
      · (first | exact trivial | omega | (simp only [In64] at *; omega) | (simp [In64] at *; omega) | (simp_all; done) | skip)
      refine qa (qm ?_)
      refine hk_region fun K hK => runs_eval tab_ok ?_
      simp only [ev0, evA, evB, evP, fl, gp, tab, simprocAttr, reduceCtorEq, reduceIte, il_length]
      refine fin_run ?_ (hK _ ?_) <;> clear hK <;> clear K
      · (first | exact trivial | omega | (simp only [In64] at *; omega) | (simp [In64] at *; omega) | (simp_all; done) | skip)
      refine qa ?_
      refine hk_cond rfl (fun hC3 => ?_) (fun hC3 => ?_)
      · (try simp only [nhs] at hC3)
        have hga : gfa n cl (T k) a = true := by unfold gfa; rw [hC2, decide_eq_true (show (thl n (cl (T k) a)).length < n by omega)]; rfl
        have hnx : T (k + 1) = cl (T k) a := by rw [hTs]; exact gnx_some hal hga hlow
        have hkK : k < K := by
          rcases Nat.lt_or_eq_of_le hk with h | h
          · exact h
          · rw [h] at hga; have := hnone a hal; rw [this] at hga; cases hga
        refine qm ?_
        refine hk_region fun K hK => runs_eval tab_ok ?_
        simp only [ev0, evA, evB, evP, fl, gp, tab, simprocAttr, reduceCtorEq, reduceIte]
        refine fin_stop trivial (runs_call (of_s (thl n (cl (T k) a)) (by have := thl_le n (cl (T k) a); omega) (thl_rng hb _)) rfl rfl rfl (by simp only [dstOk, Nat.reduceLT]) (by repeat (first | exact trivial | constructor)) (runs_eval tab_ok ?_))
        simp only [ev0, evA, evB, evP, fl, gp, tab, simprocAttr, reduceCtorEq, reduceIte, msk_thl]
        refine fin_run trivial (hK _ ?_) <;> clear hK <;> clear K
        refine qa (qj (qg rfl (qc (qc (qg rfl (qc (qf (qa ?_))))))))
        refine ⟨k + 1, [0], by omega, by omega, ?_⟩
        rw [hnx]
        simp only [leq, leA, ev0, evA, evB, evP, fl, gp, tab, simprocAttr, reduceCtorEq, reduceIte] <;> trivial
      · (try simp only [nhs] at hC3)
        have hga : gfa n cl (T k) a = false := by unfold gfa; rw [hC2, decide_eq_false (show ¬ (thl n (cl (T k) a)).length < n by omega)]; rfl
        refine qh (qd (qa ?_))
        refine hk_region fun K hK => runs_eval tab_ok ?_
        simp only [ev0, evA, evB, evP, fl, gp, tab, simprocAttr, reduceCtorEq, reduceIte]
        refine fin_run ?_ (hK _ ?_) <;> clear hK <;> clear K
        · (first | exact trivial | omega | (simp only [In64] at *; omega) | (simp [In64] at *; omega) | (simp_all; done) | skip)
        refine qa ?_
        refine ⟨a + 1, [0], ⟨by omega, fun j hj => ?_⟩, by omega, ?_⟩
        · by_cases hja : j = a
          · rw [hja]; exact hga
          · exact hlow j (by omega)
        · simp only [leq, leA, ev0, evA, evB, evP, fl, gp, tab, simprocAttr, reduceCtorEq, reduceIte] <;> omega
  · (try simp only [nhs] at hC1)
    have han : a = n := by omega
    have hkK : k = K := by
      rcases Nat.lt_or_eq_of_le hk with h | h
      · exact absurd (fun x hx => by rw [hTs, gnx_none (fun j hj => hlow j (by omega))]) (hS.ne k h)
      · exact h
    refine qj (qc (qc (qf (qa (qm ?_)))))
    refine hk_region fun K hK => runs_eval tab_ok ?_
    simp only [ev0, evA, evB, evP, fl, gp, tab, simprocAttr, reduceCtorEq, reduceIte]
    refine fin_stop trivial (runs_call (list_s (bo n (T k)) (hbt _)) rfl rfl rfl (by simp only [dstOk, Nat.reduceLT]) (by repeat (first | exact trivial | constructor)) (runs_eval tab_ok ?_))
    simp only [ev0, evA, evB, evP, fl, gp, tab, simprocAttr, reduceCtorEq, reduceIte, stl_bo hb]
    refine fin_run trivial (hK _ ?_) <;> clear hK <;> clear K
    refine qa (qk (qe (qb (qe ?_))))
    simp only [Tryd.results83, enA, ev0, evA, evB, evP, fl, gp, tab, simprocAttr, reduceCtorEq, reduceIte]
    all_goals (rw [hkK])

/-! ### Composition -/

theorem Grt.cong {n e : Nat} {f g : Nat → Nat → Nat} {q : Nat → Bool} (G : Grp n f e) (h : ∀ a b, a < n → b < n → g a b = f a b) (hq : Grt n g e q) : Grt n f e q :=
  ⟨hq.sub.cong_op G h, hq.nml.cong_op G h, hq.ne, fun a ha hqa y hy => (Gen.mono (fun b _ hb => by rwa [cup_cong G h] at hb) (hq.mx a ha hqa y hy)).cong_op G h⟩

section
variable {n e : Nat} {m : List Int}
theorem ptb_GT (h : GT n m n e) {p : Nat → Bool} (hs : Sub n (op m n) e p) : GT (thl n p).length (ptb n (op m n) p) (thl n p).length (pix p e) := by
  have := thl_le n p
  have := h.2.1.big
  exact tbl_GT' (by omega) (ptb_grp h.2.2 hs)
theorem ptb_op {p : Nat → Bool} (f : Nat → Nat → Nat) : ∀ a b, a < (thl n p).length → b < (thl n p).length → op (ptb n f p) (thl n p).length a b = pop n f p a b := fun a b ha hb => tbl_op' _ ha hb

theorem part_greatest (h : GT n m n e) (p : Nat → Bool) : ∃ q : Nat → Bool, Sub n (op m n) e p → 1 < (thl n p).length → Grt (thl n p).length (pop n (op m n) p) (pix p e) q ∧
    FnC Tryd.prog 83 [gp (thl n p).length (ptb n (op m n) p)] (.list (il (thl (thl n p).length q))) := by
  by_cases hs : Sub n (op m n) e p ∧ 1 < (thl n p).length
  · obtain ⟨q, hq, hc⟩ := greatest_ok (ptb_GT h hs.1) hs.2
    exact ⟨q, fun _ _ => ⟨hq.cong (ptb_grp h.2.2 hs.1) (ptb_op _), hc⟩⟩
  · exact ⟨p, fun h1 h2 => absurd ⟨h1, h2⟩ hs⟩

/-- A composition series: from all on, to one thing. -/
structure Cps (n : Nat) (f : Nat → Nat → Nat) (e : Nat) (T : Nat → Nat → Bool) (K : Nat) : Prop where
  all : T 0 = fun _ => true
  sub : ∀ k, k ≤ K → Sub n f e (T k)
  mxn : ∀ k, k < K → Mxn n f e (T k) (T (k + 1))
  last : (thl n (T K)).length = 1
  short : K ≤ 5

theorem cps_ex (G : Grp n (op m n) e) (hb : n ≤ 60) (Q : (Nat → Bool) → Nat → Bool) (hQ : ∀ p, Sub n (op m n) e p → 1 < (thl n p).length → Mxn n (op m n) e p (lft p (Q p))) :
    ∃ K, Cps n (op m n) e (itr (fun p => lft p (Q p)) fun _ => true) K ∧ ∀ k, k < K → 1 < (thl n (itr (fun p => lft p (Q p)) (fun _ => true) k)).length := by
  have hTs : ∀ k, itr (fun p => lft p (Q p)) (fun _ => true) (k + 1) = lft (itr (fun p => lft p (Q p)) (fun _ => true) k) (Q (itr (fun p => lft p (Q p)) (fun _ => true) k)) := fun k => rfl
  have hT0 : itr (fun p => lft p (Q p)) (fun _ => true) 0 = fun _ => true := rfl
  generalize itr (fun p => lft p (Q p)) (fun _ => true) = T at *
  have step : ∀ k, Sub n (op m n) e (T k) → 1 < (thl n (T k)).length → Mxn n (op m n) e (T k) (T (k + 1)) := fun k h1 h2 => by rw [hTs]; exact hQ _ h1 h2
  have go : ∀ c k, (thl n (T k)).length ≤ c → (∀ j, j ≤ k → Sub n (op m n) e (T j)) → (∀ j, j < k → 1 < (thl n (T j)).length) → (thl n (T k)).length * 2 ^ k ≤ n →
      ∃ K, (∀ j, j ≤ K → Sub n (op m n) e (T j)) ∧ (∀ j, j < K → 1 < (thl n (T j)).length) ∧ (thl n (T K)).length = 1 ∧ 2 ^ K ≤ n := by
    intro c
    induction c with
    | zero =>
      intro k h1 h2 _ _
      have := (pix_at G.el (h2 k (Nat.le_refl _)).one).1
      omega
    | succ c ih =>
      intro k h1 h2 h3 h4
      have hpos := (pix_at G.el (h2 k (Nat.le_refl _)).one).1
      by_cases hl : (thl n (T k)).length = 1
      · exact ⟨k, h2, h3, hl, by rw [hl] at h4; omega⟩
      · have hM := step k (h2 k (Nat.le_refl _)) (by omega)
        have hh := hM.half G (h2 k (Nat.le_refl _))
        have e1 : (thl n (T k)).length = (mem n (T k)).length := thl_len _ _
        have e2 : (thl n (T (k + 1))).length = (mem n (T (k + 1))).length := thl_len _ _
        refine ih (k + 1) (by omega) (fun j hj => ?_) (fun j hj => ?_) ?_
        · by_cases hjk : j = k + 1
          · rw [hjk]; exact hM.sub
          · exact h2 j (by omega)
        · by_cases hjk : j = k
          · rw [hjk]; omega
          · exact h3 j (by omega)
        · have e3 : (thl n (T (k + 1))).length * 2 ^ (k + 1) = (2 * (thl n (T (k + 1))).length) * 2 ^ k := by rw [Nat.pow_succ, Nat.mul_comm 2, Nat.mul_assoc, Nat.mul_comm 2]
          rw [e3]
          exact Nat.le_trans (Nat.mul_le_mul_right _ (by omega)) h4
  have hall : (thl n (T 0)).length = n := by
    rw [hT0, thl_len]; unfold thn'; rw [List.filter_eq_self.2 fun _ _ => rfl, List.length_range]
  obtain ⟨K, h1, h2, h3, h4⟩ := go n 0 (by omega) (fun j hj => by rw [show j = 0 by omega, hT0]; exact G.all_sub) (fun j hj => by omega) (by rw [hall]; simp)
  refine ⟨K, ⟨hT0, h1, fun k hk => step k (h1 k (by omega)) (h2 k hk), h3, ?_⟩, h2⟩
  refine Classical.byContradiction fun hh => ?_
  have : 2 ^ 6 ≤ 2 ^ K := Nat.pow_le_pow_right (by omega) (by omega)
  omega

theorem lft_take (p q : Nat → Bool) : ((thl (thl n p).length q).map fun z => ((lat n p z.toNat : Nat) : Int)) = thl n (lft p q) := lft_thl p q n
def lml (n : Nat) (p : Nat → Bool) (l : List Int) : List Int := l.map fun z => ((lat n p z.toNat : Nat) : Int)
theorem lml_succ (n : Nat) (p : Nat → Bool) {l : List Int} {i : Nat} (hi : i < l.length) : lml n p (l.take (i + 1)) = lml n p (l.take i) ++ [((lat n p (l.getD i 0).toNat : Nat) : Int)] := by
  unfold lml
  rw [List.take_succ_eq_append_getElem hi, List.map_append]
  have : l[i] = l.getD i 0 := by simp [List.getD, List.getElem?_eq_getElem hi]
  rw [this]; rfl
theorem lml_len (n : Nat) (p : Nat → Bool) (l : List Int) : (lml n p l).length = l.length := by simp [lml]

set_option maxHeartbeats 4000000 in
theorem composition_ok (h : GT n m n e) : ∃ T K, Cps n (op m n) e T K ∧ FnC Tryd.prog 21 [gp n m] (.tup [.list (ll (cht n T K)), fl (0, 0)]) := by
  have G := h.2.2
  have hb := h.2.1.big
  have hml := h.2.1.len
  have hsq := sq_le hb
  have hbt : ∀ p, bo n p < 2 ^ 64 := fun p => bo_lt64 hb p
  have h1 : ∀ k : Nat, ((k + 1) == 0) = false := fun k => rfl
  obtain ⟨Q, hQ⟩ := Classical.axiomOfChoice (part_greatest h)
  obtain ⟨K, hC, hlong⟩ := cps_ex G hb Q fun p hs h1 => ((hQ p) hs h1).1.lift G hs
  have hTs : ∀ k, itr (fun p => lft p (Q p)) (fun _ => true) (k + 1) = lft (itr (fun p => lft p (Q p)) (fun _ => true) k) (Q (itr (fun p => lft p (Q p)) (fun _ => true) k)) := fun k => rfl
  refine ⟨_, K, hC, ?_⟩
  generalize itr (fun p => lft p (Q p)) (fun _ => true) = T at *
  have h0 := hC.all
  have hshort := hC.short
  refine fnc_of tab_ok Tryd.func21 rfl (by kernel_rfl) (by rw [Tryd.ntmps21]; exact Nat.le_add_left 1 _) ?_; rw [Tryd.ntmps21]
  refine qm ?_
  refine hk_region fun K hK => runs_eval tab_ok ?_
  simp only [ev0, evA, evB, evP, fl, gp, tab, simprocAttr, reduceCtorEq, reduceIte]
  refine fin_run ?_ (hK _ ?_) <;> clear hK <;> clear K
  · (first | exact trivial | omega | (simp only [In64] at *; omega) | (simp [In64] at *; omega) | (simp_all; done) | skip)
  refine qa (qm (qm ?_))
  refine hk_region fun K hK => runs_eval tab_ok ?_
  simp only [ev0, evA, evB, evP, fl, gp, tab, simprocAttr, reduceCtorEq, reduceIte]
  refine fin_stop trivial (runs_call (check_c n m (by omega)) rfl rfl rfl (by simp only [dstOk, Nat.reduceLT]) (by repeat (first | exact trivial | constructor)) (runs_eval tab_ok ?_))
  simp only [ev0, evA, evB, evP, fl, gp, tab, simprocAttr, reduceCtorEq, reduceIte, gf_of h]
  refine fin_run ?_ (hK _ ?_) <;> clear hK <;> clear K
  · (first | exact trivial | omega | (simp only [In64] at *; omega) | (simp [In64] at *; omega) | (simp_all; done) | skip)
  refine qa (qm ?_)
  refine hk_region fun K hK => runs_eval tab_ok ?_
  simp only [ev0, evA, evB, evP, fl, gp, tab, simprocAttr, reduceCtorEq, reduceIte]
  refine fin_run ?_ (hK _ ?_) <;> clear hK <;> clear K
  · (first | exact trivial | omega | (simp only [In64] at *; omega) | (simp [In64] at *; omega) | (simp_all; done) | skip)
  refine qa ?_
  refine hk_cond rfl (fun hC1 => ?_) (fun hC1 => ?_)
  · cases hC1
  · (try simp only [nhs] at hC1)
    refine qh (qa (qm ?_))
    refine hk_region fun K hK => runs_eval tab_ok ?_
    simp only [ev0, evA, evB, evP, fl, gp, tab, simprocAttr, reduceCtorEq, reduceIte]
    refine fin_stop trivial (runs_call (whole_s n m hb) rfl rfl rfl (by simp only [dstOk, Nat.reduceLT]) (by repeat (first | exact trivial | constructor)) (runs_eval tab_ok ?_))
    simp only [ev0, evA, evB, evP, fl, gp, tab, simprocAttr, reduceCtorEq, reduceIte]
    refine fin_stop trivial (runs_call (list_s (bo n fun _ => true) (hbt _)) rfl rfl rfl (by simp only [dstOk, Nat.reduceLT]) (by repeat (first | exact trivial | constructor)) (runs_eval tab_ok ?_))
    simp only [ev0, evA, evB, evP, fl, gp, tab, simprocAttr, reduceCtorEq, reduceIte, stl_bo hb]
    refine fin_run ?_ (hK _ ?_) <;> clear hK <;> clear K
    · (first | exact trivial | omega | (simp only [In64] at *; omega) | (simp [In64] at *; omega) | (simp_all; done) | skip)
    refine qa (qm ?_)
    refine hk_region fun K hK => runs_eval tab_ok ?_
    simp only [ev0, evA, evB, evP, fl, gp, tab, simprocAttr, reduceCtorEq, reduceIte]
    refine fin_run ?_ (hK _ ?_) <;> clear hK <;> clear K
    · (first | exact trivial | omega | (simp only [In64] at *; omega) | (simp [In64] at *; omega) | (simp_all; done) | skip)
    refine qa (qm (ql ?_))
    refine hk_loop (ι := Nat) (fun k => ⟨54, [(1, .ptr 0 0), (3, .ptr 1 0), (5, .p (.list (il (thl n (T k))))), (6, bif k == 0 then .p (.nn [.list (il (thl n (T 0)))]) else .sl 2 0 (cht n T k).length)], bif k == 0 then [.own [.p (.int .i64 n), .p (.list (il m))], .own [.p (.int .i64 0), .p (.int .i64 0)]] else [.own [.p (.int .i64 n), .p (.list (il m))], .own [.p (.int .i64 0), .p (.int .i64 0)], .own (opl (ll (cht n T k)))]⟩) (fun k => k ≤ K) (fun k => K - k) 0 (Nat.zero_le _) [0, 1] (by rw [h0]; simp only [leq, leA, ev0, evA, evB, evP, fl, gp, tab, simprocAttr, reduceCtorEq, reduceIte, beq_self_eq_true, cond_true] <;> first | trivial | (simp; done)) fun k hk => ?_
    have hl1 := thl_le n (T k)
    refine qm (qm ?_)
    by_cases hk0 : (k == 0) = true
    · simp only [hk0, cond_true]
      have hkz : k = 0 := by simpa using hk0
      refine hk_region fun K hK => runs_eval tab_ok ?_
      simp only [ev0, evA, evB, evP, fl, gp, tab, simprocAttr, reduceCtorEq, reduceIte, il_length]
      refine fin_run trivial (hK _ ?_) <;> clear hK <;> clear K
      refine qa ?_
      refine hk_cond rfl (fun hC2 => ?_) (fun hC2 => ?_)
      · (try simp only [nhs] at hC2)
        have hkK : k < K := by
          rcases Nat.lt_or_eq_of_le hk with h | h
          · exact h
          · have := hC.last; rw [← h] at this; omega
        have hs := hC.sub k hk
        obtain ⟨hgrt, hgc⟩ := hQ (T k) hs (by omega)
        have hT1 := hTs k
        have hpk := thl_le (thl n (T k)).length (Q (T k))
        refine qh (qa (ql (qm ?_)))
        refine hk_region fun K hK => runs_eval tab_ok ?_
        simp only [ev0, evA, evB, evP, fl, gp, tab, simprocAttr, reduceCtorEq, reduceIte]
        refine fin_stop trivial (runs_call (part_ok h (T k) hs) rfl rfl rfl (by simp only [dstOk, Nat.reduceLT]) (by repeat (first | exact trivial | constructor)) (runs_eval tab_ok ?_))
        simp only [ev0, evA, evB, evP, fl, gp, tab, simprocAttr, reduceCtorEq, reduceIte]
        refine fin_run ?_ (hK _ ?_) <;> clear hK <;> clear K
        · (first | exact trivial | omega | (simp only [In64] at *; omega) | (simp [In64] at *; omega) | (simp_all; done) | skip)
        refine qa (qm ?_)
        refine hk_region fun K hK => runs_eval tab_ok ?_
        simp only [ev0, evA, evB, evP, fl, gp, tab, simprocAttr, reduceCtorEq, reduceIte]
        refine fin_run trivial (hK _ ?_) <;> clear hK <;> clear K
        refine qa (qm (qm ?_))
        refine hk_own0 9 rfl ?_
        refine hk_region fun K hK => runs_eval tab_ok ?_
        simp only [ev0, evA, evB, evP, fl, gp, tab, simprocAttr, reduceCtorEq, reduceIte, il_length]
        refine fin_stop trivial (runs_call (hgc) rfl rfl rfl (by simp only [dstOk, Nat.reduceLT]) (by repeat (first | exact trivial | constructor)) (runs_eval tab_ok ?_))
        simp only [ev0, evA, evB, evP, fl, gp, tab, simprocAttr, reduceCtorEq, reduceIte, il_length]
        refine fin_run ?_ (hK _ ?_) <;> clear hK <;> clear K
        · (first | exact trivial | omega | (simp only [In64] at *; omega) | (simp [In64] at *; omega) | (simp_all; done) | skip)
        refine qa (ql ?_)
        refine hk_loop (ι := Nat) (fun i => ⟨54, [(1, .ptr 0 0), (3, .ptr 1 0), (5, .p (.list (il (thl n (T k))))), (6, .p (.nn [.list (il (thl n (T 0)))])), (9, .sl 2 0 (lml n (T k) ((thl (thl n (T k)).length (Q (T k))).take i)).length), (33, .p (.list (il (thl (thl n (T k)).length (Q (T k)))))), (34, .p (.int .i64 (thl (thl n (T k)).length (Q (T k))).length)), (35, .p (.int .i64 i))], [.own [.p (.int .i64 n), .p (.list (il m))], .own [.p (.int .i64 0), .p (.int .i64 0)], .own (ol (lml n (T k) ((thl (thl n (T k)).length (Q (T k))).take i)))]⟩) (fun i => i ≤ (thl (thl n (T k)).length (Q (T k))).length) (fun i => (thl (thl n (T k)).length (Q (T k))).length - i) 0 (Nat.zero_le _) [0, 1, 4] (by simp only [leq, leA, ev0, evA, evB, evP, fl, gp, tab, simprocAttr, reduceCtorEq, reduceIte, ll_takeL] <;> first | trivial | simp [lml, ol_nil]) fun i hi => ?_
        refine qm ?_
        refine hk_region fun K hK => runs_eval tab_ok ?_
        simp only [ev0, evA, evB, evP, fl, gp, tab, simprocAttr, reduceCtorEq, reduceIte]
        refine fin_run trivial (hK _ ?_) <;> clear hK <;> clear K
        refine qa (qm ?_)
        refine hk_cond rfl (fun hC3 => ?_) (fun hC3 => ?_)
        · (try simp only [nhs] at hC3)
          have hlt : i < (thl (thl n (T k)).length (Q (T k))).length := by omega
          obtain ⟨x, x1, x2, x3⟩ := thl_get hlt
          obtain ⟨y1, y2, y3, y4⟩ := lat_at x1
          have hll2 := lml_len n (T k) ((thl (thl n (T k)).length (Q (T k))).take i)
          rw [List.length_take] at hll2
          refine qh (qa (qm (ql (qm ?_))))
          refine hk_region fun K hK => runs_eval tab_ok ?_
          simp only [ev0, evA, evB, evP, fl, gp, tab, simprocAttr, reduceCtorEq, reduceIte, il_get hlt, x3]
          refine fin_run ?_ (hK _ ?_) <;> clear hK <;> clear K
          · (first | exact trivial | omega | (simp only [In64] at *; omega) | (simp [In64] at *; omega) | (simp_all; done) | skip)
          refine qa ?_
          refine hk_region fun K hK => runs_eval tab_ok ?_
          simp only [ev0, evA, evB, evP, fl, gp, tab, simprocAttr, reduceCtorEq, reduceIte, il_get x1, y3]
          refine fin_run ?_ (hK _ ?_) <;> clear hK <;> clear K
          · (first | exact trivial | omega | (simp only [In64] at *; omega) | (simp [In64] at *; omega) | (simp_all; done) | skip)
          refine qd (qa ?_)
          refine hk_region fun K hK => runs_eval tab_ok ?_
          simp only [ev0, evA, evB, evP, fl, gp, tab, simprocAttr, reduceCtorEq, reduceIte]
          refine fin_run ?_ (hK _ ?_) <;> clear hK <;> clear K
          · (first | exact trivial | omega | (simp only [In64] at *; omega) | (simp [In64] at *; omega) | (simp_all; done) | skip)
          refine qa ?_
          refine ⟨i + 1, [0, 1, 3], by omega, by omega, ?_⟩
          rw [lml_succ n (T k) hlt, x3]
          simp only [leq, leA, ev0, evA, evB, evP, fl, gp, tab, simprocAttr, reduceCtorEq, reduceIte, ll_takeL] <;> first | trivial | omega
        · (try simp only [nhs] at hC3)
          have hin : i = (thl (thl n (T k)).length (Q (T k))).length := by omega
          have hnew : lml n (T k) ((thl (thl n (T k)).length (Q (T k))).take i) = thl n (T (k + 1)) := by rw [hin, List.take_length, hT1]; exact lft_take _ _
          rw [hnew]
          have hl2 := thl_le n (T (k + 1))
          have hs2 := cht_succ n T k
          refine qj (qc (qc (qf (qa (qm ?_)))))
          refine hk_seal 9 2 rfl rfl ?_
          refine hk_region fun K hK => runs_eval tab_ok ?_
          simp only [ev0, evA, evB, evP, fl, gp, tab, simprocAttr, reduceCtorEq, reduceIte]
          refine fin_run trivial (hK _ ?_) <;> clear hK <;> clear K
          refine qa ?_
          refine hk_region fun K hK => runs_eval tab_ok ?_
          simp only [ev0, evA, evB, evP, fl, gp, tab, simprocAttr, reduceCtorEq, reduceIte, ll_takeL, oll_ok, ll_snoc]
          refine fin_run ?_ (hK _ ?_) <;> clear hK <;> clear K
          · first | (simp [cellOk, PV.one]; done) | (simp [cellOk, PV.one]; omega)
          refine qd (qa ?_)
          refine ⟨k + 1, [0, 1, 3], by omega, by omega, ?_⟩
          have hs0 : ll (cht n T (k + 1)) = [.list (il (thl n (T 0))), .list (il (thl n (T (k + 1))))] := by rw [hs2, hkz]; rfl
          have hl0 := cht_len n T (k + 1)
          simp only [leq, leA, ev0, evA, evB, evP, fl, gp, tab, simprocAttr, reduceCtorEq, reduceIte, h1, cond_false] <;> first | trivial | omega | (rw [hs0, hl0, hkz]; exact ⟨rfl, rfl⟩)
      · (try simp only [nhs] at hC2)
        have hkK : k = K := by
          rcases Nat.lt_or_eq_of_le hk with h | h
          · have := hlong k h; omega
          · exact h
        refine qj (qc (qc (qf (qa (qm ?_)))))
        refine hk_region fun K hK => runs_eval tab_ok ?_
        simp only [ev0, evA, evB, evP, fl, gp, tab, simprocAttr, reduceCtorEq, reduceIte]
        refine fin_run ?_ (hK _ ?_) <;> clear hK <;> clear K
        · (first | exact trivial | omega | (simp only [In64] at *; omega) | (simp [In64] at *; omega) | (simp_all; done) | skip)
        refine qa (qk ?_)
        simp only [Tryd.results21, enA, ev0, evA, evB, evP, fl, gp, tab, simprocAttr, reduceCtorEq, reduceIte]
        all_goals (rw [← hkK, hkz]; rfl)
    · rw [Bool.not_eq_true] at hk0
      simp only [hk0, cond_false]
      have hlen := cht_len n T k
      have hll := ll_length (cht n T k)
      refine hk_region fun K hK => runs_eval tab_ok ?_
      simp only [ev0, evA, evB, evP, fl, gp, tab, simprocAttr, reduceCtorEq, reduceIte, il_length]
      refine fin_run trivial (hK _ ?_) <;> clear hK <;> clear K
      refine qa ?_
      refine hk_cond rfl (fun hC2 => ?_) (fun hC2 => ?_)
      · (try simp only [nhs] at hC2)
        have hkK : k < K := by
          rcases Nat.lt_or_eq_of_le hk with h | h
          · exact h
          · have := hC.last; rw [← h] at this; omega
        have hs := hC.sub k hk
        obtain ⟨hgrt, hgc⟩ := hQ (T k) hs (by omega)
        have hT1 := hTs k
        have hpk := thl_le (thl n (T k)).length (Q (T k))
        refine qh (qa (ql (qm ?_)))
        refine hk_region fun K hK => runs_eval tab_ok ?_
        simp only [ev0, evA, evB, evP, fl, gp, tab, simprocAttr, reduceCtorEq, reduceIte]
        refine fin_stop trivial (runs_call (part_ok h (T k) hs) rfl rfl rfl (by simp only [dstOk, Nat.reduceLT]) (by repeat (first | exact trivial | constructor)) (runs_eval tab_ok ?_))
        simp only [ev0, evA, evB, evP, fl, gp, tab, simprocAttr, reduceCtorEq, reduceIte]
        refine fin_run ?_ (hK _ ?_) <;> clear hK <;> clear K
        · (first | exact trivial | omega | (simp only [In64] at *; omega) | (simp [In64] at *; omega) | (simp_all; done) | skip)
        refine qa (qm ?_)
        refine hk_region fun K hK => runs_eval tab_ok ?_
        simp only [ev0, evA, evB, evP, fl, gp, tab, simprocAttr, reduceCtorEq, reduceIte]
        refine fin_run trivial (hK _ ?_) <;> clear hK <;> clear K
        refine qa (qm (qm ?_))
        refine hk_own0 9 rfl ?_
        refine hk_region fun K hK => runs_eval tab_ok ?_
        simp only [ev0, evA, evB, evP, fl, gp, tab, simprocAttr, reduceCtorEq, reduceIte, il_length]
        refine fin_stop trivial (runs_call (hgc) rfl rfl rfl (by simp only [dstOk, Nat.reduceLT]) (by repeat (first | exact trivial | constructor)) (runs_eval tab_ok ?_))
        simp only [ev0, evA, evB, evP, fl, gp, tab, simprocAttr, reduceCtorEq, reduceIte, il_length]
        refine fin_run ?_ (hK _ ?_) <;> clear hK <;> clear K
        · (first | exact trivial | omega | (simp only [In64] at *; omega) | (simp [In64] at *; omega) | (simp_all; done) | skip)
        refine qa (ql ?_)
        refine hk_loop (ι := Nat) (fun i => ⟨54, [(1, .ptr 0 0), (3, .ptr 1 0), (5, .p (.list (il (thl n (T k))))), (6, .sl 2 0 (cht n T k).length), (9, .sl 3 0 (lml n (T k) ((thl (thl n (T k)).length (Q (T k))).take i)).length), (33, .p (.list (il (thl (thl n (T k)).length (Q (T k)))))), (34, .p (.int .i64 (thl (thl n (T k)).length (Q (T k))).length)), (35, .p (.int .i64 i))], [.own [.p (.int .i64 n), .p (.list (il m))], .own [.p (.int .i64 0), .p (.int .i64 0)], .own (opl (ll (cht n T k))), .own (ol (lml n (T k) ((thl (thl n (T k)).length (Q (T k))).take i)))]⟩) (fun i => i ≤ (thl (thl n (T k)).length (Q (T k))).length) (fun i => (thl (thl n (T k)).length (Q (T k))).length - i) 0 (Nat.zero_le _) [0, 1, 2, 5] (by simp only [leq, leA, ev0, evA, evB, evP, fl, gp, tab, simprocAttr, reduceCtorEq, reduceIte, ll_takeL] <;> first | trivial | simp [lml, ol_nil]) fun i hi => ?_
        refine qm ?_
        refine hk_region fun K hK => runs_eval tab_ok ?_
        simp only [ev0, evA, evB, evP, fl, gp, tab, simprocAttr, reduceCtorEq, reduceIte]
        refine fin_run trivial (hK _ ?_) <;> clear hK <;> clear K
        refine qa (qm ?_)
        refine hk_cond rfl (fun hC3 => ?_) (fun hC3 => ?_)
        · (try simp only [nhs] at hC3)
          have hlt : i < (thl (thl n (T k)).length (Q (T k))).length := by omega
          obtain ⟨x, x1, x2, x3⟩ := thl_get hlt
          obtain ⟨y1, y2, y3, y4⟩ := lat_at x1
          have hll2 := lml_len n (T k) ((thl (thl n (T k)).length (Q (T k))).take i)
          rw [List.length_take] at hll2
          refine qh (qa (qm (ql (qm ?_))))
          refine hk_region fun K hK => runs_eval tab_ok ?_
          simp only [ev0, evA, evB, evP, fl, gp, tab, simprocAttr, reduceCtorEq, reduceIte, il_get hlt, x3]
          refine fin_run ?_ (hK _ ?_) <;> clear hK <;> clear K
          · (first | exact trivial | omega | (simp only [In64] at *; omega) | (simp [In64] at *; omega) | (simp_all; done) | skip)
          refine qa ?_
          refine hk_region fun K hK => runs_eval tab_ok ?_
          simp only [ev0, evA, evB, evP, fl, gp, tab, simprocAttr, reduceCtorEq, reduceIte, il_get x1, y3]
          refine fin_run ?_ (hK _ ?_) <;> clear hK <;> clear K
          · (first | exact trivial | omega | (simp only [In64] at *; omega) | (simp [In64] at *; omega) | (simp_all; done) | skip)
          refine qd (qa ?_)
          refine hk_region fun K hK => runs_eval tab_ok ?_
          simp only [ev0, evA, evB, evP, fl, gp, tab, simprocAttr, reduceCtorEq, reduceIte]
          refine fin_run ?_ (hK _ ?_) <;> clear hK <;> clear K
          · (first | exact trivial | omega | (simp only [In64] at *; omega) | (simp [In64] at *; omega) | (simp_all; done) | skip)
          refine qa ?_
          refine ⟨i + 1, [0, 1, 2, 4], by omega, by omega, ?_⟩
          rw [lml_succ n (T k) hlt, x3]
          simp only [leq, leA, ev0, evA, evB, evP, fl, gp, tab, simprocAttr, reduceCtorEq, reduceIte, ll_takeL] <;> first | trivial | omega
        · (try simp only [nhs] at hC3)
          have hin : i = (thl (thl n (T k)).length (Q (T k))).length := by omega
          have hnew : lml n (T k) ((thl (thl n (T k)).length (Q (T k))).take i) = thl n (T (k + 1)) := by rw [hin, List.take_length, hT1]; exact lft_take _ _
          rw [hnew]
          have hl2 := thl_le n (T (k + 1))
          have hs2 := cht_succ n T k
          refine qj (qc (qc (qf (qa (qm ?_)))))
          refine hk_seal 9 3 rfl rfl ?_
          refine hk_region fun K hK => runs_eval tab_ok ?_
          simp only [ev0, evA, evB, evP, fl, gp, tab, simprocAttr, reduceCtorEq, reduceIte]
          refine fin_run trivial (hK _ ?_) <;> clear hK <;> clear K
          refine qa ?_
          refine hk_region fun K hK => runs_eval tab_ok ?_
          simp only [ev0, evA, evB, evP, fl, gp, tab, simprocAttr, reduceCtorEq, reduceIte, ll_takeL, oll_ok, ll_snoc]
          refine fin_run ?_ (hK _ ?_) <;> clear hK <;> clear K
          · first | (simp [cellOk, PV.one]; done) | (simp [cellOk, PV.one]; omega)
          refine qd (qa ?_)
          refine ⟨k + 1, [0, 1, 4], by omega, by omega, ?_⟩
          rw [hs2]
          simp only [leq, leA, ev0, evA, evB, evP, fl, gp, tab, simprocAttr, reduceCtorEq, reduceIte, h1, cond_false, ll_takeL, ll_snoc, ll_takeS] <;> first | trivial | omega | (simp [ll]; done)
      · (try simp only [nhs] at hC2)
        have hkK : k = K := by
          rcases Nat.lt_or_eq_of_le hk with h | h
          · have := hlong k h; omega
          · exact h
        refine qj (qc (qc (qf (qa (qm ?_)))))
        rw [← ll_length (cht n T k)]
        refine hk_sealp 6 2 (ll_all _) rfl rfl ?_
        refine hk_region fun K hK => runs_eval tab_ok ?_
        simp only [ev0, evA, evB, evP, fl, gp, tab, simprocAttr, reduceCtorEq, reduceIte]
        refine fin_run ?_ (hK _ ?_) <;> clear hK <;> clear K
        · (first | exact trivial | omega | (simp only [In64] at *; omega) | (simp [In64] at *; omega) | (simp_all; done) | skip)
        refine qa (qk ?_)
        simp only [Tryd.results21, enA, ev0, evA, evB, evP, fl, gp, tab, simprocAttr, reduceCtorEq, reduceIte]
        all_goals (rw [← hkK])
theorem composition_no (N : Int) (m : List Int) (hm : m.length ≤ 1000000000000000) (hf : ¬ (gf N m).1 = 0) : FnC Tryd.prog 21 [gp N m] (.tup [.list (ll []), fl (gf N m)]) := by
  refine fnc_of tab_ok Tryd.func21 rfl (by kernel_rfl) (by rw [Tryd.ntmps21]; exact Nat.le_add_left 1 _) ?_; rw [Tryd.ntmps21]
  refine qm ?_
  refine hk_region fun K hK => runs_eval tab_ok ?_
  simp only [ev0, evA, evB, evP, fl, gp, tab, simprocAttr, reduceCtorEq, reduceIte]
  refine fin_run ?_ (hK _ ?_) <;> clear hK <;> clear K
  · (first | exact trivial | omega | (simp only [In64] at *; omega) | (simp [In64] at *; omega) | (simp_all; done) | skip)
  refine qa (qm (qm ?_))
  refine hk_region fun K hK => runs_eval tab_ok ?_
  simp only [ev0, evA, evB, evP, fl, gp, tab, simprocAttr, reduceCtorEq, reduceIte]
  refine fin_stop trivial (runs_call (check_c N m hm) rfl rfl rfl (by simp only [dstOk, Nat.reduceLT]) (by repeat (first | exact trivial | constructor)) (runs_eval tab_ok ?_))
  simp only [ev0, evA, evB, evP, fl, gp, tab, simprocAttr, reduceCtorEq, reduceIte]
  refine fin_run ?_ (hK _ ?_) <;> clear hK <;> clear K
  · (first | exact trivial | omega | (simp only [In64] at *; omega) | (simp [In64] at *; omega) | (simp_all; done) | skip)
  refine qa (qm ?_)
  refine hk_region fun K hK => runs_eval tab_ok ?_
  simp only [ev0, evA, evB, evP, fl, gp, tab, simprocAttr, reduceCtorEq, reduceIte]
  refine fin_run ?_ (hK _ ?_) <;> clear hK <;> clear K
  · (first | exact trivial | omega | (simp only [In64] at *; omega) | (simp [In64] at *; omega) | (simp_all; done) | skip)
  refine qa ?_
  refine hk_cond rfl (fun hC1 => ?_) (fun hC1 => ?_)
  · (try simp only [nhs] at hC1)
    refine qm ?_
    refine hk_draw mixed (by kernel_rfl) fun K hK => runs_eval tab_ok ?_
    simp only [ev0, evA, evB, evP, fl, gp, tab, simprocAttr, reduceCtorEq, reduceIte]
    refine fin_run ?_ (hK _ ?_) <;> clear hK <;> clear K
    · (first | exact trivial | omega | (simp only [In64] at *; omega) | (simp [In64] at *; omega) | (simp_all; done) | skip)
    refine qa (qk (qb ?_))
    simp only [Tryd.results21, enA, ev0, evA, evB, evP, fl, gp, tab, simprocAttr, reduceCtorEq, reduceIte]
    all_goals (simp [ll])
  · (try simp only [nhs] at hC1)
    exact absurd hC1 hf
end
end Go.Proofs.YtjbfkdaodfdpcaaDoor

/-
  Direct products of subgroups. Conditions: none.
-/
set_option linter.all false
namespace Go.Proofs.YtjbfkdaodfdpcaaDoor

section
variable {n e : Nat} {f : Nat → Nat → Nat} {p q : Nat → Bool}
/-- All things of one commute with all of the other. -/
def Cmm (n : Nat) (f : Nat → Nat → Nat) (p q : Nat → Bool) : Prop := ∀ a b, a < n → b < n → p a = true → q b = true → f a b = f b a
theorem Grp.pr2_mk (G : Grp n f e) {a b : Nat} (ha : a < n) (hb : b < n) (h1 : p a = true) (h2 : q b = true) : pr2 n f e p q (f a b) = true :=
  pr2_iff.2 ⟨a, ha, h1, by rwa [← G.assoc _ _ _ (G.iv_lt ha) ha hb, G.iv_mul ha, G.one_l b hb]⟩
theorem Grp.pr2_un (G : Grp n f e) {x : Nat} (hx : x < n) (h : pr2 n f e p q x = true) : ∃ a b, a < n ∧ b < n ∧ p a = true ∧ q b = true ∧ x = f a b := by
  obtain ⟨a, a1, a2, a3⟩ := pr2_iff.1 h
  refine ⟨a, _, a1, G.cl _ _ (G.iv_lt a1) hx, a2, a3, ?_⟩
  rw [← G.assoc _ _ _ a1 (G.iv_lt a1) hx, G.mul_iv a1, G.one_l x hx]
end
end Go.Proofs.YtjbfkdaodfdpcaaDoor

/-
  Plain law, FROBENIUS' THEOREM: what commutes with y, taken by y's powers, is a group on the least things of cosets. Conditions: none.
-/
set_option linter.all false
namespace Go.Proofs.YtjbfkdaodfdpcaaDoor
open Go.Pv

section
variable {n : Nat} {f : Nat → Nat → Nat} {e : Nat}

/-- The same but for a power of y. -/
def sm (n : Nat) (f : Nat → Nat → Nat) (e y x z : Nat) : Prop := ∃ j, j < ord n f e y ∧ z = f x (pw f e y j)
instance (n : Nat) (f : Nat → Nat → Nat) (e y x z : Nat) : Decidable (sm n f e y x z) := by unfold sm; infer_instance

theorem Grp.sm_of (G : Grp n f e) {y x : Nat} (hy : y < n) (j : Nat) : sm n f e y x (f x (pw f e y j)) :=
  ⟨j % ord n f e y, Nat.mod_lt _ (G.ord_pos hy), by rw [G.pw_mod hy]⟩
theorem Grp.sm_refl (G : Grp n f e) {y x : Nat} (hy : y < n) (hx : x < n) : sm n f e y x x := by
  have := G.sm_of (x := x) hy 0
  rwa [show pw f e y 0 = e from rfl, G.one_r x hx] at this
theorem Grp.sm_lt (G : Grp n f e) {y x z : Nat} (hy : y < n) (hx : x < n) (h : sm n f e y x z) : z < n := by
  obtain ⟨j, _, rfl⟩ := h
  exact G.cl _ _ hx (G.pw_lt hy j)
theorem Grp.sm_trans (G : Grp n f e) {y x z w : Nat} (hy : y < n) (hx : x < n) (h : sm n f e y x z) (h' : sm n f e y z w) : sm n f e y x w := by
  obtain ⟨j, _, rfl⟩ := h
  obtain ⟨i, _, rfl⟩ := h'
  rw [G.assoc _ _ _ hx (G.pw_lt hy j) (G.pw_lt hy i), ← G.pw_add hy]
  exact G.sm_of hy _
theorem Grp.sm_symm (G : Grp n f e) {y x z : Nat} (hy : y < n) (hx : x < n) (h : sm n f e y x z) : sm n f e y z x := by
  obtain ⟨j, hj, rfl⟩ := h
  have := G.sm_of (x := f x (pw f e y j)) hy (ord n f e y - j)
  rwa [G.assoc _ _ _ hx (G.pw_lt hy j) (G.pw_lt hy _), ← G.pw_add hy, Nat.add_sub_cancel' (by omega), G.pw_ord hy, G.one_r x hx] at this
theorem Grp.sm_mul (G : Grp n f e) {y a b a' b' : Nat} (hy : y < n) (ha : a < n) (hb : b < n) (hcb : f b y = f y b) (h : sm n f e y a a') (h' : sm n f e y b b') : sm n f e y (f a b) (f a' b') := by
  obtain ⟨i, _, rfl⟩ := h
  obtain ⟨j, _, rfl⟩ := h'
  have hi := G.pw_lt hy i
  have hj := G.pw_lt hy j
  have : f (f a (pw f e y i)) (f b (pw f e y j)) = f (f a b) (pw f e y (i + j)) := by
    rw [G.pw_add hy, G.assoc a _ _ ha hi (G.cl _ _ hb hj), ← G.assoc _ b _ hi hb hj, ← G.cen_pw hy hb hcb i, G.assoc b _ _ hb hi hj, ← G.assoc a b _ ha hb (G.cl _ _ hi hj)]
  rw [this]
  exact G.sm_of hy _

/-- The least of a coset. -/
def rp (n : Nat) (f : Nat → Nat → Nat) (e y x : Nat) : Nat := (fst' (fun z => decide (sm n f e y x z)) n).getD 0

theorem Grp.rp_sm (G : Grp n f e) {y x : Nat} (hy : y < n) (hx : x < n) : sm n f e y x (rp n f e y x) := by
  unfold rp
  cases h : fst' (fun z => decide (sm n f e y x z)) n with
  | none =>
    have := fst_spec0 h x hx
    simp only [decide_eq_false_iff_not] at this
    exact absurd (G.sm_refl hy hx) this
  | some a =>
    obtain ⟨_, h2, _⟩ := fst_spec h
    simpa using h2
theorem Grp.rp_lt (G : Grp n f e) {y x : Nat} (hy : y < n) (hx : x < n) : rp n f e y x < n := G.sm_lt hy hx (G.rp_sm hy hx)
theorem Grp.rp_eq (G : Grp n f e) {y x z : Nat} (hy : y < n) (hx : x < n) (hz : z < n) : rp n f e y x = rp n f e y z ↔ sm n f e y x z := by
  constructor
  · intro h
    exact G.sm_trans hy hx (G.rp_sm hy hx) (by rw [h]; exact G.sm_symm hy hz (G.rp_sm hy hz))
  · intro h
    unfold rp
    congr 2
    funext w
    exact decide_eq_decide.2 ⟨fun h' => G.sm_trans hy hz (G.sm_symm hy hx h) h', fun h' => G.sm_trans hy hx h h'⟩
theorem Grp.rp_rp (G : Grp n f e) {y x : Nat} (hy : y < n) (hx : x < n) : rp n f e y (rp n f e y x) = rp n f e y x :=
  ((G.rp_eq hy hx (G.rp_lt hy hx)).2 (G.rp_sm hy hx)).symm

/-- The quotient's things. -/
def quo (n : Nat) (f : Nat → Nat → Nat) (e y : Nat) : List Nat := mem n fun x => cen f y x && decide (rp n f e y x = x)
theorem mem_quo {y x : Nat} : x ∈ quo n f e y ↔ x < n ∧ f x y = f y x ∧ rp n f e y x = x := by
  unfold quo
  rw [mem_mem, Bool.and_eq_true, cen_iff, decide_eq_true_eq]

theorem Grp.cen_rp (G : Grp n f e) {y x : Nat} (hy : y < n) (hx : x < n) (h : f x y = f y x) : f (rp n f e y x) y = f y (rp n f e y x) := by
  obtain ⟨j, _, hj⟩ := G.rp_sm (x := x) hy hx
  rw [hj]
  have hp := G.pw_lt hy j
  rw [G.assoc x _ y hx hp hy, ← G.cen_pw hy hy rfl j, ← G.assoc x y _ hx hy hp, h, G.assoc y x _ hy hx hp]
theorem Grp.rp_quo (G : Grp n f e) {y x : Nat} (hy : y < n) (hx : x < n) (h : f x y = f y x) : rp n f e y x ∈ quo n f e y :=
  mem_quo.2 ⟨G.rp_lt hy hx, G.cen_rp hy hx h, G.rp_rp hy hx⟩

theorem Grp.quo_gs (G : Grp n f e) {y : Nat} (hy : y < n) : GS (quo n f e y) (fun a b => rp n f e y (f a b)) (rp n f e y e) := by
  have C := G.cen_sub hy
  have hmul : ∀ {a b}, a < n → b < n → f a y = f y a → f b y = f y b → f (f a b) y = f y (f a b) := fun ha hb h1 h2 =>
    cen_iff.1 (C.mul _ _ ha hb (cen_iff.2 h1) (cen_iff.2 h2))
  have he : f e y = f y e := cen_iff.1 C.one
  have hre := G.rp_sm (x := e) hy G.el
  refine ⟨List.nodup_range.filter _, ?_, G.rp_quo hy G.el he, ?_, ?_, ?_, ?_⟩
  · intro a b ha hb
    obtain ⟨a1, a2, _⟩ := mem_quo.1 ha
    obtain ⟨b1, b2, _⟩ := mem_quo.1 hb
    exact G.rp_quo hy (G.cl _ _ a1 b1) (hmul a1 b1 a2 b2)
  · intro a ha
    obtain ⟨a1, a2, a3⟩ := mem_quo.1 ha
    show rp n f e y (f (rp n f e y e) a) = a
    have h := G.sm_mul hy G.el a1 a2 hre (G.sm_refl hy a1)
    rw [← (G.rp_eq hy (G.cl _ _ G.el a1) (G.cl _ _ (G.rp_lt hy G.el) a1)).2 h, G.one_l a a1, a3]
  · intro a ha
    obtain ⟨a1, a2, a3⟩ := mem_quo.1 ha
    show rp n f e y (f a (rp n f e y e)) = a
    have h := G.sm_mul hy a1 G.el he (G.sm_refl hy a1) hre
    rw [← (G.rp_eq hy (G.cl _ _ a1 G.el) (G.cl _ _ a1 (G.rp_lt hy G.el))).2 h, G.one_r a a1, a3]
  · intro a b c ha hb hc
    obtain ⟨a1, a2, _⟩ := mem_quo.1 ha
    obtain ⟨b1, b2, _⟩ := mem_quo.1 hb
    obtain ⟨c1, c2, _⟩ := mem_quo.1 hc
    have hab := G.cl _ _ a1 b1
    have hbc := G.cl _ _ b1 c1
    show rp n f e y (f (rp n f e y (f a b)) c) = rp n f e y (f a (rp n f e y (f b c)))
    have h1 := G.sm_mul hy hab c1 c2 (G.rp_sm hy hab) (G.sm_refl hy c1)
    have h2 := G.sm_mul hy a1 hbc (hmul b1 c1 b2 c2) (G.sm_refl hy a1) (G.rp_sm hy hbc)
    rw [← (G.rp_eq hy (G.cl _ _ hab c1) (G.cl _ _ (G.rp_lt hy hab) c1)).2 h1, ← (G.rp_eq hy (G.cl _ _ a1 hbc) (G.cl _ _ a1 (G.rp_lt hy hbc))).2 h2, G.assoc a b c a1 b1 c1]
  · intro a ha
    obtain ⟨a1, a2, _⟩ := mem_quo.1 ha
    have hi := G.iv_lt a1
    have hci : f (iv n f e a) y = f y (iv n f e a) := cen_iff.1 (C.inv a a1 (cen_iff.2 a2))
    refine ⟨rp n f e y (iv n f e a), G.rp_quo hy hi hci, ?_, ?_⟩
    · show rp n f e y (f a (rp n f e y (iv n f e a))) = rp n f e y e
      have h := G.sm_mul hy a1 hi hci (G.sm_refl hy a1) (G.rp_sm hy hi)
      rw [← (G.rp_eq hy (G.cl _ _ a1 hi) (G.cl _ _ a1 (G.rp_lt hy hi))).2 h, G.mul_iv a1]
    · show rp n f e y (f (rp n f e y (iv n f e a)) a) = rp n f e y e
      have h := G.sm_mul hy hi a1 a2 (G.rp_sm hy hi) (G.sm_refl hy a1)
      rw [← (G.rp_eq hy (G.cl _ _ hi a1) (G.cl _ _ (G.rp_lt hy hi) a1)).2 h, G.iv_mul a1]
end
end Go.Proofs.YtjbfkdaodfdpcaaDoor

/-
  Plain law, FROBENIUS' THEOREM: how many things the quotient of a centraliser has, and how many solutions. Conditions: none.
-/
set_option linter.all false
namespace Go.Proofs.YtjbfkdaodfdpcaaDoor
open Go.Pv

section
variable {n : Nat} {f : Nat → Nat → Nat} {e : Nat}

theorem filter_one {l : List Nat} (h : l.Nodup) {a : Nat} (ha : a ∈ l) : (l.filter fun w => decide (a = w)).length = 1 := by
  have : (l.filter fun w => decide (a = w)).length = [a].length := same_len (h.filter _) (by simp) fun x => by
    rw [List.mem_filter, decide_eq_true_eq, List.mem_singleton]
    constructor
    · rintro ⟨_, h⟩; exact h.symm
    · rintro rfl; exact ⟨ha, rfl⟩
  exact this

theorem Grp.quo_card (G : Grp n f e) {y : Nat} (hy : y < n) : (mem n (cen f y)).length = (quo n f e y).length * ord n f e y := by
  have := dbl (fun x w => decide (rp n f e y x = w)) (L1 := mem n (cen f y)) (L2 := quo n f e y) (c1 := 1) (c2 := ord n f e y) ?_ ?_
  · omega
  · intro x hx
    obtain ⟨x1, x2⟩ := mem_mem.1 hx
    exact filter_one (G.quo_gs hy).nd (G.rp_quo hy x1 (cen_iff.1 x2))
  · intro w hw
    obtain ⟨w1, w2, w3⟩ := mem_quo.1 hw
    have hl : ((mem n (cen f y)).filter fun a => decide (rp n f e y a = w)).length = ((List.range (ord n f e y)).map fun j => f w (pw f e y j)).length := by
      refine same_len ((List.nodup_range.filter _).filter _) (nodup_map List.nodup_range fun i hi j hj he => ?_) fun x => ?_
      · exact G.pw_inj hy (List.mem_range.1 hi) (List.mem_range.1 hj) (G.cancel_l w1 (G.pw_lt hy i) (G.pw_lt hy j) he)
      · rw [List.mem_filter, List.mem_map, decide_eq_true_eq]
        constructor
        · rintro ⟨hx, h⟩
          obtain ⟨x1, x2⟩ := mem_mem.1 hx
          rw [← w3] at h
          obtain ⟨j, hj, h⟩ := (G.rp_eq hy w1 x1).1 h.symm
          exact ⟨j, List.mem_range.2 hj, h.symm⟩
        · rintro ⟨j, hj, rfl⟩
          have hc := (G.cen_sub hy).mul w (pw f e y j) w1 (G.pw_lt hy j) (cen_iff.2 w2) (cen_iff.2 (G.cen_pw hy hy rfl j).symm)
          have hlt := G.cl _ _ w1 (G.pw_lt hy j)
          refine ⟨mem_mem.2 ⟨hlt, hc⟩, ?_⟩
          rw [← (G.rp_eq hy w1 hlt).2 (G.sm_of hy j), w3]
    rw [hl]; simp

theorem Grp.quo_pw (G : Grp n f e) {y w : Nat} (hy : y < n) (hw : w < n) (hc : f w y = f y w) : ∀ k, pw (fun a b => rp n f e y (f a b)) (rp n f e y e) w k = rp n f e y (pw f e w k)
  | 0 => rfl
  | k + 1 => by
    have hk := G.pw_lt hw k
    show rp n f e y (f (pw (fun a b => rp n f e y (f a b)) (rp n f e y e) w k) w) = rp n f e y (f (pw f e w k) w)
    rw [G.quo_pw hy hw hc k]
    exact ((G.rp_eq hy (G.cl _ _ hk hw) (G.cl _ _ (G.rp_lt hy hk) hw)).2 (G.sm_mul hy hk hw hc (G.rp_sm hy hk) (G.sm_refl hy hw))).symm

theorem Grp.pw_sm (G : Grp n f e) {y x : Nat} (hy : y < n) (hx : x < n) (hc : f x y = f y x) (j s : Nat) : pw f e (f x (pw f e y j)) s = f (pw f e x s) (pw f e y (j * s)) := by
  rw [G.pw_comm2 (G.pw_lt hy j) hx (G.cen_pw hy hx hc j), ← G.pw_mul hy]

theorem Grp.quo_sol (G : Grp n f e) {y s : Nat} (hy : y < n) (hs : Nat.gcd (ord n f e y) s = 1) :
    ((mem n (cen f y)).filter fun x => decide (pw f e x s = e)).length = ((quo n f e y).filter fun w => decide (pw (fun a b => rp n f e y (f a b)) (rp n f e y e) w s = rp n f e y e)).length := by
  have ho := G.ord_pos hy
  have hl : (((mem n (cen f y)).filter fun x => decide (pw f e x s = e)).map (rp n f e y)).length = ((quo n f e y).filter fun w => decide (pw (fun a b => rp n f e y (f a b)) (rp n f e y e) w s = rp n f e y e)).length := by
    refine same_len (nodup_map ((List.nodup_range.filter _).filter _) fun x hx z hz he => ?_) ((G.quo_gs hy).nd.filter _) fun w => ?_
    · obtain ⟨hx1, hx2⟩ := List.mem_filter.1 hx
      obtain ⟨hz1, hz2⟩ := List.mem_filter.1 hz
      obtain ⟨x1, x2⟩ := mem_mem.1 hx1
      obtain ⟨z1, z2⟩ := mem_mem.1 hz1
      rw [decide_eq_true_eq] at hx2 hz2
      obtain ⟨j, hj, rfl⟩ := (G.rp_eq hy x1 z1).1 he
      rw [G.pw_sm hy x1 (cen_iff.1 x2), hx2, G.one_l _ (G.pw_lt hy _)] at hz2
      have hd := (G.pw_eq_one hy _).1 hz2
      have hj0 : ord n f e y ∣ j := Nat.Coprime.dvd_of_dvd_mul_right hs hd
      have : j = 0 := by
        rcases Nat.eq_zero_or_pos j with h | h
        · exact h
        · have := Nat.le_of_dvd h hj0; omega
      subst this
      rw [show pw f e y 0 = e from rfl, G.one_r x x1]
    · rw [List.mem_map, List.mem_filter]
      constructor
      · rintro ⟨x, hx, rfl⟩
        obtain ⟨hx1, hx2⟩ := List.mem_filter.1 hx
        obtain ⟨x1, x2⟩ := mem_mem.1 hx1
        rw [decide_eq_true_eq] at hx2
        rw [cen_iff] at x2
        refine ⟨G.rp_quo hy x1 x2, ?_⟩
        rw [decide_eq_true_eq, G.quo_pw hy (G.rp_lt hy x1) (G.cen_rp hy x1 x2)]
        obtain ⟨j, _, hj⟩ := G.rp_sm (x := x) hy x1
        rw [hj, G.pw_sm hy x1 x2, hx2]
        exact ((G.rp_eq hy G.el (G.cl _ _ G.el (G.pw_lt hy _))).2 (G.sm_of hy _)).symm
      · rintro ⟨hw, h⟩
        obtain ⟨w1, w2, w3⟩ := mem_quo.1 hw
        rw [decide_eq_true_eq, G.quo_pw hy w1 w2] at h
        obtain ⟨j, hj, h⟩ := (G.rp_eq hy G.el (G.pw_lt w1 s)).1 h.symm
        rw [G.one_l _ (G.pw_lt hy j)] at h
        obtain ⟨k, hk, hke⟩ := inj_onto (n := ord n f e y) (f := fun k => k * s % ord n f e y) (fun i _ => Nat.mod_lt _ ho) (fun i i' hi hi' he => by
          have he' : i * s % ord n f e y = i' * s % ord n f e y := he
          have hp : ∀ {i i' : Nat}, i < ord n f e y → i' < ord n f e y → i ≤ i' → i * s % ord n f e y = i' * s % ord n f e y → i = i' := by
            intro i i' hi hi' hle he
            have h1 : ord n f e y ∣ i' * s - i * s := Nat.dvd_of_mod_eq_zero (Nat.sub_mod_eq_zero_of_mod_eq he.symm)
            rw [← Nat.sub_mul] at h1
            have h2 : ord n f e y ∣ i' - i := Nat.Coprime.dvd_of_dvd_mul_right hs h1
            rcases Nat.eq_zero_or_pos (i' - i) with h | h
            · omega
            · have := Nat.le_of_dvd h h2; omega
          rcases Nat.le_total i i' with hl | hl
          · exact hp hi hi' hl he'
          · exact (hp hi' hi hl he'.symm).symm) (Nat.mod_lt (ord n f e y - j) ho)
        have hke' : k * s % ord n f e y = (ord n f e y - j) % ord n f e y := hke
        have hlt := G.cl _ _ w1 (G.pw_lt hy k)
        refine ⟨f w (pw f e y k), List.mem_filter.2 ⟨mem_mem.2 ⟨hlt, (G.cen_sub hy).mul w (pw f e y k) w1 (G.pw_lt hy k) (cen_iff.2 w2) (cen_iff.2 (G.cen_pw hy hy rfl k).symm)⟩, ?_⟩, ?_⟩
        · rw [decide_eq_true_eq, G.pw_sm hy w1 w2, h, ← G.pw_mod hy (k * s), hke', G.pw_mod hy, ← G.pw_add hy, Nat.add_sub_cancel' (by omega), G.pw_ord hy]
        · rw [← (G.rp_eq hy w1 hlt).2 (G.sm_of hy k), w3]
  rw [← hl, List.length_map]
end
end Go.Proofs.YtjbfkdaodfdpcaaDoor

/-
  Plain law, FROBENIUS' THEOREM: of a divisor m of n so many things are, m times, the one, as a multiple of m. Conditions: none.
-/
set_option linter.all false
namespace Go.Proofs.YtjbfkdaodfdpcaaDoor
open Go.Pv

def sol (n : Nat) (f : Nat → Nat → Nat) (e s : Nat) : Nat := ((List.range n).filter fun x => decide (pw f e x s = e)).length

section
variable {n : Nat} {f : Nat → Nat → Nat} {e : Nat}

theorem Grp.sol_gcd (G : Grp n f e) (s : Nat) : sol n f e s = sol n f e (Nat.gcd s n) := by
  unfold sol
  congr 1
  refine List.filter_congr fun x hx => decide_eq_decide.2 ?_
  have x1 := List.mem_range.1 hx
  rw [G.pw_eq_one x1, G.pw_eq_one x1]
  exact ⟨fun h => Nat.dvd_gcd h (G.ord_dvd x1), fun h => Nat.dvd_trans h (Nat.gcd_dvd_left _ _)⟩
theorem Grp.sol_all (G : Grp n f e) : sol n f e n = n := by
  unfold sol
  rw [List.filter_eq_self.2]
  · simp
  · intro x hx
    simpa using G.pw_n (List.mem_range.1 hx)

/-- Conjugated. -/
def cj (n : Nat) (f : Nat → Nat → Nat) (e g x : Nat) : Nat := f (f g x) (iv n f e g)
theorem Grp.cj_lt (G : Grp n f e) {g x : Nat} (hg : g < n) (hx : x < n) : cj n f e g x < n := G.cl _ _ (G.cl _ _ hg hx) (G.iv_lt hg)
theorem Grp.cj_mul (G : Grp n f e) {g x y : Nat} (hg : g < n) (hx : x < n) (hy : y < n) : cj n f e g (f x y) = f (cj n f e g x) (cj n f e g y) := by
  unfold cj
  have hi := G.iv_lt hg
  rw [G.assoc (f g x) _ _ (G.cl _ _ hg hx) hi (G.cl _ _ (G.cl _ _ hg hy) hi), ← G.assoc _ (f g y) _ hi (G.cl _ _ hg hy) hi, ← G.assoc _ g y hi hg hy, G.iv_mul hg, G.one_l y hy, G.assoc g x _ hg hx (G.cl _ _ hy hi), ← G.assoc x y _ hx hy hi, G.assoc g _ _ hg (G.cl _ _ hx hy) hi]
theorem Grp.cj_one (G : Grp n f e) {g : Nat} (hg : g < n) : cj n f e g e = e := by
  unfold cj; rw [G.one_r g hg, G.mul_iv hg]
theorem Grp.cj_pw (G : Grp n f e) {g x : Nat} (hg : g < n) (hx : x < n) : ∀ k, pw f e (cj n f e g x) k = cj n f e g (pw f e x k)
  | 0 => (G.cj_one hg).symm
  | k + 1 => by
    show f (pw f e (cj n f e g x) k) (cj n f e g x) = cj n f e g (f (pw f e x k) x)
    rw [G.cj_pw hg hx k, G.cj_mul hg (G.pw_lt hx k) hx]
theorem Grp.cj_iv (G : Grp n f e) {g x : Nat} (hg : g < n) (hx : x < n) : cj n f e g (cj n f e (iv n f e g) x) = x := by
  unfold cj
  have hi := G.iv_lt hg
  rw [G.iv_iv hg, ← G.assoc g _ g hg (G.cl _ _ hi hx) hg, ← G.assoc g _ x hg hi hx, G.mul_iv hg, G.one_l x hx, G.assoc x g _ hx hg hi, G.mul_iv hg, G.one_r x hx]
theorem Grp.iv_cj (G : Grp n f e) {g x : Nat} (hg : g < n) (hx : x < n) : cj n f e (iv n f e g) (cj n f e g x) = x := by
  have := G.cj_iv (G.iv_lt hg) hx
  rwa [G.iv_iv hg] at this
theorem Grp.cj_eq (G : Grp n f e) {g x y : Nat} (hg : g < n) (hx : x < n) (hy : y < n) : f g x = f y g ↔ cj n f e g x = y := by
  unfold cj
  have hi := G.iv_lt hg
  constructor
  · intro h
    rw [h, G.assoc y g _ hy hg hi, G.mul_iv hg, G.one_r y hy]
  · intro h
    rw [← h, G.assoc _ _ g (G.cl _ _ hg hx) hi hg, G.iv_mul hg, G.one_r _ (G.cl _ _ hg hx)]
theorem Grp.cj_ord (G : Grp n f e) {g x : Nat} (hg : g < n) (hx : x < n) : ord n f e (cj n f e g x) = ord n f e x := by
  refine G.ord_eq (G.cj_lt hg hx) fun j => ?_
  rw [G.cj_pw hg hx, ← G.pw_eq_one hx]
  constructor
  · intro h
    have := congrArg (cj n f e (iv n f e g)) h
    rwa [G.iv_cj hg (G.pw_lt hx j), G.cj_one (G.iv_lt hg)] at this
  · intro h
    rw [h, G.cj_one hg]

/-- Powers a, b with x^a of order q and x^b solving s; together they are x. -/
theorem crt {q s : Nat} (hq : 2 ≤ q) (hqs : Nat.gcd q s = 1) (hs : 0 < s) : ∃ a b, (∃ d, a = q * d + 1) ∧ s ∣ a ∧ q ∣ b ∧ a + b = q * s + 1 := by
  obtain ⟨i, hi, he⟩ := inj_onto (n := q) (f := fun i => s * i % q) (fun i _ => Nat.mod_lt _ (by omega)) (fun i i' hi hi' he => by
    have hp : ∀ {i i' : Nat}, i < q → i' < q → i ≤ i' → s * i % q = s * i' % q → i = i' := by
      intro i i' hi hi' hle he
      have h1 : q ∣ s * i' - s * i := Nat.dvd_of_mod_eq_zero (Nat.sub_mod_eq_zero_of_mod_eq he.symm)
      rw [← Nat.mul_sub] at h1
      have h2 : q ∣ i' - i := Nat.Coprime.dvd_of_dvd_mul_left hqs h1
      rcases Nat.eq_zero_or_pos (i' - i) with h | h
      · omega
      · have := Nat.le_of_dvd h h2; omega
    rcases Nat.le_total i i' with hl | hl
    · exact hp hi hi' hl he
    · exact (hp hi' hi hl he.symm).symm) (show 1 < q by omega)
  have he' : s * i % q = 1 := he
  have hle : s * i ≤ q * s := by rw [Nat.mul_comm q s]; exact Nat.mul_le_mul_left _ (by omega)
  have hdm := Nat.div_add_mod (s * i) q
  refine ⟨s * i, q * s + 1 - s * i, ⟨s * i / q, by omega⟩, Nat.dvd_mul_right _ _, ?_, by omega⟩
  have : q * s + 1 - s * i = q * s - q * (s * i / q) := by omega
  rw [this, ← Nat.mul_sub]
  exact Nat.dvd_mul_right _ _

theorem Grp.frob2 (G : Grp n f e) {q s : Nat} (hq : 2 ≤ q) (hqs : Nat.gcd q s = 1) (hs : 0 < s) (hd : s ∣ n)
    (ih : ∀ N' f' e', N' < n → Grp N' f' e' → ∀ m, m ∣ N' → m ∣ sol N' f' e' m) :
    s ∣ ((List.range n).filter fun x => decide (ord n f e x ∣ q * s ∧ q ∣ ord n f e x)).length := by
  obtain ⟨a, b, ⟨d, had⟩, hsa, hqb, hab⟩ := crt hq hqs hs
  have hA : ∀ {x}, x ∈ (List.range n).filter (fun x => decide (ord n f e x ∣ q * s ∧ q ∣ ord n f e x)) ↔ x < n ∧ ord n f e x ∣ q * s ∧ q ∣ ord n f e x := by
    intro x; rw [List.mem_filter, List.mem_range, decide_eq_true_eq]
  -- the part of order q
  have hy : ∀ {x}, x < n → ord n f e x ∣ q * s → q ∣ ord n f e x → ord n f e (pw f e x a) = q := by
    intro x hx h1 h2
    obtain ⟨t, ht⟩ := h2
    have hts : t ∣ s := by
      rw [ht] at h1
      exact Nat.dvd_of_mul_dvd_mul_left (by omega) h1
    refine G.ord_eq (G.pw_lt hx a) fun j => ?_
    rw [← G.pw_mul hx, G.pw_eq_one hx, ht]
    constructor
    · intro h
      have h3 : q ∣ a * j := Nat.dvd_trans (Nat.dvd_mul_right _ _) h
      rw [had, Nat.add_mul, Nat.one_mul, Nat.mul_assoc] at h3
      exact (Nat.dvd_add_right (Nat.dvd_mul_right _ _)).1 h3
    · intro h
      rw [Nat.mul_comm a j]
      exact Nat.mul_dvd_mul h (Nat.dvd_trans hts hsa)
  refine classesD (r := fun x x' => decide (∃ g, g < n ∧ f g (pw f e x a) = f (pw f e x' a) g)) _ _ rfl (List.nodup_range.filter _) ?_ ?_ ?_ ?_
  · intro x hx
    have x1 := (hA.1 hx).1
    rw [decide_eq_true_eq]
    exact ⟨e, G.el, by rw [G.one_l _ (G.pw_lt x1 a), G.one_r _ (G.pw_lt x1 a)]⟩
  · intro x hx y hy' h
    have x1 := (hA.1 hx).1
    have y1 := (hA.1 hy').1
    rw [decide_eq_true_eq] at *
    obtain ⟨g, hg, h⟩ := h
    refine ⟨iv n f e g, G.iv_lt hg, ?_⟩
    rw [G.cj_eq hg (G.pw_lt x1 a) (G.pw_lt y1 a)] at h
    rw [G.cj_eq (G.iv_lt hg) (G.pw_lt y1 a) (G.pw_lt x1 a), ← h, G.iv_cj hg (G.pw_lt x1 a)]
  · intro x hx y hy' z hz h h'
    have x1 := G.pw_lt (hA.1 hx).1 a
    have y1 := G.pw_lt (hA.1 hy').1 a
    have z1 := G.pw_lt (hA.1 hz).1 a
    rw [decide_eq_true_eq] at *
    obtain ⟨g, hg, h⟩ := h
    obtain ⟨k, hk, h'⟩ := h'
    refine ⟨f k g, G.cl _ _ hk hg, ?_⟩
    rw [G.assoc k g _ hk hg x1, h, ← G.assoc k _ g hk y1 hg, h', G.assoc _ k g z1 hk hg]
  · intro x hx
    obtain ⟨x1, x2, x3⟩ := hA.1 hx
    have hyo := hy x1 x2 x3
    have hyl := G.pw_lt x1 a
    have hcount : n * ((mem n (cen f (pw f e x a))).filter fun z => decide (pw f e z s = e)).length = (((List.range n).filter fun x => decide (ord n f e x ∣ q * s ∧ q ∣ ord n f e x)).filter fun x' => decide (∃ g, g < n ∧ f g (pw f e x a) = f (pw f e x' a) g)).length * (mem n (cen f (pw f e x a))).length := by
      have hL := dbl (fun g x' => decide (f g (pw f e x a) = f (pw f e x' a) g)) (L1 := List.range n) (L2 := ((List.range n).filter fun x => decide (ord n f e x ∣ q * s ∧ q ∣ ord n f e x)).filter fun x' => decide (∃ g, g < n ∧ f g (pw f e x a) = f (pw f e x' a) g))
        (c1 := ((mem n (cen f (pw f e x a))).filter fun z => decide (pw f e z s = e)).length) (c2 := (mem n (cen f (pw f e x a))).length) ?_ ?_
      · rwa [List.length_range] at hL
      · intro g hg
        have g1 := List.mem_range.1 hg
        rw [← List.length_map (f := fun z => cj n f e g (f (pw f e x a) z)) («as» := ((mem n (cen f (pw f e x a))).filter fun z => decide (pw f e z s = e)))]
        refine same_len (((List.nodup_range.filter _).filter _).filter _) (nodup_map ((List.nodup_range.filter _).filter _) fun z hz w hw he => ?_) fun x' => ?_
        · have z1 := (mem_mem.1 (List.mem_filter.1 hz).1).1
          have w1 := (mem_mem.1 (List.mem_filter.1 hw).1).1
          have he2 := congrArg (cj n f e (iv n f e g)) he
          rw [G.iv_cj g1 (G.cl _ _ hyl z1), G.iv_cj g1 (G.cl _ _ hyl w1)] at he2
          exact G.cancel_l hyl z1 w1 he2
        · rw [List.mem_filter, List.mem_filter, hA, List.mem_map]
          simp only [decide_eq_true_eq]
          constructor
          · rintro ⟨⟨⟨c1, c2, c3⟩, _⟩, h⟩
            rw [G.cj_eq g1 hyl (G.pw_lt c1 a)] at h
            have hg' := G.iv_lt g1
            have hwl := G.cj_lt hg' c1
            have hwo := G.cj_ord hg' c1
            have hwa : pw f e (cj n f e (iv n f e g) x') a = pw f e x a := by
              rw [G.cj_pw hg' c1, ← h, G.iv_cj g1 hyl]
            have hyz : f (pw f e x a) (pw f e (cj n f e (iv n f e g) x') b) = cj n f e (iv n f e g) x' := by
              rw [← hwa, ← G.pw_add hwl, hab, G.pw_add hwl, (G.pw_eq_one hwl _).2 (by rw [hwo]; exact c2), G.pw_one hwl, G.one_l _ hwl]
            refine ⟨pw f e (cj n f e (iv n f e g) x') b, ?_, ?_⟩
            · rw [List.mem_filter, mem_mem, cen_iff, decide_eq_true_eq]
              refine ⟨⟨G.pw_lt hwl b, ?_⟩, ?_⟩
              · rw [← hwa]; exact G.pw_comm hwl b a
              · rw [← G.pw_mul hwl, G.pw_eq_one hwl, hwo]
                exact Nat.dvd_trans c2 (Nat.mul_dvd_mul hqb (Nat.dvd_refl s))
            · rw [hyz, G.cj_iv g1 c1]
          · rintro ⟨z, hz, rfl⟩
            rw [List.mem_filter, mem_mem, cen_iff, decide_eq_true_eq] at hz
            obtain ⟨⟨z1, z2⟩, z3⟩ := hz
            have hyzl := G.cl _ _ hyl z1
            have hyq : pw f e (pw f e x a) q = e := by rw [G.pw_eq_one hyl, hyo]; exact Nat.dvd_refl q
            have hself : ∀ {y}, y < n → pw f e y q = e → pw f e y a = y := by
              intro y y1 yq
              rw [had, G.pw_add y1, G.pw_mul y1, yq, G.pw_e, G.pw_one y1, G.one_l _ y1]
            have hpa : pw f e (f (pw f e x a) z) a = pw f e x a := by
              rw [G.pw_comm2 z1 hyl z2.symm, (G.pw_eq_one z1 a).2 (Nat.dvd_trans ((G.pw_eq_one z1 s).1 z3) hsa), G.one_r _ (G.pw_lt hyl a)]
              exact hself hyl hyq
            have hca : pw f e (cj n f e g (f (pw f e x a) z)) a = cj n f e g (pw f e x a) := by
              rw [G.cj_pw g1 hyzl, hpa]
            have hrel : f g (pw f e x a) = f (pw f e (cj n f e g (f (pw f e x a) z)) a) g := by
              rw [hca, G.cj_eq g1 hyl (G.cj_lt g1 hyl)]
            refine ⟨⟨⟨G.cj_lt g1 hyzl, ?_, ?_⟩, g, g1, hrel⟩, hrel⟩
            · rw [G.cj_ord g1 hyzl, ← G.pw_eq_one hyzl, G.pw_comm2 z1 hyl z2.symm, G.pw_mul hyl, hyq, G.pw_e, Nat.mul_comm q s, G.pw_mul z1, z3, G.pw_e, G.one_l e G.el]
            · rw [G.cj_ord g1 hyzl]
              have h5 : ord n f e (pw f e (f (pw f e x a) z) a) = q := by rw [hpa, hyo]
              rw [← h5, ← G.pw_eq_one (G.pw_lt hyzl a), ← G.pw_mul hyzl, Nat.mul_comm, G.pw_mul hyzl, G.pw_ord hyzl, G.pw_e]
      · intro x' hx'
        obtain ⟨h1, h2⟩ := List.mem_filter.1 hx'
        obtain ⟨c1, c2, c3⟩ := hA.1 h1
        rw [decide_eq_true_eq] at h2
        obtain ⟨g0, hg0, h2⟩ := h2
        have hy'l := G.pw_lt c1 a
        rw [← List.length_map (f := fun c => f g0 c) («as» := mem n (cen f (pw f e x a)))]
        refine same_len (List.nodup_range.filter _) (nodup_map (List.nodup_range.filter _) fun z hz w hw he => G.cancel_l hg0 (mem_mem.1 hz).1 (mem_mem.1 hw).1 he) fun g => ?_
        rw [List.mem_filter, List.mem_range, decide_eq_true_eq, List.mem_map]
        constructor
        · rintro ⟨g1, h⟩
          have hi := G.iv_lt hg0
          refine ⟨f (iv n f e g0) g, ?_, by rw [← G.assoc g0 _ g hg0 hi g1, G.mul_iv hg0, G.one_l g g1]⟩
          rw [mem_mem, cen_iff]
          refine ⟨G.cl _ _ hi g1, ?_⟩
          refine G.cancel_l hg0 (G.cl _ _ (G.cl _ _ hi g1) hyl) (G.cl _ _ hyl (G.cl _ _ hi g1)) ?_
          rw [← G.assoc g0 _ _ hg0 hyl (G.cl _ _ hi g1), h2, ← G.assoc g0 _ _ hg0 (G.cl _ _ hi g1) hyl, ← G.assoc g0 _ g hg0 hi g1, G.mul_iv hg0, G.one_l g g1, h, G.assoc _ g0 _ hy'l hg0 (G.cl _ _ hi g1), ← G.assoc g0 _ g hg0 hi g1, G.mul_iv hg0, G.one_l g g1]
        · rintro ⟨c, hc, rfl⟩
          rw [mem_mem, cen_iff] at hc
          obtain ⟨c1', c2'⟩ := hc
          refine ⟨G.cl _ _ hg0 c1', ?_⟩
          rw [G.assoc g0 c _ hg0 c1' hyl, c2', ← G.assoc g0 _ c hg0 hyl c1', h2, G.assoc _ g0 c hy'l hg0 c1']
    -- the quotient
    have hQ := (G.quo_gs hyl).grp
    have hQc := G.quo_card hyl
    rw [hyo] at hQc
    have hCn : (mem n (cen f (pw f e x a))).length ∣ n := by
      have := Sub.dvd (H := cen f (pw f e x a)) (K := fun _ => true) G (G.cen_sub hyl) fun _ _ _ _ _ _ => rfl
      have hall : (mem n fun _ => true).length = n := by
        unfold mem
        rw [List.filter_eq_self.2 (fun _ _ => rfl), List.length_range]
      rwa [hall] at this
    have hQp : 0 < (quo n f e (pw f e x a)).length := hQ.pos
    have hQlt : (quo n f e (pw f e x a)).length < n := by
      have h1 := Nat.le_of_dvd G.pos hCn
      have h2 : (quo n f e (pw f e x a)).length * 2 ≤ (quo n f e (pw f e x a)).length * q := Nat.mul_le_mul_left _ hq
      omega
    have hsolQ : ((mem n (cen f (pw f e x a))).filter fun z => decide (pw f e z s = e)).length = sol (quo n f e (pw f e x a)).length (idf (quo n f e (pw f e x a)) fun u v => rp n f e (pw f e x a) (f u v)) (plc (quo n f e (pw f e x a)) (rp n f e (pw f e x a) e)) s := by
      rw [G.quo_sol hyl (by rw [hyo]; exact hqs)]
      unfold sol
      rw [← count_at]
      congr 1
      refine List.filter_congr fun i hi => decide_eq_decide.2 ?_
      exact ((G.quo_gs hyl).pw_iff (List.mem_range.1 hi) s).symm
    have hgs := ih _ _ _ hQlt hQ _ (Nat.gcd_dvd_right s (quo n f e (pw f e x a)).length)
    rw [← hQ.sol_gcd, ← hsolQ] at hgs
    obtain ⟨u, hu⟩ := hgs
    obtain ⟨M, hM⟩ := hCn
    rw [hu, hQc] at hcount
    rw [hQc] at hM
    have hc2 : (M * (Nat.gcd s (quo n f e (pw f e x a)).length * u)) * ((quo n f e (pw f e x a)).length * q) = (((List.range n).filter fun x => decide (ord n f e x ∣ q * s ∧ q ∣ ord n f e x)).filter fun x' => decide (∃ g, g < n ∧ f g (pw f e x a) = f (pw f e x' a) g)).length * ((quo n f e (pw f e x a)).length * q) := by
      rw [← hcount]
      conv => rhs; lhs; rw [hM]
      rw [Nat.mul_comm M, Nat.mul_right_comm, Nat.mul_assoc, Nat.mul_right_comm, Nat.mul_comm _ M, Nat.mul_comm (quo n f e (pw f e x a)).length q]
      simp only [Nat.mul_assoc, Nat.mul_comm, Nat.mul_left_comm]
    have hc3 := Nat.eq_of_mul_eq_mul_right (Nat.mul_pos hQp (by omega)) hc2
    rw [← hc3, ← Nat.mul_assoc]
    refine Nat.dvd_trans ?_ (Nat.dvd_mul_right _ u)
    rw [← Nat.gcd_mul_left]
    refine Nat.dvd_gcd (Nat.dvd_mul_left _ _) ?_
    have hsq : Nat.Coprime s q := Nat.Coprime.symm hqs
    refine Nat.Coprime.dvd_of_dvd_mul_right hsq (m := M * (quo n f e (pw f e x a)).length) ?_
    rw [hM] at hd
    have : M * (quo n f e (pw f e x a)).length * q = (quo n f e (pw f e x a)).length * q * M := by
      rw [Nat.mul_comm M, Nat.mul_right_comm]
    rw [this]; exact hd

/-! ### Primes -/

/-- The least divisor above 1. -/
theorem least_div : ∀ {t : Nat}, 2 ≤ t → ∃ p, 2 ≤ p ∧ p ∣ t ∧ ∀ d, d ∣ p → d = 1 ∨ d = p := by
  intro t
  induction t using Nat.strongRecOn with
  | _ t ih =>
    intro ht
    by_cases h : ∀ d, d ∣ t → d = 1 ∨ d = t
    · exact ⟨t, ht, Nat.dvd_refl t, h⟩
    · have ⟨d, hd⟩ := Classical.not_forall.1 h
      have ⟨hd1, hd2⟩ := Classical.not_imp.1 hd
      have hdp : 0 < d := Nat.pos_of_dvd_of_pos hd1 (by omega)
      have hdl := Nat.le_of_dvd (by omega) hd1
      have hd3 : 2 ≤ d ∧ d < t := by
        have h1 : d ≠ 1 := fun h => hd2 (.inl h)
        have h2 : d ≠ t := fun h => hd2 (.inr h)
        omega
      obtain ⟨p, p1, p2, p3⟩ := ih d hd3.2 hd3.1
      exact ⟨p, p1, Nat.dvd_trans p2 hd1, p3⟩
theorem split_pow {p : Nat} (hp : 2 ≤ p) : ∀ {m : Nat}, 0 < m → ∃ k s, m = p ^ k * s ∧ ¬ p ∣ s := by
  intro m
  induction m using Nat.strongRecOn with
  | _ m ih =>
    intro hm
    by_cases h : p ∣ m
    · obtain ⟨c, rfl⟩ := h
      have hc : 0 < c := by
        rcases Nat.eq_zero_or_pos c with h | h
        · subst h; simp at hm
        · exact h
      obtain ⟨k, s, h1, h2⟩ := ih c (by have : 2 * c ≤ p * c := Nat.mul_le_mul_right _ hp
                                        omega) hc
      exact ⟨k + 1, s, by rw [h1, Nat.pow_succ, Nat.mul_comm _ p, Nat.mul_assoc], h2⟩
    · exact ⟨0, m, by simp, h⟩
theorem prime_cop {p s : Nat} (hp : ∀ d, d ∣ p → d = 1 ∨ d = p) (h : ¬ p ∣ s) : Nat.gcd p s = 1 := by
  rcases hp _ (Nat.gcd_dvd_left p s) with h1 | h1
  · exact h1
  · exact absurd (h1 ▸ Nat.gcd_dvd_right p s) h
theorem dvd_ppow {p : Nat} (hp2 : 2 ≤ p) (hp : ∀ d, d ∣ p → d = 1 ∨ d = p) : ∀ {k d : Nat}, d ∣ p ^ (k + 1) → d = p ^ (k + 1) ∨ d ∣ p ^ k
  | k, d, h => by
    by_cases hpd : p ∣ d
    · obtain ⟨c, rfl⟩ := hpd
      rw [Nat.pow_succ, Nat.mul_comm _ p] at h
      have h1 := Nat.dvd_of_mul_dvd_mul_left (by omega) h
      match k, h1 with
      | 0, h1 =>
        have : c = 1 := Nat.dvd_one.1 (by simpa using h1)
        left; simp [this]
      | k + 1, h1 =>
        rcases dvd_ppow hp2 hp h1 with h2 | h2
        · left; rw [h2, Nat.pow_succ p (k + 1), Nat.mul_comm]
        · right; rw [Nat.pow_succ, Nat.mul_comm _ p]; exact Nat.mul_dvd_mul (Nat.dvd_refl p) h2
    · right
      have hc : Nat.Coprime d p := Nat.Coprime.symm (prime_cop hp hpd)
      rw [Nat.pow_succ] at h
      exact Nat.Coprime.dvd_of_dvd_mul_right hc h

/-- FROBENIUS' THEOREM. -/
theorem frob : ∀ N f e, Grp N f e → ∀ m, m ∣ N → m ∣ sol N f e m := by
  intro N
  induction N using Nat.strongRecOn with
  | _ N ihN =>
    intro f e G
    have key : ∀ t m, m * t = N → m ∣ sol N f e m := by
      intro t
      induction t using Nat.strongRecOn with
      | _ t iht =>
        intro m hmt
        have hN := G.pos
        have ht : 0 < t := by
          rcases Nat.eq_zero_or_pos t with h | h
          · subst h; simp at hmt; omega
          · exact h
        have hm : 0 < m := by
          rcases Nat.eq_zero_or_pos m with h | h
          · subst h; simp at hmt; omega
          · exact h
        by_cases h1 : t = 1
        · subst h1
          rw [Nat.mul_one] at hmt
          subst hmt
          rw [G.sol_all]; exact Nat.dvd_refl _
        · obtain ⟨p, p1, ⟨c, rfl⟩, p3⟩ := least_div (t := t) (by omega)
          have hc : 0 < c := by
            rcases Nat.eq_zero_or_pos c with h | h
            · subst h; simp at ht
            · exact h
          have hlt : c < p * c := by
            have : 2 * c ≤ p * c := Nat.mul_le_mul_right _ p1
            omega
          have hmp := iht c hlt (m * p) (by rw [Nat.mul_assoc]; exact hmt)
          obtain ⟨k, s, hks, hps⟩ := split_pow p1 hm
          have hcop := prime_cop p3 hps
          have hpp : ∀ i, 0 < p ^ i := fun i => Nat.pow_pos (by omega)
          have hqs : Nat.gcd (p ^ (k + 1)) s = 1 := Nat.Coprime.pow_left _ hcop
          have hs : 0 < s := by
            rcases Nat.eq_zero_or_pos s with h | h
            · subst h; simp at hps
            · exact h
          have hmpq : m * p = p ^ (k + 1) * s := by
            rw [hks, Nat.pow_succ, Nat.mul_right_comm]
          -- orders
          have hord : ∀ o, (o ∣ m * p ∧ ¬ o ∣ m) ↔ (o ∣ p ^ (k + 1) * s ∧ p ^ (k + 1) ∣ o) := by
            intro o
            rw [hmpq]
            constructor
            · rintro ⟨h2, h3⟩
              refine ⟨h2, ?_⟩
              have h4 : o = Nat.gcd o (p ^ (k + 1)) * Nat.gcd o s := by
                rw [← Nat.Coprime.gcd_mul o hqs]
                exact (Nat.gcd_eq_left h2).symm
              rcases dvd_ppow p1 p3 (Nat.gcd_dvd_right o (p ^ (k + 1))) with h5 | h5
              · rw [← h5]; exact Nat.gcd_dvd_left _ _
              · exfalso
                apply h3
                rw [h4, hks]
                exact Nat.mul_dvd_mul h5 (Nat.gcd_dvd_right _ _)
            · rintro ⟨h2, h3⟩
              refine ⟨h2, fun h4 => hps ?_⟩
              have h5 := Nat.dvd_trans h3 h4
              rw [hks, Nat.pow_succ] at h5
              exact Nat.dvd_of_mul_dvd_mul_left (hpp k) h5
          have hsum : sol N f e (m * p) = sol N f e m + ((List.range N).filter fun x => decide (ord N f e x ∣ p ^ (k + 1) * s ∧ p ^ (k + 1) ∣ ord N f e x)).length := by
            have h2 : sol N f e m = (((List.range N).filter fun x => decide (pw f e x (m * p) = e)).filter fun x => decide (pw f e x m = e)).length := by
              unfold sol
              rw [List.filter_filter]
              congr 1
              refine List.filter_congr fun x hx => ?_
              have x1 := List.mem_range.1 hx
              by_cases h : pw f e x m = e
              · have : pw f e x (m * p) = e := by rw [G.pw_mul x1, h, G.pw_e]
                simp [h, this]
              · simp [h]
            have h3 : ((List.range N).filter fun x => decide (ord N f e x ∣ p ^ (k + 1) * s ∧ p ^ (k + 1) ∣ ord N f e x)).length = (((List.range N).filter fun x => decide (pw f e x (m * p) = e)).filter fun x => !decide (pw f e x m = e)).length := by
              rw [List.filter_filter]
              congr 1
              refine List.filter_congr fun x hx => ?_
              have x1 := List.mem_range.1 hx
              rw [Bool.eq_iff_iff]
              simp only [decide_eq_true_eq, Bool.and_eq_true, Bool.not_eq_true', decide_eq_false_iff_not, G.pw_eq_one x1]
              rw [← hord]
              exact and_comm
            rw [h2, h3]
            unfold sol
            have := List.length_eq_countP_add_countP (fun x => decide (pw f e x m = e)) (l := (List.range N).filter fun x => decide (pw f e x (m * p) = e))
            simp only [List.countP_eq_length_filter] at this
            rw [this]
            congr 3
            funext x
            by_cases h : pw f e x m = e <;> simp [h]
          have hA1 : p ^ k ∣ ((List.range N).filter fun x => decide (ord N f e x ∣ p ^ (k + 1) * s ∧ p ^ (k + 1) ∣ ord N f e x)).length :=
            G.frob1 (c := fun o => decide (o ∣ p ^ (k + 1) * s ∧ p ^ (k + 1) ∣ o)) fun o ho => (of_decide_eq_true ho).2
          have hq2 : 2 ≤ p ^ (k + 1) := by
            rw [Nat.pow_succ]
            have := Nat.mul_le_mul (hpp k) p1
            omega
          have hsN : s ∣ N := by
            rw [← hmt, hks, Nat.mul_assoc, Nat.mul_left_comm]
            exact Nat.dvd_mul_right _ _
          have hA2 := G.frob2 hq2 hqs hs hsN fun N' f' e' hN' G' m' hm' => ihN N' hN' f' e' G' m' hm'
          have hA : m ∣ ((List.range N).filter fun x => decide (ord N f e x ∣ p ^ (k + 1) * s ∧ p ^ (k + 1) ∣ ord N f e x)).length := by
            rw [hks]
            exact Nat.Coprime.mul_dvd_of_dvd_of_dvd (Nat.Coprime.pow_left _ hcop) hA1 hA2
          have hm2 : m ∣ sol N f e (m * p) := Nat.dvd_trans (Nat.dvd_mul_right _ _) hmp
          rw [hsum] at hm2
          exact (Nat.dvd_add_left hA).1 hm2
    intro m ⟨t, ht⟩
    exact key t m ht.symm
end
end Go.Proofs.YtjbfkdaodfdpcaaDoor

/-
  Plain law, SYLOW'S THEOREMS: subgroups of a power of a prime of things. Conditions: none.
-/
set_option linter.all false
namespace Go.Proofs.YtjbfkdaodfdpcaaDoor
open Go.Pv

section
variable {n : Nat} {f : Nat → Nat → Nat} {e : Nat} {p q s : Nat → Bool} {P : Nat}

theorem isPr.pow_div (hP : isPr P) : ∀ {k d : Nat}, d ∣ P ^ k → ∃ i, i ≤ k ∧ d = P ^ i
  | 0, d, h => ⟨0, Nat.le_refl _, by simpa using h⟩
  | k + 1, d, h => by
    rcases dvd_ppow hP.1 (fun d hd => hP.div hd) h with h | h
    · exact ⟨k + 1, Nat.le_refl _, h⟩
    · obtain ⟨i, hi, h⟩ := hP.pow_div h
      exact ⟨i, by omega, h⟩
theorem isPr.pos (hP : isPr P) (k : Nat) : 0 < P ^ k := Nat.pow_pos (by have := hP.1; omega)
theorem isPr.le_of_dvd (hP : isPr P) {i j : Nat} (h : P ^ i ∣ P ^ j) : i ≤ j := by
  have h1 := Nat.le_of_dvd (hP.pos j) h
  exact (Nat.pow_le_pow_iff_right hP.1).1 h1
theorem isPr.mul (hP : isPr P) {a b : Nat} (h : P ∣ a * b) : P ∣ a ∨ P ∣ b := by
  by_cases ha : P ∣ a
  · exact .inl ha
  · exact .inr (Nat.Coprime.dvd_of_dvd_mul_left (hP.cop ha) h)

/-- What a thing's powers are. -/
def cyp (n : Nat) (f : Nat → Nat → Nat) (e b x : Nat) : Bool := decide (∃ i, i < n ∧ pw f e b i = x)
theorem cyp_iff {b x : Nat} : cyp n f e b x = true ↔ ∃ i, i < n ∧ pw f e b i = x := by unfold cyp; exact decide_eq_true_iff
theorem Grp.cyp_of (G : Grp n f e) {b : Nat} (hb : b < n) (i : Nat) : cyp n f e b (pw f e b i) = true := by
  have h1 := G.ord_spec hb
  exact cyp_iff.2 ⟨i % ord n f e b, Nat.lt_of_lt_of_le (Nat.mod_lt _ h1.1) h1.2.1, G.pw_mod hb i⟩
theorem Grp.cyp_sub (G : Grp n f e) {b : Nat} (hb : b < n) : Sub n f e (cyp n f e b) :=
  sub_of G (G.cyp_of hb 0) fun x y hx hy h1 h2 => by
    obtain ⟨i, _, rfl⟩ := cyp_iff.1 h1
    obtain ⟨j, _, rfl⟩ := cyp_iff.1 h2
    rw [← G.pw_add hb]; exact G.cyp_of hb _
theorem Grp.cyp_len (G : Grp n f e) {b : Nat} (hb : b < n) : (mem n (cyp n f e b)).length = ord n f e b := by
  have h1 := G.ord_spec hb
  have h2 : (mem n (cyp n f e b)).length = ((List.range (ord n f e b)).map fun i => pw f e b i).length :=
    same_len (List.nodup_range.filter _) (nodup_map List.nodup_range fun i hi j hj h => G.pw_inj hb (List.mem_range.1 hi) (List.mem_range.1 hj) h) fun x => by
      rw [mem_mem, List.mem_map]
      constructor
      · rintro ⟨_, hx⟩
        obtain ⟨i, _, rfl⟩ := cyp_iff.1 hx
        exact ⟨i % ord n f e b, List.mem_range.2 (Nat.mod_lt _ h1.1), G.pw_mod hb i⟩
      · rintro ⟨i, _, rfl⟩
        exact ⟨G.pw_lt hb i, G.cyp_of hb i⟩
  rw [h2]; simp
theorem Grp.nzr_cj (G : Grp n f e) (hp : Sub n f e p) {a : Nat} (ha : a < n) : nzr n f e p a = true ↔ ∀ x, x < n → (p (cjr n f e x a) = true ↔ p x = true) := by
  rw [nzr_iff]
  constructor
  · intro h x hx
    have h1 := h (cjr n f e x a) (G.cjr_lt hx ha)
    rw [G.shf_back ha (G.cjr_lt hx ha), G.cjr_iv hx ha] at h1
    rw [h1]
  · intro h y hy
    rw [G.shf_back ha hy, Bool.eq_iff_iff]
    have h1 := h (cjr n f e y (iv n f e a)) (G.cjr_lt hy (G.iv_lt ha))
    rw [G.cjr_vi hy ha] at h1
    exact h1.symm
/-- What lets a set stay, by one way of the two. -/
theorem Grp.nzr_of (G : Grp n f e) (hp : Sub n f e p) {a : Nat} (ha : a < n) (h : ∀ y, y < n → shf n f e p a y = true → p y = true) : nzr n f e p a = true := by
  have h1 := G.shf_len (p := p) ha
  refine nzr_iff.2 fun y hy => ?_
  by_cases hy2 : shf n f e p a y = p y
  · exact hy2
  · exfalso
    have := mem_lt (n := n) h (fun hh => hy2 (hh y hy))
    omega

/-- A subgroup, and a thing that lets it stay: their products are one. -/
theorem Grp.nz_prod (G : Grp n f e) (hp : Sub n f e p) (hq : Sub n f e q) (h : ∀ a, a < n → q a = true → nzr n f e p a = true) : Sub n f e (pr2 n f e p q) :=
  sub_of G (pr2_iff.2 ⟨e, G.el, hp.one, by rw [G.iv_one, G.one_l e G.el]; exact hq.one⟩) fun x y hx hy h1 h2 => by
    obtain ⟨a, ha, pa, qb⟩ := pr2_iff.1 h1
    obtain ⟨c, hc, pc, qd⟩ := pr2_iff.1 h2
    have ia := G.iv_lt ha
    have ic := G.iv_lt hc
    have hb := G.cl _ _ ia hx
    have ib := G.iv_lt hb
    have hd := G.cl _ _ ic hy
    -- x = a b, y = c d; x y = a (b c b^-1) (b d)
    have hcb := G.cjr_lt hc ib
    have hk : p (cjr n f e c (iv n f e (f (iv n f e a) x))) = true := ((G.nzr_cj hp ib).1 (h _ ib (hq.inv _ hb qb)) c hc).2 pc
    have hac := G.cl _ _ ha hcb
    refine pr2_iff.2 ⟨f a (cjr n f e c (iv n f e (f (iv n f e a) x))), hac, hp.mul _ _ ha hcb pa hk, ?_⟩
    have e1 : f (iv n f e (f a (cjr n f e c (iv n f e (f (iv n f e a) x))))) (f x y) = f (f (iv n f e a) x) (f (iv n f e c) y) := by
      have hbc := G.cl _ _ hb hc
      have e2 : cjr n f e c (iv n f e (f (iv n f e a) x)) = f (f (f (iv n f e a) x) c) (iv n f e (f (iv n f e a) x)) := by
        unfold cjr; rw [G.iv_iv hb]
      have e3 : f x y = f (f a (cjr n f e c (iv n f e (f (iv n f e a) x)))) (f (f (iv n f e a) x) (f (iv n f e c) y)) := by
        rw [G.assoc a _ _ ha hcb (G.cl _ _ hb hd), e2, G.assoc _ _ _ hbc ib (G.cl _ _ hb hd), ← G.assoc (iv n f e (f (iv n f e a) x)) _ _ ib hb hd, G.iv_mul hb, G.one_l _ hd, G.assoc _ _ _ hb hc hd, ← G.assoc c _ y hc ic hy, G.mul_iv hc, G.one_l y hy, ← G.assoc a _ y ha hb hy, ← G.assoc a _ x ha ia hx, G.mul_iv ha, G.one_l x hx]
      rw [e3, ← G.assoc _ _ _ (G.iv_lt hac) hac (G.cl _ _ hb hd), G.iv_mul hac, G.one_l _ (G.cl _ _ hb hd)]
    rw [e1]
    exact hq.mul _ _ hb hd qb qd

/-- THE COUNT: of a subgroup of a power of P things, and another: things that bring not the first into the second. -/
theorem Grp.syl_count (G : Grp n f e) (hP : isPr P) (hq : Sub n f e q) {i : Nat} (hi : (mem n q).length = P ^ i) (hs : Sub n f e s) :
    ∃ c, n = (mem n fun a => decide (∀ y, y < n → shf n f e q a y = true → s y = true)).length + P * (mem n s).length * c := by
  obtain ⟨K, hK⟩ : ∃ K : Nat → Bool, K = fun a => decide (∀ y, y < n → shf n f e q a y = true → s y = true) := ⟨_, rfl⟩
  have hKi : ∀ a, K a = true ↔ ∀ y, y < n → shf n f e q a y = true → s y = true := fun a => by rw [hK]; exact decide_eq_true_iff
  have E := G.dco_eqv hq hs
  have inv : ∀ x y, x < n → y < n → dco n f q s x y = true → K x = true → K y = true := by
    intro x y hx hy h hk
    obtain ⟨u, v, hu, hv, qu, sv, rfl⟩ := dco_iff.1 h
    refine (hKi _).2 fun z hz hzs => ?_
    obtain ⟨w, hw, qw, rfl⟩ := shf_iff.1 hzs
    have hux := G.cl _ _ hu hx
    rw [← G.cjr_cjr hw hux hv, ← G.cjr_cjr hw hu hx]
    have hwu := G.cjr_lt hw hu
    have h1 : q (cjr n f e w u) = true := hq.mul _ _ (G.cl _ _ (G.iv_lt hu) hw) hu (hq.mul _ _ (G.iv_lt hu) hw (hq.inv _ hu qu) qw) qu
    have h2 : s (cjr n f e (cjr n f e w u) x) = true := (hKi x).1 hk _ (G.cjr_lt hwu hx) (shf_iff.2 ⟨_, hwu, h1, rfl⟩)
    have hwx := G.cjr_lt hwu hx
    exact hs.mul _ _ (G.cl _ _ (G.iv_lt hv) hwx) hv (hs.mul _ _ (G.iv_lt hv) hwx (hs.inv _ hv sv) h2) sv
  have inv2 : ∀ x y, x < n → y < n → dco n f q s x y = true → (!K x) = true → (!K y) = true := by
    intro x y hx hy h hk
    cases hky : K y with
    | false => rfl
    | true => rw [inv y x hy hx (E.symm x y hx hy h) hky] at hk; cases hk
  have hsum := E.part (K := fun a => !K a) inv2
  have hdv : ∀ l : List Nat, (∀ x ∈ l, P * (mem n s).length ∣ (mem n (dco n f q s x)).length) → P * (mem n s).length ∣ (l.map fun x => (mem n (dco n f q s x)).length).sum := by
    intro l
    induction l with
    | nil => intro _; exact ⟨0, rfl⟩
    | cons x r ih =>
      intro h
      rw [List.map_cons, List.sum_cons]
      exact Nat.dvd_add (h x (by simp)) (ih fun y hy => h y (by simp [hy]))
  have hd := hdv (mem n fun x => lead (dco n f q s) x && !K x) (fun x hx => by
    obtain ⟨x1, x2⟩ := mem_mem.1 hx
    rw [Bool.and_eq_true] at x2
    have hc := G.dco_count hq hs x1
    have hsh := G.shf_sub hq x1
    have hm := hsh.and hs
    have hlen := G.shf_len (p := q) x1
    obtain ⟨i2, hi2, hmi⟩ := hP.pow_div (k := i) (d := (mem n fun y => shf n f e q x y && s y).length) (by
      rw [← hi, ← hlen]
      exact hm.dvd G fun a b ha hb h1 h2 => hsh.mul a b ha hb h1 (by rw [Bool.and_eq_true] at h2; exact h2.1))
    have hne : i2 ≠ i := fun h => by
      have hk : K x = true := (hKi x).2 fun y hy hys => by
        cases hsy : s y with
        | true => rfl
        | false =>
          exfalso
          have := mem_lt (n := n) (p := shf n f e q x) (q := fun y => shf n f e q x y && s y) (fun a _ h => by rw [Bool.and_eq_true] at h; exact h.1) (fun hh => by
            have := hh y hy
            rw [hys, hsy] at this; cases this)
          rw [hlen, hi, hmi, h] at this
          omega
      rw [hk] at x2; cases x2.2
    rw [hmi, hi] at hc
    obtain ⟨t, ht⟩ : ∃ t, i = i2 + 1 + t := ⟨i - i2 - 1, by omega⟩
    refine ⟨P ^ t, Nat.eq_of_mul_eq_mul_right (hP.pos i2) ?_⟩
    rw [hc, ht, Nat.pow_add, Nat.pow_succ]
    ac_rfl)
  rw [hsum] at hd
  obtain ⟨c, hc⟩ := hd
  refine ⟨c, ?_⟩
  have hsp : (mem n K).length + (mem n fun a => !K a).length = n := by
    have h := List.length_eq_countP_add_countP K (l := List.range n)
    rw [List.length_range, List.countP_eq_length_filter, List.countP_eq_length_filter] at h
    unfold mem
    rw [show (List.filter (fun a => !K a) (List.range n)) = List.filter (fun a => decide ¬K a = true) (List.range n) from List.filter_congr fun a _ => by cases K a <;> rfl]
    exact h.symm
  rw [hK] at hsp hc
  omega

/-- Some of Sylow's subgroups. -/
structure Syl (n : Nat) (f : Nat → Nat → Nat) (e P : Nat) (s : Nat → Bool) (j t : Nat) : Prop where
  sub : Sub n f e s
  len : (mem n s).length = P ^ j
  num : n = P ^ j * t
  non : ¬ P ∣ t

/-- ALL ARE IN ONE, CONJUGATED. -/
theorem Syl.holds {j t : Nat} (hS : Syl n f e P s j t) (G : Grp n f e) (hP : isPr P) (hq : Sub n f e q) {i : Nat} (hi : (mem n q).length = P ^ i) : ∃ a, a < n ∧ ∀ y, y < n → q y = true → shf n f e s a y = true := by
  obtain ⟨c, hc⟩ := G.syl_count hP hq hi hS.sub
  by_cases h0 : (mem n fun a => decide (∀ y, y < n → shf n f e q a y = true → s y = true)) = []
  · exfalso
    rw [h0, hS.len] at hc
    have h1 := hS.num
    rw [List.length_nil, Nat.zero_add] at hc
    have : P ^ j * t = P ^ j * (P * c) := by rw [← h1, ← show P * P ^ j * c = P ^ j * (P * c) by ac_rfl]; exact hc
    have := Nat.eq_of_mul_eq_mul_left (hP.pos j) this
    exact hS.non ⟨c, this⟩
  · obtain ⟨a, ha⟩ := List.exists_mem_of_ne_nil _ h0
    obtain ⟨a1, a2⟩ := mem_mem.1 ha
    rw [decide_eq_true_eq] at a2
    refine ⟨iv n f e a, G.iv_lt a1, fun y hy hqy => ?_⟩
    rw [G.shf_back (G.iv_lt a1) hy, G.iv_iv a1]
    exact a2 _ (G.cjr_lt hy a1) (shf_iff.2 ⟨y, hy, hqy, rfl⟩)

theorem Syl.shf {j t : Nat} (hS : Syl n f e P s j t) (G : Grp n f e) {a : Nat} (ha : a < n) : Syl n f e P (shf n f e s a) j t :=
  ⟨G.shf_sub hS.sub ha, by rw [G.shf_len ha]; exact hS.len, hS.num, hS.non⟩

/-- CAUCHY. -/
theorem Grp.cauchy (G : Grp n f e) (hP : isPr P) (h : P ∣ n) : P ∣ (mem n fun a => decide (ord n f e a = P)).length + 1 := by
  have h1 := frob n f e G P h
  unfold sol at h1
  have h2 : ((List.range n).filter fun x => decide (pw f e x P = e)).length = (mem n fun a => decide (ord n f e a = P)).length + 1 := by
    have : ((List.range n).filter fun x => decide (pw f e x P = e)).length = (e :: mem n fun a => decide (ord n f e a = P)).length := same_len (List.nodup_range.filter _) (by
      rw [List.nodup_cons]
      refine ⟨fun hm => ?_, List.nodup_range.filter _⟩
      obtain ⟨_, h3⟩ := mem_mem.1 hm
      rw [decide_eq_true_eq] at h3
      have := (G.ord_spec G.el).2.2.2 1 (Nat.le_refl _)
      have hp2 := hP.1
      rw [h3] at this
      exact this (by omega) (G.pw_e 1)) fun x => by
      rw [List.mem_cons, mem_mem, List.mem_filter, List.mem_range, decide_eq_true_eq, decide_eq_true_eq]
      constructor
      · rintro ⟨h3, h4⟩
        rcases hP.div ((G.pw_eq_one h3 P).1 h4) with h5 | h5
        · left
          have := G.pw_ord h3
          rw [h5, G.pw_one h3] at this
          exact this
        · exact .inr ⟨h3, h5⟩
      · rintro (rfl | ⟨h3, h4⟩)
        · exact ⟨G.el, G.pw_e P⟩
        · exact ⟨h3, by rw [← h4]; exact G.pw_ord h3⟩
    simpa using this
  rwa [h2] at h1
end
end Go.Proofs.YtjbfkdaodfdpcaaDoor

/-
  Plain law: how one of Sylow's subgroups is grown. Conditions: none.
-/
set_option linter.all false
namespace Go.Proofs.YtjbfkdaodfdpcaaDoor
open Go.Pv

/-- What is left of a number, when P is divided out. -/
noncomputable def npt (P o : Nat) : Nat := @dite Nat (∃ s k, o = P ^ k * s ∧ ¬ P ∣ s) (Classical.propDecidable _) (fun h => Classical.choose h) (fun _ => 0)
noncomputable def gn (n : Nat) (f : Nat → Nat → Nat) (e : Nat) (p : Nat → Bool) : Nat → Bool := Classical.choose (gen_ex n f e p)
section
variable {n : Nat} {f : Nat → Nat → Nat} {e : Nat} {p q s : Nat → Bool} {P : Nat}

noncomputable def swb (n : Nat) (f : Nat → Nat → Nat) (e P a : Nat) : Nat := pw f e a (npt P (ord n f e a))
/-- Something that lets the subgroup stay, whose part of a power of P is not in it. -/
noncomputable def swc (n : Nat) (f : Nat → Nat → Nat) (e P : Nat) (s : Nat → Bool) (a : Nat) : Bool := !(s a || !(nzr n f e s a)) && !(s (swb n f e P a))
noncomputable def sws (n : Nat) (f : Nat → Nat → Nat) (e P : Nat) (s : Nat → Bool) : Nat → Bool :=
  match fst' (swc n f e P s) n with
  | some a => gn n f e fun x => s x || decide (x = swb n f e P a)
  | none => s
noncomputable def swq (n : Nat) (f : Nat → Nat → Nat) (e P : Nat) : Nat → Nat → Bool
  | 0 => onp e
  | k + 1 => sws n f e P (swq n f e P k)

end
end Go.Proofs.YtjbfkdaodfdpcaaDoor
