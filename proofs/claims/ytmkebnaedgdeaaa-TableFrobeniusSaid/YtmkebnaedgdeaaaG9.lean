/-
  Plain law, FROBENIUS' THEOREM: what commutes with y, taken by y's powers, is a group on the least things of cosets. Conditions: none.
-/
import Derived.Test.YtmkebnaedgdeaaaG8
set_option linter.all false
namespace Go.Proofs.Ytmkebnaedgdeaaa
open Go.Pv

section
variable {n : Nat} {f : Nat → Nat → Nat} {e : Nat}

/-- The same but for a power of y. -/
def sm (n : Nat) (f : Nat → Nat → Nat) (e y x z : Nat) : Prop := ∃ j, j < ord n f e y ∧ z = f x (pw f e y j)
instance (n : Nat) (f : Nat → Nat → Nat) (e y x z : Nat) : Decidable (sm n f e y x z) := by unfold sm; infer_instance

theorem Grp.sm_of (G : Grp n f e) {y x : Nat} (hy : y < n) (j : Nat) : sm n f e y x (f x (pw f e y j)) :=
  ⟨j % ord n f e y, Nat.mod_lt _ (G.ord_pos hy), by rw [G.pw_mod hy]⟩
theorem Grp.sm_refl (G : Grp n f e) {y x : Nat} (hy : y < n) (hx : x < n) : sm n f e y x x := by
  have := G.sm_of (x := x) hy 0
  rwa [show pw f e y 0 = e from rfl, G.one_r x hx] at this
theorem Grp.sm_lt (G : Grp n f e) {y x z : Nat} (hy : y < n) (hx : x < n) (h : sm n f e y x z) : z < n := by
  obtain ⟨j, _, rfl⟩ := h
  exact G.cl _ _ hx (G.pw_lt hy j)
theorem Grp.sm_trans (G : Grp n f e) {y x z w : Nat} (hy : y < n) (hx : x < n) (h : sm n f e y x z) (h' : sm n f e y z w) : sm n f e y x w := by
  obtain ⟨j, _, rfl⟩ := h
  obtain ⟨i, _, rfl⟩ := h'
  rw [G.assoc _ _ _ hx (G.pw_lt hy j) (G.pw_lt hy i), ← G.pw_add hy]
  exact G.sm_of hy _
theorem Grp.sm_symm (G : Grp n f e) {y x z : Nat} (hy : y < n) (hx : x < n) (h : sm n f e y x z) : sm n f e y z x := by
  obtain ⟨j, hj, rfl⟩ := h
  have := G.sm_of (x := f x (pw f e y j)) hy (ord n f e y - j)
  rwa [G.assoc _ _ _ hx (G.pw_lt hy j) (G.pw_lt hy _), ← G.pw_add hy, Nat.add_sub_cancel' (by omega), G.pw_ord hy, G.one_r x hx] at this
theorem Grp.sm_mul (G : Grp n f e) {y a b a' b' : Nat} (hy : y < n) (ha : a < n) (hb : b < n) (hcb : f b y = f y b) (h : sm n f e y a a') (h' : sm n f e y b b') : sm n f e y (f a b) (f a' b') := by
  obtain ⟨i, _, rfl⟩ := h
  obtain ⟨j, _, rfl⟩ := h'
  have hi := G.pw_lt hy i
  have hj := G.pw_lt hy j
  have : f (f a (pw f e y i)) (f b (pw f e y j)) = f (f a b) (pw f e y (i + j)) := by
    rw [G.pw_add hy, G.assoc a _ _ ha hi (G.cl _ _ hb hj), ← G.assoc _ b _ hi hb hj, ← G.cen_pw hy hb hcb i, G.assoc b _ _ hb hi hj, ← G.assoc a b _ ha hb (G.cl _ _ hi hj)]
  rw [this]
  exact G.sm_of hy _

/-- The least of a coset. -/
def rp (n : Nat) (f : Nat → Nat → Nat) (e y x : Nat) : Nat := (fst' (fun z => decide (sm n f e y x z)) n).getD 0

theorem Grp.rp_sm (G : Grp n f e) {y x : Nat} (hy : y < n) (hx : x < n) : sm n f e y x (rp n f e y x) := by
  unfold rp
  cases h : fst' (fun z => decide (sm n f e y x z)) n with
  | none =>
    have := fst_spec0 h x hx
    simp only [decide_eq_false_iff_not] at this
    exact absurd (G.sm_refl hy hx) this
  | some a =>
    obtain ⟨_, h2, _⟩ := fst_spec h
    simpa using h2
theorem Grp.rp_lt (G : Grp n f e) {y x : Nat} (hy : y < n) (hx : x < n) : rp n f e y x < n := G.sm_lt hy hx (G.rp_sm hy hx)
theorem Grp.rp_eq (G : Grp n f e) {y x z : Nat} (hy : y < n) (hx : x < n) (hz : z < n) : rp n f e y x = rp n f e y z ↔ sm n f e y x z := by
  constructor
  · intro h
    exact G.sm_trans hy hx (G.rp_sm hy hx) (by rw [h]; exact G.sm_symm hy hz (G.rp_sm hy hz))
  · intro h
    unfold rp
    congr 2
    funext w
    exact decide_eq_decide.2 ⟨fun h' => G.sm_trans hy hz (G.sm_symm hy hx h) h', fun h' => G.sm_trans hy hx h h'⟩
theorem Grp.rp_rp (G : Grp n f e) {y x : Nat} (hy : y < n) (hx : x < n) : rp n f e y (rp n f e y x) = rp n f e y x :=
  ((G.rp_eq hy hx (G.rp_lt hy hx)).2 (G.rp_sm hy hx)).symm

/-- The quotient's things. -/
def quo (n : Nat) (f : Nat → Nat → Nat) (e y : Nat) : List Nat := mem n fun x => cen f y x && decide (rp n f e y x = x)
theorem mem_quo {y x : Nat} : x ∈ quo n f e y ↔ x < n ∧ f x y = f y x ∧ rp n f e y x = x := by
  unfold quo
  rw [mem_mem, Bool.and_eq_true, cen_iff, decide_eq_true_eq]

theorem Grp.cen_rp (G : Grp n f e) {y x : Nat} (hy : y < n) (hx : x < n) (h : f x y = f y x) : f (rp n f e y x) y = f y (rp n f e y x) := by
  obtain ⟨j, _, hj⟩ := G.rp_sm (x := x) hy hx
  rw [hj]
  have hp := G.pw_lt hy j
  rw [G.assoc x _ y hx hp hy, ← G.cen_pw hy hy rfl j, ← G.assoc x y _ hx hy hp, h, G.assoc y x _ hy hx hp]
theorem Grp.rp_quo (G : Grp n f e) {y x : Nat} (hy : y < n) (hx : x < n) (h : f x y = f y x) : rp n f e y x ∈ quo n f e y :=
  mem_quo.2 ⟨G.rp_lt hy hx, G.cen_rp hy hx h, G.rp_rp hy hx⟩

theorem Grp.quo_gs (G : Grp n f e) {y : Nat} (hy : y < n) : GS (quo n f e y) (fun a b => rp n f e y (f a b)) (rp n f e y e) := by
  have C := G.cen_sub hy
  have hmul : ∀ {a b}, a < n → b < n → f a y = f y a → f b y = f y b → f (f a b) y = f y (f a b) := fun ha hb h1 h2 =>
    cen_iff.1 (C.mul _ _ ha hb (cen_iff.2 h1) (cen_iff.2 h2))
  have he : f e y = f y e := cen_iff.1 C.one
  have hre := G.rp_sm (x := e) hy G.el
  refine ⟨List.nodup_range.filter _, ?_, G.rp_quo hy G.el he, ?_, ?_, ?_, ?_⟩
  · intro a b ha hb
    obtain ⟨a1, a2, _⟩ := mem_quo.1 ha
    obtain ⟨b1, b2, _⟩ := mem_quo.1 hb
    exact G.rp_quo hy (G.cl _ _ a1 b1) (hmul a1 b1 a2 b2)
  · intro a ha
    obtain ⟨a1, a2, a3⟩ := mem_quo.1 ha
    show rp n f e y (f (rp n f e y e) a) = a
    have h := G.sm_mul hy G.el a1 a2 hre (G.sm_refl hy a1)
    rw [← (G.rp_eq hy (G.cl _ _ G.el a1) (G.cl _ _ (G.rp_lt hy G.el) a1)).2 h, G.one_l a a1, a3]
  · intro a ha
    obtain ⟨a1, a2, a3⟩ := mem_quo.1 ha
    show rp n f e y (f a (rp n f e y e)) = a
    have h := G.sm_mul hy a1 G.el he (G.sm_refl hy a1) hre
    rw [← (G.rp_eq hy (G.cl _ _ a1 G.el) (G.cl _ _ a1 (G.rp_lt hy G.el))).2 h, G.one_r a a1, a3]
  · intro a b c ha hb hc
    obtain ⟨a1, a2, _⟩ := mem_quo.1 ha
    obtain ⟨b1, b2, _⟩ := mem_quo.1 hb
    obtain ⟨c1, c2, _⟩ := mem_quo.1 hc
    have hab := G.cl _ _ a1 b1
    have hbc := G.cl _ _ b1 c1
    show rp n f e y (f (rp n f e y (f a b)) c) = rp n f e y (f a (rp n f e y (f b c)))
    have h1 := G.sm_mul hy hab c1 c2 (G.rp_sm hy hab) (G.sm_refl hy c1)
    have h2 := G.sm_mul hy a1 hbc (hmul b1 c1 b2 c2) (G.sm_refl hy a1) (G.rp_sm hy hbc)
    rw [← (G.rp_eq hy (G.cl _ _ hab c1) (G.cl _ _ (G.rp_lt hy hab) c1)).2 h1, ← (G.rp_eq hy (G.cl _ _ a1 hbc) (G.cl _ _ a1 (G.rp_lt hy hbc))).2 h2, G.assoc a b c a1 b1 c1]
  · intro a ha
    obtain ⟨a1, a2, _⟩ := mem_quo.1 ha
    have hi := G.iv_lt a1
    have hci : f (iv n f e a) y = f y (iv n f e a) := cen_iff.1 (C.inv a a1 (cen_iff.2 a2))
    refine ⟨rp n f e y (iv n f e a), G.rp_quo hy hi hci, ?_, ?_⟩
    · show rp n f e y (f a (rp n f e y (iv n f e a))) = rp n f e y e
      have h := G.sm_mul hy a1 hi hci (G.sm_refl hy a1) (G.rp_sm hy hi)
      rw [← (G.rp_eq hy (G.cl _ _ a1 hi) (G.cl _ _ a1 (G.rp_lt hy hi))).2 h, G.mul_iv a1]
    · show rp n f e y (f (rp n f e y (iv n f e a)) a) = rp n f e y e
      have h := G.sm_mul hy hi a1 a2 (G.rp_sm hy hi) (G.sm_refl hy a1)
      rw [← (G.rp_eq hy (G.cl _ _ hi a1) (G.cl _ _ (G.rp_lt hy hi) a1)).2 h, G.iv_mul a1]
end
end Go.Proofs.Ytmkebnaedgdeaaa
