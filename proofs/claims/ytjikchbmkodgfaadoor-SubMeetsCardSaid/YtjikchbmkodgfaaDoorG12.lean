
/-
  Plain law: what a set of things makes. Conditions: none.
-/
import Derived.Test.YtjikchbmkodgfaaDoorG6
set_option linter.all false
namespace Go.Proofs.YtjikchbmkodgfaaDoor
open Go.Pv

/-- What a set makes: the one; what is made, times one of the set. -/
inductive Gen (n : Nat) (f : Nat → Nat → Nat) (e : Nat) (p : Nat → Bool) : Nat → Prop
  | one : Gen n f e p e
  | step (a b : Nat) : Gen n f e p a → b < n → p b = true → Gen n f e p (f a b)

section
variable {n : Nat} {f : Nat → Nat → Nat} {e : Nat} {p q : Nat → Bool}

theorem Gen.lt (G : Grp n f e) {a : Nat} (h : Gen n f e p a) : a < n := by
  induction h with
  | one => exact G.el
  | step a b _ hb _ ih => exact G.cl a b ih hb
theorem Gen.mem (G : Grp n f e) {b : Nat} (hb : b < n) (h : p b = true) : Gen n f e p b := by
  have := Gen.step (f := f) e b (Gen.one) hb h
  rwa [G.one_l b hb] at this
theorem Gen.mul (G : Grp n f e) {a b : Nat} (ha : Gen n f e p a) (hb : Gen n f e p b) : Gen n f e p (f a b) := by
  induction hb with
  | one => rw [G.one_r a (ha.lt G)]; exact ha
  | step c d hc hd hp ih =>
    rw [← G.assoc a c d (ha.lt G) (hc.lt G) hd]
    exact .step _ d ih hd hp
theorem Gen.pw (G : Grp n f e) {a : Nat} (ha : Gen n f e p a) : ∀ k, Gen n f e p (pw f e a k)
  | 0 => .one
  | k + 1 => Gen.mul G (Gen.pw G ha k) ha
theorem Grp.iv_pw (G : Grp n f e) {a : Nat} (ha : a < n) : iv n f e a = Go.Proofs.YtjikchbmkodgfaaDoor.pw f e a (ord n f e a - 1) := by
  refine (G.iv_unique ha (G.pw_lt ha _) (.inr ?_)).symm
  have h := G.pw_ord ha
  have o := G.ord_pos ha
  rw [show ord n f e a = (ord n f e a - 1) + 1 by omega] at h
  exact h
theorem Gen.iv (G : Grp n f e) {a : Nat} (ha : Gen n f e p a) : Gen n f e p (iv n f e a) := by
  rw [G.iv_pw (ha.lt G)]
  exact Gen.pw G ha _
theorem Gen.least {H : Nat → Prop} (h1 : H e) (h2 : ∀ a b, Gen n f e p a → b < n → p b = true → H a → H (f a b)) {a : Nat} (h : Gen n f e p a) : H a := by
  induction h with
  | one => exact h1
  | step a b ha hb hp ih => exact h2 a b ha hb hp ih
/-- In a subgroup that has the set is what the set makes. -/
theorem Gen.sub {H : Nat → Bool} (G : Grp n f e) (hH : Sub n f e H) (hp : ∀ b, b < n → p b = true → H b = true) {a : Nat} (h : Gen n f e p a) : H a = true := by
  induction h with
  | one => exact hH.one
  | step a b ha hb hpb ih => exact hH.mul a b (ha.lt G) hb ih (hp b hb hpb)
theorem Gen.mono (h : ∀ b, b < n → p b = true → q b = true) {a : Nat} (ha : Gen n f e p a) : Gen n f e q a := by
  induction ha with
  | one => exact .one
  | step a b _ hb hp ih => exact .step a b ih hb (h b hb hp)
theorem gen_sub (G : Grp n f e) (hq : ∀ a, a < n → (q a = true ↔ Gen n f e p a)) : Sub n f e q where
  one := (hq e G.el).2 .one
  mul a b ha hb h1 h2 := (hq _ (G.cl a b ha hb)).2 (Gen.mul G ((hq a ha).1 h1) ((hq b hb).1 h2))
  inv a ha h := (hq _ (G.iv_lt ha)).2 (Gen.iv G ((hq a ha).1 h))
theorem gen_ex (n : Nat) (f : Nat → Nat → Nat) (e : Nat) (p : Nat → Bool) : ∃ q : Nat → Bool, ∀ a, a < n → (q a = true ↔ Gen n f e p a) :=
  ⟨fun a => @decide (Gen n f e p a) (Classical.propDecidable _), fun a _ => by simp⟩
/-- A subgroup is made by itself. -/
theorem Sub.gen (G : Grp n f e) (hp : Sub n f e p) {a : Nat} (ha : a < n) : p a = true ↔ Gen n f e p a :=
  ⟨fun h => Gen.mem G ha h, fun h => Gen.sub G hp (fun _ _ h => h) h⟩
/-- A set that has the one and all products is a subgroup. -/
theorem sub_of (G : Grp n f e) (h1 : p e = true) (h2 : ∀ a b, a < n → b < n → p a = true → p b = true → p (f a b) = true) : Sub n f e p where
  one := h1
  mul := h2
  inv a ha h := by
    rw [G.iv_pw ha]
    generalize ord n f e a - 1 = k
    induction k with
    | zero => exact h1
    | succ k ih => exact h2 _ _ (G.pw_lt ha k) ha ih h
end
end Go.Proofs.YtjikchbmkodgfaaDoor
