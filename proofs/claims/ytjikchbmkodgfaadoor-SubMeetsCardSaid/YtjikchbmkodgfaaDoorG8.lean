
/-
  Plain law, FROBENIUS' THEOREM, its second part: centralisers, and what they are after a cyclic part of the centre. Conditions: none.
-/
import Derived.Test.YtjikchbmkodgfaaDoorG7
set_option linter.all false
namespace Go.Proofs.YtjikchbmkodgfaaDoor
open Go.Pv

/-- DOUBLE COUNTING. -/
theorem sum_filter {α β : Type} (R : α → β → Bool) (L1 : List α) : ∀ L2 : List β, (L1.map fun a => (L2.filter (R a)).length).sum = (L2.map fun b => (L1.filter fun a => R a b).length).sum
  | [] => by induction L1 with
    | nil => rfl
    | cons a t ih => simpa using ih
  | b :: t => by
    have ih := sum_filter R L1 t
    have : (L1.map fun a => ((b :: t).filter (R a)).length).sum = (L1.filter fun a => R a b).length + (L1.map fun a => (t.filter (R a)).length).sum := by
      clear ih
      induction L1 with
      | nil => rfl
      | cons a u ihu =>
        have h1 : ((b :: t).filter (R a)).length = (if R a b then 1 else 0) + (t.filter (R a)).length := by
          rw [List.filter_cons]; cases R a b <;> simp <;> omega
        have h2 : ((a :: u).filter fun a => R a b).length = (if R a b then 1 else 0) + (u.filter fun a => R a b).length := by
          rw [List.filter_cons]; cases R a b <;> simp <;> omega
        rw [List.map_cons, List.sum_cons, ihu, List.map_cons, List.sum_cons, h1, h2]
        omega
    rw [this, ih]; simp
theorem sum_const {α : Type} {g : α → Nat} {c : Nat} : ∀ {l : List α}, (∀ a ∈ l, g a = c) → (l.map g).sum = l.length * c
  | [], _ => by simp
  | a :: t, h => by
    rw [List.map_cons, List.sum_cons, h a (by simp), sum_const (fun x hx => h x (by simp [hx])), List.length_cons, Nat.succ_mul]; omega
theorem dbl {α β : Type} (R : α → β → Bool) {L1 : List α} {L2 : List β} {c1 c2 : Nat} (h1 : ∀ a ∈ L1, (L2.filter (R a)).length = c1) (h2 : ∀ b ∈ L2, (L1.filter fun a => R a b).length = c2) : L1.length * c1 = L2.length * c2 := by
  rw [← sum_const h1, ← sum_const h2, sum_filter]

section
variable {n : Nat} {f : Nat → Nat → Nat} {e : Nat}

/-- What commutes with y. -/
def cen (f : Nat → Nat → Nat) (y x : Nat) : Bool := decide (f x y = f y x)
theorem cen_iff {y x : Nat} : cen f y x = true ↔ f x y = f y x := by simp [cen]
theorem Grp.cen_sub (G : Grp n f e) {y : Nat} (hy : y < n) : Sub n f e (cen f y) where
  one := by rw [cen_iff, G.one_l y hy, G.one_r y hy]
  mul a b ha hb h1 h2 := by
    rw [cen_iff] at *
    rw [G.assoc a b y ha hb hy, h2, ← G.assoc a y b ha hy hb, h1, G.assoc y a b hy ha hb]
  inv a ha h := by
    rw [cen_iff] at *
    have hi := G.iv_lt ha
    refine G.cancel_l ha (G.cl _ _ hi hy) (G.cl _ _ hy hi) ?_
    rw [← G.assoc a _ y ha hi hy, G.mul_iv ha, G.one_l y hy, ← G.assoc a y _ ha hy hi, h, G.assoc y a _ hy ha hi, G.mul_iv ha, G.one_r y hy]
theorem Grp.cen_pw (G : Grp n f e) {y x : Nat} (hy : y < n) (hx : x < n) (h : f x y = f y x) : ∀ j, f x (pw f e y j) = f (pw f e y j) x
  | 0 => by show f x e = f e x; rw [G.one_l x hx, G.one_r x hx]
  | j + 1 => by
    have hj := G.pw_lt hy j
    show f x (f (pw f e y j) y) = f (f (pw f e y j) y) x
    rw [← G.assoc x _ y hx hj hy, G.cen_pw hy hx h j, G.assoc _ x y hj hx hy, h, ← G.assoc _ y x hj hy hx]
theorem Grp.pw_comm2 (G : Grp n f e) {y x : Nat} (hy : y < n) (hx : x < n) (h : f x y = f y x) : ∀ k, pw f e (f x y) k = f (pw f e x k) (pw f e y k)
  | 0 => by show e = f e e; rw [G.one_l e G.el]
  | k + 1 => by
    have hxk := G.pw_lt hx k
    have hyk := G.pw_lt hy k
    show f (pw f e (f x y) k) (f x y) = f (f (pw f e x k) x) (f (pw f e y k) y)
    rw [G.pw_comm2 hy hx h k, G.assoc _ _ _ hxk hyk (G.cl _ _ hx hy), ← G.assoc _ x y hyk hx hy, ← G.cen_pw hy hx h k, G.assoc x _ y hx hyk hy, ← G.assoc _ x _ hxk hx (G.cl _ _ hyk hy)]
end
end Go.Proofs.YtjikchbmkodgfaaDoor
