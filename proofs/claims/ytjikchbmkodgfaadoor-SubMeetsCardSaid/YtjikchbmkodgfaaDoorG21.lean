
/-
  The quotient of a group by a congruence; by a normal subgroup. Conditions: none.
-/
import Derived.Test.YtjikchbmkodgfaaDoorG19
set_option linter.all false
namespace Go.Proofs.YtjikchbmkodgfaaDoor
open Go.Pv

/-- Places for classes: of each thing its place; of each place a thing. -/
structure Qm (n : Nat) (f : Nat → Nat → Nat) (k : Nat) (cl rep : Nat → Nat) : Prop where
  lt : ∀ a, a < n → cl a < k
  rlt : ∀ i, i < k → rep i < n
  at_ : ∀ i, i < k → cl (rep i) = i
  cong : ∀ a b c d, a < n → b < n → c < n → d < n → cl a = cl b → cl c = cl d → cl (f a c) = cl (f b d)

section
variable {n : Nat} {f : Nat → Nat → Nat} {e : Nat} {p : Nat → Bool}
def qop (f : Nat → Nat → Nat) (cl rep : Nat → Nat) (i j : Nat) : Nat := cl (f (rep i) (rep j))
theorem Qm.op {k : Nat} {cl rep : Nat → Nat} (Q : Qm n f k cl rep) {a b : Nat} (ha : a < n) (hb : b < n) : qop f cl rep (cl a) (cl b) = cl (f a b) :=
  Q.cong _ _ _ _ (Q.rlt _ (Q.lt a ha)) ha (Q.rlt _ (Q.lt b hb)) hb (Q.at_ _ (Q.lt a ha)) (Q.at_ _ (Q.lt b hb))
theorem Qm.grp {k : Nat} {cl rep : Nat → Nat} (Q : Qm n f k cl rep) (G : Grp n f e) : Grp k (qop f cl rep) (cl e) where
  pos := Nat.lt_of_le_of_lt (Nat.zero_le _) (Q.lt e G.el)
  cl i j hi hj := Q.lt _ (G.cl _ _ (Q.rlt i hi) (Q.rlt j hj))
  el := Q.lt e G.el
  one_l i hi := by
    have h1 := Q.rlt i hi
    have h2 := Q.op G.el h1
    rw [Q.at_ i hi, G.one_l _ h1, Q.at_ i hi] at h2; exact h2
  one_r i hi := by
    have h1 := Q.rlt i hi
    have h2 := Q.op h1 G.el
    rw [Q.at_ i hi, G.one_r _ h1, Q.at_ i hi] at h2; exact h2
  assoc i j l hi hj hl := by
    have h1 := Q.rlt i hi
    have h2 := Q.rlt j hj
    have h3 := Q.rlt l hl
    have e1 := Q.op (G.cl _ _ h1 h2) h3
    have e2 := Q.op h1 (G.cl _ _ h2 h3)
    rw [Q.at_ l hl] at e1
    rw [Q.at_ i hi] at e2
    have e3 : qop f cl rep i j = cl (f (rep i) (rep j)) := rfl
    have e4 : qop f cl rep j l = cl (f (rep j) (rep l)) := rfl
    rw [e3, e4, e1, e2, G.assoc _ _ _ h1 h2 h3]
  inv i hi := by
    have h1 := Q.rlt i hi
    have h2 := G.iv_lt h1
    have e1 := Q.op h1 h2
    have e2 := Q.op h2 h1
    rw [Q.at_ i hi] at e1 e2
    exact ⟨_, Q.lt _ h2, by rw [e1, G.mul_iv h1], by rw [e2, G.iv_mul h1]⟩

/-- Of a normal subgroup: alike things have alike products. -/
theorem Grp.rco_cong (G : Grp n f e) (hp : Sub n f e p) (hn : Nml n f e p) {a b c d : Nat} (ha : a < n) (hb : b < n) (hc : c < n) (hd : d < n) (h1 : dco n f p (onp e) a b = true) (h2 : dco n f p (onp e) c d = true) : dco n f p (onp e) (f a c) (f b d) = true := by
  have ia := G.iv_lt ha
  have ic := G.iv_lt hc
  have h3 := G.cl _ _ hb ia
  have h4 := G.cl _ _ hd ic
  rw [G.rco_iff ha hb] at h1
  rw [G.rco_iff hc hd] at h2
  rw [G.rco_iff (G.cl _ _ ha hc) (G.cl _ _ hb hd), G.iv_prod ha hc]
  -- b d c' a' = (b a') (a (d c') a')
  have h5 := hn _ ia _ h4 h2
  unfold cjr at h5
  rw [G.iv_iv ha] at h5
  have h6 := hp.mul _ _ h3 (G.cl _ _ (G.cl _ _ ha h4) ia) h1 h5
  have e1 : f (f b (iv n f e a)) (f (f a (f d (iv n f e c))) (iv n f e a)) = f (f b d) (f (iv n f e c) (iv n f e a)) := by
    rw [G.assoc b _ _ hb ia (G.cl _ _ (G.cl _ _ ha h4) ia), G.assoc a _ _ ha h4 ia, ← G.assoc _ a _ ia ha (G.cl _ _ h4 ia), G.iv_mul ha, G.one_l _ (G.cl _ _ h4 ia), G.assoc d _ _ hd ic ia, ← G.assoc b d _ hb hd (G.cl _ _ ic ia)]
  rw [← e1]; exact h6
end
end Go.Proofs.YtjikchbmkodgfaaDoor
