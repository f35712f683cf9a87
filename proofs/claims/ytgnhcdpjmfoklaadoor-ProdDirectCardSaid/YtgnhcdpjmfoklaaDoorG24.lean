/-
  Direct products of subgroups. Conditions: none.
-/
import Derived.Test.YtgnhcdpjmfoklaaDoorG13
import Derived.Test.YtgnhcdpjmfoklaaDoorG19
set_option linter.all false
namespace Go.Proofs.YtgnhcdpjmfoklaaDoor

section
variable {n e : Nat} {f : Nat → Nat → Nat} {p q : Nat → Bool}
/-- All things of one commute with all of the other. -/
def Cmm (n : Nat) (f : Nat → Nat → Nat) (p q : Nat → Bool) : Prop := ∀ a b, a < n → b < n → p a = true → q b = true → f a b = f b a
theorem Grp.pr2_mk (G : Grp n f e) {a b : Nat} (ha : a < n) (hb : b < n) (h1 : p a = true) (h2 : q b = true) : pr2 n f e p q (f a b) = true :=
  pr2_iff.2 ⟨a, ha, h1, by rwa [← G.assoc _ _ _ (G.iv_lt ha) ha hb, G.iv_mul ha, G.one_l b hb]⟩
theorem Grp.pr2_un (G : Grp n f e) {x : Nat} (hx : x < n) (h : pr2 n f e p q x = true) : ∃ a b, a < n ∧ b < n ∧ p a = true ∧ q b = true ∧ x = f a b := by
  obtain ⟨a, a1, a2, a3⟩ := pr2_iff.1 h
  refine ⟨a, _, a1, G.cl _ _ (G.iv_lt a1) hx, a2, a3, ?_⟩
  rw [← G.assoc _ _ _ a1 (G.iv_lt a1) hx, G.mul_iv a1, G.one_l x hx]
theorem Grp.com_sub (G : Grp n f e) (hp : Sub n f e p) (hq : Sub n f e q) (hc : Cmm n f p q) : Sub n f e (pr2 n f e p q) :=
  sub_of G (by have := G.pr2_mk (p := p) (q := q) G.el G.el hp.one hq.one; rwa [G.one_l e G.el] at this) fun x y hx hy h1 h2 => by
    obtain ⟨a, b, a1, b1, a2, b2, rfl⟩ := G.pr2_un hx h1
    obtain ⟨c, d, c1, d1, c2, d2, rfl⟩ := G.pr2_un hy h2
    have e1 : f (f a b) (f c d) = f (f a c) (f b d) := by
      rw [G.assoc _ _ _ a1 b1 (G.cl _ _ c1 d1), ← G.assoc _ _ _ b1 c1 d1, ← hc c b c1 b1 c2 b2, G.assoc _ _ _ c1 b1 d1, ← G.assoc _ _ _ a1 c1 (G.cl _ _ b1 d1)]
    rw [e1]
    exact G.pr2_mk (G.cl _ _ a1 c1) (G.cl _ _ b1 d1) (hp.mul _ _ a1 c1 a2 c2) (hq.mul _ _ b1 d1 b2 d2)
theorem Grp.com_gen (G : Grp n f e) (hp : Sub n f e p) (hq : Sub n f e q) (hc : Cmm n f p q) {x : Nat} (hx : x < n) : Gen n f e (fun a => p a || q a) x ↔ pr2 n f e p q x = true := by
  constructor
  · intro h
    refine Gen.sub G (G.com_sub hp hq hc) (fun b hb h1 => ?_) h
    rw [Bool.or_eq_true] at h1
    rcases h1 with h1 | h1
    · have := G.pr2_mk (p := p) (q := q) hb G.el h1 hq.one; rwa [G.one_r b hb] at this
    · have := G.pr2_mk (p := p) (q := q) G.el hb hp.one h1; rwa [G.one_l b hb] at this
  · intro h
    obtain ⟨a, b, a1, b1, a2, b2, rfl⟩ := G.pr2_un hx h
    exact Gen.mul G (Gen.mem G a1 (by simp [a2])) (Gen.mem G b1 (by simp [b2]))
theorem Grp.meet_len (G : Grp n f e) (hp : Sub n f e p) (hq : Sub n f e q) : (mem n fun x => p x && q x).length = 1 ↔ ∀ a, a < n → p a = true → q a = true → a = e := by
  have he : (fun x => p x && q x) e = true := by simp [hp.one, hq.one]
  constructor
  · intro h a ha h1 h2
    exact one_mem G.el he h ha (by simp [h1, h2])
  · intro h
    refine mem_one G.el fun a ha => ⟨fun h1 => ?_, fun h1 => by rw [h1]; exact he⟩
    rw [Bool.and_eq_true] at h1
    exact h a ha h1.1 h1.2
/-- As many pairs as things, just where both make all. -/
theorem Grp.dir_len (G : Grp n f e) (hp : Sub n f e p) (hq : Sub n f e q) (hc : Cmm n f p q) (hm : (mem n fun x => p x && q x).length = 1) {Q : Nat → Bool} (hQ : ∀ a, a < n → (Q a = true ↔ Gen n f e (fun a => p a || q a) a)) :
    (mem n Q).length = (mem n p).length * (mem n q).length := by
  have h1 := G.prod_count hp hq
  rw [hm, Nat.mul_one] at h1
  rw [← h1]
  congr 1
  exact mem_congr fun a ha => by rw [Bool.eq_iff_iff, hQ a ha, G.com_gen hp hq hc ha]
theorem Grp.gen_none (G : Grp n f e) {p : Nat → Bool} (h : ∀ a, a < n → p a = false) {a : Nat} (ha : a < n) : onp e a = true ↔ Gen n f e p a := by
  rw [onp_iff]
  constructor
  · rintro rfl; exact .one
  · intro h1
    exact onp_iff.1 (Gen.sub G G.onp_sub (fun b hb h2 => by rw [h b hb] at h2; cases h2) h1)
end
end Go.Proofs.YtgnhcdpjmfoklaaDoor
