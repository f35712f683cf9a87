
/-
  The semidirect product of two groups: plain laws, with no program in sight. Conditions: none.
-/
import Derived.Test.YthdmioeddgednaaG1
set_option linter.all false
namespace Go.Proofs.Ythdmioeddgednaa
open Go.Pv

/-- A pair's product: the second acts on the other's first. -/
def smi (n' : Nat) (f f' al : Nat → Nat → Nat) (a b : Nat) : Nat := f (a / n') (al (a % n') (b / n')) * n' + f' (a % n') (b % n')

structure Acts (n n' : Nat) (f f' al : Nat → Nat → Nat) : Prop where
  lt : ∀ x i, x < n' → i < n → al x i < n
  hom : ∀ x i j, x < n' → i < n → j < n → al x (f i j) = f (al x i) (al x j)
  onto : ∀ x i, x < n' → i < n → ∃ j, j < n ∧ al x j = i
  mul : ∀ x y i, x < n' → y < n' → i < n → al (f' x y) i = al x (al y i)

section
variable {n n' e e' : Nat} {f f' al : Nat → Nat → Nat}

theorem pr_div {x y n' : Nat} (hy : y < n') : (x * n' + y) / n' = x := by
  rw [Nat.mul_comm, Nat.mul_add_div (by omega), Nat.div_eq_of_lt hy]; omega
theorem pr_mod {x y n' : Nat} (hy : y < n') : (x * n' + y) % n' = y := by
  rw [Nat.mul_comm, Nat.mul_add_mod, Nat.mod_eq_of_lt hy]
theorem pr_lt {x y n n' : Nat} (hx : x < n) (hy : y < n') : x * n' + y < n * n' := by
  have : (x + 1) * n' ≤ n * n' := Nat.mul_le_mul_right _ hx
  rw [Nat.add_mul, Nat.one_mul] at this
  omega
theorem pr_split {a : Nat} (hp : 0 < n') (ha : a < n * n') : a / n' < n ∧ a % n' < n' ∧ a / n' * n' + a % n' = a :=
  ⟨Nat.div_lt_of_lt_mul (by rw [Nat.mul_comm]; exact ha), Nat.mod_lt _ hp, by rw [Nat.mul_comm]; exact Nat.div_add_mod a n'⟩

theorem Acts.one (A : Acts n n' f f' al) (G' : Grp n' f' e') {i : Nat} (hi : i < n) : al e' i = i := by
  obtain ⟨j, hj, rfl⟩ := A.onto e' i G'.el hi
  rw [← A.mul e' e' j G'.el G'.el hj, G'.one_l e' G'.el]
theorem Acts.el (A : Acts n n' f f' al) (G : Grp n f e) {x : Nat} (hx : x < n') : al x e = e := by
  have h1 := A.lt x e hx G.el
  have h2 := A.hom x e e hx G.el G.el
  rw [G.one_l e G.el] at h2
  exact (G.idem h1).1 h2.symm

theorem smi_div (G' : Grp n' f' e') {a b : Nat} : smi n' f f' al a b / n' = f (a / n') (al (a % n') (b / n')) := pr_div (G'.cl _ _ (Nat.mod_lt _ G'.pos) (Nat.mod_lt _ G'.pos))
theorem smi_mod (G' : Grp n' f' e') {a b : Nat} : smi n' f f' al a b % n' = f' (a % n') (b % n') := pr_mod (G'.cl _ _ (Nat.mod_lt _ G'.pos) (Nat.mod_lt _ G'.pos))

/-- THE SEMIDIRECT PRODUCT is a group. -/
theorem smi_grp (G : Grp n f e) (G' : Grp n' f' e') (A : Acts n n' f f' al) : Grp (n * n') (smi n' f f' al) (e * n' + e') := by
  have hp := G'.pos
  refine ⟨Nat.mul_pos G.pos hp, fun a b ha hb => ?_, pr_lt G.el G'.el, fun a ha => ?_, fun a ha => ?_, fun a b c ha hb hc => ?_, fun a ha => ?_⟩
  · obtain ⟨a1, a2, _⟩ := pr_split hp ha
    obtain ⟨b1, b2, _⟩ := pr_split hp hb
    exact pr_lt (G.cl _ _ a1 (A.lt _ _ a2 b1)) (G'.cl _ _ a2 b2)
  · obtain ⟨a1, a2, a3⟩ := pr_split hp ha
    unfold smi
    rw [pr_div G'.el, pr_mod G'.el, A.one G' a1, G.one_l _ a1, G'.one_l _ a2, a3]
  · obtain ⟨a1, a2, a3⟩ := pr_split hp ha
    unfold smi
    rw [pr_div G'.el, pr_mod G'.el, A.el G a2, G.one_r _ a1, G'.one_r _ a2, a3]
  · obtain ⟨a1, a2, _⟩ := pr_split hp ha
    obtain ⟨b1, b2, _⟩ := pr_split hp hb
    obtain ⟨c1, c2, _⟩ := pr_split hp hc
    have hbc := A.lt _ _ b2 c1
    show f (smi n' f f' al a b / n') (al (smi n' f f' al a b % n') (c / n')) * n' + f' (smi n' f f' al a b % n') (c % n') = f (a / n') (al (a % n') (smi n' f f' al b c / n')) * n' + f' (a % n') (smi n' f f' al b c % n')
    rw [smi_div G', smi_mod G', smi_div G', smi_mod G', A.mul _ _ _ a2 b2 c1, A.hom _ _ _ a2 b1 hbc, G.assoc _ _ _ a1 (A.lt _ _ a2 b1) (A.lt _ _ a2 hbc), G'.assoc _ _ _ a2 b2 c2]
  · obtain ⟨a1, a2, a3⟩ := pr_split hp ha
    have i1 := G.iv_lt a1
    have i2 := G'.iv_lt a2
    have h1 := A.lt _ _ i2 i1
    refine ⟨al (iv n' f' e' (a % n')) (iv n f e (a / n')) * n' + iv n' f' e' (a % n'), pr_lt h1 i2, ?_, ?_⟩
    · unfold smi
      rw [pr_div i2, pr_mod i2, ← A.mul _ _ _ a2 i2 i1, G'.mul_iv a2, A.one G' i1, G.mul_iv a1]
    · unfold smi
      rw [pr_div i2, pr_mod i2, ← A.hom _ _ _ i2 i1 a1, G.iv_mul a1, A.el G i2, G'.iv_mul a2]
end
end Go.Proofs.Ythdmioeddgednaa
