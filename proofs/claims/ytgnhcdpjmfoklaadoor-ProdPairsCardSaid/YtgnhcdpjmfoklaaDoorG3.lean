
/-
  Orders of inverses and products: plain laws, with no program in sight. Conditions: none.
-/
import Derived.Test.YtgnhcdpjmfoklaaDoorT6
set_option linter.all false
namespace Go.Proofs.YtgnhcdpjmfoklaaDoor
open Go.Pv

section
variable {n : Nat} {f : Nat → Nat → Nat} {e : Nat}

theorem Grp.iv_pwj (G : Grp n f e) {a : Nat} (ha : a < n) : ∀ j, f (pw f e (iv n f e a) j) (pw f e a j) = e
  | 0 => G.one_l e G.el
  | j + 1 => by
    have hi := G.iv_lt ha
    rw [G.pw_succ' ha j]
    show f (f (pw f e (iv n f e a) j) (iv n f e a)) (f a (pw f e a j)) = e
    rw [G.assoc _ _ _ (G.pw_lt hi j) hi (G.cl _ _ ha (G.pw_lt ha j)), ← G.assoc _ _ _ hi ha (G.pw_lt ha j), G.iv_mul ha, G.one_l _ (G.pw_lt ha j), G.iv_pwj ha j]
theorem Grp.ord_iv (G : Grp n f e) {a : Nat} (ha : a < n) : ord n f e (iv n f e a) = ord n f e a := by
  have hi := G.iv_lt ha
  refine G.ord_eq hi fun j => ?_
  rw [← G.pw_eq_one ha]
  have h := G.iv_pwj ha j
  constructor
  · intro h1; rw [h1, G.one_l _ (G.pw_lt ha j)] at h; exact h
  · intro h1; rw [h1, G.one_r _ (G.pw_lt hi j)] at h; exact h

theorem Grp.pw_conj (G : Grp n f e) {a b : Nat} (ha : a < n) (hb : b < n) : ∀ k, f (pw f e (f a b) k) a = f a (pw f e (f b a) k)
  | 0 => by show f e a = f a e; rw [G.one_l a ha, G.one_r a ha]
  | k + 1 => by
    have hab := G.cl a b ha hb
    have hba := G.cl b a hb ha
    show f (f (pw f e (f a b) k) (f a b)) a = f a (f (pw f e (f b a) k) (f b a))
    rw [G.assoc _ _ _ (G.pw_lt hab k) hab ha, G.assoc a b a ha hb ha, ← G.assoc _ _ _ (G.pw_lt hab k) ha hba, G.pw_conj ha hb k, G.assoc _ _ _ ha (G.pw_lt hba k) hba]
theorem Grp.ord_comm (G : Grp n f e) {a b : Nat} (ha : a < n) (hb : b < n) : ord n f e (f a b) = ord n f e (f b a) := by
  have hab := G.cl a b ha hb
  have hba := G.cl b a hb ha
  refine G.ord_eq hab fun j => ?_
  rw [← G.pw_eq_one hba]
  have h := G.pw_conj ha hb j
  constructor
  · intro h1; rw [h1, G.one_l a ha] at h; exact (G.cancel_l ha (G.pw_lt hba j) G.el (by rw [← h, G.one_r a ha]))
  · intro h1; rw [h1, G.one_r a ha] at h; exact (G.cancel_r ha (G.pw_lt hab j) G.el (by rw [h, G.one_l a ha]))

/-- Powers of whole numbers. -/
def zpw (n : Nat) (f : Nat → Nat → Nat) (e a : Nat) (k : Int) : Nat := pw f e a (k % (n : Int)).toNat

theorem Grp.pw_modn (G : Grp n f e) {a : Nat} (ha : a < n) (k : Nat) : pw f e a (k % n) = pw f e a k := by
  conv => rhs; rw [← Nat.div_add_mod k n]
  rw [G.pw_add ha, G.pw_mul ha, G.pw_n ha, G.pw_e, G.one_l _ (G.pw_lt ha _)]
theorem Grp.zpw_lt (G : Grp n f e) {a : Nat} (ha : a < n) (k : Int) : zpw n f e a k < n := G.pw_lt ha _
theorem Grp.zpw_nat (G : Grp n f e) {a : Nat} (ha : a < n) {k : Int} {j : Nat} (h : (k - j) % (n : Int) = 0) : zpw n f e a k = pw f e a j := by
  have hp := G.pos
  have h1 : k % (n : Int) = (j : Int) % (n : Int) := Int.emod_eq_emod_iff_emod_sub_eq_zero.2 h
  unfold zpw
  rw [h1, ← Int.natCast_emod, Int.toNat_natCast, G.pw_modn ha]
theorem zmod_rep (n : Nat) (hp : 0 < n) (k : Int) : (k - ((k % (n : Int)).toNat : Nat)) % (n : Int) = 0 := by
  have h1 := Int.emod_nonneg k (show (n : Int) ≠ 0 by omega)
  have h2 : (((k % (n : Int)).toNat : Nat) : Int) = k % (n : Int) := Int.toNat_of_nonneg h1
  rw [h2]
  apply Int.emod_eq_emod_iff_emod_sub_eq_zero.1
  rw [Int.emod_emod_of_dvd _ (Int.dvd_refl _)]
theorem Grp.zpw_add (G : Grp n f e) {a : Nat} (ha : a < n) (i j : Int) : f (zpw n f e a i) (zpw n f e a j) = zpw n f e a (i + j) := by
  have hp := G.pos
  have h1 := zmod_rep n hp i
  have h2 := zmod_rep n hp j
  rw [G.zpw_nat ha (k := i + j) (j := (i % (n : Int)).toNat + (j % (n : Int)).toNat), G.pw_add ha]
  · rfl
  · have := Int.dvd_add (Int.dvd_of_emod_eq_zero h1) (Int.dvd_of_emod_eq_zero h2)
    apply Int.emod_eq_zero_of_dvd
    have e1 : i + j - (((i % (n : Int)).toNat + (j % (n : Int)).toNat : Nat) : Int) = (i - ((i % (n : Int)).toNat : Nat)) + (j - ((j % (n : Int)).toNat : Nat)) := by omega
    rw [e1]; exact this
theorem Grp.zpw_mul (G : Grp n f e) {a : Nat} (ha : a < n) (i j : Int) : zpw n f e (zpw n f e a i) j = zpw n f e a (i * j) := by
  have hp := G.pos
  have h1 := zmod_rep n hp i
  have h2 := zmod_rep n hp j
  rw [G.zpw_nat ha (k := i * j) (j := (i % (n : Int)).toNat * (j % (n : Int)).toNat), G.pw_mul ha]
  · rfl
  · apply Int.emod_eq_zero_of_dvd
    obtain ⟨c, hc⟩ := Int.dvd_of_emod_eq_zero h1
    obtain ⟨d, hd⟩ := Int.dvd_of_emod_eq_zero h2
    refine ⟨c * j + ((i % (n : Int)).toNat : Nat) * d, ?_⟩
    have e1 : i = ((i % (n : Int)).toNat : Nat) + (n : Int) * c := by omega
    have e2 : j = ((j % (n : Int)).toNat : Nat) + (n : Int) * d := by omega
    rw [Int.natCast_mul]
    generalize ((i % (n : Int)).toNat : Int) = x at *
    generalize ((j % (n : Int)).toNat : Int) = y at *
    rw [e1, Int.mul_add, ← Int.mul_assoc, Int.add_mul]
    conv => lhs; lhs; lhs; rw [e2]
    rw [Int.mul_add, ← Int.mul_assoc, ← Int.mul_assoc, Int.mul_comm x (n : Int)]
    omega
theorem Grp.zpw_n (G : Grp n f e) {a : Nat} (ha : a < n) : zpw n f e a (n : Int) = e := by
  rw [G.zpw_nat ha (j := 0) (by simp)]; rfl

end

/-! ### Things, out of their fault -/

theorem thing1 {N : Int} {m : List Int} {a : Int} (h : (tf N m [a]).1 = 0) : ∃ n e x : Nat, GT N m n e ∧ a = (x : Int) ∧ x < n := by
  obtain ⟨h1, h2, _⟩ := tf_zero h
  obtain ⟨n, e, hg, _⟩ := gf_ok h1
  have := h2 0 (by simp)
  simp only [okT, List.getD_cons_zero, not_or] at this
  obtain ⟨x, rfl⟩ := Int.eq_ofNat_of_zero_le (show 0 ≤ a by omega)
  exact ⟨n, e, x, hg, rfl, by have := hg.1; omega⟩
theorem thing2 {N : Int} {m : List Int} {a b : Int} (h : (tf N m [a, b]).1 = 0) : ∃ n e x y : Nat, GT N m n e ∧ a = (x : Int) ∧ b = (y : Int) ∧ x < n ∧ y < n := by
  obtain ⟨h1, h2, _⟩ := tf_zero h
  obtain ⟨n, e, hg, _⟩ := gf_ok h1
  have ha := h2 0 (by simp)
  have hb := h2 1 (by simp)
  simp only [okT, List.getD_cons_zero, List.getD_cons_succ, not_or] at ha hb
  obtain ⟨x, rfl⟩ := Int.eq_ofNat_of_zero_le (show 0 ≤ a by omega)
  obtain ⟨y, rfl⟩ := Int.eq_ofNat_of_zero_le (show 0 ≤ b by omega)
  exact ⟨n, e, x, y, hg, rfl, rfl, by have := hg.1; omega, by have := hg.1; omega⟩

theorem ordl_len (m : List Int) (n e : Nat) : (ordl m n e).length = n := rg_len _ _
theorem ordl_get (m : List Int) {n e a : Nat} (ha : a < n) : (ordl m n e).getD a 0 = ((ord n (op m n) e a : Nat) : Int) := rg_get _ ha

end Go.Proofs.YtgnhcdpjmfoklaaDoor
