/-
  Extensions are groups. Plain law. Conditions: none.
-/
import Derived.Test.YthdmioeddgednaaE6
import Derived.Test.YthdmioeddgednaaG2
set_option linter.all false
namespace Go.Proofs.Ythdmioeddgednaa
open Go.Pv

def exG (g : Nat → Nat → Nat) (p : Nat) (φ : Nat → Nat → Nat) (i k : Nat) : Nat := g (i / p) (k / p) * p + (i % p + k % p + φ (i / p) (k / p)) % p

section
variable {n e p : Nat} {g φ : Nat → Nat → Nat}

theorem exG_dm {i k : Nat} (hp : 0 < p) : exG g p φ i k / p = g (i / p) (k / p) ∧ exG g p φ i k % p = (i % p + k % p + φ (i / p) (k / p)) % p := dm_at (Nat.mod_lt _ hp)

theorem exG_grp (G : Grp n g e) (hp : 0 < p) (hφ : ∀ a b, a < n → b < n → φ a b < p) (hc : ∀ a b c, a < n → b < n → c < n → (φ b c + φ a (g b c)) % p = (φ (g a b) c + φ a b) % p) :
    Grp (n * p) (exG g p φ) (e * p + (p - φ e e) % p) := by
  have hdiv : ∀ {i}, i < n * p → i / p < n := fun hi => (Nat.div_lt_iff_lt_mul hp).2 hi
  have hcl : ∀ a b, a < n * p → b < n * p → exG g p φ a b < n * p := by
    intro a b ha hb
    have h1 := G.cl _ _ (hdiv ha) (hdiv hb)
    have h2 : (a % p + b % p + φ (a / p) (b / p)) % p < p := Nat.mod_lt _ hp
    have h3 : (g (a / p) (b / p) + 1) * p ≤ n * p := Nat.mul_le_mul_right _ h1
    rw [Nat.add_mul, Nat.one_mul] at h3
    unfold exG
    omega
  have hee := hφ e e G.el G.el
  -- the cocycle at the one
  have same : ∀ {x y : Nat}, x < p → y < p → ∀ {z : Nat}, (x + z) % p = (y + z) % p → x = y := by
    intro x y hx hy z h
    have h1 : (x + z + (p - z % p)) % p = (y + z + (p - z % p)) % p := by rw [Nat.add_mod, h, ← Nat.add_mod]
    have hz := Nat.mod_lt z hp
    have e1 : z + (p - z % p) = p * (z / p) + p := by
      have := Nat.div_add_mod z p
      omega
    rw [Nat.add_assoc, Nat.add_assoc, e1, show x + (p * (z / p) + p) = x + p + p * (z / p) by omega, show y + (p * (z / p) + p) = y + p + p * (z / p) by omega, Nat.add_mul_mod_self_left, Nat.add_mul_mod_self_left, Nat.add_mod_right, Nat.add_mod_right, Nat.mod_eq_of_lt hx, Nat.mod_eq_of_lt hy] at h1
    exact h1
  have hl : ∀ c, c < n → φ e c = φ e e := by
    intro c hcn
    have h := hc e e c G.el G.el hcn
    rw [G.one_l c hcn, G.one_l e G.el, Nat.add_comm (φ e c) (φ e e)] at h
    exact same (hφ e c G.el hcn) hee (by rw [← h, Nat.add_comm]) |>.symm ▸ rfl
  have hr : ∀ a, a < n → φ a e = φ e e := by
    intro a han
    have h := hc a e e han G.el G.el
    rw [G.one_l e G.el, G.one_r a han] at h
    exact (same hee (hφ a e han G.el) h).symm
  have hx : ∀ y, y < p → ((p - φ e e) % p + y + φ e e) % p = y := by
    intro y hy
    by_cases h0 : φ e e = 0
    · rw [h0, Nat.sub_zero, Nat.mod_self, Nat.zero_add, Nat.add_zero, Nat.mod_eq_of_lt hy]
    · rw [Nat.mod_eq_of_lt (show p - φ e e < p by omega), show p - φ e e + y + φ e e = y + p by omega, Nat.add_mod_right, Nat.mod_eq_of_lt hy]
  have hεl : (p - φ e e) % p < p := Nat.mod_lt _ hp
  have hε : e * p + (p - φ e e) % p < n * p := by
    have h3 : (e + 1) * p ≤ n * p := Nat.mul_le_mul_right _ G.el
    rw [Nat.add_mul, Nat.one_mul] at h3
    omega
  obtain ⟨d1, d2⟩ := dm_at (a := e) hεl
  have hol : ∀ a, a < n * p → exG g p φ (e * p + (p - φ e e) % p) a = a := by
    intro a ha
    have h1 := hdiv ha
    have h2 := Nat.mod_lt a hp
    unfold exG
    rw [d1, d2, G.one_l _ h1, hl _ h1, hx _ h2, Nat.mul_comm]
    exact Nat.div_add_mod a p
  have hor : ∀ a, a < n * p → exG g p φ a (e * p + (p - φ e e) % p) = a := by
    intro a ha
    have h1 := hdiv ha
    have h2 := Nat.mod_lt a hp
    unfold exG
    rw [d1, d2, G.one_r _ h1, hr _ h1, Nat.add_comm (a % p), hx _ h2, Nat.mul_comm]
    exact Nat.div_add_mod a p
  have hass : ∀ a b c, a < n * p → b < n * p → c < n * p → exG g p φ (exG g p φ a b) c = exG g p φ a (exG g p φ b c) := by
    intro a b c ha hb hcn
    have h1 := hdiv ha
    have h2 := hdiv hb
    have h3 := hdiv hcn
    obtain ⟨e1, e2⟩ := exG_dm (g := g) (φ := φ) (i := a) (k := b) hp
    obtain ⟨e3, e4⟩ := exG_dm (g := g) (φ := φ) (i := b) (k := c) hp
    rw [show exG g p φ (exG g p φ a b) c = g (exG g p φ a b / p) (c / p) * p + (exG g p φ a b % p + c % p + φ (exG g p φ a b / p) (c / p)) % p from rfl,
      show exG g p φ a (exG g p φ b c) = g (a / p) (exG g p φ b c / p) * p + (a % p + exG g p φ b c % p + φ (a / p) (exG g p φ b c / p)) % p from rfl, e1, e2, e3, e4, G.assoc _ _ _ h1 h2 h3]
    congr 1
    have hcc := hc _ _ _ h1 h2 h3
    generalize φ (a / p) (b / p) = f1 at *
    generalize φ (g (a / p) (b / p)) (c / p) = f2 at *
    generalize φ (b / p) (c / p) = f3 at *
    generalize φ (a / p) (g (b / p) (c / p)) = f4 at *
    generalize a % p = x
    generalize b % p = y
    generalize c % p = z
    rw [Nat.add_assoc ((x + y + f1) % p), Nat.mod_add_mod, show x + (y + z + f3) % p + f4 = x + f4 + (y + z + f3) % p by omega, Nat.add_mod_mod, show x + y + f1 + (z + f2) = x + y + z + (f2 + f1) by omega, show x + f4 + (y + z + f3) = x + y + z + (f3 + f4) by omega, Nat.add_mod, ← hcc, ← Nat.add_mod]
  have iv : ∀ a, a < n * p → ∃ b, b < n * p ∧ exG g p φ a b = e * p + (p - φ e e) % p := by
    intro a ha
    have h1 := hdiv ha
    obtain ⟨b, hb, hab, _⟩ := G.inv _ h1
    have hf := hφ _ _ h1 hb
    have hxa := Nat.mod_lt a hp
    have hy : ((p - φ e e) + (p - a % p) + (p - φ (a / p) b)) % p < p := Nat.mod_lt _ hp
    refine ⟨b * p + ((p - φ e e) + (p - a % p) + (p - φ (a / p) b)) % p, ?_, ?_⟩
    · have h3 : (b + 1) * p ≤ n * p := Nat.mul_le_mul_right _ hb
      rw [Nat.add_mul, Nat.one_mul] at h3
      omega
    · obtain ⟨q1, q2⟩ := dm_at (a := b) hy
      unfold exG
      rw [q1, q2, hab]
      congr 1
      rw [Nat.add_right_comm, Nat.add_mod_mod, show a % p + φ (a / p) b + ((p - φ e e) + (p - a % p) + (p - φ (a / p) b)) = (p - φ e e) + p + p by omega, Nat.add_mod_right, Nat.add_mod_right]
  refine ⟨Nat.mul_pos G.pos hp, hcl, hε, hol, hor, hass, fun a ha => ?_⟩
  obtain ⟨b, hb, hab⟩ := iv a ha
  exact ⟨b, hb, hab, right_inv hcl hε hol hor hass ha hb hab⟩

end

theorem ex_tab {n e p : Nat} {m : List Int} (h : GT n m n e) (hp : pr p) {f : List Int} (hf : (cf n m p f).1 = 0) (hb : n * p ≤ 60) :
    ∃ e', GT (n * p : Nat) (tbl (fun i k => ((exO n m p f i k : Nat) : Int)) (n * p)) (n * p) e' ∧ ∀ i k, i < n * p → k < n * p → op (tbl (fun i k => ((exO n m p f i k : Nat) : Int)) (n * p)) (n * p) i k = exO n m p f i k := by
  have hp2 := hp.le
  have hp0 : 0 < p := by omega
  obtain ⟨f1, f2, f3, _⟩ := cf_0 hf
  have hF : ∀ {a b}, a < n → b < n → 0 ≤ F2 n f a b ∧ F2 n f a b < p := fun ha hb => f2 _ (by have := at_lt ha hb; omega)
  have G := exG_grp (p := p) (φ := fun a b => (F2 n f a b).toNat) h.2.2 hp0 (fun a b ha hb => by have := hF ha hb; omega) fun a b c ha hb hc => by
    have hab := h.2.1.lt ha hb
    have hbc := h.2.1.lt hb hc
    have h1 := f3 a ha b hb c hc
    unfold coc at h1
    have a1 := hF hb hc
    have a2 := hF ha hbc
    have a3 := hF hab hc
    have a4 := hF ha hb
    obtain ⟨x1, hx1⟩ := Int.eq_ofNat_of_zero_le a1.1
    obtain ⟨x2, hx2⟩ := Int.eq_ofNat_of_zero_le a2.1
    obtain ⟨x3, hx3⟩ := Int.eq_ofNat_of_zero_le a3.1
    obtain ⟨x4, hx4⟩ := Int.eq_ofNat_of_zero_le a4.1
    rw [hx1, hx2, hx3, hx4] at h1 ⊢
    simp only [Int.toNat_natCast]
    exact_mod_cast h1
  have hop : ∀ i k, i < n * p → k < n * p → op (tbl (fun i k => ((exO n m p f i k : Nat) : Int)) (n * p)) (n * p) i k = exO n m p f i k := fun i k hi hk => by
    unfold op; rw [tbl_get _ hi hk]; simp
  have hex : ∀ i k, exO n m p f i k = exG (op m n) p (fun a b => (F2 n f a b).toNat) i k := fun _ _ => rfl
  have hlt : ∀ i k, i < n * p → k < n * p → exO n m p f i k < n * p := fun i k hi hk => G.cl i k hi hk
  refine ⟨_, ⟨rfl, ⟨G.pos, hb, tbl_len _ _, fun t ht => ?_⟩, ⟨G.pos, fun a b ha hb => ?_, G.el, fun a ha => ?_, fun a ha => ?_, fun a b c ha hb hc => ?_, fun a ha => ?_⟩⟩, hop⟩
  · have h1 : t / (n * p) < n * p := (Nat.div_lt_iff_lt_mul G.pos).2 ht
    have h2 : t % (n * p) < n * p := Nat.mod_lt _ G.pos
    have := tbl_get (fun i k => ((exO n m p f i k : Nat) : Int)) h1 h2
    rw [show t / (n * p) * (n * p) + t % (n * p) = t by rw [Nat.mul_comm]; exact Nat.div_add_mod t (n * p)] at this
    rw [this]
    have := hlt _ _ h1 h2
    omega
  · rw [hop a b ha hb]; exact hlt a b ha hb
  · rw [hop _ _ G.el ha]; exact G.one_l a ha
  · rw [hop _ _ ha G.el]; exact G.one_r a ha
  · rw [hop a b ha hb, hop b c hb hc, hop _ c (hlt a b ha hb) hc, hop a _ ha (hlt b c hb hc)]; exact G.assoc a b c ha hb hc
  · obtain ⟨b, hb, h1, h2⟩ := G.inv a ha
    exact ⟨b, hb, by rw [hop a b ha hb]; exact h1, by rw [hop b a hb ha]; exact h2⟩

end Go.Proofs.Ythdmioeddgednaa
