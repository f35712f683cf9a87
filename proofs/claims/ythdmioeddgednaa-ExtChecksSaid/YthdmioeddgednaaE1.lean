/-
  Rows of equations modulo a prime, reduced as they come: what is reckoned. Conditions: none.
-/
import Derived.Test.YthdmioeddgednaaT5
import Derived.Test.YthdmioeddgednaaPvW2
set_option linter.all false
namespace Go.Proofs.Ythdmioeddgednaa
open Go.Pv

/-- The primes that are let in. -/
def pr (p : Nat) : Prop := p = 2 ∨ p = 3 ∨ p = 5 ∨ p = 7
instance (p : Nat) : Decidable (pr p) := by unfold pr; infer_instance
theorem pr.le {p : Nat} (h : pr p) : 2 ≤ p ∧ p ≤ 7 := by unfold pr at h; omega

/-- A row, written anew from i to j. -/
def updR (f : Nat → Int) (i j : Nat) (u : List Int) : List Int := (List.range u.length).map fun t => if i ≤ t ∧ t < j then f t else u.getD t 0

theorem updR_len (f : Nat → Int) (i j : Nat) (u : List Int) : (updR f i j u).length = u.length := by simp [updR]
theorem updR_get {f : Nat → Int} {i j t : Nat} {u : List Int} (h : t < u.length) : (updR f i j u).getD t 0 = if i ≤ t ∧ t < j then f t else u.getD t 0 := by
  simp [updR, List.getD, List.getElem?_map, List.getElem?_range h]
theorem updR_start (f : Nat → Int) (i : Nat) (u : List Int) : updR f i i u = u := by
  apply List.ext_getElem (by rw [updR_len])
  intro t h1 h2
  have := updR_get (f := f) (i := i) (j := i) (t := t) (u := u) h2
  rw [if_neg (by omega)] at this
  simpa [List.getD, List.getElem?_eq_getElem h1, List.getElem?_eq_getElem h2] using this
theorem updR_set {f : Nat → Int} {i j : Nat} {u : List Int} (hi : i ≤ j) (hj : j < u.length) : (updR f i j u).set j (f j) = updR f i (j + 1) u := by
  apply List.ext_getElem (by simp [updR_len])
  intro t h1 h2
  have h3 : t < u.length := by simpa [updR_len] using h2
  have e1 := updR_get (f := f) (i := i) (j := j) (t := t) (u := u) h3
  have e2 := updR_get (f := f) (i := i) (j := j + 1) (t := t) (u := u) h3
  simp only [List.getD, List.getElem?_eq_getElem (show t < (updR f i j u).length by rw [updR_len]; exact h3), List.getElem?_eq_getElem h2, Option.getD_some] at e1 e2
  rw [e2, List.getElem_set]
  by_cases e : j = t
  · subst e
    rw [if_pos rfl, if_pos (by omega)]
  · rw [if_neg e, e1]
    by_cases h4 : i ≤ t ∧ t < j
    · rw [if_pos h4, if_pos (by omega)]
    · rw [if_neg h4, if_neg (by omega)]

/-- All that is in a row is between 0 and p. -/
def rng (p : Nat) (u : List Int) : Prop := ∀ t, t < u.length → 0 ≤ u.getD t 0 ∧ u.getD t 0 < p

theorem updR_rng {p : Nat} {f : Nat → Int} {i j : Nat} {u : List Int} (hf : ∀ t, i ≤ t → t < j → 0 ≤ f t ∧ f t < p) (hu : ∀ t, t < u.length → ¬ (i ≤ t ∧ t < j) → 0 ≤ u.getD t 0 ∧ u.getD t 0 < p) : rng p (updR f i j u) := by
  intro t ht
  rw [updR_len] at ht
  rw [updR_get ht]
  split
  · rename_i h; exact hf t h.1 h.2
  · rename_i h; exact hu t ht h

/-- The least number that makes 1 of another. -/
def inv (p : Nat) (x : Int) : Nat := ((List.range p).find? fun k => decide ((k * x.toNat) % p = 1)).getD 0

theorem inv_spec {p : Nat} {x : Int} (hp : pr p) (h0 : 0 < x) (h1 : x < p) : 1 ≤ inv p x ∧ inv p x < p ∧ ((inv p x : Int) * x) % p = 1 ∧ ∀ k : Nat, k < inv p x → ((k : Int) * x) % p ≠ 1 := by
  have key : ∀ p ∈ [2, 3, 5, 7], ∀ x < p, 0 < x → 1 ≤ inv p (x : Nat) ∧ inv p (x : Nat) < p ∧ (inv p (x : Nat) * x) % p = 1 ∧ ∀ k < inv p (x : Nat), (k * x) % p ≠ 1 := by decide
  obtain ⟨y, rfl⟩ : ∃ y : Nat, x = (y : Int) := ⟨x.toNat, by omega⟩
  obtain ⟨a1, a2, a3, a4⟩ := key p (by unfold pr at hp; simp; omega) y (by omega) (by omega)
  refine ⟨a1, a2, ?_, fun k hk => ?_⟩
  · have : ((inv p (y : Nat) : Int) * y) % p = ((inv p (y : Nat) * y % p : Nat) : Int) := by push_cast; rfl
    rw [this, a3]; rfl
  · have : ((k : Int) * y) % p = ((k * y % p : Nat) : Int) := by push_cast; rfl
    rw [this]
    have := a4 k hk
    omega

/-- The rows that are there, by where they begin. -/
def dOf : List (Nat × List Int) → Int → Bool
  | [] => fun _ => false
  | e :: L => fun u => u == (e.1 : Int) || dOf L u
def vOf : List (Nat × List Int) → Int → PV
  | [] => fun _ => default
  | e :: L => fun u => bif u == (e.1 : Int) then .list (il e.2) else vOf L u
def lkp : List (Nat × List Int) → Nat → Option (List Int)
  | [], _ => none
  | e :: L, i => if i = e.1 then some e.2 else lkp L i

theorem dOf_iff : ∀ {L : List (Nat × List Int)} {i : Nat}, dOf L (i : Int) = (lkp L i).isSome
  | [], i => rfl
  | e :: L, i => by
    simp only [dOf, lkp]
    by_cases h : i = e.1
    · rw [if_pos h, h]; simp
    · have : ((i : Int) == (e.1 : Int)) = false := by simp; omega
      rw [if_neg h, this, Bool.false_or, dOf_iff]
theorem vOf_some : ∀ {L : List (Nat × List Int)} {i : Nat} {w : List Int}, lkp L i = some w → vOf L (i : Int) = .list (il w)
  | [], i, w, h => by cases h
  | e :: L, i, w, h => by
    simp only [vOf, lkp] at h ⊢
    by_cases h1 : i = e.1
    · rw [if_pos h1] at h
      cases h
      rw [h1]; simp
    · have : ((i : Int) == (e.1 : Int)) = false := by simp; omega
      rw [if_neg h1] at h
      rw [this, cond_false]; exact vOf_some h

/-- A row without another's multiple. -/
def redAt (p : Nat) (w : List Int) (i : Nat) (u : List Int) : List Int := updR (fun t => (u.getD t 0 - u.getD i 0 * w.getD t 0) % p) i u.length u
def mulAll (p : Nat) (k : Int) (u : List Int) : List Int := updR (fun t => u.getD t 0 * k % p) 0 u.length u
def nrm (p : Nat) (u : List Int) : List Int := updR (fun t => u.getD t 0 % p) 0 u.length u

def scan (p : Nat) (L : List (Nat × List Int)) : Nat → Nat → List Int → List (Nat × List Int) × Bool
  | 0, _, _ => (L, false)
  | m + 1, i, u =>
    if u.getD i 0 = 0 then scan p L m (i + 1) u else
    match lkp L i with
    | none => ((i, mulAll p (inv p (u.getD i 0)) u) :: L, true)
    | some w => scan p L m (i + 1) (redAt p w i u)

def addL (p : Nat) (L : List (Nat × List Int)) (v : List Int) : List (Nat × List Int) × Bool := scan p L v.length 0 (nrm p v)

/-- Rows that are as they should be. -/
structure Ech (p n : Nat) (L : List (Nat × List Int)) : Prop where
  keys : (L.map (·.1)).Nodup
  lt : ∀ e ∈ L, e.1 < n
  len : ∀ e ∈ L, e.2.length = n
  rg : ∀ e ∈ L, rng p e.2
  one : ∀ e ∈ L, e.2.getD e.1 0 = 1
  zero : ∀ e ∈ L, ∀ j, j < e.1 → e.2.getD j 0 = 0

theorem lkp_mem : ∀ {L : List (Nat × List Int)} {i : Nat} {w : List Int}, lkp L i = some w → (i, w) ∈ L
  | [], i, w, h => by cases h
  | e :: L, i, w, h => by
    simp only [lkp] at h
    by_cases h1 : i = e.1
    · rw [if_pos h1] at h; cases h; rw [h1]; simp
    · rw [if_neg h1] at h; exact List.mem_cons_of_mem _ (lkp_mem h)
theorem lkp_none : ∀ {L : List (Nat × List Int)} {i : Nat}, lkp L i = none → ∀ e ∈ L, e.1 ≠ i
  | [], i, _ => by simp
  | e :: L, i, h => by
    simp only [lkp] at h
    by_cases h1 : i = e.1
    · rw [if_pos h1] at h; cases h
    · rw [if_neg h1] at h
      intro e' he'
      rcases List.mem_cons.1 he' with rfl | he'
      · exact fun e => h1 e.symm
      · exact lkp_none h e' he'

theorem emod_rng {p : Nat} (hp : 0 < p) (x : Int) : 0 ≤ x % (p : Int) ∧ x % (p : Int) < p := ⟨Int.emod_nonneg _ (by omega), Int.emod_lt_of_pos _ (by omega)⟩

theorem nrm_rng {p : Nat} (hp : 0 < p) (u : List Int) : rng p (nrm p u) := updR_rng (fun t _ _ => emod_rng hp _) fun t ht h => absurd ⟨Nat.zero_le _, ht⟩ h
theorem mulAll_rng {p : Nat} (hp : 0 < p) (k : Int) (u : List Int) : rng p (mulAll p k u) := updR_rng (fun t _ _ => emod_rng hp _) fun t ht h => absurd ⟨Nat.zero_le _, ht⟩ h
theorem redAt_rng {p : Nat} (hp : 0 < p) {w : List Int} {i : Nat} {u : List Int} (hu : rng p u) : rng p (redAt p w i u) := updR_rng (fun t _ _ => emod_rng hp _) fun t ht _ => hu t ht

/-- What Go's remainder, taken twice, comes to. -/
theorem tmod2 {p : Nat} (hp : 0 < p) (x : Int) : Int.tmod (Int.tmod x p + p) p = x % p := by
  have h1 : Int.tmod x p + p ≥ 0 := by
    have h2 := Int.lt_tmod_of_pos x (show (0 : Int) < p by omega)
    omega
  rw [Int.tmod_eq_emod_of_nonneg h1, Int.add_emod_right]
  have h3 := Int.tmod_def x p
  rw [h3, show x - (p : Int) * x.tdiv p = x + (p : Int) * (-(x.tdiv p)) by rw [Int.mul_neg]; omega, Int.add_mul_emod_self_left]

end Go.Proofs.Ythdmioeddgednaa
