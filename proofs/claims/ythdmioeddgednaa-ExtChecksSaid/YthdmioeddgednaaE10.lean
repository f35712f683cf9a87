/-
  Bounds are cocycles; what is the same. Plain law. Conditions: none.
-/
import Derived.Test.YthdmioeddgednaaE6
set_option linter.all false
namespace Go.Proofs.Ythdmioeddgednaa
open Go.Pv

theorem emod_zero_rng {p n : Nat} (hp : 0 < p) : rng p (List.replicate n (0 : Int)) := fun t ht => by
  rw [List.length_replicate] at ht
  have : (List.replicate n (0 : Int)).getD t 0 = 0 := by simp [ht]
  rw [this]; omega

/-- What is a cocycle modulo a prime. -/
theorem coc_of {n e p : Nat} {m : List Int} (h : GT n m n e) {f : List Int} {r : Nat → Nat → Int} (hf : ∀ a b, a < n → b < n → (p : Int) ∣ F2 n f a b - r a b)
    (hr : ∀ a b c, a < n → b < n → c < n → r b c + r a (op m n b c) = r (op m n a b) c + r a b) {a : Nat} (ha : a < n) : cocA n m p f a := by
  intro b hb c hc
  have hab := h.2.1.lt ha hb
  have hbc := h.2.1.lt hb hc
  unfold coc
  rw [emod_iff]
  have h1 := hf b c hb hc
  have h2 := hf a _ ha hbc
  have h3 := hf _ c hab hc
  have h4 := hf a b ha hb
  have h5 := hr a b c ha hb hc
  have h6 := Int.dvd_sub (Int.dvd_add h1 h2) (Int.dvd_add h3 h4)
  rwa [show F2 n f b c - r b c + (F2 n f a (op m n b c) - r a (op m n b c)) - (F2 n f (op m n a b) c - r (op m n a b) c + (F2 n f a b - r a b)) = F2 n f b c + F2 n f a (op m n b c) - (F2 n f (op m n a b) c + F2 n f a b) by omega] at h6

theorem F2_dl {n p : Nat} {m : List Int} {c : List Int} {a b : Nat} (ha : a < n) (hb : b < n) : F2 n (dl n m p c) a b = (c.getD a 0 + c.getD b 0 - c.getD (op m n a b) 0) % (p : Int) := by
  obtain ⟨d1, d2⟩ := dm_at (a := a) hb
  unfold F2
  rw [dl_get (at_lt ha hb)]
  simp only [dB, d1, d2]

theorem dl_cf {n e p : Nat} {m : List Int} (h : GT n m n e) (hp : pr p) (c : List Int) : cf n m p (dl n m p c) = (0, 0) := by
  have hp2 := hp.le
  refine cf_of (dl_len n m p c) (dl_rng (by omega) c) fun a ha => coc_of h (r := fun a b => c.getD a 0 + c.getD b 0 - c.getD (op m n a b) 0) (fun a b ha hb => ?_) (fun a b c' ha hb hc => ?_) ha
  · rw [F2_dl ha hb]; exact dvd_emod_sub _ _
  · rw [h.2.2.assoc a b c' ha hb hc]; omega

theorem zero_cf {n e p : Nat} {m : List Int} (h : GT n m n e) (hp : pr p) : cf n m p (List.replicate (n * n) 0) = (0, 0) := by
  have hp2 := hp.le
  refine cf_of (by simp) (emod_zero_rng (by omega)) fun a ha => coc_of h (r := fun _ _ => 0) (fun a b ha hb => ?_) (fun _ _ _ _ _ _ => rfl) ha
  have : F2 n (List.replicate (n * n) (0 : Int)) a b = 0 := by unfold F2; simp [at_lt ha hb]
  rw [this]; exact Int.dvd_zero _

/-- WHAT IS THE SAME: what differs by a bound. -/
theorem same_iff {n e p : Nat} {m : List Int} (h : GT n m n e) (hp : pr p) {f g : List Int} (hf : (cf n m p f).1 = 0) (hg : (cf n m p g).1 = 0) :
    saB n m p f g = true ↔ ∃ c : Nat → Int, ∀ t, t < n * n → (p : Int) ∣ f.getD t 0 - g.getD t 0 - dB n m c t := by
  have T := h.2.1
  obtain ⟨f1, _, _, hz⟩ := cf_0 hf
  obtain ⟨_, _, _, hz2⟩ := cf_0 hg
  have hF : (saF n m p f g).1 = 0 := by unfold saF; rw [if_neg (by simpa using hf)]; exact hg
  have hl : (sbl f g).length = n * n := by rw [sbl_len, f1]
  have h1 := (addL_spec hp (spK_ech hp m n) hl).2.1
  have e1 : saB n m p f g = !(addL p (spK n m p n) (sbl f g)).2 := by unfold saB; rw [decide_eq_true hF]; rfl
  have e2 : saB n m p f g = true ↔ (addL p (spK n m p n) (sbl f g)).2 = false := by rw [e1]; cases (addL p (spK n m p n) (sbl f g)).2 <;> simp
  rw [e2, h1, spK_sp hp T n (Nat.le_refl _)]
  constructor
  · rintro ⟨c, _, hc⟩
    refine ⟨c, fun t ht => ?_⟩
    have := hc t ht
    rwa [sbl_get (by omega)] at this
  · rintro ⟨c, hc⟩
    refine ⟨fun a => if a < n then c a else 0, fun a ha => if_neg (by omega), fun t ht => ?_⟩
    have := hc t ht
    rw [sbl_get (by omega), dB_congr T (d := c) (fun a ha => if_pos ha) ht]
    exact this

theorem saF_0 {n p : Nat} {m : List Int} {f g : List Int} (hf : (cf n m p f).1 = 0) (hg : (cf n m p g).1 = 0) : saF n m p f g = (0, 0) := by
  unfold saF; rw [if_neg (by simpa using hf)]; exact (cf_0 hg).2.2.2

end Go.Proofs.Ythdmioeddgednaa
