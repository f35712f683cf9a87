/-
  Rows of equations modulo a prime: what they span. Plain law. Conditions: none.
-/
import Derived.Test.YthdmioeddgednaaE1
set_option linter.all false
namespace Go.Proofs.Ythdmioeddgednaa
open Go.Pv

def lsum (c : Nat → Int) : List (Nat × List Int) → Nat → Int
  | [], _ => 0
  | e :: L, j => c e.1 * e.2.getD j 0 + lsum c L j

/-- What rows span. -/
def Sp (p n : Nat) (L : List (Nat × List Int)) (v : Nat → Int) : Prop := ∃ c : Nat → Int, ∀ j, j < n → (p : Int) ∣ v j - lsum c L j

theorem lsum_lin (a b : Int) (c d : Nat → Int) (j : Nat) : ∀ L, lsum (fun k => a * c k + b * d k) L j = a * lsum c L j + b * lsum d L j
  | [] => by simp [lsum]
  | e :: L => by
    simp only [lsum, lsum_lin a b c d j L, Int.add_mul, Int.mul_add, Int.mul_assoc]; omega

theorem lsum_congr {c d : Nat → Int} {j : Nat} : ∀ {L : List (Nat × List Int)}, (∀ e ∈ L, c e.1 = d e.1) → lsum c L j = lsum d L j
  | [], _ => rfl
  | e :: L, h => by
    simp only [lsum]
    rw [h e (by simp), lsum_congr fun e' he => h e' (by simp [he])]

theorem lsum_dvd {p : Int} {c : Nat → Int} {j : Nat} : ∀ {L : List (Nat × List Int)}, (∀ e ∈ L, p ∣ c e.1 * e.2.getD j 0) → p ∣ lsum c L j
  | [], _ => by simp [lsum]
  | e :: L, h => by
    simp only [lsum]
    exact Int.dvd_add (h e (by simp)) (lsum_dvd fun e' he => h e' (by simp [he]))

theorem lsum_zero {j : Nat} : ∀ {L : List (Nat × List Int)}, lsum (fun _ => 0) L j = 0
  | [] => rfl
  | e :: L => by simp only [lsum, lsum_zero (L := L)]; omega

def dl1 (i k : Nat) : Int := if k = i then 1 else 0

theorem lsum_dl {i j : Nat} : ∀ {L : List (Nat × List Int)}, (L.map (·.1)).Nodup → ∀ {w}, (i, w) ∈ L → lsum (dl1 i) L j = w.getD j 0
  | [], _, w, h => by cases h
  | e :: L, hn, w, h => by
    rw [List.map_cons, List.nodup_cons] at hn
    simp only [lsum]
    rcases List.mem_cons.1 h with rfl | h
    · have : lsum (dl1 i) L j = lsum (fun _ => 0) L j := lsum_congr fun e' he => by
        have : e'.1 ≠ i := fun e => hn.1 (by simp only; rw [← e]; exact List.mem_map_of_mem (f := (·.1)) he)
        simp [dl1, this]
      rw [this, lsum_zero]
      simp [dl1]
    · have hne : e.1 ≠ i := fun e' => hn.1 (by rw [e']; exact List.mem_map_of_mem (f := (·.1)) h)
      rw [lsum_dl hn.2 h]
      simp [dl1, hne]

theorem Sp.lin {p n : Nat} {L : List (Nat × List Int)} {v u : Nat → Int} (h1 : Sp p n L v) (h2 : Sp p n L u) (a b : Int) : Sp p n L (fun j => a * v j + b * u j) := by
  obtain ⟨c, hc⟩ := h1
  obtain ⟨d, hd⟩ := h2
  refine ⟨fun k => a * c k + b * d k, fun j hj => ?_⟩
  rw [lsum_lin]
  have e : a * v j + b * u j - (a * lsum c L j + b * lsum d L j) = a * (v j - lsum c L j) + b * (u j - lsum d L j) := by
    rw [Int.mul_sub, Int.mul_sub]; omega
  rw [e]
  exact Int.dvd_add (Int.dvd_mul_of_dvd_right (hc j hj)) (Int.dvd_mul_of_dvd_right (hd j hj))

theorem Sp.congr {p n : Nat} {L : List (Nat × List Int)} {v u : Nat → Int} (h : Sp p n L v) (he : ∀ j, j < n → (p : Int) ∣ u j - v j) : Sp p n L u := by
  obtain ⟨c, hc⟩ := h
  refine ⟨c, fun j hj => ?_⟩
  rw [show u j - lsum c L j = (u j - v j) + (v j - lsum c L j) by omega]
  exact Int.dvd_add (he j hj) (hc j hj)

theorem Sp.mem {p n : Nat} {L : List (Nat × List Int)} (hn : (L.map (·.1)).Nodup) {i : Nat} {w : List Int} (h : (i, w) ∈ L) : Sp p n L (fun j => w.getD j 0) :=
  ⟨dl1 i, fun j _ => by rw [lsum_dl hn h, Int.sub_self]; exact Int.dvd_zero _⟩

theorem Sp.zero {p n : Nat} {L : List (Nat × List Int)} {v : Nat → Int} (h : ∀ j, j < n → (p : Int) ∣ v j) : Sp p n L v :=
  ⟨fun _ => 0, fun j hj => by rw [lsum_zero, Int.sub_zero]; exact h j hj⟩

theorem Sp_cons {p n : Nat} {L : List (Nat × List Int)} {i : Nat} {w : List Int} (hi : ∀ e ∈ L, e.1 ≠ i) {v : Nat → Int} : Sp p n ((i, w) :: L) v ↔ ∃ x : Int, Sp p n L (fun j => v j - x * w.getD j 0) := by
  constructor
  · rintro ⟨c, hc⟩
    refine ⟨c i, c, fun j hj => ?_⟩
    have := hc j hj
    simp only [lsum] at this
    rw [show v j - c i * w.getD j 0 - lsum c L j = v j - (c i * w.getD j 0 + lsum c L j) by omega]
    exact this
  · rintro ⟨x, c, hc⟩
    refine ⟨fun k => if k = i then x else c k, fun j hj => ?_⟩
    simp only [lsum, if_true]
    rw [lsum_congr (d := c) fun e he => by simp [hi e he], show v j - (x * w.getD j 0 + lsum c L j) = v j - x * w.getD j 0 - lsum c L j by omega]
    exact hc j hj

/-- Where all before is nothing, and no row begins, nothing stands in what rows span. -/
theorem Ech.pivot {p n : Nat} {L : List (Nat × List Int)} (h : Ech p n L) {u : Nat → Int} {i : Nat} (hi : i < n) (h0 : ∀ j, j < i → (p : Int) ∣ u j) (hk : ∀ e ∈ L, e.1 ≠ i) (hs : Sp p n L u) : (p : Int) ∣ u i := by
  obtain ⟨c, hc⟩ := hs
  have key : ∀ t, t < i → ∀ e ∈ L, e.1 = t → (p : Int) ∣ c t := by
    intro t
    induction t using Nat.strongRecOn with
    | _ t ih =>
      intro ht e he het
      obtain ⟨e1, w⟩ := e
      simp only at het
      subst het
      have h1 : (p : Int) ∣ lsum c L e1 := by
        have h2 := Int.dvd_sub (h0 e1 ht) (hc e1 (by omega))
        rwa [show u e1 - (u e1 - lsum c L e1) = lsum c L e1 by omega] at h2
      have h3 : lsum (fun k => 1 * c k + (-(c e1)) * dl1 e1 k) L e1 = 1 * lsum c L e1 + (-(c e1)) * 1 := by
        rw [lsum_lin, lsum_dl h.keys he]
        have := h.one _ he
        simp only at this
        rw [this]
      have h4 : (p : Int) ∣ lsum (fun k => 1 * c k + (-(c e1)) * dl1 e1 k) L e1 := by
        refine lsum_dvd fun e' he' => ?_
        rcases Nat.lt_trichotomy e'.1 e1 with hlt | heq | hgt
        · have := ih e'.1 hlt (by omega) e' he' rfl
          have hd : dl1 e1 e'.1 = 0 := by simp [dl1]; omega
          simp only [hd, Int.mul_zero, Int.add_zero, Int.one_mul]
          exact Int.dvd_mul_of_dvd_left this
        · have hd : dl1 e1 e'.1 = 1 := by simp [dl1, heq]
          rw [hd, heq, show 1 * c e1 + -c e1 * 1 = 0 by omega, Int.zero_mul]; exact Int.dvd_zero _
        · rw [h.zero e' he' e1 hgt, Int.mul_zero]; exact Int.dvd_zero _
      rw [h3] at h4
      have := Int.dvd_sub h1 h4
      rwa [show lsum c L e1 - (1 * lsum c L e1 + -c e1 * 1) = c e1 by omega] at this
  have h1 : (p : Int) ∣ lsum c L i := by
    refine lsum_dvd fun e he => ?_
    rcases Nat.lt_trichotomy e.1 i with hlt | heq | hgt
    · exact Int.dvd_mul_of_dvd_left (key e.1 hlt e he rfl)
    · exact absurd heq (hk e he)
    · rw [h.zero e he i hgt, Int.mul_zero]; exact Int.dvd_zero _
  have := Int.dvd_add (hc i hi) h1
  rwa [show u i - lsum c L i + lsum c L i = u i by omega] at this

theorem dvd_emod_sub (p : Nat) (x : Int) : (p : Int) ∣ x % (p : Int) - x := by
  rw [Int.emod_def]
  exact ⟨-(x / p), by rw [Int.mul_neg]; omega⟩

theorem no_dvd {p : Nat} {x : Int} (h0 : 0 ≤ x) (h1 : x < p) (h : (p : Int) ∣ x) : x = 0 := by
  obtain ⟨k, rfl⟩ := h
  by_cases hk : k ≤ 0
  · rcases Int.lt_or_eq_of_le hk with hk | rfl
    · have : (p : Int) * k < 0 ∨ (p : Int) * k = 0 := by
        by_cases hp : (p : Int) = 0
        · right; rw [hp, Int.zero_mul]
        · left; exact Int.mul_neg_of_pos_of_neg (by omega) hk
      omega
    · exact Int.mul_zero _
  · have : (p : Int) * 1 ≤ p * k := Int.mul_le_mul_of_nonneg_left (by omega) (by omega)
    omega

theorem scan_spec {p n : Nat} (hp : pr p) {L : List (Nat × List Int)} (hL : Ech p n L) : ∀ (m i : Nat) (u : List Int), i + m = n → u.length = n → rng p u → (∀ j, j < i → u.getD j 0 = 0) →
    ((scan p L m i u).2 = false → (scan p L m i u).1 = L ∧ Sp p n L (fun j => u.getD j 0)) ∧
    ((scan p L m i u).2 = true → ∃ i0 w, (scan p L m i u).1 = (i0, w) :: L ∧ (∀ e ∈ L, e.1 ≠ i0) ∧ i0 < n ∧ w.length = n ∧ rng p w ∧ w.getD i0 0 = 1 ∧ (∀ j, j < i0 → w.getD j 0 = 0) ∧
      (∀ v : Nat → Int, (∃ t : Int, Sp p n L (fun j => v j - t * u.getD j 0)) ↔ ∃ t : Int, Sp p n L (fun j => v j - t * w.getD j 0)) ∧ ¬ Sp p n L (fun j => u.getD j 0))
  | 0, i, u, hi, hu, hr, h0 => by
    refine ⟨fun _ => ⟨rfl, Sp.zero fun j hj => ?_⟩, fun h => by simp [scan] at h⟩
    rw [h0 j (by omega)]; exact Int.dvd_zero _
  | m + 1, i, u, hi, hu, hr, h0 => by
    have hp2 := hp.le
    have hp0 : 0 < p := by omega
    obtain ⟨r1, r2⟩ := hr i (by omega)
    by_cases hz : u.getD i 0 = 0
    · have e : scan p L (m + 1) i u = scan p L m (i + 1) u := by rw [scan, if_pos hz]
      rw [e]
      refine scan_spec hp hL m (i + 1) u (by omega) hu hr fun j hj => ?_
      by_cases e : j = i
      · rw [e]; exact hz
      · exact h0 j (by omega)
    · cases hk : lkp L i with
      | none =>
        have e : scan p L (m + 1) i u = ((i, mulAll p (inv p (u.getD i 0)) u) :: L, true) := by rw [scan, if_neg hz, hk]
        rw [e]
        obtain ⟨k1, k2, k3, _⟩ := inv_spec hp (show 0 < u.getD i 0 by omega) r2
        generalize hke : (inv p (u.getD i 0) : Int) = k at *
        have hw : ∀ j, j < n → (mulAll p k u).getD j 0 = u.getD j 0 * k % p := fun j hj => by
          unfold mulAll; rw [updR_get (by omega), if_pos ⟨by omega, by omega⟩]
        have hwk : ∀ j, j < n → (p : Int) ∣ (mulAll p k u).getD j 0 - k * u.getD j 0 := fun j hj => by
          rw [hw j hj, Int.mul_comm k]; exact dvd_emod_sub _ _
        have hk1 : (p : Int) ∣ k * u.getD i 0 - 1 := by
          have := dvd_emod_sub p (k * u.getD i 0)
          rw [k3] at this
          have := Int.dvd_neg.2 this
          rwa [show -(1 - k * u.getD i 0) = k * u.getD i 0 - 1 by omega] at this
        refine ⟨fun h => by simp at h, fun _ => ⟨i, _, rfl, lkp_none hk, by omega, by rw [mulAll, updR_len, hu], mulAll_rng hp0 k u, ?_, fun j hj => ?_, fun v => ⟨?_, ?_⟩, fun hs => ?_⟩⟩
        · rw [hw i (by omega), Int.mul_comm, k3]
        · rw [hw j (by omega), h0 j hj, Int.zero_mul]; simp
        · rintro ⟨t, ht⟩
          refine ⟨t * u.getD i 0, ht.congr fun j hj => ?_⟩
          -- v - t ui w - (v - t u) = t (u - ui w)
          have h1 := hwk j hj
          have e : v j - t * u.getD i 0 * (mulAll p k u).getD j 0 - (v j - t * u.getD j 0) = (-(t * u.getD i 0)) * ((mulAll p k u).getD j 0 - k * u.getD j 0) + (-(t * u.getD j 0)) * (k * u.getD i 0 - 1) := by
            generalize (mulAll p k u).getD j 0 = W
            generalize u.getD i 0 = x
            generalize u.getD j 0 = y
            simp only [Int.mul_sub, Int.neg_mul, Int.mul_one]
            rw [show t * x * (k * y) = t * y * (k * x) by simp only [Int.mul_comm, Int.mul_left_comm, Int.mul_assoc]]
            omega
          rw [e]
          exact Int.dvd_add (Int.dvd_mul_of_dvd_right h1) (Int.dvd_mul_of_dvd_right hk1)
        · rintro ⟨t, ht⟩
          refine ⟨t * k, ht.congr fun j hj => ?_⟩
          have h1 := hwk j hj
          rw [show v j - t * k * u.getD j 0 - (v j - t * (mulAll p k u).getD j 0) = t * ((mulAll p k u).getD j 0 - k * u.getD j 0) by rw [Int.mul_sub, ← Int.mul_assoc]; omega]
          exact Int.dvd_mul_of_dvd_right h1
        · have := hL.pivot (i := i) (by omega) (fun j hj => by rw [h0 j hj]; exact Int.dvd_zero _) (lkp_none hk) hs
          exact hz (no_dvd r1 r2 this)
      | some w0 =>
        have e : scan p L (m + 1) i u = scan p L m (i + 1) (redAt p w0 i u) := by rw [scan, if_neg hz, hk]
        rw [e]
        have hm := lkp_mem hk
        have hw : ∀ j, j < n → (p : Int) ∣ (redAt p w0 i u).getD j 0 - (u.getD j 0 - u.getD i 0 * w0.getD j 0) := fun j hj => by
          unfold redAt
          rw [updR_get (by omega)]
          split
          · exact dvd_emod_sub _ _
          · rename_i h
            have hji : j < i := by omega
            have := hL.zero _ hm j hji
            simp only at this
            rw [this, Int.mul_zero, Int.sub_zero, Int.sub_self]; exact Int.dvd_zero _
        have hz2 : ∀ j, j < i + 1 → (redAt p w0 i u).getD j 0 = 0 := fun j hj => by
          unfold redAt
          rw [updR_get (by omega)]
          split
          · have hji : j = i := by omega
            have := hL.one _ hm
            simp only at this
            rw [hji, this, Int.mul_one, Int.sub_self]; simp
          · exact h0 j (by omega)
        have hsw : Sp p n L (fun j => w0.getD j 0) := Sp.mem hL.keys hm
        obtain ⟨g1, g2⟩ := scan_spec hp hL m (i + 1) (redAt p w0 i u) (by omega) (by rw [redAt, updR_len, hu]) (redAt_rng hp0 hr) hz2
        have back : Sp p n L (fun j => (redAt p w0 i u).getD j 0) → Sp p n L (fun j => u.getD j 0) := fun h => by
          refine (h.lin hsw 1 (u.getD i 0)).congr fun j hj => ?_
          have := Int.dvd_neg.2 (hw j hj)
          rwa [show -((redAt p w0 i u).getD j 0 - (u.getD j 0 - u.getD i 0 * w0.getD j 0)) = u.getD j 0 - (1 * (redAt p w0 i u).getD j 0 + u.getD i 0 * w0.getD j 0) by omega] at this
        refine ⟨fun h => ⟨(g1 h).1, back (g1 h).2⟩, fun h => ?_⟩
        obtain ⟨i0, w, a1, a2, a3, a4, a5, a6, a7, a8, a9⟩ := g2 h
        refine ⟨i0, w, a1, a2, a3, a4, a5, a6, a7, fun v => ?_, fun hs => a9 ?_⟩
        · rw [← a8 v]
          constructor
          · rintro ⟨t, ht⟩
            refine ⟨t, (ht.lin hsw 1 (t * u.getD i 0)).congr fun j hj => ?_⟩
            rw [show v j - t * (redAt p w0 i u).getD j 0 - (1 * (v j - t * u.getD j 0) + t * u.getD i 0 * w0.getD j 0) = (-t) * ((redAt p w0 i u).getD j 0 - (u.getD j 0 - u.getD i 0 * w0.getD j 0)) by
              simp only [Int.neg_mul, Int.mul_sub, Int.one_mul, Int.mul_assoc]; omega]
            exact Int.dvd_mul_of_dvd_right (hw j hj)
          · rintro ⟨t, ht⟩
            refine ⟨t, (ht.lin hsw 1 (-(t * u.getD i 0))).congr fun j hj => ?_⟩
            rw [show v j - t * u.getD j 0 - (1 * (v j - t * (redAt p w0 i u).getD j 0) + -(t * u.getD i 0) * w0.getD j 0) = t * ((redAt p w0 i u).getD j 0 - (u.getD j 0 - u.getD i 0 * w0.getD j 0)) by
              simp only [Int.neg_mul, Int.mul_sub, Int.one_mul, Int.mul_assoc]; omega]
            exact Int.dvd_mul_of_dvd_right (hw j hj)
        · refine (hs.lin hsw 1 (-(u.getD i 0))).congr fun j hj => ?_
          have := hw j hj
          rwa [show (redAt p w0 i u).getD j 0 - (u.getD j 0 - u.getD i 0 * w0.getD j 0) = (redAt p w0 i u).getD j 0 - (1 * u.getD j 0 + -(u.getD i 0) * w0.getD j 0) by rw [Int.neg_mul]; omega] at this

theorem nrm_dvd {p : Nat} {v : List Int} {j : Nat} (hj : j < v.length) : (p : Int) ∣ (nrm p v).getD j 0 - v.getD j 0 := by
  unfold nrm
  rw [updR_get hj, if_pos ⟨Nat.zero_le _, hj⟩]
  exact dvd_emod_sub _ _

theorem nrm_sp {p n : Nat} {L : List (Nat × List Int)} {v : List Int} (hv : v.length = n) : Sp p n L (fun j => (nrm p v).getD j 0) ↔ Sp p n L (fun j => v.getD j 0) :=
  ⟨fun h => h.congr fun j hj => by
    have := Int.dvd_neg.2 (nrm_dvd (p := p) (v := v) (j := j) (by omega))
    rwa [show -((nrm p v).getD j 0 - v.getD j 0) = v.getD j 0 - (nrm p v).getD j 0 by omega] at this, fun h => h.congr fun j hj => nrm_dvd (by omega)⟩

/-- A ROW IS ADDED. -/
theorem addL_spec {p n : Nat} (hp : pr p) {L : List (Nat × List Int)} (hL : Ech p n L) {v : List Int} (hv : v.length = n) :
    Ech p n (addL p L v).1 ∧ ((addL p L v).2 = false ↔ Sp p n L (fun j => v.getD j 0)) ∧ (∀ x : Nat → Int, Sp p n (addL p L v).1 x ↔ ∃ t : Int, Sp p n L (fun j => x j - t * v.getD j 0)) ∧
      (addL p L v).1.length = L.length + (if (addL p L v).2 then 1 else 0) := by
  have hp2 := hp.le
  obtain ⟨g1, g2⟩ := scan_spec hp hL n 0 (nrm p v) (by omega) (by rw [nrm, updR_len, hv]) (nrm_rng (by omega) v) fun j hj => by omega
  have e : addL p L v = scan p L n 0 (nrm p v) := by rw [addL, hv]
  rw [← e] at g1 g2
  have rel : ∀ x : Nat → Int, (∃ t : Int, Sp p n L (fun j => x j - t * (nrm p v).getD j 0)) ↔ ∃ t : Int, Sp p n L (fun j => x j - t * v.getD j 0) := fun x => by
    constructor
    · rintro ⟨t, ht⟩
      refine ⟨t, ht.congr fun j hj => ?_⟩
      rw [show x j - t * v.getD j 0 - (x j - t * (nrm p v).getD j 0) = t * ((nrm p v).getD j 0 - v.getD j 0) by rw [Int.mul_sub]; omega]
      exact Int.dvd_mul_of_dvd_right (nrm_dvd (by omega))
    · rintro ⟨t, ht⟩
      refine ⟨t, ht.congr fun j hj => ?_⟩
      rw [show x j - t * (nrm p v).getD j 0 - (x j - t * v.getD j 0) = (-t) * ((nrm p v).getD j 0 - v.getD j 0) by rw [Int.neg_mul, Int.mul_sub]; omega]
      exact Int.dvd_mul_of_dvd_right (nrm_dvd (by omega))
  cases hb : (addL p L v).2 with
  | false =>
    obtain ⟨a1, a2⟩ := g1 hb
    have a3 := (nrm_sp hv).1 a2
    rw [a1]
    refine ⟨hL, ⟨fun _ => a3, fun _ => rfl⟩, fun x => ⟨fun h => ⟨0, h.congr fun j _ => by rw [Int.zero_mul, Int.sub_zero, Int.sub_self]; exact Int.dvd_zero _⟩, fun ⟨t, ht⟩ => ?_⟩, by simp⟩
    refine (ht.lin a3 1 t).congr fun j _ => ?_
    rw [show x j - (1 * (x j - t * v.getD j 0) + t * v.getD j 0) = 0 by omega]; exact Int.dvd_zero _
  | true =>
    obtain ⟨i0, w, a1, a2, a3, a4, a5, a6, a7, a8, a9⟩ := g2 hb
    rw [a1]
    refine ⟨⟨?_, ?_, ?_, ?_, ?_, ?_⟩, ⟨(fun h => by cases h), fun h => absurd ((nrm_sp hv).2 h) a9⟩, fun x => by rw [Sp_cons a2, ← a8 x, rel x], by simp⟩
    · rw [List.map_cons, List.nodup_cons]
      refine ⟨fun h => ?_, hL.keys⟩
      obtain ⟨e', he, h⟩ := List.mem_map.1 h
      exact a2 e' he h
    · intro e he; rcases List.mem_cons.1 he with rfl | he
      · exact a3
      · exact hL.lt e he
    · intro e he; rcases List.mem_cons.1 he with rfl | he
      · exact a4
      · exact hL.len e he
    · intro e he; rcases List.mem_cons.1 he with rfl | he
      · exact a5
      · exact hL.rg e he
    · intro e he; rcases List.mem_cons.1 he with rfl | he
      · exact a6
      · exact hL.one e he
    · intro e he; rcases List.mem_cons.1 he with rfl | he
      · exact a7
      · exact hL.zero e he

theorem Ech.nil (p n : Nat) : Ech p n [] := ⟨by simp, by simp, by simp, by simp, by simp, by simp⟩

/-- How many rows there are. -/
theorem Ech.count {p n : Nat} {L : List (Nat × List Int)} (h : Ech p n L) : mpLen (dOf L) = L.length := by
  have key : ∀ (L : List (Nat × List Int)) (z : Int), z ∈ L.map (fun e => (e.1 : Int)) ↔ dOf L z = true := by
    intro L z
    induction L with
    | nil => simp [dOf]
    | cons e L ih => simp only [List.map_cons, List.mem_cons, dOf, Bool.or_eq_true, beq_iff_eq, ih]
  rw [mpLen_eq (l := L.map fun e => (e.1 : Int)) ?_ (key L), List.length_map]
  have := h.keys
  rw [show (L.map fun e => (e.1 : Int)) = (L.map (·.1)).map (fun k : Nat => (k : Int)) by rw [List.map_map]; rfl]
  exact List.pairwise_map.2 (List.Pairwise.imp (fun h e => h (by omega)) this)

end Go.Proofs.Ythdmioeddgednaa
