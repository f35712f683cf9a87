/-
  How many rows equations leave: a plain law of rows modulo a prime. Conditions: none.
-/
import Derived.Test.YthdmioeddgednaaE7
set_option linter.all false
namespace Go.Proofs.Ythdmioeddgednaa
open Go.Pv

/-! ### Products of rows -/

def dotN (w x : Nat → Int) : Nat → Int
  | 0 => 0
  | k + 1 => dotN w x k + w k * x k

theorem dot_lin (a b : Int) (u v x : Nat → Int) : ∀ N, dotN (fun j => a * u j + b * v j) x N = a * dotN u x N + b * dotN v x N
  | 0 => by simp [dotN]
  | k + 1 => by simp only [dotN, dot_lin a b u v x k, Int.add_mul, Int.mul_add, Int.mul_assoc]; omega
theorem dot_congr {w w' x x' : Nat → Int} : ∀ {N : Nat}, (∀ j, j < N → w j = w' j) → (∀ j, j < N → x j = x' j) → dotN w x N = dotN w' x' N
  | 0, _, _ => rfl
  | k + 1, h1, h2 => by
    simp only [dotN]
    rw [dot_congr (fun j hj => h1 j (by omega)) (fun j hj => h2 j (by omega)), h1 k (by omega), h2 k (by omega)]
theorem dot_dvd {p : Int} {w x : Nat → Int} : ∀ {N : Nat}, (∀ j, j < N → p ∣ w j * x j) → p ∣ dotN w x N
  | 0, _ => Int.dvd_zero _
  | k + 1, h => Int.dvd_add (dot_dvd fun j hj => h j (by omega)) (h k (by omega))
theorem dot_zero {w x : Nat → Int} : ∀ {N : Nat}, (∀ j, j < N → w j * x j = 0) → dotN w x N = 0
  | 0, _ => rfl
  | k + 1, h => by simp only [dotN]; rw [dot_zero fun j hj => h j (by omega), h k (by omega)]; rfl
theorem dot_one {w x : Nat → Int} {i : Nat} : ∀ {N : Nat}, i < N → (∀ j, j < N → j ≠ i → w j * x j = 0) → dotN w x N = w i * x i
  | k + 1, hi, h => by
    simp only [dotN]
    by_cases e : i = k
    · subst e
      rw [dot_zero fun j hj => h j (by omega) (by omega)]; omega
    · rw [dot_one (by omega) fun j hj hne => h j (by omega) hne, h k (by omega) (fun e' => e e'.symm)]; omega

def annih (p N : Nat) (L : List (Nat × List Int)) (x : Nat → Int) : Prop := ∀ e ∈ L, (p : Int) ∣ dotN (fun j => e.2.getD j 0) x N

theorem annih_lsum {p N : Nat} {x : Nat → Int} (c : Nat → Int) : ∀ {L : List (Nat × List Int)}, annih p N L x → (p : Int) ∣ dotN (fun j => lsum c L j) x N
  | [], _ => by
    have : dotN (fun j => lsum c [] j) x N = 0 := dot_zero fun j _ => by simp [lsum]
    rw [this]; exact Int.dvd_zero _
  | e :: L, h => by
    have h1 := annih_lsum c (L := L) fun e' he => h e' (by simp [he])
    have h2 := h e (by simp)
    have : dotN (fun j => lsum c (e :: L) j) x N = c e.1 * dotN (fun j => e.2.getD j 0) x N + 1 * dotN (fun j => lsum c L j) x N := by
      rw [← dot_lin]
      exact dot_congr (fun j _ => by simp only [lsum]; omega) fun _ _ => rfl
    rw [this, Int.one_mul]
    exact Int.dvd_add (Int.dvd_mul_of_dvd_right h2) h1

theorem annih_sp {p N : Nat} {L : List (Nat × List Int)} {x y : Nat → Int} (h : annih p N L x) (hy : Sp p N L y) : (p : Int) ∣ dotN y x N := by
  obtain ⟨c, hc⟩ := hy
  have h1 := annih_lsum c h
  have h2 : (p : Int) ∣ dotN (fun j => y j - lsum c L j) x N := dot_dvd fun j hj => Int.dvd_mul_of_dvd_left (hc j hj)
  have : dotN y x N = 1 * dotN (fun j => y j - lsum c L j) x N + 1 * dotN (fun j => lsum c L j) x N := by
    rw [← dot_lin]
    exact dot_congr (fun j _ => by omega) fun _ _ => rfl
  rw [this, Int.one_mul, Int.one_mul]
  exact Int.dvd_add h2 h1

theorem annih_add {p N : Nat} (hp : pr p) {L : List (Nat × List Int)} (hL : Ech p N L) {v : List Int} (hv : v.length = N) (x : Nat → Int) :
    annih p N (addL p L v).1 x ↔ annih p N L x ∧ (p : Int) ∣ dotN (fun j => v.getD j 0) x N := by
  obtain ⟨h1, _, h3, _⟩ := addL_spec hp hL hv
  constructor
  · intro h
    refine ⟨fun e he => annih_sp h ((h3 _).2 ⟨0, (Sp.mem hL.keys he).congr fun j _ => by rw [Int.zero_mul, Int.sub_zero, Int.sub_self]; exact Int.dvd_zero _⟩), annih_sp h ((h3 _).2 ⟨1, Sp.zero fun j _ => by rw [Int.one_mul, Int.sub_self]; exact Int.dvd_zero _⟩)⟩
  · rintro ⟨ha, hb⟩ e he
    obtain ⟨t, ht⟩ := (h3 _).1 (Sp.mem h1.keys he)
    have h4 := annih_sp ha ht
    have : dotN (fun j => e.2.getD j 0) x N = 1 * dotN (fun j => e.2.getD j 0 - t * v.getD j 0) x N + t * dotN (fun j => v.getD j 0) x N := by
      rw [← dot_lin]
      exact dot_congr (fun j _ => by omega) fun _ _ => rfl
    rw [this, Int.one_mul]
    exact Int.dvd_add h4 (Int.dvd_mul_of_dvd_right hb)

/-! ### Rows turned round -/

def revL (p : Nat) : List (Nat × List Int) → List (Nat × List Int)
  | [] => []
  | e :: L => (addL p (revL p L) e.2.reverse).1

theorem rev_get {N j : Nat} {v : List Int} (hv : v.length = N) (hj : j < N) : v.reverse.getD j 0 = v.getD (N - 1 - j) 0 := by
  rw [List.getD_eq_getElem?_getD, List.getD_eq_getElem?_getD, List.getElem?_reverse (by omega), hv]

theorem Ech.tail {p N : Nat} {e : Nat × List Int} {L : List (Nat × List Int)} (h : Ech p N (e :: L)) : Ech p N L ∧ ∀ e' ∈ L, e'.1 ≠ e.1 := by
  have hk := h.keys
  rw [List.map_cons, List.nodup_cons] at hk
  exact ⟨⟨hk.2, fun e' he => h.lt e' (by simp [he]), fun e' he => h.len e' (by simp [he]), fun e' he => h.rg e' (by simp [he]), fun e' he => h.one e' (by simp [he]), fun e' he => h.zero e' (by simp [he])⟩,
    fun e' he e2 => hk.1 (by rw [← e2]; exact List.mem_map_of_mem (f := (·.1)) he)⟩

theorem one_no {p : Nat} (hp : pr p) (h : (p : Int) ∣ 1) : False := by
  have hp2 := hp.le
  have := no_dvd (p := p) (x := 1) (by omega) (by omega) h
  omega

theorem revL_spec {p N : Nat} (hp : pr p) : ∀ {L : List (Nat × List Int)}, Ech p N L → Ech p N (revL p L) ∧ (revL p L).length = L.length ∧ ∀ y : Nat → Int, Sp p N (revL p L) y ↔ Sp p N L (fun j => y (N - 1 - j))
  | [], _ => ⟨Ech.nil _ _, rfl, fun y => by
    constructor
    · rintro ⟨c, hc⟩
      exact Sp.zero fun j hj => by
        have := hc (N - 1 - j) (by omega)
        simpa [lsum, revL] using this
    · rintro ⟨c, hc⟩
      exact Sp.zero fun j hj => by
        have := hc (N - 1 - j) (by omega)
        simp only [lsum, Int.sub_zero] at this
        rwa [show N - 1 - (N - 1 - j) = j by omega] at this⟩
  | e :: L, h => by
    obtain ⟨hL, hne⟩ := h.tail
    obtain ⟨r1, r2, r3⟩ := revL_spec hp hL
    have hel : e.2.length = N := h.len e (by simp)
    obtain ⟨a1, a2, a3, a4⟩ := addL_spec hp r1 (v := e.2.reverse) (by rw [List.length_reverse]; exact hel)
    have hb : (addL p (revL p L) e.2.reverse).2 = true := by
      cases hb : (addL p (revL p L) e.2.reverse).2 with
      | true => rfl
      | false =>
        exfalso
        have h1 := (r3 _).1 (a2.1 hb)
        have h2 : Sp p N L (fun j => e.2.getD j 0) := h1.congr fun j hj => by
          rw [rev_get hel (by omega), show N - 1 - (N - 1 - j) = j by omega, Int.sub_self]; exact Int.dvd_zero _
        have h3 := hL.pivot (h.lt e (by simp)) (fun j hj => by rw [h.zero e (by simp) j hj]; exact Int.dvd_zero _) hne h2
        rw [h.one e (by simp)] at h3
        exact one_no hp h3
    refine ⟨a1, ?_, fun y => ?_⟩
    · show (addL p (revL p L) e.2.reverse).1.length = _
      rw [a4, hb, r2]; simp
    · show Sp p N (addL p (revL p L) e.2.reverse).1 y ↔ _
      rw [a3 y, show e :: L = (e.1, e.2) :: L from rfl, Sp_cons hne]
      constructor
      · rintro ⟨t, ht⟩
        refine ⟨t, ((r3 _).1 ht).congr fun j hj => ?_⟩
        rw [rev_get hel (by omega), show N - 1 - (N - 1 - j) = j by omega, Int.sub_self]; exact Int.dvd_zero _
      · rintro ⟨t, ht⟩
        refine ⟨t, (r3 _).2 (ht.congr fun j hj => ?_)⟩
        rw [rev_get hel (by omega), show N - 1 - (N - 1 - j) = j by omega, Int.sub_self]; exact Int.dvd_zero _

/-- What all rows make nothing, with its last place where no row begins. -/
theorem back {p N : Nat} {R : List (Nat × List Int)} (hR : Ech p N R) {t : Nat} (ht : t < N) (hk : ∀ e ∈ R, e.1 ≠ t) : ∀ d k, k + d = t → ∃ x : Nat → Int, x t = 1 ∧ (∀ j, t < j → x j = 0) ∧ ∀ e ∈ R, k ≤ e.1 → dotN (fun j => e.2.getD j 0) x N = 0
  | 0, k, hkd => by
    refine ⟨fun j => if j = t then 1 else 0, by simp, fun j hj => by simp; omega, fun e he hke => dot_zero fun j _ => ?_⟩
    by_cases e1 : j = t
    · have := hR.zero e he j (by have := hk e he; omega)
      simp only [this, Int.zero_mul]
    · simp only [if_neg e1, Int.mul_zero]
  | d + 1, k, hkd => by
    obtain ⟨x, x1, x2, x3⟩ := back hR ht hk d (k + 1) (by omega)
    by_cases hx : ∃ e ∈ R, e.1 = k
    · obtain ⟨e, he, hek⟩ := hx
      obtain ⟨s, hs⟩ : ∃ s, s = dotN (fun j => e.2.getD j 0) x N := ⟨_, rfl⟩
      have upd : ∀ e' : Nat × List Int, dotN (fun j => e'.2.getD j 0) (fun j => if j = k then x k - s else x j) N = dotN (fun j => e'.2.getD j 0) x N - e'.2.getD k 0 * s := by
        intro e'
        have key : ∀ M, dotN (fun j => e'.2.getD j 0) (fun j => if j = k then x k - s else x j) M = dotN (fun j => e'.2.getD j 0) x M - if k < M then e'.2.getD k 0 * s else 0 := by
          intro M
          induction M with
          | zero => simp [dotN]
          | succ M ih =>
            simp only [dotN]
            rw [ih]
            by_cases e1 : M = k
            · subst e1
              rw [if_neg (by omega), if_pos rfl, if_pos (by omega), Int.mul_sub]; omega
            · rw [if_neg e1]
              by_cases e2 : k < M
              · rw [if_pos e2, if_pos (by omega)]; omega
              · rw [if_neg e2, if_neg (by omega)]; omega
        rw [key N, if_pos (by omega)]
      refine ⟨fun j => if j = k then x k - s else x j, by simp only; rw [if_neg (by omega)]; exact x1, fun j hj => by simp only; rw [if_neg (by omega)]; exact x2 j hj, fun e' he' hke => ?_⟩
      rw [upd e']
      by_cases e1 : e'.1 = k
      · have hee : e'.2 = e.2 := by
          have hl : ∀ {L : List (Nat × List Int)}, (L.map (·.1)).Nodup → e ∈ L → e' ∈ L → e'.2 = e.2 := by
            intro L hn h1 h2
            induction L with
            | nil => cases h1
            | cons a L ih =>
              rw [List.map_cons, List.nodup_cons] at hn
              have g1 : ∀ {b : Nat × List Int}, b ∈ L → b.1 = k → a.1 ≠ k := fun hb hbk hak => hn.1 (by rw [hak, ← hbk]; exact List.mem_map_of_mem (f := (·.1)) hb)
              rcases List.mem_cons.1 h1 with q1 | q1
              · rcases List.mem_cons.1 h2 with q2 | q2
                · rw [q1, q2]
                · exact absurd (by rw [← q1]; exact hek) (g1 q2 e1)
              · rcases List.mem_cons.1 h2 with q2 | q2
                · exact absurd (by rw [← q2]; exact e1) (g1 q1 hek)
                · exact ih hn.2 q1 q2
          exact hl hR.keys he he'
        have h1 := hR.one e he
        rw [hek] at h1
        rw [hee, h1, ← hs]; omega
      · rw [x3 e' he' (by omega), hR.zero e' he' k (by omega)]; omega
    · refine ⟨x, x1, x2, fun e he hke => x3 e he ?_⟩
      have : e.1 ≠ k := fun e1 => hx ⟨e, he, e1⟩
      omega

/-- SO MANY ROWS AS EQUATIONS LEAVE. -/
theorem rank_sum {p N : Nat} (hp : pr p) {R B : List (Nat × List Int)} (hR : Ech p N R) (hB : Ech p N B) (h : ∀ x : Nat → Int, Sp p N B x ↔ annih p N R x) : B.length + R.length = N := by
  obtain ⟨d1, d2, d3⟩ := revL_spec hp hB
  have key : ∀ q, q < N → ((∃ e ∈ revL p B, e.1 = q) ↔ ¬ ∃ e ∈ R, e.1 = N - 1 - q) := by
    intro q hq
    constructor
    · rintro ⟨y, hy, rfl⟩ ⟨e, he, het⟩
      have h1 := (d3 _).1 (Sp.mem d1.keys hy)
      have h2 := (h _).1 h1 e he
      rw [dot_one (i := N - 1 - y.1) (by omega) fun j hj hne => ?_] at h2
      · rw [show N - 1 - (N - 1 - y.1) = y.1 by omega, d1.one y hy] at h2
        have := hR.one e he
        rw [het] at this
        rw [this] at h2
        exact one_no hp (by simpa using h2)
      · by_cases hlt : j < N - 1 - y.1
        · have := hR.zero e he j (by omega)
          simp only [this, Int.zero_mul]
        · have := d1.zero y hy (N - 1 - j) (by omega)
          simp only [this, Int.mul_zero]
    · intro hno
      obtain ⟨x, x1, x2, x3⟩ := back hR (t := N - 1 - q) (by omega) (fun e he e1 => hno ⟨e, he, e1⟩) (N - 1 - q) 0 (by omega)
      have h1 : Sp p N B x := (h x).2 fun e he => by rw [x3 e he (Nat.zero_le _)]; exact Int.dvd_zero _
      have h2 : Sp p N (revL p B) (fun j => x (N - 1 - j)) := (d3 _).2 (h1.congr fun j hj => by
        rw [show N - 1 - (N - 1 - j) = j by omega, Int.sub_self]; exact Int.dvd_zero _)
      refine Classical.byContradiction fun hn => ?_
      have h3 := d1.pivot hq (fun j hj => by rw [x2 _ (by omega)]; exact Int.dvd_zero _) (fun e he e1 => hn ⟨e, he, e1⟩) h2
      rw [x1] at h3
      exact one_no hp h3
  have hn : ((revL p B).map (·.1) ++ (R.map (·.1)).map (fun t => N - 1 - t)).Nodup := by
    rw [List.nodup_append]
    refine ⟨d1.keys, nodup_map hR.keys fun x hx y hy hxy => ?_, fun a ha b hb hab => ?_⟩
    · obtain ⟨e, he, rfl⟩ := List.mem_map.1 hx
      obtain ⟨e', he', rfl⟩ := List.mem_map.1 hy
      have := hR.lt e he
      have := hR.lt e' he'
      omega
    · subst hab
      obtain ⟨y, hy, rfl⟩ := List.mem_map.1 ha
      obtain ⟨t, ht, het⟩ := List.mem_map.1 hb
      obtain ⟨e, he, rfl⟩ := List.mem_map.1 ht
      have h1 := hR.lt e he
      have h2 := d1.lt y hy
      exact (key y.1 h2).1 ⟨y, hy, rfl⟩ ⟨e, he, by omega⟩
  have := same_len hn (List.nodup_range (n := N)) fun q => by
    rw [List.mem_range, List.mem_append]
    constructor
    · rintro (hq | hq)
      · obtain ⟨y, hy, rfl⟩ := List.mem_map.1 hq
        exact d1.lt y hy
      · obtain ⟨t, ht, rfl⟩ := List.mem_map.1 hq
        obtain ⟨e, he, rfl⟩ := List.mem_map.1 ht
        have := hR.lt e he
        omega
    · intro hq
      by_cases hr : ∃ e ∈ R, e.1 = N - 1 - q
      · obtain ⟨e, he, het⟩ := hr
        exact .inr (List.mem_map.2 ⟨e.1, List.mem_map.2 ⟨e, he, rfl⟩, by omega⟩)
      · obtain ⟨y, hy, hyq⟩ := (key q hq).2 hr
        exact .inl (List.mem_map.2 ⟨y, hy, hyq⟩)
  simp only [List.length_append, List.length_map, List.length_range] at this
  omega

end Go.Proofs.Ythdmioeddgednaa
