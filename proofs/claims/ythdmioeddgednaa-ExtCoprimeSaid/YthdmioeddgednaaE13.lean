/-
  Where the prime does not divide how many things there are, all cocycles are bounds. Plain law. Conditions: none.
-/
import Derived.Test.YthdmioeddgednaaE12
import Derived.Test.YthdmioeddgednaaE10
set_option linter.all false
namespace Go.Proofs.Ythdmioeddgednaa
open Go.Pv

/-! ### Sums over all things -/

def sumN (g : Nat → Int) : Nat → Int
  | 0 => 0
  | k + 1 => sumN g k + g k

theorem sum_add (g h : Nat → Int) : ∀ n, sumN (fun c => g c + h c) n = sumN g n + sumN h n
  | 0 => rfl
  | k + 1 => by simp only [sumN, sum_add g h k]; omega
theorem sum_sub (g h : Nat → Int) : ∀ n, sumN (fun c => g c - h c) n = sumN g n - sumN h n
  | 0 => rfl
  | k + 1 => by simp only [sumN, sum_sub g h k]; omega
theorem sum_const' (v : Int) : ∀ n, sumN (fun _ => v) n = (n : Int) * v
  | 0 => by simp [sumN]
  | k + 1 => by simp only [sumN, sum_const' v k]; rw [Int.natCast_succ, Int.add_mul, Int.one_mul]
theorem sum_congr' {g h : Nat → Int} : ∀ {n : Nat}, (∀ c, c < n → g c = h c) → sumN g n = sumN h n
  | 0, _ => rfl
  | k + 1, hh => by simp only [sumN]; rw [sum_congr' fun c hc => hh c (by omega), hh k (by omega)]
theorem sum_dvd {p : Int} {g : Nat → Int} : ∀ {n : Nat}, (∀ c, c < n → p ∣ g c) → p ∣ sumN g n
  | 0, _ => Int.dvd_zero _
  | k + 1, h => Int.dvd_add (sum_dvd fun c hc => h c (by omega)) (h k (by omega))

def lsm (g : Nat → Int) : List Nat → Int
  | [] => 0
  | c :: l => g c + lsm g l
theorem lsm_perm {g : Nat → Int} {l1 l2 : List Nat} (h : l1.Perm l2) : lsm g l1 = lsm g l2 := by
  induction h with
  | nil => rfl
  | cons x _ ih => simp only [lsm, ih]
  | swap x y l => simp only [lsm]; omega
  | trans _ _ ih1 ih2 => rw [ih1, ih2]
theorem lsm_app {g : Nat → Int} (l r : List Nat) : lsm g (l ++ r) = lsm g l + lsm g r := by
  induction l with
  | nil => simp [lsm]
  | cons x l ih => simp only [List.cons_append, lsm, ih]; omega
theorem lsm_range {g : Nat → Int} : ∀ n, lsm g (List.range n) = sumN g n
  | 0 => rfl
  | n + 1 => by rw [List.range_succ, lsm_app, lsm_range n]; simp [lsm, sumN]
theorem lsm_map {g : Nat → Int} {f : Nat → Nat} (l : List Nat) : lsm g (l.map f) = lsm (fun c => g (f c)) l := by
  induction l with
  | nil => rfl
  | cons x l ih => simp only [List.map_cons, lsm, ih]

/-- A sum over all things, moved round. -/
theorem Grp.sum_move {n e : Nat} {f : Nat → Nat → Nat} (G : Grp n f e) {b : Nat} (hb : b < n) (g : Nat → Int) : sumN (fun c => g (f b c)) n = sumN g n := by
  rw [← lsm_range, ← lsm_range, ← lsm_map (g := g) (f := fun c => f b c)]
  refine lsm_perm ((List.perm_ext_iff_of_nodup (nodup_map List.nodup_range fun x hx y hy h => G.cancel_l hb (by simpa using hx) (by simpa using hy) h) List.nodup_range).2 fun y => ?_)
  rw [List.mem_map, List.mem_range]
  constructor
  · rintro ⟨c, hc, rfl⟩; exact G.cl b c hb (by simpa using hc)
  · intro hy
    obtain ⟨c, hc, e1⟩ := inj_onto (f := fun c => f b c) (fun i hi => G.cl b i hb hi) (fun i j hi hj h => G.cancel_l hb hi hj h) hy
    exact ⟨c, by simpa using hc, e1⟩

/-! ### The equations -/

/-- The equation of three things, at a list. -/
def eqV (n : Nat) (m : List Int) (x : Nat → Int) (a b c : Nat) : Int := x (b * n + c) - x (op m n a b * n + c) + x (a * n + op m n b c) - x (a * n + b)

theorem dot_spike {x : Nat → Int} {i : Nat} (d : Int) {N : Nat} (hi : i < N) : dotN (fun t => if t = i then d else 0) x N = d * x i := by
  rw [dot_one hi fun j _ hne => by simp [hne]]; simp

theorem dot_eqR {n : Nat} {m : List Int} {a b c : Nat} {x : Nat → Int} (h1 : b * n + c < n * n) (h2 : op m n a b * n + c < n * n) (h3 : a * n + op m n b c < n * n) (h4 : a * n + b < n * n) :
    dotN (fun j => (eqR n m a b c).getD j 0) x (n * n) = eqV n m x a b c := by
  have e : dotN (fun j => (eqR n m a b c).getD j 0) x (n * n) = dotN (fun j => 1 * ((fun t => 1 * (if t = b * n + c then (1 : Int) else 0) + 1 * (if t = op m n a b * n + c then -1 else 0)) j) + 1 * ((fun t => 1 * (if t = a * n + op m n b c then (1 : Int) else 0) + 1 * (if t = a * n + b then -1 else 0)) j)) x (n * n) :=
    dot_congr (fun j hj => by rw [eqR_get hj]; simp only [Int.one_mul]; omega) fun _ _ => rfl
  rw [e, dot_lin, dot_lin, dot_lin, dot_spike _ h1, dot_spike _ h2, dot_spike _ h3, dot_spike _ h4]
  unfold eqV
  omega

theorem annih_eqK {n p : Nat} (hp : pr p) {m : List Int} (T : Tab n m) (x : Nat → Int) : ∀ k, k ≤ n * n * n → (annih p (n * n) (eqK n m p k) x ↔ ∀ t, t < k → (p : Int) ∣ eqV n m x (t / (n * n)) (t / n % n) (t % n))
  | 0, _ => ⟨fun _ t ht => by omega, fun _ e he => by cases he⟩
  | k + 1, hk => by
    have hn := T.pos
    have h1 : k / (n * n) < n := (Nat.div_lt_iff_lt_mul (Nat.mul_pos hn hn)).2 (by rw [← Nat.mul_assoc]; omega)
    have h2 : k / n % n < n := Nat.mod_lt _ hn
    have h3 : k % n < n := Nat.mod_lt _ hn
    show annih p (n * n) (addL p (eqK n m p k) (eqR n m (k / (n * n)) (k / n % n) (k % n))).1 x ↔ _
    rw [annih_add hp (eqK_ech hp m k) (eqR_len n m _ _ _), annih_eqK hp T x k (by omega), dot_eqR (at_lt h2 h3) (at_lt (T.lt h1 h2) h3) (at_lt h1 (T.lt h2 h3)) (at_lt h1 h2)]
    constructor
    · rintro ⟨q1, q2⟩ t ht
      by_cases e : t = k
      · subst e; exact q2
      · exact q1 t (by omega)
    · intro q
      exact ⟨fun t ht => q t (by omega), q k (by omega)⟩

theorem annih_all {n p : Nat} (hp : pr p) {m : List Int} (T : Tab n m) (x : Nat → Int) : annih p (n * n) (eqK n m p (n * n * n)) x ↔ ∀ a b c, a < n → b < n → c < n → (p : Int) ∣ eqV n m x a b c := by
  have hn := T.pos
  rw [annih_eqK hp T x _ (Nat.le_refl _)]
  constructor
  · intro h a b c ha hb hc
    obtain ⟨k1, k2, k3⟩ := eqK_at (a := a) hb hc
    have := h ((a * n + b) * n + c) (by
      have h1 := at_lt ha hb
      have h2 : (a * n + b + 1) * n ≤ n * n * n := Nat.mul_le_mul_right _ h1
      rw [Nat.add_mul _ 1, Nat.one_mul] at h2
      omega)
    rwa [k1, k2, k3] at this
  · intro h t ht
    exact h _ _ _ ((Nat.div_lt_iff_lt_mul (Nat.mul_pos hn hn)).2 (by rw [← Nat.mul_assoc]; exact ht)) (Nat.mod_lt _ hn) (Nat.mod_lt _ hn)

/-- Bounds are cocycles. -/
theorem bound_eqV {n e p : Nat} {m : List Int} (h : GT n m n e) {c x : Nat → Int} (hx : ∀ t, t < n * n → (p : Int) ∣ x t - dB n m c t) {a b d : Nat} (ha : a < n) (hb : b < n) (hd : d < n) : (p : Int) ∣ eqV n m x a b d := by
  have T := h.2.1
  have hv : ∀ {u v}, u < n → v < n → (p : Int) ∣ x (u * n + v) - (c u + c v - c (op m n u v)) := fun {u v} hu hv => by
    have := hx _ (at_lt hu hv)
    obtain ⟨d1, d2⟩ := dm_at (a := u) hv
    simpa only [dB, d1, d2] using this
  have h1 := hv hb hd
  have h2 := hv (T.lt ha hb) hd
  have h3 := hv ha (T.lt hb hd)
  have h4 := hv ha hb
  have h5 := Int.dvd_sub (Int.dvd_add (Int.dvd_sub h1 h2) h3) h4
  rw [h.2.2.assoc a b d ha hb hd] at h5
  unfold eqV
  rwa [show x (b * n + d) - (c b + c d - c (op m n b d)) - (x (op m n a b * n + d) - (c (op m n a b) + c d - c (op m n a (op m n b d)))) + (x (a * n + op m n b d) - (c a + c (op m n b d) - c (op m n a (op m n b d)))) - (x (a * n + b) - (c a + c b - c (op m n a b))) = x (b * n + d) - x (op m n a b * n + d) + x (a * n + op m n b d) - x (a * n + b) by omega] at h5

theorem inv_mod {n p : Nat} (hp : pr p) (hn : n % p ≠ 0) : ∃ k : Int, (p : Int) ∣ k * n - 1 := by
  have hp2 := hp.le
  have h1 : n % p < p := Nat.mod_lt _ (by omega)
  obtain ⟨_, _, h3, _⟩ := inv_spec hp (x := ((n % p : Nat) : Int)) (by omega) (by omega)
  refine ⟨(inv p ((n % p : Nat) : Int) : Int), ?_⟩
  generalize (inv p ((n % p : Nat) : Int) : Int) = k at *
  have h4 := dvd_emod_sub p (k * ((n % p : Nat) : Int))
  rw [h3] at h4
  have h5 : (p : Int) ∣ (n : Int) - ((n % p : Nat) : Int) := by
    rw [Int.natCast_emod]
    have := Int.dvd_neg.2 (dvd_emod_sub p (n : Int))
    rwa [show -((n : Int) % (p : Int) - n) = (n : Int) - (n : Int) % (p : Int) by omega] at this
  have h6 := Int.dvd_sub (Int.dvd_mul_of_dvd_right (b := k) h5) h4
  rwa [show k * ((n : Int) - ((n % p : Nat) : Int)) - (1 - k * ((n % p : Nat) : Int)) = k * (n : Int) - 1 by rw [Int.mul_sub]; omega] at h6

/-- ALL COCYCLES ARE BOUNDS where p does not divide n. -/
theorem coc_bound {n e p : Nat} {m : List Int} (h : GT n m n e) (hp : pr p) (hnp : n % p ≠ 0) {x : Nat → Int} (hx : ∀ a b c, a < n → b < n → c < n → (p : Int) ∣ eqV n m x a b c) : ∃ c : Nat → Int, ∀ t, t < n * n → (p : Int) ∣ x t - dB n m c t := by
  have T := h.2.1
  have G := h.2.2
  obtain ⟨k, hk⟩ := inv_mod hp hnp
  have key : ∀ a b, a < n → b < n → (p : Int) ∣ sumN (fun c => x (b * n + c)) n - sumN (fun c => x (op m n a b * n + c)) n + sumN (fun c => x (a * n + c)) n - (n : Int) * x (a * n + b) := by
    intro a b ha hb
    have h1 := sum_dvd (n := n) (g := fun c => eqV n m x a b c) fun c hc => hx a b c ha hb hc
    have h2 : sumN (fun c => eqV n m x a b c) n = sumN (fun c => x (b * n + c)) n - sumN (fun c => x (op m n a b * n + c)) n + sumN (fun c => x (a * n + op m n b c)) n - (n : Int) * x (a * n + b) := by
      unfold eqV
      rw [sum_sub, sum_add, sum_sub, sum_const']
    rwa [h2, G.sum_move hb (fun c => x (a * n + c))] at h1
  refine ⟨fun a => k * sumN (fun c => x (a * n + c)) n, fun t ht => ?_⟩
  have hn := T.pos
  have a1 : t / n < n := (Nat.div_lt_iff_lt_mul hn).2 ht
  have a2 : t % n < n := Nat.mod_lt _ hn
  have h1 := key _ _ a1 a2
  rw [show t / n * n + t % n = t by rw [Nat.mul_comm]; exact Nat.div_add_mod t n] at h1
  simp only [dB]
  generalize sumN (fun c => x (t / n * n + c)) n = s1 at *
  generalize sumN (fun c => x (t % n * n + c)) n = s2 at *
  generalize sumN (fun c => x (op m n (t / n) (t % n) * n + c)) n = s3 at *
  have h2 := Int.dvd_add (Int.dvd_mul_of_dvd_right (b := -k) h1) (Int.dvd_mul_of_dvd_right (b := -(x t)) hk)
  rwa [show -k * (s2 - s3 + s1 - (n : Int) * x t) + -(x t) * (k * (n : Int) - 1) = x t - (k * s1 + k * s2 - k * s3) by
    rw [Int.mul_sub (-(x t)), Int.mul_sub, Int.mul_add, Int.mul_sub, show -(x t) * (k * (n : Int)) = -k * -((n : Int) * x t) * -1 by
      simp only [Int.neg_mul, Int.mul_neg, Int.neg_neg, Int.mul_one, Int.mul_comm, Int.mul_left_comm, Int.mul_assoc]]
    simp only [Int.neg_mul, Int.mul_neg, Int.neg_neg, Int.mul_one]; omega] at h2

/-- So are how many there are. -/
theorem sizes_cop {n e p : Nat} {m : List Int} (h : GT n m n e) (hp : pr p) (hnp : n % p ≠ 0) : szZ n m p - szB n m p = 0 ∧ (n : Int) - szB n m p = 0 := by
  have T := h.2.1
  have G := h.2.2
  have r1 := rank_sum hp (eqK_ech hp m (n * n * n)) (spK_ech hp m n) fun x => by
    rw [spK_sp hp T n (Nat.le_refl _), annih_all hp T]
    constructor
    · rintro ⟨c, _, hc⟩ a b d ha hb hd
      exact bound_eqV h hc ha hb hd
    · intro hx
      obtain ⟨c, hc⟩ := coc_bound h hp hnp hx
      refine ⟨fun a => if a < n then c a else 0, fun a ha => if_neg (by omega), fun t ht => ?_⟩
      rw [dB_congr T (d := c) (fun a ha => if_pos ha) ht]
      exact hc t ht
  have r2 : ∀ k, k ≤ n → (spK n m p k).length = k := by
    intro k
    induction k with
    | zero => intro _; rfl
    | succ k ih =>
      intro hk
      obtain ⟨_, a2, _, a4⟩ := addL_spec hp (spK_ech hp m k) (dl_len n m p (un1 n k))
      show (addL p (spK n m p k) (dl n m p (un1 n k))).1.length = _
      have hb : (addL p (spK n m p k) (dl n m p (un1 n k))).2 = true := by
        cases hb : (addL p (spK n m p k) (dl n m p (un1 n k))).2 with
        | true => rfl
        | false =>
          exfalso
          obtain ⟨c, c1, c2⟩ := (spK_sp hp T k (by omega) _).1 (a2.1 hb)
          have hdl : ∀ t, t < n * n → (p : Int) ∣ dB n m (fun a => 1 * dl1 k a + -1 * c a) t := fun t ht => by
            have q1 := c2 t ht
            have q2 : (p : Int) ∣ (dl n m p (un1 n k)).getD t 0 - dB n m (dl1 k) t := by
              rw [dl_get ht, dB_congr T (c := fun a => (un1 n k).getD a 0) (d := dl1 k) (fun a ha => by rw [un1_get (by omega) ha]; rfl) ht]
              exact dvd_emod_sub _ _
            rw [dB_lin]
            have := Int.dvd_sub q1 q2
            rwa [show (dl n m p (un1 n k)).getD t 0 - dB n m c t - ((dl n m p (un1 n k)).getD t 0 - dB n m (dl1 k) t) = 1 * dB n m (dl1 k) t + -1 * dB n m c t by omega] at this
          -- the sum over all things
          have hk2 : k < n := by omega
          have hs := sum_dvd (n := n) (p := (p : Int)) (g := fun b => (1 * dl1 k k + -1 * c k) + (1 * dl1 k b + -1 * c b) - (1 * dl1 k (op m n k b) + -1 * c (op m n k b))) fun b hb2 => by
            have := hdl _ (at_lt hk2 hb2)
            obtain ⟨d1, d2⟩ := dm_at (a := k) hb2
            simpa only [dB, d1, d2] using this
          rw [sum_sub, sum_add, sum_const', G.sum_move hk2 (fun b => 1 * dl1 k b + -1 * c b), c1 k (Nat.le_refl _)] at hs
          have hone : dl1 k k = 1 := by simp [dl1]
          rw [hone, Int.add_sub_cancel, show (n : Int) * (1 * 1 + -1 * 0) = (n : Int) by omega] at hs
          exact hnp (Nat.mod_eq_zero_of_dvd (Int.natCast_dvd_natCast.1 hs))
      rw [a4, hb, ih (by omega)]; simp
  have r3 := r2 n (Nat.le_refl _)
  unfold szZ szB
  omega

end Go.Proofs.Ythdmioeddgednaa
