/-
  Plain law, FROBENIUS' THEOREM: of a divisor m of n so many things are, m times, the one, as a multiple of m. Conditions: none.
-/
import Derived.Test.YtmkebnaedgdeaaaG10
set_option linter.all false
namespace Go.Proofs.Ytmkebnaedgdeaaa
open Go.Pv

def sol (n : Nat) (f : Nat → Nat → Nat) (e s : Nat) : Nat := ((List.range n).filter fun x => decide (pw f e x s = e)).length

section
variable {n : Nat} {f : Nat → Nat → Nat} {e : Nat}

theorem Grp.sol_gcd (G : Grp n f e) (s : Nat) : sol n f e s = sol n f e (Nat.gcd s n) := by
  unfold sol
  congr 1
  refine List.filter_congr fun x hx => decide_eq_decide.2 ?_
  have x1 := List.mem_range.1 hx
  rw [G.pw_eq_one x1, G.pw_eq_one x1]
  exact ⟨fun h => Nat.dvd_gcd h (G.ord_dvd x1), fun h => Nat.dvd_trans h (Nat.gcd_dvd_left _ _)⟩
theorem Grp.sol_all (G : Grp n f e) : sol n f e n = n := by
  unfold sol
  rw [List.filter_eq_self.2]
  · simp
  · intro x hx
    simpa using G.pw_n (List.mem_range.1 hx)

/-- Conjugated. -/
def cj (n : Nat) (f : Nat → Nat → Nat) (e g x : Nat) : Nat := f (f g x) (iv n f e g)
theorem Grp.cj_lt (G : Grp n f e) {g x : Nat} (hg : g < n) (hx : x < n) : cj n f e g x < n := G.cl _ _ (G.cl _ _ hg hx) (G.iv_lt hg)
theorem Grp.cj_mul (G : Grp n f e) {g x y : Nat} (hg : g < n) (hx : x < n) (hy : y < n) : cj n f e g (f x y) = f (cj n f e g x) (cj n f e g y) := by
  unfold cj
  have hi := G.iv_lt hg
  rw [G.assoc (f g x) _ _ (G.cl _ _ hg hx) hi (G.cl _ _ (G.cl _ _ hg hy) hi), ← G.assoc _ (f g y) _ hi (G.cl _ _ hg hy) hi, ← G.assoc _ g y hi hg hy, G.iv_mul hg, G.one_l y hy, G.assoc g x _ hg hx (G.cl _ _ hy hi), ← G.assoc x y _ hx hy hi, G.assoc g _ _ hg (G.cl _ _ hx hy) hi]
theorem Grp.cj_one (G : Grp n f e) {g : Nat} (hg : g < n) : cj n f e g e = e := by
  unfold cj; rw [G.one_r g hg, G.mul_iv hg]
theorem Grp.cj_pw (G : Grp n f e) {g x : Nat} (hg : g < n) (hx : x < n) : ∀ k, pw f e (cj n f e g x) k = cj n f e g (pw f e x k)
  | 0 => (G.cj_one hg).symm
  | k + 1 => by
    show f (pw f e (cj n f e g x) k) (cj n f e g x) = cj n f e g (f (pw f e x k) x)
    rw [G.cj_pw hg hx k, G.cj_mul hg (G.pw_lt hx k) hx]
theorem Grp.cj_iv (G : Grp n f e) {g x : Nat} (hg : g < n) (hx : x < n) : cj n f e g (cj n f e (iv n f e g) x) = x := by
  unfold cj
  have hi := G.iv_lt hg
  rw [G.iv_iv hg, ← G.assoc g _ g hg (G.cl _ _ hi hx) hg, ← G.assoc g _ x hg hi hx, G.mul_iv hg, G.one_l x hx, G.assoc x g _ hx hg hi, G.mul_iv hg, G.one_r x hx]
theorem Grp.iv_cj (G : Grp n f e) {g x : Nat} (hg : g < n) (hx : x < n) : cj n f e (iv n f e g) (cj n f e g x) = x := by
  have := G.cj_iv (G.iv_lt hg) hx
  rwa [G.iv_iv hg] at this
theorem Grp.cj_eq (G : Grp n f e) {g x y : Nat} (hg : g < n) (hx : x < n) (hy : y < n) : f g x = f y g ↔ cj n f e g x = y := by
  unfold cj
  have hi := G.iv_lt hg
  constructor
  · intro h
    rw [h, G.assoc y g _ hy hg hi, G.mul_iv hg, G.one_r y hy]
  · intro h
    rw [← h, G.assoc _ _ g (G.cl _ _ hg hx) hi hg, G.iv_mul hg, G.one_r _ (G.cl _ _ hg hx)]
theorem Grp.cj_ord (G : Grp n f e) {g x : Nat} (hg : g < n) (hx : x < n) : ord n f e (cj n f e g x) = ord n f e x := by
  refine G.ord_eq (G.cj_lt hg hx) fun j => ?_
  rw [G.cj_pw hg hx, ← G.pw_eq_one hx]
  constructor
  · intro h
    have := congrArg (cj n f e (iv n f e g)) h
    rwa [G.iv_cj hg (G.pw_lt hx j), G.cj_one (G.iv_lt hg)] at this
  · intro h
    rw [h, G.cj_one hg]

/-- Powers a, b with x^a of order q and x^b solving s; together they are x. -/
theorem crt {q s : Nat} (hq : 2 ≤ q) (hqs : Nat.gcd q s = 1) (hs : 0 < s) : ∃ a b, (∃ d, a = q * d + 1) ∧ s ∣ a ∧ q ∣ b ∧ a + b = q * s + 1 := by
  obtain ⟨i, hi, he⟩ := inj_onto (n := q) (f := fun i => s * i % q) (fun i _ => Nat.mod_lt _ (by omega)) (fun i i' hi hi' he => by
    have hp : ∀ {i i' : Nat}, i < q → i' < q → i ≤ i' → s * i % q = s * i' % q → i = i' := by
      intro i i' hi hi' hle he
      have h1 : q ∣ s * i' - s * i := Nat.dvd_of_mod_eq_zero (Nat.sub_mod_eq_zero_of_mod_eq he.symm)
      rw [← Nat.mul_sub] at h1
      have h2 : q ∣ i' - i := Nat.Coprime.dvd_of_dvd_mul_left hqs h1
      rcases Nat.eq_zero_or_pos (i' - i) with h | h
      · omega
      · have := Nat.le_of_dvd h h2; omega
    rcases Nat.le_total i i' with hl | hl
    · exact hp hi hi' hl he
    · exact (hp hi' hi hl he.symm).symm) (show 1 < q by omega)
  have he' : s * i % q = 1 := he
  have hle : s * i ≤ q * s := by rw [Nat.mul_comm q s]; exact Nat.mul_le_mul_left _ (by omega)
  have hdm := Nat.div_add_mod (s * i) q
  refine ⟨s * i, q * s + 1 - s * i, ⟨s * i / q, by omega⟩, Nat.dvd_mul_right _ _, ?_, by omega⟩
  have : q * s + 1 - s * i = q * s - q * (s * i / q) := by omega
  rw [this, ← Nat.mul_sub]
  exact Nat.dvd_mul_right _ _

theorem Grp.frob2 (G : Grp n f e) {q s : Nat} (hq : 2 ≤ q) (hqs : Nat.gcd q s = 1) (hs : 0 < s) (hd : s ∣ n)
    (ih : ∀ N' f' e', N' < n → Grp N' f' e' → ∀ m, m ∣ N' → m ∣ sol N' f' e' m) :
    s ∣ ((List.range n).filter fun x => decide (ord n f e x ∣ q * s ∧ q ∣ ord n f e x)).length := by
  obtain ⟨a, b, ⟨d, had⟩, hsa, hqb, hab⟩ := crt hq hqs hs
  have hA : ∀ {x}, x ∈ (List.range n).filter (fun x => decide (ord n f e x ∣ q * s ∧ q ∣ ord n f e x)) ↔ x < n ∧ ord n f e x ∣ q * s ∧ q ∣ ord n f e x := by
    intro x; rw [List.mem_filter, List.mem_range, decide_eq_true_eq]
  -- the part of order q
  have hy : ∀ {x}, x < n → ord n f e x ∣ q * s → q ∣ ord n f e x → ord n f e (pw f e x a) = q := by
    intro x hx h1 h2
    obtain ⟨t, ht⟩ := h2
    have hts : t ∣ s := by
      rw [ht] at h1
      exact Nat.dvd_of_mul_dvd_mul_left (by omega) h1
    refine G.ord_eq (G.pw_lt hx a) fun j => ?_
    rw [← G.pw_mul hx, G.pw_eq_one hx, ht]
    constructor
    · intro h
      have h3 : q ∣ a * j := Nat.dvd_trans (Nat.dvd_mul_right _ _) h
      rw [had, Nat.add_mul, Nat.one_mul, Nat.mul_assoc] at h3
      exact (Nat.dvd_add_right (Nat.dvd_mul_right _ _)).1 h3
    · intro h
      rw [Nat.mul_comm a j]
      exact Nat.mul_dvd_mul h (Nat.dvd_trans hts hsa)
  refine classesD (r := fun x x' => decide (∃ g, g < n ∧ f g (pw f e x a) = f (pw f e x' a) g)) _ _ rfl (List.nodup_range.filter _) ?_ ?_ ?_ ?_
  · intro x hx
    have x1 := (hA.1 hx).1
    rw [decide_eq_true_eq]
    exact ⟨e, G.el, by rw [G.one_l _ (G.pw_lt x1 a), G.one_r _ (G.pw_lt x1 a)]⟩
  · intro x hx y hy' h
    have x1 := (hA.1 hx).1
    have y1 := (hA.1 hy').1
    rw [decide_eq_true_eq] at *
    obtain ⟨g, hg, h⟩ := h
    refine ⟨iv n f e g, G.iv_lt hg, ?_⟩
    rw [G.cj_eq hg (G.pw_lt x1 a) (G.pw_lt y1 a)] at h
    rw [G.cj_eq (G.iv_lt hg) (G.pw_lt y1 a) (G.pw_lt x1 a), ← h, G.iv_cj hg (G.pw_lt x1 a)]
  · intro x hx y hy' z hz h h'
    have x1 := G.pw_lt (hA.1 hx).1 a
    have y1 := G.pw_lt (hA.1 hy').1 a
    have z1 := G.pw_lt (hA.1 hz).1 a
    rw [decide_eq_true_eq] at *
    obtain ⟨g, hg, h⟩ := h
    obtain ⟨k, hk, h'⟩ := h'
    refine ⟨f k g, G.cl _ _ hk hg, ?_⟩
    rw [G.assoc k g _ hk hg x1, h, ← G.assoc k _ g hk y1 hg, h', G.assoc _ k g z1 hk hg]
  · intro x hx
    obtain ⟨x1, x2, x3⟩ := hA.1 hx
    have hyo := hy x1 x2 x3
    have hyl := G.pw_lt x1 a
    have hcount : n * ((mem n (cen f (pw f e x a))).filter fun z => decide (pw f e z s = e)).length = (((List.range n).filter fun x => decide (ord n f e x ∣ q * s ∧ q ∣ ord n f e x)).filter fun x' => decide (∃ g, g < n ∧ f g (pw f e x a) = f (pw f e x' a) g)).length * (mem n (cen f (pw f e x a))).length := by
      have hL := dbl (fun g x' => decide (f g (pw f e x a) = f (pw f e x' a) g)) (L1 := List.range n) (L2 := ((List.range n).filter fun x => decide (ord n f e x ∣ q * s ∧ q ∣ ord n f e x)).filter fun x' => decide (∃ g, g < n ∧ f g (pw f e x a) = f (pw f e x' a) g))
        (c1 := ((mem n (cen f (pw f e x a))).filter fun z => decide (pw f e z s = e)).length) (c2 := (mem n (cen f (pw f e x a))).length) ?_ ?_
      · rwa [List.length_range] at hL
      · intro g hg
        have g1 := List.mem_range.1 hg
        rw [← List.length_map (f := fun z => cj n f e g (f (pw f e x a) z)) (as := ((mem n (cen f (pw f e x a))).filter fun z => decide (pw f e z s = e)))]
        refine same_len (((List.nodup_range.filter _).filter _).filter _) (nodup_map ((List.nodup_range.filter _).filter _) fun z hz w hw he => ?_) fun x' => ?_
        · have z1 := (mem_mem.1 (List.mem_filter.1 hz).1).1
          have w1 := (mem_mem.1 (List.mem_filter.1 hw).1).1
          have he2 := congrArg (cj n f e (iv n f e g)) he
          rw [G.iv_cj g1 (G.cl _ _ hyl z1), G.iv_cj g1 (G.cl _ _ hyl w1)] at he2
          exact G.cancel_l hyl z1 w1 he2
        · rw [List.mem_filter, List.mem_filter, hA, List.mem_map]
          simp only [decide_eq_true_eq]
          constructor
          · rintro ⟨⟨⟨c1, c2, c3⟩, _⟩, h⟩
            rw [G.cj_eq g1 hyl (G.pw_lt c1 a)] at h
            have hg' := G.iv_lt g1
            have hwl := G.cj_lt hg' c1
            have hwo := G.cj_ord hg' c1
            have hwa : pw f e (cj n f e (iv n f e g) x') a = pw f e x a := by
              rw [G.cj_pw hg' c1, ← h, G.iv_cj g1 hyl]
            have hyz : f (pw f e x a) (pw f e (cj n f e (iv n f e g) x') b) = cj n f e (iv n f e g) x' := by
              rw [← hwa, ← G.pw_add hwl, hab, G.pw_add hwl, (G.pw_eq_one hwl _).2 (by rw [hwo]; exact c2), G.pw_one hwl, G.one_l _ hwl]
            refine ⟨pw f e (cj n f e (iv n f e g) x') b, ?_, ?_⟩
            · rw [List.mem_filter, mem_mem, cen_iff, decide_eq_true_eq]
              refine ⟨⟨G.pw_lt hwl b, ?_⟩, ?_⟩
              · rw [← hwa]; exact G.pw_comm hwl b a
              · rw [← G.pw_mul hwl, G.pw_eq_one hwl, hwo]
                exact Nat.dvd_trans c2 (Nat.mul_dvd_mul hqb (Nat.dvd_refl s))
            · rw [hyz, G.cj_iv g1 c1]
          · rintro ⟨z, hz, rfl⟩
            rw [List.mem_filter, mem_mem, cen_iff, decide_eq_true_eq] at hz
            obtain ⟨⟨z1, z2⟩, z3⟩ := hz
            have hyzl := G.cl _ _ hyl z1
            have hyq : pw f e (pw f e x a) q = e := by rw [G.pw_eq_one hyl, hyo]; exact Nat.dvd_refl q
            have hself : ∀ {y}, y < n → pw f e y q = e → pw f e y a = y := by
              intro y y1 yq
              rw [had, G.pw_add y1, G.pw_mul y1, yq, G.pw_e, G.pw_one y1, G.one_l _ y1]
            have hpa : pw f e (f (pw f e x a) z) a = pw f e x a := by
              rw [G.pw_comm2 z1 hyl z2.symm, (G.pw_eq_one z1 a).2 (Nat.dvd_trans ((G.pw_eq_one z1 s).1 z3) hsa), G.one_r _ (G.pw_lt hyl a)]
              exact hself hyl hyq
            have hca : pw f e (cj n f e g (f (pw f e x a) z)) a = cj n f e g (pw f e x a) := by
              rw [G.cj_pw g1 hyzl, hpa]
            have hrel : f g (pw f e x a) = f (pw f e (cj n f e g (f (pw f e x a) z)) a) g := by
              rw [hca, G.cj_eq g1 hyl (G.cj_lt g1 hyl)]
            refine ⟨⟨⟨G.cj_lt g1 hyzl, ?_, ?_⟩, g, g1, hrel⟩, hrel⟩
            · rw [G.cj_ord g1 hyzl, ← G.pw_eq_one hyzl, G.pw_comm2 z1 hyl z2.symm, G.pw_mul hyl, hyq, G.pw_e, Nat.mul_comm q s, G.pw_mul z1, z3, G.pw_e, G.one_l e G.el]
            · rw [G.cj_ord g1 hyzl]
              have h5 : ord n f e (pw f e (f (pw f e x a) z) a) = q := by rw [hpa, hyo]
              rw [← h5, ← G.pw_eq_one (G.pw_lt hyzl a), ← G.pw_mul hyzl, Nat.mul_comm, G.pw_mul hyzl, G.pw_ord hyzl, G.pw_e]
      · intro x' hx'
        obtain ⟨h1, h2⟩ := List.mem_filter.1 hx'
        obtain ⟨c1, c2, c3⟩ := hA.1 h1
        rw [decide_eq_true_eq] at h2
        obtain ⟨g0, hg0, h2⟩ := h2
        have hy'l := G.pw_lt c1 a
        rw [← List.length_map (f := fun c => f g0 c) (as := mem n (cen f (pw f e x a)))]
        refine same_len (List.nodup_range.filter _) (nodup_map (List.nodup_range.filter _) fun z hz w hw he => G.cancel_l hg0 (mem_mem.1 hz).1 (mem_mem.1 hw).1 he) fun g => ?_
        rw [List.mem_filter, List.mem_range, decide_eq_true_eq, List.mem_map]
        constructor
        · rintro ⟨g1, h⟩
          have hi := G.iv_lt hg0
          refine ⟨f (iv n f e g0) g, ?_, by rw [← G.assoc g0 _ g hg0 hi g1, G.mul_iv hg0, G.one_l g g1]⟩
          rw [mem_mem, cen_iff]
          refine ⟨G.cl _ _ hi g1, ?_⟩
          refine G.cancel_l hg0 (G.cl _ _ (G.cl _ _ hi g1) hyl) (G.cl _ _ hyl (G.cl _ _ hi g1)) ?_
          rw [← G.assoc g0 _ _ hg0 hyl (G.cl _ _ hi g1), h2, ← G.assoc g0 _ _ hg0 (G.cl _ _ hi g1) hyl, ← G.assoc g0 _ g hg0 hi g1, G.mul_iv hg0, G.one_l g g1, h, G.assoc _ g0 _ hy'l hg0 (G.cl _ _ hi g1), ← G.assoc g0 _ g hg0 hi g1, G.mul_iv hg0, G.one_l g g1]
        · rintro ⟨c, hc, rfl⟩
          rw [mem_mem, cen_iff] at hc
          obtain ⟨c1', c2'⟩ := hc
          refine ⟨G.cl _ _ hg0 c1', ?_⟩
          rw [G.assoc g0 c _ hg0 c1' hyl, c2', ← G.assoc g0 _ c hg0 hyl c1', h2, G.assoc _ g0 c hy'l hg0 c1']
    -- the quotient
    have hQ := (G.quo_gs hyl).grp
    have hQc := G.quo_card hyl
    rw [hyo] at hQc
    have hCn : (mem n (cen f (pw f e x a))).length ∣ n := by
      have := Sub.dvd (H := cen f (pw f e x a)) (K := fun _ => true) G (G.cen_sub hyl) fun _ _ _ _ _ _ => rfl
      have hall : (mem n fun _ => true).length = n := by
        unfold mem
        rw [List.filter_eq_self.2 (fun _ _ => rfl), List.length_range]
      rwa [hall] at this
    have hQp : 0 < (quo n f e (pw f e x a)).length := hQ.pos
    have hQlt : (quo n f e (pw f e x a)).length < n := by
      have h1 := Nat.le_of_dvd G.pos hCn
      have h2 : (quo n f e (pw f e x a)).length * 2 ≤ (quo n f e (pw f e x a)).length * q := Nat.mul_le_mul_left _ hq
      omega
    have hsolQ : ((mem n (cen f (pw f e x a))).filter fun z => decide (pw f e z s = e)).length = sol (quo n f e (pw f e x a)).length (idf (quo n f e (pw f e x a)) fun u v => rp n f e (pw f e x a) (f u v)) (plc (quo n f e (pw f e x a)) (rp n f e (pw f e x a) e)) s := by
      rw [G.quo_sol hyl (by rw [hyo]; exact hqs)]
      unfold sol
      rw [← count_at]
      congr 1
      refine List.filter_congr fun i hi => decide_eq_decide.2 ?_
      exact ((G.quo_gs hyl).pw_iff (List.mem_range.1 hi) s).symm
    have hgs := ih _ _ _ hQlt hQ _ (Nat.gcd_dvd_right s (quo n f e (pw f e x a)).length)
    rw [← hQ.sol_gcd, ← hsolQ] at hgs
    obtain ⟨u, hu⟩ := hgs
    obtain ⟨M, hM⟩ := hCn
    rw [hu, hQc] at hcount
    rw [hQc] at hM
    have hc2 : (M * (Nat.gcd s (quo n f e (pw f e x a)).length * u)) * ((quo n f e (pw f e x a)).length * q) = (((List.range n).filter fun x => decide (ord n f e x ∣ q * s ∧ q ∣ ord n f e x)).filter fun x' => decide (∃ g, g < n ∧ f g (pw f e x a) = f (pw f e x' a) g)).length * ((quo n f e (pw f e x a)).length * q) := by
      rw [← hcount]
      conv => rhs; lhs; rw [hM]
      rw [Nat.mul_comm M, Nat.mul_right_comm, Nat.mul_assoc, Nat.mul_right_comm, Nat.mul_comm _ M, Nat.mul_comm (quo n f e (pw f e x a)).length q]
      simp only [Nat.mul_assoc, Nat.mul_comm, Nat.mul_left_comm]
    have hc3 := Nat.eq_of_mul_eq_mul_right (Nat.mul_pos hQp (by omega)) hc2
    rw [← hc3, ← Nat.mul_assoc]
    refine Nat.dvd_trans ?_ (Nat.dvd_mul_right _ u)
    rw [← Nat.gcd_mul_left]
    refine Nat.dvd_gcd (Nat.dvd_mul_left _ _) ?_
    have hsq : Nat.Coprime s q := Nat.Coprime.symm hqs
    refine Nat.Coprime.dvd_of_dvd_mul_right hsq (m := M * (quo n f e (pw f e x a)).length) ?_
    rw [hM] at hd
    have : M * (quo n f e (pw f e x a)).length * q = (quo n f e (pw f e x a)).length * q * M := by
      rw [Nat.mul_comm M, Nat.mul_right_comm]
    rw [this]; exact hd

/-! ### Primes -/

/-- The least divisor above 1. -/
theorem least_div : ∀ {t : Nat}, 2 ≤ t → ∃ p, 2 ≤ p ∧ p ∣ t ∧ ∀ d, d ∣ p → d = 1 ∨ d = p := by
  intro t
  induction t using Nat.strongRecOn with
  | _ t ih =>
    intro ht
    by_cases h : ∀ d, d ∣ t → d = 1 ∨ d = t
    · exact ⟨t, ht, Nat.dvd_refl t, h⟩
    · have ⟨d, hd⟩ := Classical.not_forall.1 h
      have ⟨hd1, hd2⟩ := Classical.not_imp.1 hd
      have hdp : 0 < d := Nat.pos_of_dvd_of_pos hd1 (by omega)
      have hdl := Nat.le_of_dvd (by omega) hd1
      have hd3 : 2 ≤ d ∧ d < t := by
        have h1 : d ≠ 1 := fun h => hd2 (.inl h)
        have h2 : d ≠ t := fun h => hd2 (.inr h)
        omega
      obtain ⟨p, p1, p2, p3⟩ := ih d hd3.2 hd3.1
      exact ⟨p, p1, Nat.dvd_trans p2 hd1, p3⟩
theorem split_pow {p : Nat} (hp : 2 ≤ p) : ∀ {m : Nat}, 0 < m → ∃ k s, m = p ^ k * s ∧ ¬ p ∣ s := by
  intro m
  induction m using Nat.strongRecOn with
  | _ m ih =>
    intro hm
    by_cases h : p ∣ m
    · obtain ⟨c, rfl⟩ := h
      have hc : 0 < c := by
        rcases Nat.eq_zero_or_pos c with h | h
        · subst h; simp at hm
        · exact h
      obtain ⟨k, s, h1, h2⟩ := ih c (by have : 2 * c ≤ p * c := Nat.mul_le_mul_right _ hp
                                        omega) hc
      exact ⟨k + 1, s, by rw [h1, Nat.pow_succ, Nat.mul_comm _ p, Nat.mul_assoc], h2⟩
    · exact ⟨0, m, by simp, h⟩
theorem prime_cop {p s : Nat} (hp : ∀ d, d ∣ p → d = 1 ∨ d = p) (h : ¬ p ∣ s) : Nat.gcd p s = 1 := by
  rcases hp _ (Nat.gcd_dvd_left p s) with h1 | h1
  · exact h1
  · exact absurd (h1 ▸ Nat.gcd_dvd_right p s) h
theorem dvd_ppow {p : Nat} (hp2 : 2 ≤ p) (hp : ∀ d, d ∣ p → d = 1 ∨ d = p) : ∀ {k d : Nat}, d ∣ p ^ (k + 1) → d = p ^ (k + 1) ∨ d ∣ p ^ k
  | k, d, h => by
    by_cases hpd : p ∣ d
    · obtain ⟨c, rfl⟩ := hpd
      rw [Nat.pow_succ, Nat.mul_comm _ p] at h
      have h1 := Nat.dvd_of_mul_dvd_mul_left (by omega) h
      match k, h1 with
      | 0, h1 =>
        have : c = 1 := Nat.dvd_one.1 (by simpa using h1)
        left; simp [this]
      | k + 1, h1 =>
        rcases dvd_ppow hp2 hp h1 with h2 | h2
        · left; rw [h2, Nat.pow_succ p (k + 1), Nat.mul_comm]
        · right; rw [Nat.pow_succ, Nat.mul_comm _ p]; exact Nat.mul_dvd_mul (Nat.dvd_refl p) h2
    · right
      have hc : Nat.Coprime d p := Nat.Coprime.symm (prime_cop hp hpd)
      rw [Nat.pow_succ] at h
      exact Nat.Coprime.dvd_of_dvd_mul_right hc h

/-- FROBENIUS' THEOREM. -/
theorem frob : ∀ N f e, Grp N f e → ∀ m, m ∣ N → m ∣ sol N f e m := by
  intro N
  induction N using Nat.strongRecOn with
  | _ N ihN =>
    intro f e G
    have key : ∀ t m, m * t = N → m ∣ sol N f e m := by
      intro t
      induction t using Nat.strongRecOn with
      | _ t iht =>
        intro m hmt
        have hN := G.pos
        have ht : 0 < t := by
          rcases Nat.eq_zero_or_pos t with h | h
          · subst h; simp at hmt; omega
          · exact h
        have hm : 0 < m := by
          rcases Nat.eq_zero_or_pos m with h | h
          · subst h; simp at hmt; omega
          · exact h
        by_cases h1 : t = 1
        · subst h1
          rw [Nat.mul_one] at hmt
          subst hmt
          rw [G.sol_all]; exact Nat.dvd_refl _
        · obtain ⟨p, p1, ⟨c, rfl⟩, p3⟩ := least_div (t := t) (by omega)
          have hc : 0 < c := by
            rcases Nat.eq_zero_or_pos c with h | h
            · subst h; simp at ht
            · exact h
          have hlt : c < p * c := by
            have : 2 * c ≤ p * c := Nat.mul_le_mul_right _ p1
            omega
          have hmp := iht c hlt (m * p) (by rw [Nat.mul_assoc]; exact hmt)
          obtain ⟨k, s, hks, hps⟩ := split_pow p1 hm
          have hcop := prime_cop p3 hps
          have hpp : ∀ i, 0 < p ^ i := fun i => Nat.pow_pos (by omega)
          have hqs : Nat.gcd (p ^ (k + 1)) s = 1 := Nat.Coprime.pow_left _ hcop
          have hs : 0 < s := by
            rcases Nat.eq_zero_or_pos s with h | h
            · subst h; simp at hps
            · exact h
          have hmpq : m * p = p ^ (k + 1) * s := by
            rw [hks, Nat.pow_succ, Nat.mul_right_comm]
          -- orders
          have hord : ∀ o, (o ∣ m * p ∧ ¬ o ∣ m) ↔ (o ∣ p ^ (k + 1) * s ∧ p ^ (k + 1) ∣ o) := by
            intro o
            rw [hmpq]
            constructor
            · rintro ⟨h2, h3⟩
              refine ⟨h2, ?_⟩
              have h4 : o = Nat.gcd o (p ^ (k + 1)) * Nat.gcd o s := by
                rw [← Nat.Coprime.gcd_mul o hqs]
                exact (Nat.gcd_eq_left h2).symm
              rcases dvd_ppow p1 p3 (Nat.gcd_dvd_right o (p ^ (k + 1))) with h5 | h5
              · rw [← h5]; exact Nat.gcd_dvd_left _ _
              · exfalso
                apply h3
                rw [h4, hks]
                exact Nat.mul_dvd_mul h5 (Nat.gcd_dvd_right _ _)
            · rintro ⟨h2, h3⟩
              refine ⟨h2, fun h4 => hps ?_⟩
              have h5 := Nat.dvd_trans h3 h4
              rw [hks, Nat.pow_succ] at h5
              exact Nat.dvd_of_mul_dvd_mul_left (hpp k) h5
          have hsum : sol N f e (m * p) = sol N f e m + ((List.range N).filter fun x => decide (ord N f e x ∣ p ^ (k + 1) * s ∧ p ^ (k + 1) ∣ ord N f e x)).length := by
            have h2 : sol N f e m = (((List.range N).filter fun x => decide (pw f e x (m * p) = e)).filter fun x => decide (pw f e x m = e)).length := by
              unfold sol
              rw [List.filter_filter]
              congr 1
              refine List.filter_congr fun x hx => ?_
              have x1 := List.mem_range.1 hx
              by_cases h : pw f e x m = e
              · have : pw f e x (m * p) = e := by rw [G.pw_mul x1, h, G.pw_e]
                simp [h, this]
              · simp [h]
            have h3 : ((List.range N).filter fun x => decide (ord N f e x ∣ p ^ (k + 1) * s ∧ p ^ (k + 1) ∣ ord N f e x)).length = (((List.range N).filter fun x => decide (pw f e x (m * p) = e)).filter fun x => !decide (pw f e x m = e)).length := by
              rw [List.filter_filter]
              congr 1
              refine List.filter_congr fun x hx => ?_
              have x1 := List.mem_range.1 hx
              rw [Bool.eq_iff_iff]
              simp only [decide_eq_true_eq, Bool.and_eq_true, Bool.not_eq_true', decide_eq_false_iff_not, G.pw_eq_one x1]
              rw [← hord]
              exact and_comm
            rw [h2, h3]
            unfold sol
            have := List.length_eq_countP_add_countP (fun x => decide (pw f e x m = e)) (l := (List.range N).filter fun x => decide (pw f e x (m * p) = e))
            simp only [List.countP_eq_length_filter] at this
            rw [this]
            congr 3
            funext x
            by_cases h : pw f e x m = e <;> simp [h]
          have hA1 : p ^ k ∣ ((List.range N).filter fun x => decide (ord N f e x ∣ p ^ (k + 1) * s ∧ p ^ (k + 1) ∣ ord N f e x)).length :=
            G.frob1 (c := fun o => decide (o ∣ p ^ (k + 1) * s ∧ p ^ (k + 1) ∣ o)) fun o ho => (of_decide_eq_true ho).2
          have hq2 : 2 ≤ p ^ (k + 1) := by
            rw [Nat.pow_succ]
            have := Nat.mul_le_mul (hpp k) p1
            omega
          have hsN : s ∣ N := by
            rw [← hmt, hks, Nat.mul_assoc, Nat.mul_left_comm]
            exact Nat.dvd_mul_right _ _
          have hA2 := G.frob2 hq2 hqs hs hsN fun N' f' e' hN' G' m' hm' => ihN N' hN' f' e' G' m' hm'
          have hA : m ∣ ((List.range N).filter fun x => decide (ord N f e x ∣ p ^ (k + 1) * s ∧ p ^ (k + 1) ∣ ord N f e x)).length := by
            rw [hks]
            exact Nat.Coprime.mul_dvd_of_dvd_of_dvd (Nat.Coprime.pow_left _ hcop) hA1 hA2
          have hm2 : m ∣ sol N f e (m * p) := Nat.dvd_trans (Nat.dvd_mul_right _ _) hmp
          rw [hsum] at hm2
          exact (Nat.dvd_add_left hA).1 hm2
    intro m ⟨t, ht⟩
    exact key t m ht.symm
end
end Go.Proofs.Ytmkebnaedgdeaaa
