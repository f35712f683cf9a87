/-
  The law of primes that do not divide: all cocycles are bounds; sums of cocycles are cocycles. Conditions: none.
-/
import Derived.Test.YthdmioeddgednaaE13
import Derived.Test.YthdmioeddgednaaE8
set_option linter.all false
namespace Go.Proofs.Ythdmioeddgednaa
open Go.Pv

/-- The sum of two lists. -/
def suL (f h : List Int) (p k : Nat) : List Int := rg (fun t => (f.getD t 0 + h.getD t 0) % (p : Int)) k

theorem coc_dvd {n : Nat} {m : List Int} {p : Nat} {f : List Int} {a b c : Nat} : coc n m p f a b c ↔ (p : Int) ∣ F2 n f b c + F2 n f a (op m n b c) - (F2 n f (op m n a b) c + F2 n f a b) := by
  unfold coc; rw [emod_iff]

theorem suL_at {f h : List Int} {p k t : Nat} (ht : t < k) : (p : Int) ∣ (suL f h p k).getD t 0 - (f.getD t 0 + h.getD t 0) := by
  unfold suL; rw [rg_get _ ht]; exact dvd_emod_sub _ _

theorem suL_cf {n e p : Nat} {m : List Int} (hT : GT n m n e) (hp : pr p) {f h : List Int} (hf : (cf n m p f).1 = 0) (hh : (cf n m p h).1 = 0) : cf n m p (suL f h p (n * n)) = (0, 0) := by
  have hp2 := hp.le
  obtain ⟨_, _, f3, _⟩ := cf_0 hf
  obtain ⟨_, _, h3, _⟩ := cf_0 hh
  have hF : ∀ {a b}, a < n → b < n → (p : Int) ∣ F2 n (suL f h p (n * n)) a b - (F2 n f a b + F2 n h a b) := fun ha hb => suL_at (at_lt ha hb)
  refine cf_of (rg_len _ _) (fun t ht => ?_) fun a ha b hb c hc => coc_dvd.2 ?_
  · have ht2 : t < n * n := by rw [suL, rg_len] at ht; exact ht
    unfold suL; rw [rg_get _ ht2]; exact emod_rng (by omega) _
  · have hab := hT.2.1.lt ha hb
    have hbc := hT.2.1.lt hb hc
    have a1 := hF hb hc
    have a2 := hF ha hbc
    have a3 := hF hab hc
    have a4 := hF ha hb
    have b1 := coc_dvd.1 (f3 a ha b hb c hc)
    have b2 := coc_dvd.1 (h3 a ha b hb c hc)
    have := Int.dvd_add (Int.dvd_sub (Int.dvd_add a1 a2) (Int.dvd_add a3 a4)) (Int.dvd_add b1 b2)
    generalize F2 n (suL f h p (n * n)) b c = s1 at *
    generalize F2 n (suL f h p (n * n)) a (op m n b c) = s2 at *
    generalize F2 n (suL f h p (n * n)) (op m n a b) c = s3 at *
    generalize F2 n (suL f h p (n * n)) a b = s4 at *
    generalize F2 n f b c = u1 at *
    generalize F2 n f a (op m n b c) = u2 at *
    generalize F2 n f (op m n a b) c = u3 at *
    generalize F2 n f a b = u4 at *
    generalize F2 n h b c = v1 at *
    generalize F2 n h a (op m n b c) = v2 at *
    generalize F2 n h (op m n a b) c = v3 at *
    generalize F2 n h a b = v4 at *
    rwa [show s1 - (u1 + v1) + (s2 - (u2 + v2)) - (s3 - (u3 + v3) + (s4 - (u4 + v4))) + (u1 + u2 - (u3 + u4) + (v1 + v2 - (v3 + v4))) = s1 + s2 - (s3 + s4) by omega] at this

theorem bool_eq {a b : Bool} (h : a = true ↔ b = true) : a = b := by cases a <;> cases b <;> simp_all

section
variable {n e p : Nat} {m : List Int} {f h : List Int}

theorem cop_D (hT : GT n m n e) (hp : pr p) (hf : (cf n m p f).1 = 0) (hh : (cf n m p h).1 = 0) : saB n m p (suL f h p (n * n)) f = saB n m p h (List.replicate (n * n) 0) := by
  have hs : (cf n m p (suL f h p (n * n))).1 = 0 := by rw [suL_cf hT hp hf hh]
  have hz : (cf n m p (List.replicate (n * n) 0)).1 = 0 := by rw [zero_cf hT hp]
  refine bool_eq ?_
  rw [same_iff hT hp hs hf, same_iff hT hp hh hz]
  constructor
  · rintro ⟨c, hc⟩
    refine ⟨c, fun t ht => ?_⟩
    have z : (List.replicate (n * n) (0 : Int)).getD t 0 = 0 := by simp [ht]
    have := Int.dvd_sub (hc t ht) (suL_at (f := f) (h := h) (p := p) ht)
    rw [z]
    rwa [show (suL f h p (n * n)).getD t 0 - f.getD t 0 - dB n m c t - ((suL f h p (n * n)).getD t 0 - (f.getD t 0 + h.getD t 0)) = h.getD t 0 - 0 - dB n m c t by omega] at this
  · rintro ⟨c, hc⟩
    refine ⟨c, fun t ht => ?_⟩
    have z : (List.replicate (n * n) (0 : Int)).getD t 0 = 0 := by simp [ht]
    have h1 := hc t ht
    rw [z] at h1
    have := Int.dvd_add h1 (suL_at (f := f) (h := h) (p := p) ht)
    rwa [show h.getD t 0 - 0 - dB n m c t + ((suL f h p (n * n)).getD t 0 - (f.getD t 0 + h.getD t 0)) = (suL f h p (n * n)).getD t 0 - f.getD t 0 - dB n m c t by omega] at this

theorem cop_C (hT : GT n m n e) (hp : pr p) (hf : (cf n m p f).1 = 0) (hh : (cf n m p h).1 = 0) (ha : saB n m p f (List.replicate (n * n) 0) = true) : saB n m p (suL f h p (n * n)) (List.replicate (n * n) 0) = saB n m p h (List.replicate (n * n) 0) := by
  have hs : (cf n m p (suL f h p (n * n))).1 = 0 := by rw [suL_cf hT hp hf hh]
  have hz : (cf n m p (List.replicate (n * n) 0)).1 = 0 := by rw [zero_cf hT hp]
  obtain ⟨d, hd⟩ := (same_iff hT hp hf hz).1 ha
  refine bool_eq ?_
  rw [same_iff hT hp hs hz, same_iff hT hp hh hz]
  constructor
  · rintro ⟨c, hc⟩
    refine ⟨fun a => 1 * c a + -1 * d a, fun t ht => ?_⟩
    have z : (List.replicate (n * n) (0 : Int)).getD t 0 = 0 := by simp [ht]
    have h1 := hc t ht
    have h2 := hd t ht
    rw [z] at h1 h2 ⊢
    have := Int.dvd_sub (Int.dvd_sub h1 h2) (suL_at (f := f) (h := h) (p := p) ht)
    rw [dB_lin]
    rwa [show (suL f h p (n * n)).getD t 0 - 0 - dB n m c t - (f.getD t 0 - 0 - dB n m d t) - ((suL f h p (n * n)).getD t 0 - (f.getD t 0 + h.getD t 0)) = h.getD t 0 - 0 - (1 * dB n m c t + -1 * dB n m d t) by omega] at this
  · rintro ⟨c, hc⟩
    refine ⟨fun a => 1 * c a + 1 * d a, fun t ht => ?_⟩
    have z : (List.replicate (n * n) (0 : Int)).getD t 0 = 0 := by simp [ht]
    have h1 := hc t ht
    have h2 := hd t ht
    rw [z] at h1 h2 ⊢
    have := Int.dvd_add (Int.dvd_add h1 h2) (suL_at (f := f) (h := h) (p := p) ht)
    rw [dB_lin]
    rwa [show h.getD t 0 - 0 - dB n m c t + (f.getD t 0 - 0 - dB n m d t) + ((suL f h p (n * n)).getD t 0 - (f.getD t 0 + h.getD t 0)) = (suL f h p (n * n)).getD t 0 - 0 - (1 * dB n m c t + 1 * dB n m d t) by omega] at this

theorem cop_A (hT : GT n m n e) (hp : pr p) (hf : (cf n m p f).1 = 0) (hnp : n % p ≠ 0) : saB n m p f (List.replicate (n * n) 0) = true := by
  have hz : (cf n m p (List.replicate (n * n) 0)).1 = 0 := by rw [zero_cf hT hp]
  obtain ⟨_, _, f3, _⟩ := cf_0 hf
  rw [same_iff hT hp hf hz]
  obtain ⟨c, hc⟩ := coc_bound hT hp hnp (x := fun t => f.getD t 0) fun a b c ha hb hc => by
    have := coc_dvd.1 (f3 a ha b hb c hc)
    unfold F2 at this
    unfold eqV
    rwa [show f.getD (b * n + c) 0 + f.getD (a * n + op m n b c) 0 - (f.getD (op m n a b * n + c) 0 + f.getD (a * n + b) 0) = f.getD (b * n + c) 0 - f.getD (op m n a b * n + c) 0 + f.getD (a * n + op m n b c) 0 - f.getD (a * n + b) 0 by omega] at this
  refine ⟨c, fun t ht => ?_⟩
  have z : (List.replicate (n * n) (0 : Int)).getD t 0 = 0 := by simp [ht]
  rw [z, Int.sub_zero]
  exact hc t ht
end

set_option maxHeartbeats 4000000 in
theorem extCop_1 (N : Int) (m : List Int) (p : Int) (f h : List Int) (hm : m.length ≤ 17592186043904) (hx : ¬ (xf N m p).1 = 0) : FnC Try.prog 3 [gp N m, .int .i64 p, .list (il f), .list (il h)] (.bool true) := by
  refine fnc_of tab_ok Try.func3 rfl (by kernel_rfl) (by rw [Try.ntmps3]; exact Nat.le_add_left 4 _) ?_; rw [Try.ntmps3]
  refine qm ?_
  refine hk_region fun K hK => runs_eval tab_ok ?_
  simp only [ev0, evA, evB, evP, fl, gp, tab, simprocAttr, reduceCtorEq, reduceIte]
  refine fin_run ?_ (hK _ ?_) <;> clear hK <;> clear K
  · (first | exact trivial | omega | (simp only [In64] at *; omega) | (simp [In64] at *; omega) | (simp_all; done) | skip)
  refine qa (qm (qm ?_))
  refine hk_region fun K hK => runs_eval tab_ok ?_
  simp only [ev0, evA, evB, evP, fl, gp, tab, simprocAttr, reduceCtorEq, reduceIte]
  refine fin_stop trivial (runs_call (begun_x) rfl rfl rfl (by simp only [dstOk, Nat.reduceLT]) (by repeat (first | exact trivial | constructor)) (runs_eval tab_ok ?_))
  simp only [ev0, evA, evB, evP, fl, gp, tab, simprocAttr, reduceCtorEq, reduceIte]
  refine fin_run trivial (hK _ ?_) <;> clear hK <;> clear K
  refine qa ?_
  refine hk_cond rfl (fun hC1 => ?_) (fun hC1 => ?_)
  · cases hC1
  · (try simp only [nhs] at hC1)
    refine qh (qa (qm ?_))
    refine hk_region fun K hK => runs_eval tab_ok ?_
    simp only [ev0, evA, evB, evP, fl, gp, tab, simprocAttr, reduceCtorEq, reduceIte]
    refine fin_stop trivial (runs_call (sizes_no N m p (by omega) hx) rfl rfl rfl (by simp only [dstOk, Nat.reduceLT]) (by repeat (first | exact trivial | constructor)) (runs_eval tab_ok ?_))
    simp only [ev0, evA, evB, evP, fl, gp, tab, simprocAttr, reduceCtorEq, reduceIte]
    refine fin_run ?_ (hK _ ?_) <;> clear hK <;> clear K
    · (first | exact trivial | omega | (simp only [In64] at *; omega) | (simp [In64] at *; omega) | (simp_all; done) | skip)
    refine qa (qm (qm ?_))
    refine hk_region fun K hK => runs_eval tab_ok ?_
    simp only [ev0, evA, evB, evP, fl, gp, tab, simprocAttr, reduceCtorEq, reduceIte]
    refine fin_run ?_ (hK _ ?_) <;> clear hK <;> clear K
    · (first | exact trivial | omega | (simp only [In64] at *; omega) | (simp [In64] at *; omega) | (simp_all; done) | skip)
    refine qa ?_
    refine hk_cond rfl (fun hC2 => ?_) (fun hC2 => ?_)
    · (try simp only [nhs] at hC2)
      refine qm ?_
      refine hk_region fun K hK => runs_eval tab_ok ?_
      simp only [ev0, evA, evB, evP, fl, gp, tab, simprocAttr, reduceCtorEq, reduceIte]
      refine fin_stop trivial (runs_call (extFault_c N m p (by omega)) rfl rfl rfl (by simp only [dstOk, Nat.reduceLT]) (by repeat (first | exact trivial | constructor)) (runs_eval tab_ok ?_))
      simp only [ev0, evA, evB, evP, fl, gp, tab, simprocAttr, reduceCtorEq, reduceIte]
      refine fin_run ?_ (hK _ ?_) <;> clear hK <;> clear K
      · (first | exact trivial | omega | (simp only [In64] at *; omega) | (simp [In64] at *; omega) | (simp_all; done) | skip)
      refine qa (qk (qb ?_))
      simp only [Try.results3, enA, ev0, evA, evB, evP, fl, gp, tab, simprocAttr, reduceCtorEq, reduceIte]
      all_goals (first | rfl | simp [hx])
    · (try simp only [nhs] at hC2)
      exact absurd hC2 hx

set_option maxHeartbeats 8000000 in
theorem extCop_2 {n e p : Nat} {m : List Int} (hT : GT n m n e) (hn : n ≤ 12) (hp : pr p) (f h : List Int) (hl : f.length ≤ 17592186043904) (hl2 : h.length ≤ 17592186043904) : FnC Try.prog 3 [gp n m, .int .i64 p, .list (il f), .list (il h)] (.bool true) := by
  have hp2 := hp.le
  have hsq : n * n ≤ 144 := Nat.mul_le_mul hn hn
  have hml := hT.2.1.len
  have hz1 := zero_cf hT hp
  refine fnc_of tab_ok Try.func3 rfl (by kernel_rfl) (by rw [Try.ntmps3]; exact Nat.le_add_left 4 _) ?_; rw [Try.ntmps3]
  refine qm ?_
  refine hk_region fun K hK => runs_eval tab_ok ?_
  simp only [ev0, evA, evB, evP, fl, gp, tab, simprocAttr, reduceCtorEq, reduceIte]
  refine fin_run ?_ (hK _ ?_) <;> clear hK <;> clear K
  · (first | exact trivial | omega | (simp only [In64] at *; omega) | (simp [In64] at *; omega) | (simp_all; done) | skip)
  refine qa (qm (qm ?_))
  refine hk_region fun K hK => runs_eval tab_ok ?_
  simp only [ev0, evA, evB, evP, fl, gp, tab, simprocAttr, reduceCtorEq, reduceIte]
  refine fin_stop trivial (runs_call (begun_x) rfl rfl rfl (by simp only [dstOk, Nat.reduceLT]) (by repeat (first | exact trivial | constructor)) (runs_eval tab_ok ?_))
  simp only [ev0, evA, evB, evP, fl, gp, tab, simprocAttr, reduceCtorEq, reduceIte]
  refine fin_run trivial (hK _ ?_) <;> clear hK <;> clear K
  refine qa ?_
  refine hk_cond rfl (fun hC1 => ?_) (fun hC1 => ?_)
  · cases hC1
  · (try simp only [nhs] at hC1)
    refine qh (qa (qm ?_))
    refine hk_region fun K hK => runs_eval tab_ok ?_
    simp only [ev0, evA, evB, evP, fl, gp, tab, simprocAttr, reduceCtorEq, reduceIte]
    refine fin_stop trivial (runs_call (sizes_ok hT hn hp) rfl rfl rfl (by simp only [dstOk, Nat.reduceLT]) (by repeat (first | exact trivial | constructor)) (runs_eval tab_ok ?_))
    simp only [ev0, evA, evB, evP, fl, gp, tab, simprocAttr, reduceCtorEq, reduceIte]
    refine fin_run ?_ (hK _ ?_) <;> clear hK <;> clear K
    · (first | exact trivial | omega | (simp only [In64] at *; omega) | (simp [In64] at *; omega) | (simp_all; done) | skip)
    refine qa (qm (qm ?_))
    refine hk_region fun K hK => runs_eval tab_ok ?_
    simp only [ev0, evA, evB, evP, fl, gp, tab, simprocAttr, reduceCtorEq, reduceIte]
    refine fin_run ?_ (hK _ ?_) <;> clear hK <;> clear K
    · (first | exact trivial | omega | (simp only [In64] at *; omega) | (simp [In64] at *; omega) | (simp_all; done) | skip)
    refine qa ?_
    refine hk_cond rfl (fun hC2 => ?_) (fun hC2 => ?_)
    · cases hC2
    · (try simp only [nhs] at hC2)
      refine qh (qa (qm (qm ?_)))
      by_cases hnp : n % p = 0
      · refine hk_region fun K hK => runs_eval tab_ok ?_
        simp only [ev0, evA, evB, evP, fl, gp, tab, simprocAttr, reduceCtorEq, reduceIte, tm_nat, hnp]
        refine fin_run ?_ (hK _ ?_) <;> clear hK <;> clear K
        · (first | exact trivial | omega | (simp only [In64] at *; omega) | (simp [In64] at *; omega) | (simp_all; done) | skip)
        refine qa ?_
        refine hk_cond rfl (fun hC3 => ?_) (fun hC3 => ?_)
        · cases hC3
        · refine qh (qa (qm (qm ?_)))
          by_cases g8a : (cf n m p f).1 = 0
          · by_cases g8b : (cf n m p h).1 = 0
            · refine hk_region fun K hK => runs_eval tab_ok ?_
              simp only [ev0, evA, evB, evP, fl, gp, tab, simprocAttr, reduceCtorEq, reduceIte, decide_eq_true g8a, decide_eq_true g8b]
              refine fin_stop trivial (runs_call (xcheck_ok hT hn hp f (by omega)) rfl rfl rfl (by simp only [dstOk, Nat.reduceLT]) (by repeat (first | exact trivial | constructor)) (runs_eval tab_ok ?_))
              simp only [ev0, evA, evB, evP, fl, gp, tab, simprocAttr, reduceCtorEq, reduceIte, decide_eq_true g8a, decide_eq_true g8b]
              refine fin_stop trivial (runs_call (xcheck_ok hT hn hp h (by omega)) rfl rfl rfl (by simp only [dstOk, Nat.reduceLT]) (by repeat (first | exact trivial | constructor)) (runs_eval tab_ok ?_))
              simp only [ev0, evA, evB, evP, fl, gp, tab, simprocAttr, reduceCtorEq, reduceIte, decide_eq_true g8a, decide_eq_true g8b]
              refine fin_run ?_ (hK _ ?_) <;> clear hK <;> clear K
              · (first | exact trivial | omega | (simp only [In64] at *; omega) | (simp [In64] at *; omega) | (simp_all; done) | skip)
              refine qa ?_
              refine hk_cond rfl (fun hC4 => ?_) (fun hC4 => ?_)
              · (try simp only [nhs] at hC4)
                exfalso
                have q1 := (cf_0 g8a).1
                have q2 := (cf_0 g8b).1
                omega
              · (try simp only [nhs] at hC4)
                have hf : (cf n m p f).1 = 0 := by simpa using g8a
                have hh : (cf n m p h).1 = 0 := by simpa using g8b
                obtain ⟨f1, f2, _, _⟩ := cf_0 hf
                obtain ⟨h1, h2, _, _⟩ := cf_0 hh
                have hz : (cf n m p (List.replicate (n * n) 0)).1 = 0 := by rw [hz1]
                have hsu := suL_cf hT hp hf hh
                have hs : (cf n m p (suL f h p (n * n))).1 = 0 := by rw [hsu]
                have hsl : ∀ k, (suL f h p k).length = k := fun k => rg_len _ _
                have F1 := saF_0 hf hz
                have F2' := saF_0 hh hz
                have F3 := saF_0 hs hz
                have F4 := saF_0 hs hf
                have hD := cop_D hT hp hf hh
                refine qh (qa (qm ?_))
                refine hk_region fun K hK => runs_eval tab_ok ?_
                simp only [ev0, evA, evB, evP, fl, gp, tab, simprocAttr, reduceCtorEq, reduceIte]
                refine fin_run trivial (hK _ ?_) <;> clear hK <;> clear K
                refine qa (qm (qm ?_))
                refine hk_own0 11 rfl ?_
                refine hk_region fun K hK => runs_eval tab_ok ?_
                simp only [ev0, evA, evB, evP, fl, gp, tab, simprocAttr, reduceCtorEq, reduceIte]
                refine fin_run trivial (hK _ ?_) <;> clear hK <;> clear K
                refine qa (ql ?_)
                refine hk_loop (ι := Nat) (fun k => ⟨179, [(1, .p (.int .i64 p)), (2, .p (.list (il f))), (3, .p (.list (il h))), (4, .ptr 0 0), (11, .sl 1 0 (suL f h p k).length), (12, .p (.int .i64 k))], [.own [.p (.int .i64 n), .p (.list (il m))], .own (ol (suL f h p k))]⟩) (fun k => k ≤ n * n) (fun k => n * n - k) 0 (Nat.zero_le _) [0, 3] (by simp only [leq, leA, ev0, evA, evB, evP, fl, gp, tab, simprocAttr, reduceCtorEq, reduceIte] <;> simp [suL, rg, ol_nil]) fun k hk => ?_
                refine qm (qm ?_)
                refine hk_region fun K hK => runs_eval tab_ok ?_
                simp only [ev0, evA, evB, evP, fl, gp, tab, simprocAttr, reduceCtorEq, reduceIte]
                refine fin_run trivial (hK _ ?_) <;> clear hK <;> clear K
                refine qa ?_
                refine hk_cond rfl (fun hC5 => ?_) (fun hC5 => ?_)
                · (try simp only [nhs] at hC5)
                  have hkl : k < n * n := by omega
                  have b1 := f2 k (by omega)
                  have b2 := h2 k (by omega)
                  have hl := hsl k
                  have tm : Int.tmod (f.getD k 0 + h.getD k 0) p = (f.getD k 0 + h.getD k 0) % (p : Int) := Int.tmod_eq_emod_of_nonneg (by omega)
                  refine qh (qa (qm (ql ?_)))
                  refine hk_draw mixed (by kernel_rfl) fun K hK => runs_eval tab_ok ?_
                  simp only [ev0, evA, evB, evP, fl, gp, tab, simprocAttr, reduceCtorEq, reduceIte, il_get (show k < f.length by omega), il_get (show k < h.length by omega), tm]
                  refine fin_run ?_ (hK _ ?_) <;> clear hK <;> clear K
                  · (first | exact trivial | omega | (simp only [In64] at *; omega) | (simp [In64] at *; omega) | (simp_all; done) | skip)
                  refine qd (qa ?_)
                  refine hk_region fun K hK => runs_eval tab_ok ?_
                  simp only [ev0, evA, evB, evP, fl, gp, tab, simprocAttr, reduceCtorEq, reduceIte]
                  refine fin_run ?_ (hK _ ?_) <;> clear hK <;> clear K
                  · (first | exact trivial | omega | (simp only [In64] at *; omega) | (simp [In64] at *; omega) | (simp_all; done) | skip)
                  refine qa ?_
                  refine ⟨k + 1, [0, 2], by omega, by omega, ?_⟩
                  rw [show suL f h p (k + 1) = suL f h p k ++ [(f.getD k 0 + h.getD k 0) % (p : Int)] from rg_succ _ _]
                  simp only [leq, leA, ev0, evA, evB, evP, fl, gp, tab, simprocAttr, reduceCtorEq, reduceIte] <;> first | trivial | omega
                · (try simp only [nhs] at hC5)
                  refine qj (qc (qc (qf (qa (qm ?_)))))
                  have hkn : k = n * n := by omega
                  subst hkn
                  refine hk_seal 11 1 (w := suL f h p (n * n)) rfl rfl ?_
                  refine hk_region fun K hK => runs_eval tab_ok ?_
                  simp only [ev0, evA, evB, evP, fl, gp, tab, simprocAttr, reduceCtorEq, reduceIte, ol_replicate, f1]
                  refine fin_run ?_ (hK _ ?_) <;> clear hK <;> clear K
                  · (first | exact trivial | omega | (simp only [In64] at *; omega) | (simp [In64] at *; omega) | (simp_all; done) | skip)
                  refine qa (qm ?_)
                  refine hk_seal 13 2 (w := List.replicate (n * n) 0) (by rw [List.length_replicate]; rfl) rfl ?_
                  refine hk_region fun K hK => runs_eval tab_ok ?_
                  simp only [ev0, evA, evB, evP, fl, gp, tab, simprocAttr, reduceCtorEq, reduceIte, F1]
                  refine fin_stop trivial (runs_call (same_ok hT hn hp f (List.replicate (n * n) 0) (by omega) (by simp; omega)) rfl rfl rfl (by simp only [dstOk, Nat.reduceLT]) (by repeat (first | exact trivial | constructor)) (runs_eval tab_ok ?_))
                  simp only [ev0, evA, evB, evP, fl, gp, tab, simprocAttr, reduceCtorEq, reduceIte, F1]
                  refine fin_run ?_ (hK _ ?_) <;> clear hK <;> clear K
                  · (first | exact trivial | omega | (simp only [In64] at *; omega) | (simp [In64] at *; omega) | (simp_all; done) | skip)
                  refine qa (qm ?_)
                  refine hk_region fun K hK => runs_eval tab_ok ?_
                  simp only [ev0, evA, evB, evP, fl, gp, tab, simprocAttr, reduceCtorEq, reduceIte, F2']
                  refine fin_stop trivial (runs_call (same_ok hT hn hp h (List.replicate (n * n) 0) (by omega) (by simp; omega)) rfl rfl rfl (by simp only [dstOk, Nat.reduceLT]) (by repeat (first | exact trivial | constructor)) (runs_eval tab_ok ?_))
                  simp only [ev0, evA, evB, evP, fl, gp, tab, simprocAttr, reduceCtorEq, reduceIte, F2']
                  refine fin_run ?_ (hK _ ?_) <;> clear hK <;> clear K
                  · (first | exact trivial | omega | (simp only [In64] at *; omega) | (simp [In64] at *; omega) | (simp_all; done) | skip)
                  refine qa (qm ?_)
                  refine hk_region fun K hK => runs_eval tab_ok ?_
                  simp only [ev0, evA, evB, evP, fl, gp, tab, simprocAttr, reduceCtorEq, reduceIte, F3]
                  refine fin_stop trivial (runs_call (same_ok hT hn hp (suL f h p (n * n)) (List.replicate (n * n) 0) (by rw [hsl]; omega) (by simp; omega)) rfl rfl rfl (by simp only [dstOk, Nat.reduceLT]) (by repeat (first | exact trivial | constructor)) (runs_eval tab_ok ?_))
                  simp only [ev0, evA, evB, evP, fl, gp, tab, simprocAttr, reduceCtorEq, reduceIte, F3]
                  refine fin_run ?_ (hK _ ?_) <;> clear hK <;> clear K
                  · (first | exact trivial | omega | (simp only [In64] at *; omega) | (simp [In64] at *; omega) | (simp_all; done) | skip)
                  refine qa (qm ?_)
                  refine hk_region fun K hK => runs_eval tab_ok ?_
                  simp only [ev0, evA, evB, evP, fl, gp, tab, simprocAttr, reduceCtorEq, reduceIte, F4]
                  refine fin_stop trivial (runs_call (same_ok hT hn hp (suL f h p (n * n)) f (by rw [hsl]; omega) (by omega)) rfl rfl rfl (by simp only [dstOk, Nat.reduceLT]) (by repeat (first | exact trivial | constructor)) (runs_eval tab_ok ?_))
                  simp only [ev0, evA, evB, evP, fl, gp, tab, simprocAttr, reduceCtorEq, reduceIte, F4]
                  refine fin_run ?_ (hK _ ?_) <;> clear hK <;> clear K
                  · (first | exact trivial | omega | (simp only [In64] at *; omega) | (simp [In64] at *; omega) | (simp_all; done) | skip)
                  refine qa (qm ?_)
                  cases hA : saB n m p f (List.replicate (n * n) 0)
                  · refine hk_region fun K hK => runs_eval tab_ok ?_
                    simp only [ev0, evA, evB, evP, fl, gp, tab, simprocAttr, reduceCtorEq, reduceIte, hsu, hD, hA, tm_nat, hnp, beq_self_eq_true, Bool.not_false, Bool.not_true]
                    refine fin_stop trivial (runs_call (xcheck_ok hT hn hp (suL f h p (n * n)) (by rw [hsl]; omega)) rfl rfl rfl (by simp only [dstOk, Nat.reduceLT]) (by repeat (first | exact trivial | constructor)) (runs_eval tab_ok ?_))
                    simp only [ev0, evA, evB, evP, fl, gp, tab, simprocAttr, reduceCtorEq, reduceIte, hsu, hD, hA, tm_nat, hnp, beq_self_eq_true, Bool.not_false, Bool.not_true]
                    refine fin_run ?_ (hK _ ?_) <;> clear hK <;> clear K
                    · (first | exact trivial | omega | (simp only [In64] at *; omega) | (simp [In64] at *; omega) | (simp_all; done) | skip)
                    refine qa (qk ?_)
                    simp only [Try.results3, enA, ev0, evA, evB, evP, fl, gp, tab, simprocAttr, reduceCtorEq, reduceIte]
                    all_goals ((first | exact rfl | exact ⟨rfl, rfl⟩ | exact ⟨rfl, rfl, rfl⟩ | exact ⟨trivial, rfl⟩ | exact ⟨Nat.le_refl _, rfl⟩ | trivial | (simp; done)))
                  · refine hk_region fun K hK => runs_eval tab_ok ?_
                    simp only [ev0, evA, evB, evP, fl, gp, tab, simprocAttr, reduceCtorEq, reduceIte, hsu, hD, cop_C hT hp hf hh hA, hA, tm_nat, hnp, beq_self_eq_true, Bool.not_false, Bool.not_true]
                    refine fin_stop trivial (runs_call (xcheck_ok hT hn hp (suL f h p (n * n)) (by rw [hsl]; omega)) rfl rfl rfl (by simp only [dstOk, Nat.reduceLT]) (by repeat (first | exact trivial | constructor)) (runs_eval tab_ok ?_))
                    simp only [ev0, evA, evB, evP, fl, gp, tab, simprocAttr, reduceCtorEq, reduceIte, hsu, hD, cop_C hT hp hf hh hA, hA, tm_nat, hnp, beq_self_eq_true, Bool.not_false, Bool.not_true]
                    refine fin_run ?_ (hK _ ?_) <;> clear hK <;> clear K
                    · (first | exact trivial | omega | (simp only [In64] at *; omega) | (simp [In64] at *; omega) | (simp_all; done) | skip)
                    refine qa (qk ?_)
                    simp only [Try.results3, enA, ev0, evA, evB, evP, fl, gp, tab, simprocAttr, reduceCtorEq, reduceIte]
                    all_goals ((first | exact rfl | exact ⟨rfl, rfl⟩ | exact ⟨rfl, rfl, rfl⟩ | exact ⟨trivial, rfl⟩ | exact ⟨Nat.le_refl _, rfl⟩ | trivial | (simp; done)))
            · refine hk_region fun K hK => runs_eval tab_ok ?_
              simp only [ev0, evA, evB, evP, fl, gp, tab, simprocAttr, reduceCtorEq, reduceIte, decide_eq_true g8a, decide_eq_false g8b]
              refine fin_stop trivial (runs_call (xcheck_ok hT hn hp f (by omega)) rfl rfl rfl (by simp only [dstOk, Nat.reduceLT]) (by repeat (first | exact trivial | constructor)) (runs_eval tab_ok ?_))
              simp only [ev0, evA, evB, evP, fl, gp, tab, simprocAttr, reduceCtorEq, reduceIte, decide_eq_true g8a, decide_eq_false g8b]
              refine fin_stop trivial (runs_call (xcheck_ok hT hn hp h (by omega)) rfl rfl rfl (by simp only [dstOk, Nat.reduceLT]) (by repeat (first | exact trivial | constructor)) (runs_eval tab_ok ?_))
              simp only [ev0, evA, evB, evP, fl, gp, tab, simprocAttr, reduceCtorEq, reduceIte, decide_eq_true g8a, decide_eq_false g8b]
              refine fin_run ?_ (hK _ ?_) <;> clear hK <;> clear K
              · (first | exact trivial | omega | (simp only [In64] at *; omega) | (simp [In64] at *; omega) | (simp_all; done) | skip)
              refine qa ?_
              refine hk_cond rfl (fun hC4 => ?_) (fun hC4 => ?_)
              · refine qm ?_
                refine hk_region fun K hK => runs_eval tab_ok ?_
                simp only [ev0, evA, evB, evP, fl, gp, tab, simprocAttr, reduceCtorEq, reduceIte]
                refine fin_run trivial (hK _ ?_) <;> clear hK <;> clear K
                refine qa (qk (qb ?_))
                simp only [Try.results3, enA, ev0, evA, evB, evP, fl, gp, tab, simprocAttr, reduceCtorEq, reduceIte]
                all_goals ((first | exact rfl | exact ⟨rfl, rfl⟩ | exact ⟨rfl, rfl, rfl⟩ | exact ⟨trivial, rfl⟩ | exact ⟨Nat.le_refl _, rfl⟩ | trivial | (simp; done)))
              · cases hC4
          · refine hk_region fun K hK => runs_eval tab_ok ?_
            simp only [ev0, evA, evB, evP, fl, gp, tab, simprocAttr, reduceCtorEq, reduceIte, decide_eq_false g8a]
            refine fin_stop trivial (runs_call (xcheck_ok hT hn hp f (by omega)) rfl rfl rfl (by simp only [dstOk, Nat.reduceLT]) (by repeat (first | exact trivial | constructor)) (runs_eval tab_ok ?_))
            simp only [ev0, evA, evB, evP, fl, gp, tab, simprocAttr, reduceCtorEq, reduceIte, decide_eq_false g8a]
            refine fin_run ?_ (hK _ ?_) <;> clear hK <;> clear K
            · (first | exact trivial | omega | (simp only [In64] at *; omega) | (simp [In64] at *; omega) | (simp_all; done) | skip)
            refine qa ?_
            refine hk_cond rfl (fun hC4 => ?_) (fun hC4 => ?_)
            · refine qm ?_
              refine hk_region fun K hK => runs_eval tab_ok ?_
              simp only [ev0, evA, evB, evP, fl, gp, tab, simprocAttr, reduceCtorEq, reduceIte]
              refine fin_run trivial (hK _ ?_) <;> clear hK <;> clear K
              refine qa (qk (qb ?_))
              simp only [Try.results3, enA, ev0, evA, evB, evP, fl, gp, tab, simprocAttr, reduceCtorEq, reduceIte]
              all_goals ((first | exact rfl | exact ⟨rfl, rfl⟩ | exact ⟨rfl, rfl, rfl⟩ | exact ⟨trivial, rfl⟩ | exact ⟨Nat.le_refl _, rfl⟩ | trivial | (simp; done)))
            · cases hC4
      · obtain ⟨hs1, hs2⟩ := sizes_cop hT hp hnp
        refine hk_region fun K hK => runs_eval tab_ok ?_
        simp only [ev0, evA, evB, evP, fl, gp, tab, simprocAttr, reduceCtorEq, reduceIte, tm_nat, hnp, hs1, hs2, Int.natCast_eq_zero]
        refine fin_run ?_ (hK _ ?_) <;> clear hK <;> clear K
        · (first | exact trivial | omega | (simp only [In64] at *; omega) | (simp [In64] at *; omega) | (simp_all; done) | skip)
        refine qa ?_
        refine hk_cond rfl (fun hC3 => ?_) (fun hC3 => ?_)
        · cases hC3
        · (try simp only [nhs] at hC3)
          refine qh (qa (qm (qm ?_)))
          by_cases g8a : (cf n m p f).1 = 0
          · by_cases g8b : (cf n m p h).1 = 0
            · refine hk_region fun K hK => runs_eval tab_ok ?_
              simp only [ev0, evA, evB, evP, fl, gp, tab, simprocAttr, reduceCtorEq, reduceIte, decide_eq_true g8a, decide_eq_true g8b]
              refine fin_stop trivial (runs_call (xcheck_ok hT hn hp f (by omega)) rfl rfl rfl (by simp only [dstOk, Nat.reduceLT]) (by repeat (first | exact trivial | constructor)) (runs_eval tab_ok ?_))
              simp only [ev0, evA, evB, evP, fl, gp, tab, simprocAttr, reduceCtorEq, reduceIte, decide_eq_true g8a, decide_eq_true g8b]
              refine fin_stop trivial (runs_call (xcheck_ok hT hn hp h (by omega)) rfl rfl rfl (by simp only [dstOk, Nat.reduceLT]) (by repeat (first | exact trivial | constructor)) (runs_eval tab_ok ?_))
              simp only [ev0, evA, evB, evP, fl, gp, tab, simprocAttr, reduceCtorEq, reduceIte, decide_eq_true g8a, decide_eq_true g8b]
              refine fin_run ?_ (hK _ ?_) <;> clear hK <;> clear K
              · (first | exact trivial | omega | (simp only [In64] at *; omega) | (simp [In64] at *; omega) | (simp_all; done) | skip)
              refine qa ?_
              refine hk_cond rfl (fun hC4 => ?_) (fun hC4 => ?_)
              · (try simp only [nhs] at hC4)
                exfalso
                have q1 := (cf_0 g8a).1
                have q2 := (cf_0 g8b).1
                omega
              · (try simp only [nhs] at hC4)
                have hf : (cf n m p f).1 = 0 := by simpa using g8a
                have hh : (cf n m p h).1 = 0 := by simpa using g8b
                obtain ⟨f1, f2, _, _⟩ := cf_0 hf
                obtain ⟨h1, h2, _, _⟩ := cf_0 hh
                have hz : (cf n m p (List.replicate (n * n) 0)).1 = 0 := by rw [hz1]
                have hsu := suL_cf hT hp hf hh
                have hs : (cf n m p (suL f h p (n * n))).1 = 0 := by rw [hsu]
                have hsl : ∀ k, (suL f h p k).length = k := fun k => rg_len _ _
                have F1 := saF_0 hf hz
                have F2' := saF_0 hh hz
                have F3 := saF_0 hs hz
                have F4 := saF_0 hs hf
                have hD := cop_D hT hp hf hh
                refine qh (qa (qm ?_))
                refine hk_region fun K hK => runs_eval tab_ok ?_
                simp only [ev0, evA, evB, evP, fl, gp, tab, simprocAttr, reduceCtorEq, reduceIte]
                refine fin_run trivial (hK _ ?_) <;> clear hK <;> clear K
                refine qa (qm (qm ?_))
                refine hk_own0 11 rfl ?_
                refine hk_region fun K hK => runs_eval tab_ok ?_
                simp only [ev0, evA, evB, evP, fl, gp, tab, simprocAttr, reduceCtorEq, reduceIte]
                refine fin_run trivial (hK _ ?_) <;> clear hK <;> clear K
                refine qa (ql ?_)
                refine hk_loop (ι := Nat) (fun k => ⟨179, [(1, .p (.int .i64 p)), (2, .p (.list (il f))), (3, .p (.list (il h))), (4, .ptr 0 0), (11, .sl 1 0 (suL f h p k).length), (12, .p (.int .i64 k))], [.own [.p (.int .i64 n), .p (.list (il m))], .own (ol (suL f h p k))]⟩) (fun k => k ≤ n * n) (fun k => n * n - k) 0 (Nat.zero_le _) [0, 3] (by simp only [leq, leA, ev0, evA, evB, evP, fl, gp, tab, simprocAttr, reduceCtorEq, reduceIte] <;> simp [suL, rg, ol_nil]) fun k hk => ?_
                refine qm (qm ?_)
                refine hk_region fun K hK => runs_eval tab_ok ?_
                simp only [ev0, evA, evB, evP, fl, gp, tab, simprocAttr, reduceCtorEq, reduceIte]
                refine fin_run trivial (hK _ ?_) <;> clear hK <;> clear K
                refine qa ?_
                refine hk_cond rfl (fun hC5 => ?_) (fun hC5 => ?_)
                · (try simp only [nhs] at hC5)
                  have hkl : k < n * n := by omega
                  have b1 := f2 k (by omega)
                  have b2 := h2 k (by omega)
                  have hl := hsl k
                  have tm : Int.tmod (f.getD k 0 + h.getD k 0) p = (f.getD k 0 + h.getD k 0) % (p : Int) := Int.tmod_eq_emod_of_nonneg (by omega)
                  refine qh (qa (qm (ql ?_)))
                  refine hk_draw mixed (by kernel_rfl) fun K hK => runs_eval tab_ok ?_
                  simp only [ev0, evA, evB, evP, fl, gp, tab, simprocAttr, reduceCtorEq, reduceIte, il_get (show k < f.length by omega), il_get (show k < h.length by omega), tm]
                  refine fin_run ?_ (hK _ ?_) <;> clear hK <;> clear K
                  · (first | exact trivial | omega | (simp only [In64] at *; omega) | (simp [In64] at *; omega) | (simp_all; done) | skip)
                  refine qd (qa ?_)
                  refine hk_region fun K hK => runs_eval tab_ok ?_
                  simp only [ev0, evA, evB, evP, fl, gp, tab, simprocAttr, reduceCtorEq, reduceIte]
                  refine fin_run ?_ (hK _ ?_) <;> clear hK <;> clear K
                  · (first | exact trivial | omega | (simp only [In64] at *; omega) | (simp [In64] at *; omega) | (simp_all; done) | skip)
                  refine qa ?_
                  refine ⟨k + 1, [0, 2], by omega, by omega, ?_⟩
                  rw [show suL f h p (k + 1) = suL f h p k ++ [(f.getD k 0 + h.getD k 0) % (p : Int)] from rg_succ _ _]
                  simp only [leq, leA, ev0, evA, evB, evP, fl, gp, tab, simprocAttr, reduceCtorEq, reduceIte] <;> first | trivial | omega
                · (try simp only [nhs] at hC5)
                  refine qj (qc (qc (qf (qa (qm ?_)))))
                  have hkn : k = n * n := by omega
                  subst hkn
                  refine hk_seal 11 1 (w := suL f h p (n * n)) rfl rfl ?_
                  refine hk_region fun K hK => runs_eval tab_ok ?_
                  simp only [ev0, evA, evB, evP, fl, gp, tab, simprocAttr, reduceCtorEq, reduceIte, ol_replicate, f1]
                  refine fin_run ?_ (hK _ ?_) <;> clear hK <;> clear K
                  · (first | exact trivial | omega | (simp only [In64] at *; omega) | (simp [In64] at *; omega) | (simp_all; done) | skip)
                  refine qa (qm ?_)
                  refine hk_seal 13 2 (w := List.replicate (n * n) 0) (by rw [List.length_replicate]; rfl) rfl ?_
                  refine hk_region fun K hK => runs_eval tab_ok ?_
                  simp only [ev0, evA, evB, evP, fl, gp, tab, simprocAttr, reduceCtorEq, reduceIte, F1]
                  refine fin_stop trivial (runs_call (same_ok hT hn hp f (List.replicate (n * n) 0) (by omega) (by simp; omega)) rfl rfl rfl (by simp only [dstOk, Nat.reduceLT]) (by repeat (first | exact trivial | constructor)) (runs_eval tab_ok ?_))
                  simp only [ev0, evA, evB, evP, fl, gp, tab, simprocAttr, reduceCtorEq, reduceIte, F1]
                  refine fin_run ?_ (hK _ ?_) <;> clear hK <;> clear K
                  · (first | exact trivial | omega | (simp only [In64] at *; omega) | (simp [In64] at *; omega) | (simp_all; done) | skip)
                  refine qa (qm ?_)
                  refine hk_region fun K hK => runs_eval tab_ok ?_
                  simp only [ev0, evA, evB, evP, fl, gp, tab, simprocAttr, reduceCtorEq, reduceIte, F2']
                  refine fin_stop trivial (runs_call (same_ok hT hn hp h (List.replicate (n * n) 0) (by omega) (by simp; omega)) rfl rfl rfl (by simp only [dstOk, Nat.reduceLT]) (by repeat (first | exact trivial | constructor)) (runs_eval tab_ok ?_))
                  simp only [ev0, evA, evB, evP, fl, gp, tab, simprocAttr, reduceCtorEq, reduceIte, F2']
                  refine fin_run ?_ (hK _ ?_) <;> clear hK <;> clear K
                  · (first | exact trivial | omega | (simp only [In64] at *; omega) | (simp [In64] at *; omega) | (simp_all; done) | skip)
                  refine qa (qm ?_)
                  refine hk_region fun K hK => runs_eval tab_ok ?_
                  simp only [ev0, evA, evB, evP, fl, gp, tab, simprocAttr, reduceCtorEq, reduceIte, F3]
                  refine fin_stop trivial (runs_call (same_ok hT hn hp (suL f h p (n * n)) (List.replicate (n * n) 0) (by rw [hsl]; omega) (by simp; omega)) rfl rfl rfl (by simp only [dstOk, Nat.reduceLT]) (by repeat (first | exact trivial | constructor)) (runs_eval tab_ok ?_))
                  simp only [ev0, evA, evB, evP, fl, gp, tab, simprocAttr, reduceCtorEq, reduceIte, F3]
                  refine fin_run ?_ (hK _ ?_) <;> clear hK <;> clear K
                  · (first | exact trivial | omega | (simp only [In64] at *; omega) | (simp [In64] at *; omega) | (simp_all; done) | skip)
                  refine qa (qm ?_)
                  refine hk_region fun K hK => runs_eval tab_ok ?_
                  simp only [ev0, evA, evB, evP, fl, gp, tab, simprocAttr, reduceCtorEq, reduceIte, F4]
                  refine fin_stop trivial (runs_call (same_ok hT hn hp (suL f h p (n * n)) f (by rw [hsl]; omega) (by omega)) rfl rfl rfl (by simp only [dstOk, Nat.reduceLT]) (by repeat (first | exact trivial | constructor)) (runs_eval tab_ok ?_))
                  simp only [ev0, evA, evB, evP, fl, gp, tab, simprocAttr, reduceCtorEq, reduceIte, F4]
                  refine fin_run ?_ (hK _ ?_) <;> clear hK <;> clear K
                  · (first | exact trivial | omega | (simp only [In64] at *; omega) | (simp [In64] at *; omega) | (simp_all; done) | skip)
                  refine qa (qm ?_)
                  have hA := cop_A hT hp hf hnp
                  refine hk_region fun K hK => runs_eval tab_ok ?_
                  simp only [ev0, evA, evB, evP, fl, gp, tab, simprocAttr, reduceCtorEq, reduceIte, hsu, hD, cop_C hT hp hf hh hA, hA, tm_nat, hnp, Int.natCast_eq_zero, beq_self_eq_true, Bool.not_false, Bool.not_true]
                  refine fin_stop trivial (runs_call (xcheck_ok hT hn hp (suL f h p (n * n)) (by rw [hsl]; omega)) rfl rfl rfl (by simp only [dstOk, Nat.reduceLT]) (by repeat (first | exact trivial | constructor)) (runs_eval tab_ok ?_))
                  simp only [ev0, evA, evB, evP, fl, gp, tab, simprocAttr, reduceCtorEq, reduceIte, hsu, hD, cop_C hT hp hf hh hA, hA, tm_nat, hnp, Int.natCast_eq_zero, beq_self_eq_true, Bool.not_false, Bool.not_true]
                  refine fin_run ?_ (hK _ ?_) <;> clear hK <;> clear K
                  · (first | exact trivial | omega | (simp only [In64] at *; omega) | (simp [In64] at *; omega) | (simp_all; done) | skip)
                  refine qa (qk ?_)
                  simp only [Try.results3, enA, ev0, evA, evB, evP, fl, gp, tab, simprocAttr, reduceCtorEq, reduceIte]
                  all_goals ((first | exact rfl | exact ⟨rfl, rfl⟩ | exact ⟨rfl, rfl, rfl⟩ | exact ⟨trivial, rfl⟩ | exact ⟨Nat.le_refl _, rfl⟩ | trivial | (simp; done)))
            · refine hk_region fun K hK => runs_eval tab_ok ?_
              simp only [ev0, evA, evB, evP, fl, gp, tab, simprocAttr, reduceCtorEq, reduceIte, decide_eq_true g8a, decide_eq_false g8b]
              refine fin_stop trivial (runs_call (xcheck_ok hT hn hp f (by omega)) rfl rfl rfl (by simp only [dstOk, Nat.reduceLT]) (by repeat (first | exact trivial | constructor)) (runs_eval tab_ok ?_))
              simp only [ev0, evA, evB, evP, fl, gp, tab, simprocAttr, reduceCtorEq, reduceIte, decide_eq_true g8a, decide_eq_false g8b]
              refine fin_stop trivial (runs_call (xcheck_ok hT hn hp h (by omega)) rfl rfl rfl (by simp only [dstOk, Nat.reduceLT]) (by repeat (first | exact trivial | constructor)) (runs_eval tab_ok ?_))
              simp only [ev0, evA, evB, evP, fl, gp, tab, simprocAttr, reduceCtorEq, reduceIte, decide_eq_true g8a, decide_eq_false g8b]
              refine fin_run ?_ (hK _ ?_) <;> clear hK <;> clear K
              · (first | exact trivial | omega | (simp only [In64] at *; omega) | (simp [In64] at *; omega) | (simp_all; done) | skip)
              refine qa ?_
              refine hk_cond rfl (fun hC4 => ?_) (fun hC4 => ?_)
              · refine qm ?_
                refine hk_region fun K hK => runs_eval tab_ok ?_
                simp only [ev0, evA, evB, evP, fl, gp, tab, simprocAttr, reduceCtorEq, reduceIte]
                refine fin_run trivial (hK _ ?_) <;> clear hK <;> clear K
                refine qa (qk (qb ?_))
                simp only [Try.results3, enA, ev0, evA, evB, evP, fl, gp, tab, simprocAttr, reduceCtorEq, reduceIte]
                all_goals ((first | exact rfl | exact ⟨rfl, rfl⟩ | exact ⟨rfl, rfl, rfl⟩ | exact ⟨trivial, rfl⟩ | exact ⟨Nat.le_refl _, rfl⟩ | trivial | (simp; done)))
              · cases hC4
          · refine hk_region fun K hK => runs_eval tab_ok ?_
            simp only [ev0, evA, evB, evP, fl, gp, tab, simprocAttr, reduceCtorEq, reduceIte, decide_eq_false g8a]
            refine fin_stop trivial (runs_call (xcheck_ok hT hn hp f (by omega)) rfl rfl rfl (by simp only [dstOk, Nat.reduceLT]) (by repeat (first | exact trivial | constructor)) (runs_eval tab_ok ?_))
            simp only [ev0, evA, evB, evP, fl, gp, tab, simprocAttr, reduceCtorEq, reduceIte, decide_eq_false g8a]
            refine fin_run ?_ (hK _ ?_) <;> clear hK <;> clear K
            · (first | exact trivial | omega | (simp only [In64] at *; omega) | (simp [In64] at *; omega) | (simp_all; done) | skip)
            refine qa ?_
            refine hk_cond rfl (fun hC4 => ?_) (fun hC4 => ?_)
            · refine qm ?_
              refine hk_region fun K hK => runs_eval tab_ok ?_
              simp only [ev0, evA, evB, evP, fl, gp, tab, simprocAttr, reduceCtorEq, reduceIte]
              refine fin_run trivial (hK _ ?_) <;> clear hK <;> clear K
              refine qa (qk (qb ?_))
              simp only [Try.results3, enA, ev0, evA, evB, evP, fl, gp, tab, simprocAttr, reduceCtorEq, reduceIte]
              all_goals ((first | exact rfl | exact ⟨rfl, rfl⟩ | exact ⟨rfl, rfl, rfl⟩ | exact ⟨trivial, rfl⟩ | exact ⟨Nat.le_refl _, rfl⟩ | trivial | (simp; done)))
            · cases hC4

theorem extCop_c (N : Int) (m : List Int) (p : Int) (f h : List Int) (hm : m.length ≤ 17592186043904) (hl : f.length ≤ 17592186043904) (hl2 : h.length ≤ 17592186043904) : FnC Try.prog 3 [gp N m, .int .i64 p, .list (il f), .list (il h)] (.bool true) := by
  by_cases hx : (xf N m p).1 = 0
  · obtain ⟨n, e, q, h', hn, rfl, hq, _⟩ := xf_ok hx
    obtain rfl := h'.1
    exact extCop_2 h' hn hq f h hl hl2
  · exact extCop_1 N m p f h hm hx

end Go.Proofs.Ythdmioeddgednaa
