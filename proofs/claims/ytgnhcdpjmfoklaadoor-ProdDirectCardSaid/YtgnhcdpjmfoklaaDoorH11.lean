/-
  Walks: together. Conditions: none.
-/
import Derived.Test.YtgnhcdpjmfoklaaDoorH10
import Derived.Test.YtgnhcdpjmfoklaaDoorH12
set_option linter.all false
namespace Go.Proofs.YtgnhcdpjmfoklaaDoor
open Go.Pv

theorem hownG_c (w : List Int) (hl : w.length ≤ 1000000000) : FnG Tryd.prog 21 [.list (il w)] (.sl 0 0 w.length) [.own (opl (il w))] := by
  refine fng_of tab_ok Tryd.func21 rfl (by kernel_rfl) (by rw [Tryd.ntmps21]; exact Nat.le_add_left 1 _) ?_; rw [Tryd.ntmps21]
  refine qm ?_
  refine hk_region fun K hK => runs_eval tab_ok ?_
  simp only [ev0, evA, evB, evP, fl, gp, tab, simprocAttr, reduceCtorEq, reduceIte]
  refine fin_run trivial (hK _ ?_) <;> clear hK <;> clear K
  refine qa (qm ?_)
  refine hk_region fun K hK => runs_eval tab_ok ?_
  simp only [ev0, evA, evB, evP, fl, gp, tab, simprocAttr, reduceCtorEq, reduceIte]
  refine fin_run ?_ (hK _ ?_) <;> clear hK <;> clear K
  · (first | exact trivial | omega | (simp only [In64] at *; omega) | (simp [In64] at *; omega) | (simp_all; done) | skip)
  refine qa (qk ?_)
  simp only [Tryd.results21, PostG, endG, rvsA, rvA, mkTup, ev0, evA, evB, evP, fl, gp, tab, simprocAttr, reduceCtorEq, reduceIte]
  all_goals (exact ⟨[0], rfl, rfl, by simp only [leq, leA, ev0, evA, evB, evP, fl, gp, tab, simprocAttr, reduceCtorEq, reduceIte] <;> first | trivial | omega⟩)
theorem hoil_ok (w : List Int) : (opl (il w)).all cellOk = true := opl_ok (il_all w)
theorem ol_opl (w : List Int) : ol w = opl (il w) := rfl

set_option maxHeartbeats 4000000 in
theorem together_c {n e : Nat} {m : List Int} (h : GT n m n e) {p q : Nat → Bool} (hp : Sub n (op m n) e p) (hq : Sub n (op m n) e q) (b : Bool) (hbs : b = true ↔ (mem n p).length * (mem n q).length = n ∧ (mem n fun x => p x && q x).length = 1 ∧ Cmm n (op m n) p q) : FnC Tryd.prog 26 [gp n m, .list (il (thl n p)), .list (il (thl n q))] (.bool b) := by
  have G := h.2.2
  have hb := h.2.1.big
  have lp := thl_le n p
  have lq := thl_le n q
  have lm := thl_le n fun x => p x && q x
  have em : (mem n fun x => p x && q x).length = (thl n fun x => p x && q x).length := (thl_len n _).symm
  rw [em] at hbs
  obtain ⟨Q, hQ⟩ := gen_ex n (op m n) e (fun a => p a || q a)
  have hsp : ∀ a, a < n → (Q a = true ↔ Gen n (op m n) e (tst (thl n p ++ thl n q)) a) := fun a ha => by
    rw [hQ a ha]
    have key : ∀ c, c < n → tst (thl n p ++ thl n q) c = (p c || q c) := fun c hc => by
      unfold tst
      rw [Bool.eq_iff_iff, decide_eq_true_eq, List.mem_append, mem_thl_n hc, mem_thl_n hc, Bool.or_eq_true]
    exact ⟨fun h1 => Gen.mono (fun c hc h2 => by rw [key c hc]; exact h2) h1, fun h1 => Gen.mono (fun c hc h2 => by rw [key c hc] at h2; exact h2) h1⟩
  have hrn : ∀ x ∈ thl n p ++ thl n q, ∃ a, a < n ∧ x = ((a : Nat) : Int) := fun x hx => by
    rw [List.mem_append] at hx
    rcases hx with hx | hx
    · obtain ⟨a, a1, _, a3⟩ := mem_thl.1 hx; exact ⟨a, a1, a3⟩
    · obtain ⟨a, a1, _, a3⟩ := mem_thl.1 hx; exact ⟨a, a1, a3⟩
  have hll : (thl n p ++ thl n q).length = (thl n p).length + (thl n q).length := List.length_append
  have lQ := thl_le n Q
  have eQ : (mem n Q).length = (thl n Q).length := (thl_len n Q).symm
  have hlen : Cmm n (op m n) p q → (thl n fun x => p x && q x).length = 1 → (thl n Q).length = (mem n p).length * (mem n q).length := fun h1 h2 => by
    rw [← eQ]
    exact G.dir_len hp hq h1 (by rw [em]; exact h2) hQ
  refine fnc_of tab_ok Tryd.func26 rfl (by kernel_rfl) (by rw [Tryd.ntmps26]; exact Nat.le_add_left 3 _) ?_; rw [Tryd.ntmps26]
  refine qm ?_
  refine hk_region fun K hK => runs_eval tab_ok ?_
  simp only [ev0, evA, evB, evP, fl, gp, tab, simprocAttr, reduceCtorEq, reduceIte]
  refine fin_run ?_ (hK _ ?_) <;> clear hK <;> clear K
  · (first | exact trivial | omega | (simp only [In64] at *; omega) | (simp [In64] at *; omega) | (simp_all; done) | skip)
  refine qa (qm (qm ?_))
  by_cases k1 : (thl n fun x => p x && q x).length = 1
  · refine hk_draw2 mixed fun K hK => runs2_eval tab_ok ?_
    simp only [evD, ev0, evA, evB, evP, fl, gp, tab, simprocAttr, reduceCtorEq, reduceIte, il_length, bth_thl, ol_opl, hoil_ok, decide_eq_true (show ((thl n fun x => p x && q x).length : Int) = 1 by omega)]
    refine fin2_stop trivial (runs2_call (both_c (thl n p) (thl n q) (by omega) (by omega)) rfl rfl rfl rfl (by simp only [dstOk, Nat.reduceLT]) (by repeat (first | exact trivial | constructor)) (runs2_eval tab_ok ?_))
    simp only [evD, ev0, evA, evB, evP, fl, gp, tab, simprocAttr, reduceCtorEq, reduceIte, il_length, bth_thl, ol_opl, hoil_ok, decide_eq_true (show ((thl n fun x => p x && q x).length : Int) = 1 by omega)]
    refine fin2_stop ?_ (runs2_callG (hownG_c (thl n p) (by omega)) rfl rfl rfl (by simp only [dstOk, Nat.reduceLT]) (by repeat (first | exact trivial | constructor)) (runs2_eval tab_ok ?_))
    · (first | exact trivial | omega | (simp only [In64] at *; omega) | (simp [In64] at *; omega) | (simp_all; done) | skip)
    simp only [evD, ev0, evA, evB, evP, fl, gp, tab, simprocAttr, reduceCtorEq, reduceIte, il_length, bth_thl, ol_opl, hoil_ok, decide_eq_true (show ((thl n fun x => p x && q x).length : Int) = 1 by omega)]
    refine fin2_stop ?_ (runs2_callK 2 (span_c h (thl n p ++ thl n q) (by omega) hrn Q hsp) rfl rfl (by first | exact ol_allP _ | exact opl_allP _ | (simp only [List.drop_zero, il_append, il_take, take_app2, ol_opl, il_length]; exact opl_allP _)) (by simp only [callA, List.map_cons, List.map_nil, enA, ev0, evA, evB, evP, fl, gp, tab, simprocAttr, reduceCtorEq, reduceIte, List.drop_zero, il_append, il_take, take_app2, ol_opl, il_length, il_all]; rfl) rfl (by simp only [dstOk, Nat.reduceLT]) (by repeat (first | exact trivial | (simp [il_length, List.length_append]; done) | constructor)) (runs2_eval tab_ok ?_))
    · (first | exact trivial | omega | (simp only [In64] at *; omega) | (simp [In64] at *; omega) | (simp_all; done) | skip)
    simp only [evD, ev0, evA, evB, evP, fl, gp, tab, simprocAttr, reduceCtorEq, reduceIte, il_length, bth_thl, ol_opl, hoil_ok, decide_eq_true (show ((thl n fun x => p x && q x).length : Int) = 1 by omega)]
    refine fin2_run ?_ (hK _ _ (by first | kernel_rfl | rfl) ?_) <;> clear hK <;> clear K
    · (first | exact trivial | omega | (simp only [In64] at *; omega) | (simp [In64] at *; omega) | (simp_all; done) | skip)
    refine qa ?_
    refine hk_cond rfl (fun hC1 => ?_) (fun hC1 => ?_)
    · (try simp only [nhs] at hC1)
      refine qm ?_
      refine hk_region fun K hK => runs_eval tab_ok ?_
      simp only [ev0, evA, evB, evP, fl, gp, tab, simprocAttr, reduceCtorEq, reduceIte]
      refine fin_run trivial (hK _ ?_) <;> clear hK <;> clear K
      refine qa (qk (qb ?_))
      simp only [Tryd.results26, enA, ev0, evA, evB, evP, fl, gp, tab, simprocAttr, reduceCtorEq, reduceIte]
      have hbf : b = false := by
        cases b with
        | false => rfl
        | true =>
          have := hbs.1 rfl
          have h2 := hlen this.2.2 k1
          omega
      rw [hbf]
    · (try simp only [nhs] at hC1)
      refine qh (qa (qm (qm ?_)))
      refine hk_region fun K hK => runs_eval tab_ok ?_
      simp only [ev0, evA, evB, evP, fl, gp, tab, simprocAttr, reduceCtorEq, reduceIte]
      refine fin_run trivial (hK _ ?_) <;> clear hK <;> clear K
      refine qa (ql ?_)
      refine hk_loop (ι := Nat) (fun i => ⟨59, [(1, .p (.list (il (thl n p)))), (2, .p (.list (il (thl n q)))), (3, .ptr 0 0), (7, .p (.int .i64 i))], [.own [.p (.int .i64 n), .p (.list (il m))]]⟩) (fun i => i ≤ (thl n p).length ∧ ∀ a b k, a < n → b < n → k < i → (thl n p).getD k 0 = (a : Int) → q b = true → op m n a b = op m n b a) (fun i => (thl n p).length - i) 0 ⟨Nat.zero_le _, fun a b k _ _ hk => by omega⟩ [0] (by simp only [leq, leA, ev0, evA, evB, evP, fl, gp, tab, simprocAttr, reduceCtorEq, reduceIte] <;> trivial) fun i hi => ?_
      obtain ⟨hi1, hi2⟩ := hi
      refine qm (qm ?_)
      refine hk_region fun K hK => runs_eval tab_ok ?_
      simp only [ev0, evA, evB, evP, fl, gp, tab, simprocAttr, reduceCtorEq, reduceIte, il_length]
      refine fin_run trivial (hK _ ?_) <;> clear hK <;> clear K
      refine qa ?_
      refine hk_cond rfl (fun hC2 => ?_) (fun hC2 => ?_)
      · (try simp only [nhs] at hC2)
        have hlt : i < (thl n p).length := by omega
        obtain ⟨x, x1, x2, x3⟩ := thl_get hlt
        refine qh (qa (qm (ql (qm ?_))))
        refine hk_region fun K hK => runs_eval tab_ok ?_
        simp only [ev0, evA, evB, evP, fl, gp, tab, simprocAttr, reduceCtorEq, reduceIte]
        refine fin_run trivial (hK _ ?_) <;> clear hK <;> clear K
        refine qa (ql ?_)
        refine hk_loop (ι := Nat) (fun j => ⟨59, [(1, .p (.list (il (thl n p)))), (2, .p (.list (il (thl n q)))), (3, .ptr 0 0), (7, .p (.int .i64 i)), (8, .p (.int .i64 j))], [.own [.p (.int .i64 n), .p (.list (il m))]]⟩) (fun j => j ≤ (thl n q).length ∧ ∀ b k, b < n → k < j → (thl n q).getD k 0 = (b : Int) → op m n x b = op m n b x) (fun j => (thl n q).length - j) 0 ⟨Nat.zero_le _, fun b k _ hk => by omega⟩ [0] (by simp only [leq, leA, ev0, evA, evB, evP, fl, gp, tab, simprocAttr, reduceCtorEq, reduceIte] <;> trivial) fun j hj => ?_
        obtain ⟨hj1, hj2⟩ := hj
        refine qm (qm ?_)
        refine hk_region fun K hK => runs_eval tab_ok ?_
        simp only [ev0, evA, evB, evP, fl, gp, tab, simprocAttr, reduceCtorEq, reduceIte, il_length]
        refine fin_run trivial (hK _ ?_) <;> clear hK <;> clear K
        refine qa ?_
        refine hk_cond rfl (fun hC3 => ?_) (fun hC3 => ?_)
        · (try simp only [nhs] at hC3)
          have hjl : j < (thl n q).length := by omega
          obtain ⟨y, y1, y2, y3⟩ := thl_get hjl
          refine qh (qa (qm (ql (qm ?_))))
          refine hk_draw mixed (by kernel_rfl) fun K hK => runs_eval tab_ok ?_
          simp only [ev0, evA, evB, evP, fl, gp, tab, simprocAttr, reduceCtorEq, reduceIte, il_length, il_get hlt, x3, il_get hjl, y3]
          refine fin_stop ?_ (runs_call (m_c h.2.1 x1 y1) rfl rfl rfl (by simp only [dstOk, Nat.reduceLT]) (by repeat (first | exact trivial | constructor)) (runs_eval tab_ok ?_))
          · (first | exact trivial | omega | (simp only [In64] at *; omega) | (simp [In64] at *; omega) | (simp_all; done) | skip)
          simp only [ev0, evA, evB, evP, fl, gp, tab, simprocAttr, reduceCtorEq, reduceIte, il_length, il_get hlt, x3, il_get hjl, y3]
          refine fin_stop ?_ (runs_call (m_c h.2.1 y1 x1) rfl rfl rfl (by simp only [dstOk, Nat.reduceLT]) (by repeat (first | exact trivial | constructor)) (runs_eval tab_ok ?_))
          · (first | exact trivial | omega | (simp only [In64] at *; omega) | (simp [In64] at *; omega) | (simp_all; done) | skip)
          simp only [ev0, evA, evB, evP, fl, gp, tab, simprocAttr, reduceCtorEq, reduceIte, il_length, il_get hlt, x3, il_get hjl, y3]
          refine fin_run ?_ (hK _ ?_) <;> clear hK <;> clear K
          · (first | exact trivial | omega | (simp only [In64] at *; omega) | (simp [In64] at *; omega) | (simp_all; done) | skip)
          refine qa ?_
          refine hk_cond rfl (fun hC4 => ?_) (fun hC4 => ?_)
          · (try simp only [nhs] at hC4)
            refine qm ?_
            refine hk_region fun K hK => runs_eval tab_ok ?_
            simp only [ev0, evA, evB, evP, fl, gp, tab, simprocAttr, reduceCtorEq, reduceIte]
            refine fin_run trivial (hK _ ?_) <;> clear hK <;> clear K
            refine qa (qk (qe (qb (qb (qe (qe (qb (qb (qe (qb ?_))))))))))
            simp only [Tryd.results26, enA, ev0, evA, evB, evP, fl, gp, tab, simprocAttr, reduceCtorEq, reduceIte]
            have hbf : b = false := by
              cases b with
              | false => rfl
              | true =>
                have := (hbs.1 rfl).2.2 x y x1 y1 x2 y2
                omega
            rw [hbf]
          · (try simp only [nhs] at hC4)
            refine qh (qd (qa ?_))
            refine hk_region fun K hK => runs_eval tab_ok ?_
            simp only [ev0, evA, evB, evP, fl, gp, tab, simprocAttr, reduceCtorEq, reduceIte]
            refine fin_run ?_ (hK _ ?_) <;> clear hK <;> clear K
            · (first | exact trivial | omega | (simp only [In64] at *; omega) | (simp [In64] at *; omega) | (simp_all; done) | skip)
            refine qa ?_
            refine ⟨j + 1, [0], ⟨by omega, fun b k hb' hk hg => ?_⟩, by omega, ?_⟩
            · by_cases hkj : k = j
              · rw [hkj, y3] at hg
                obtain rfl : y = b := by omega
                omega
              · exact hj2 b k hb' (by omega) hg
            · simp only [leq, leA, ev0, evA, evB, evP, fl, gp, tab, simprocAttr, reduceCtorEq, reduceIte] <;> first | trivial | omega
        · (try simp only [nhs] at hC3)
          refine qj (qc (qc (qf (qd (qa ?_)))))
          refine hk_region fun K hK => runs_eval tab_ok ?_
          simp only [ev0, evA, evB, evP, fl, gp, tab, simprocAttr, reduceCtorEq, reduceIte]
          refine fin_run ?_ (hK _ ?_) <;> clear hK <;> clear K
          · (first | exact trivial | omega | (simp only [In64] at *; omega) | (simp [In64] at *; omega) | (simp_all; done) | skip)
          refine qa ?_
          refine ⟨i + 1, [0], ⟨by omega, fun a b k ha hb' hk hg hqb => ?_⟩, by omega, ?_⟩
          · by_cases hki : k = i
            · rw [hki, x3] at hg
              obtain rfl : x = a := by omega
              obtain ⟨j', j1, j2⟩ := thl_at hb' hqb
              exact hj2 b j' hb' (by omega) j2
            · exact hi2 a b k ha hb' (by omega) hg hqb
          · simp only [leq, leA, ev0, evA, evB, evP, fl, gp, tab, simprocAttr, reduceCtorEq, reduceIte] <;> first | trivial | omega
      · (try simp only [nhs] at hC2)
        refine qj (qc (qc (qf (qa (qm ?_)))))
        refine hk_region fun K hK => runs_eval tab_ok ?_
        simp only [ev0, evA, evB, evP, fl, gp, tab, simprocAttr, reduceCtorEq, reduceIte]
        refine fin_run trivial (hK _ ?_) <;> clear hK <;> clear K
        refine qa (qk ?_)
        simp only [Tryd.results26, enA, ev0, evA, evB, evP, fl, gp, tab, simprocAttr, reduceCtorEq, reduceIte]
        have hcm : Cmm n (op m n) p q := fun a c ha hc h1 h2 => by
          obtain ⟨i', i1, i2⟩ := thl_at ha h1
          exact hi2 a c i' ha hc (by omega) i2 h2
        have h2 := hlen hcm k1
        have hbt : b = true := hbs.2 ⟨by omega, k1, hcm⟩
        rw [hbt]
  · refine hk_draw2 mixed fun K hK => runs2_eval tab_ok ?_
    simp only [evD, ev0, evA, evB, evP, fl, gp, tab, simprocAttr, reduceCtorEq, reduceIte, il_length, bth_thl, decide_eq_false (show ¬ ((thl n fun x => p x && q x).length : Int) = 1 by omega)]
    refine fin2_stop trivial (runs2_call (both_c (thl n p) (thl n q) (by omega) (by omega)) rfl rfl rfl rfl (by simp only [dstOk, Nat.reduceLT]) (by repeat (first | exact trivial | constructor)) (runs2_eval tab_ok ?_))
    simp only [evD, ev0, evA, evB, evP, fl, gp, tab, simprocAttr, reduceCtorEq, reduceIte, il_length, bth_thl, decide_eq_false (show ¬ ((thl n fun x => p x && q x).length : Int) = 1 by omega)]
    refine fin2_run ?_ (hK _ _ (by first | kernel_rfl | rfl) ?_) <;> clear hK <;> clear K
    · (first | exact trivial | omega | (simp only [In64] at *; omega) | (simp [In64] at *; omega) | (simp_all; done) | skip)
    refine qa ?_
    refine hk_cond rfl (fun hC1 => ?_) (fun hC1 => ?_)
    · refine qm ?_
      refine hk_region fun K hK => runs_eval tab_ok ?_
      simp only [ev0, evA, evB, evP, fl, gp, tab, simprocAttr, reduceCtorEq, reduceIte]
      refine fin_run trivial (hK _ ?_) <;> clear hK <;> clear K
      refine qa (qk (qb ?_))
      simp only [Tryd.results26, enA, ev0, evA, evB, evP, fl, gp, tab, simprocAttr, reduceCtorEq, reduceIte]
      have hbf : b = false := by
        cases b with
        | false => rfl
        | true => exact absurd (hbs.1 rfl).2.1 k1
      rw [hbf]
    · cases hC1
end Go.Proofs.YtgnhcdpjmfoklaaDoor
