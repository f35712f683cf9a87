/-
  Walks: the law ClassQuotients. Conditions: none.
-/
import Derived.Test.YtgnhcdpjmfoklaaDoorS12
import Derived.Test.YtgnhcdpjmfoklaaDoorG23
set_option linter.all false
namespace Go.Proofs.YtgnhcdpjmfoklaaDoor
open Go.Pv

theorem thl_mem_len (n : Nat) (p : Nat → Bool) : (thl n p).length = (mem n p).length := thl_len n p

set_option maxRecDepth 20000 in
set_option maxHeartbeats 4000000 in
theorem classQuotients_c (N : Int) (m l : List Int) (hm : m.length ≤ 17592186043904) (hl : l.length ≤ 17592186043904) : FnC Tryd.prog 9 [gp N m, .list (il l)] (.bool true) := by
  refine fnc_of tab_ok Tryd.func9 rfl (by kernel_rfl) (by rw [Tryd.ntmps9]; exact Nat.le_add_left 2 _) ?_; rw [Tryd.ntmps9]
  refine qm ?_
  refine hk_region fun K hK => runs_eval tab_ok ?_
  simp only [ev0, evA, evB, evP, fl, gp, tab, simprocAttr, reduceCtorEq, reduceIte]
  refine fin_run ?_ (hK _ ?_) <;> clear hK <;> clear K
  · (first | exact trivial | omega | (simp only [In64] at *; omega) | (simp [In64] at *; omega) | (simp_all; done) | skip)
  refine qa (qm (qm ?_))
  refine hk_region fun K hK => runs_eval tab_ok ?_
  simp only [ev0, evA, evB, evP, fl, gp, tab, simprocAttr, reduceCtorEq, reduceIte]
  refine fin_stop trivial (runs_call (begun_k) rfl rfl rfl (by simp only [dstOk, Nat.reduceLT]) (by repeat (first | exact trivial | constructor)) (runs_eval tab_ok ?_))
  simp only [ev0, evA, evB, evP, fl, gp, tab, simprocAttr, reduceCtorEq, reduceIte]
  refine fin_run trivial (hK _ ?_) <;> clear hK <;> clear K
  refine qa ?_
  refine hk_cond rfl (fun hC1 => ?_) (fun hC1 => ?_)
  · cases hC1
  · (try simp only [nhs] at hC1)
    refine qh (qa (qm ?_))
    by_cases hf : (sf N m l).1 = 0
    · obtain ⟨n, e, h, rfl, hl1, hs⟩ := sf_ok hf
      have G := h.2.2
      have hb := h.2.1.big
      generalize tst l = p0 at hl1
      subst hl1
      obtain ⟨c, hc⟩ := gen_ex n (op m n) e (cup n (op m n) e p0)
      have hcs := gen_sub G hc
      have hcn := G.gen_nml (G.cup_nml p0) hc
      have l3 := thl_le n c
      have hclo := closure_ok h p0 c hc
      have hq := quotient_ok h c hcs hcn
      have hE := G.dco_eqv hcs G.onp_sub
      have hG := tbl_GT' (show (cst n (dco n (op m n) c (onp e))).length ≤ 60 by have : (cst n (dco n (op m n) c (onp e))).length ≤ n := cstp_len _ _ _; omega) ((cst_qm G hE fun a b c d ha hb' hc hd h1 h2 => G.rco_cong hcs hcn ha hb' hc hd h1 h2).grp G)
      have hcl := (cst_qm G hE fun a b c d ha hb' hc hd h1 h2 => G.rco_cong hcs hcn ha hb' hc hd h1 h2).classes G
      have hall := clsAll_ok h
      have ha1 := cst_len n (cjb n (op m n) e)
      have hla : (cst n (cjb n (op m n) e)).length ≤ n := cstp_len _ _ _
      generalize hk : (cst n (dco n (op m n) c (onp e))).length = k at *
      have hG' : GT k (qtb n (op m n) (dco n (op m n) c (onp e))) k (clq n (dco n (op m n) c (onp e)) e) := by unfold qtb; rw [hk]; exact hG
      have hall2 := clsAll_ok hG'
      have hb1 := cst_len k (cjb k (op (qtb n (op m n) (dco n (op m n) c (onp e))) k) (clq n (dco n (op m n) c (onp e)) e))
      have hlb : (cst k (cjb k (op (qtb n (op m n) (dco n (op m n) c (onp e))) k) (clq n (dco n (op m n) c (onp e)) e))).length ≤ k := cstp_len _ _ _
      have hop : ∀ i j, i < k → j < k → op (qtb n (op m n) (dco n (op m n) c (onp e))) k i j = qop (op m n) (clq n (dco n (op m n) c (onp e))) (rpq n (dco n (op m n) c (onp e))) i j := fun i j hi hj => by
        have := tbl_op' (qop (op m n) (clq n (dco n (op m n) c (onp e))) (rpq n (dco n (op m n) c (onp e)))) (n := (cst n (dco n (op m n) c (onp e))).length) (a := i) (b := j) (by omega) (by omega)
        unfold qtb; rw [hk] at this ⊢; exact this
      have hiv : ∀ a, a < k → iv k (op (qtb n (op m n) (dco n (op m n) c (onp e))) k) (clq n (dco n (op m n) c (onp e)) e) a < k := fun a ha => hG'.2.2.iv_lt ha
      have hQG := (cst_qm G hE fun a b c d ha hb' hc hd h1 h2 => G.rco_cong hcs hcn ha hb' hc hd h1 h2).grp G
      rw [hk] at hQG
      have hive : ∀ a, a < k → iv k (op (qtb n (op m n) (dco n (op m n) c (onp e))) k) (clq n (dco n (op m n) c (onp e)) e) a = iv k (qop (op m n) (clq n (dco n (op m n) c (onp e))) (rpq n (dco n (op m n) c (onp e)))) (clq n (dco n (op m n) c (onp e)) e) a := fun a ha => hQG.iv_unique ha (hiv a ha) (.inl (by rw [← hop _ _ ha (hiv a ha)]; exact hG'.2.2.mul_iv ha))
      have hcjb : ∀ x y, x < k → y < k → cjb k (op (qtb n (op m n) (dco n (op m n) c (onp e))) k) (clq n (dco n (op m n) c (onp e)) e) x y = cjb k (qop (op m n) (clq n (dco n (op m n) c (onp e))) (rpq n (dco n (op m n) c (onp e)))) (clq n (dco n (op m n) c (onp e)) e) x y := fun x y hx hy => by
        have one : ∀ a, a < k → op (qtb n (op m n) (dco n (op m n) c (onp e))) k (op (qtb n (op m n) (dco n (op m n) c (onp e))) k (iv k (op (qtb n (op m n) (dco n (op m n) c (onp e))) k) (clq n (dco n (op m n) c (onp e)) e) a) x) a = qop (op m n) (clq n (dco n (op m n) c (onp e))) (rpq n (dco n (op m n) c (onp e))) (qop (op m n) (clq n (dco n (op m n) c (onp e))) (rpq n (dco n (op m n) c (onp e))) (iv k (qop (op m n) (clq n (dco n (op m n) c (onp e))) (rpq n (dco n (op m n) c (onp e)))) (clq n (dco n (op m n) c (onp e)) e) a) x) a := fun a ha => by
          rw [hop _ _ (hG'.2.2.cl _ _ (hiv a ha) hx) ha, hop _ _ (hiv a ha) hx, hive a ha]
        rw [Bool.eq_iff_iff, cjb_iff, cjb_iff]
        exact ⟨fun ⟨a, a1, a2⟩ => ⟨a, a1, by rw [← one a a1]; exact a2⟩, fun ⟨a, a1, a2⟩ => ⟨a, a1, by rw [one a a1]; exact a2⟩⟩
      have hcst : cst k (cjb k (op (qtb n (op m n) (dco n (op m n) c (onp e))) k) (clq n (dco n (op m n) c (onp e)) e)) = cst k (cjb k (qop (op m n) (clq n (dco n (op m n) c (onp e))) (rpq n (dco n (op m n) c (onp e)))) (clq n (dco n (op m n) c (onp e)) e)) := cst_congr hcjb
      have hle : (cst k (cjb k (op (qtb n (op m n) (dco n (op m n) c (onp e))) k) (clq n (dco n (op m n) c (onp e)) e))).length ≤ (cst n (cjb n (op m n) e)).length := by
        rw [hcst, cst_len, ha1]; exact hcl
      generalize cst k (cjb k (op (qtb n (op m n) (dco n (op m n) c (onp e))) k) (clq n (dco n (op m n) c (onp e)) e)) = B at *
      refine hk_region fun K hK => runs_eval tab_ok ?_
      simp only [ev0, evA, evB, evP, fl, gp, tab, simprocAttr, reduceCtorEq, reduceIte]
      refine fin_stop trivial (runs_call (hclo) rfl rfl rfl (by simp only [dstOk, Nat.reduceLT]) (by repeat (first | exact trivial | constructor)) (runs_eval tab_ok ?_))
      simp only [ev0, evA, evB, evP, fl, gp, tab, simprocAttr, reduceCtorEq, reduceIte]
      refine fin_run ?_ (hK _ ?_) <;> clear hK <;> clear K
      · (first | exact trivial | omega | (simp only [In64] at *; omega) | (simp [In64] at *; omega) | (simp_all; done) | skip)
      refine qa (qm (qm ?_))
      refine hk_region fun K hK => runs_eval tab_ok ?_
      simp only [ev0, evA, evB, evP, fl, gp, tab, simprocAttr, reduceCtorEq, reduceIte]
      refine fin_run ?_ (hK _ ?_) <;> clear hK <;> clear K
      · (first | exact trivial | omega | (simp only [In64] at *; omega) | (simp [In64] at *; omega) | (simp_all; done) | skip)
      refine qa ?_
      refine hk_cond rfl (fun hC2 => ?_) (fun hC2 => ?_)
      · cases hC2
      · (try simp only [nhs] at hC2)
        refine qh (qa (qm ?_))
        refine hk_region fun K hK => runs_eval tab_ok ?_
        simp only [ev0, evA, evB, evP, fl, gp, tab, simprocAttr, reduceCtorEq, reduceIte]
        refine fin_stop trivial (runs_call (hq) rfl rfl rfl (by simp only [dstOk, Nat.reduceLT]) (by repeat (first | exact trivial | constructor)) (runs_eval tab_ok ?_))
        simp only [ev0, evA, evB, evP, fl, gp, tab, simprocAttr, reduceCtorEq, reduceIte]
        refine fin_run ?_ (hK _ ?_) <;> clear hK <;> clear K
        · (first | exact trivial | omega | (simp only [In64] at *; omega) | (simp [In64] at *; omega) | (simp_all; done) | skip)
        refine qa (qm ?_)
        refine hk_region fun K hK => runs_eval tab_ok ?_
        simp only [ev0, evA, evB, evP, fl, gp, tab, simprocAttr, reduceCtorEq, reduceIte]
        refine fin_stop trivial (runs_call (hall) rfl rfl rfl (by simp only [dstOk, Nat.reduceLT]) (by repeat (first | exact trivial | constructor)) (runs_eval tab_ok ?_))
        simp only [ev0, evA, evB, evP, fl, gp, tab, simprocAttr, reduceCtorEq, reduceIte]
        refine fin_run ?_ (hK _ ?_) <;> clear hK <;> clear K
        · (first | exact trivial | omega | (simp only [In64] at *; omega) | (simp [In64] at *; omega) | (simp_all; done) | skip)
        refine qa (qm (qm ?_))
        refine hk_region fun K hK => runs_eval tab_ok ?_
        simp only [ev0, evA, evB, evP, fl, gp, tab, simprocAttr, reduceCtorEq, reduceIte]
        refine fin_run ?_ (hK _ ?_) <;> clear hK <;> clear K
        · (first | exact trivial | omega | (simp only [In64] at *; omega) | (simp [In64] at *; omega) | (simp_all; done) | skip)
        refine qa ?_
        refine hk_cond rfl (fun hC3 => ?_) (fun hC3 => ?_)
        · cases hC3
        · (try simp only [nhs] at hC3)
          refine qh (qa (qm ?_))
          refine hk_region fun K hK => runs_eval tab_ok ?_
          simp only [ev0, evA, evB, evP, fl, gp, tab, simprocAttr, reduceCtorEq, reduceIte]
          refine fin_stop trivial (runs_call (hall2) rfl rfl rfl (by simp only [dstOk, Nat.reduceLT]) (by repeat (first | exact trivial | constructor)) (runs_eval tab_ok ?_))
          simp only [ev0, evA, evB, evP, fl, gp, tab, simprocAttr, reduceCtorEq, reduceIte]
          refine fin_run ?_ (hK _ ?_) <;> clear hK <;> clear K
          · (first | exact trivial | omega | (simp only [In64] at *; omega) | (simp [In64] at *; omega) | (simp_all; done) | skip)
          refine qa (qm (qm ?_))
          refine hk_region fun K hK => runs_eval tab_ok ?_
          simp only [ev0, evA, evB, evP, fl, gp, tab, simprocAttr, reduceCtorEq, reduceIte, ll_length, decide_eq_false (show ¬ ((B.length : Int) > ((cst n (cjb n (op m n) e)).length : Int)) by omega)]
          refine fin_run ?_ (hK _ ?_) <;> clear hK <;> clear K
          · (first | exact trivial | omega | (simp only [In64] at *; omega) | (simp [In64] at *; omega) | (simp_all; done) | skip)
          refine qa ?_
          refine hk_cond rfl (fun hC4 => ?_) (fun hC4 => ?_)
          · cases hC4
          · (try simp only [nhs] at hC4)
            refine qh (qa (qm (qm ?_)))
            refine hk_region fun K hK => runs_eval tab_ok ?_
            simp only [ev0, evA, evB, evP, fl, gp, tab, simprocAttr, reduceCtorEq, reduceIte]
            refine fin_run trivial (hK _ ?_) <;> clear hK <;> clear K
            refine qa (ql ?_)
            refine hk_loop (ι := Nat) (fun i => ⟨85, [(5, .p (.list (il (thl n c)))), (10, .p (.list (ll (cst n (cjb n (op m n) e))))), (13, .p (.int .i64 i))], []⟩) (fun i => i ≤ (cst n (cjb n (op m n) e)).length) (fun i => (cst n (cjb n (op m n) e)).length - i) 0 (Nat.zero_le _) [] (by simp only [leq, leA, ev0, evA, evB, evP, fl, gp, tab, simprocAttr, reduceCtorEq, reduceIte] <;> trivial) fun i hi => ?_
            refine qm (qm ?_)
            refine hk_region fun K hK => runs_eval tab_ok ?_
            simp only [ev0, evA, evB, evP, fl, gp, tab, simprocAttr, reduceCtorEq, reduceIte, ll_length]
            refine fin_run trivial (hK _ ?_) <;> clear hK <;> clear K
            refine qa ?_
            refine hk_cond rfl (fun hC5 => ?_) (fun hC5 => ?_)
            · (try simp only [nhs] at hC5)
              have hlt : i < (cst n (cjb n (op m n) e)).length := by omega
              obtain ⟨x, x1, x2, x3, x4⟩ := cst_get hlt
              have l1 := thl_le n (cjb n (op m n) e x)
              have hcx : ∀ y, y < n → cjb n (op m n) e x y = true → c y = c x := fun y hy h1 => by
                obtain ⟨a, a1, rfl⟩ := cjb_iff.1 h1
                rw [Bool.eq_iff_iff]
                refine ⟨fun h2 => ?_, fun h2 => hcn a a1 x x1 h2⟩
                have := hcn _ (G.iv_lt a1) _ hy h2
                have h3 : cjr n (op m n) e (cjr n (op m n) e x a) (iv n (op m n) e a) = x := G.cjr_iv x1 a1
                unfold cjr at h3 this
                rwa [h3] at this
              have hcase : thl n (fun y => cjb n (op m n) e x y && c y) = [] ∨ thl n (fun y => cjb n (op m n) e x y && c y) = thl n (cjb n (op m n) e x) ∧ ¬ ((thl n (cjb n (op m n) e x)).length : Int) = 0 := by
                cases hxc : c x with
                | false =>
                  left
                  refine List.eq_nil_iff_forall_not_mem.2 fun z hz => ?_
                  obtain ⟨y, y1, y2, _⟩ := mem_thl.1 hz
                  rw [Bool.and_eq_true] at y2
                  have := hcx y y1 y2.1
                  rw [y2.2, hxc] at this; cases this
                | true =>
                  right
                  refine ⟨thl_congr fun y hy => ?_, ?_⟩
                  · cases hv : cjb n (op m n) e x y with
                    | false => rfl
                    | true => rw [hcx y hy hv, hxc]; rfl
                  · have := ((lead_head x1).1 x2).1
                    omega
              refine qh (qa (qm (ql (qm ?_))))
              refine hk_region fun K hK => runs_eval tab_ok ?_
              simp only [ev0, evA, evB, evP, fl, gp, tab, simprocAttr, reduceCtorEq, reduceIte, ll_length, ll_get hlt, x3]
              refine fin_stop ?_ (runs_call (both_c (thl n (cjb n (op m n) e x)) (thl n c) (by omega) (by omega)) rfl rfl rfl (by simp only [dstOk, Nat.reduceLT]) (by repeat (first | exact trivial | constructor)) (runs_eval tab_ok ?_))
              · (first | exact trivial | omega | (simp only [In64] at *; omega) | (simp [In64] at *; omega) | (simp_all; done) | skip)
              simp only [ev0, evA, evB, evP, fl, gp, tab, simprocAttr, reduceCtorEq, reduceIte, bth_thl, il_length, ll_length, ll_get hlt, x3]
              refine fin_run ?_ (hK _ ?_) <;> clear hK <;> clear K
              · (first | exact trivial | omega | (simp only [In64] at *; omega) | (simp [In64] at *; omega) | (simp_all; done) | skip)
              refine qa (qm ?_)
              rcases hcase with h0 | ⟨h1, h2⟩
              · refine hk_region fun K hK => runs_eval tab_ok ?_
                simp only [ev0, evA, evB, evP, fl, gp, tab, simprocAttr, reduceCtorEq, reduceIte, h0, List.length_nil, ll_length, ll_get hlt, x3, il_length]
                refine fin_run trivial (hK _ ?_) <;> clear hK <;> clear K
                refine qa ?_
                refine hk_cond rfl (fun hC6 => ?_) (fun hC6 => ?_)
                · cases hC6
                · refine qh (qd (qa ?_))
                  refine hk_region fun K hK => runs_eval tab_ok ?_
                  simp only [ev0, evA, evB, evP, fl, gp, tab, simprocAttr, reduceCtorEq, reduceIte]
                  refine fin_run ?_ (hK _ ?_) <;> clear hK <;> clear K
                  · (first | exact trivial | omega | (simp only [In64] at *; omega) | (simp [In64] at *; omega) | (simp_all; done) | skip)
                  refine qa ?_
                  refine ⟨i + 1, [], by omega, by omega, ?_⟩
                  simp only [leq, leA, ev0, evA, evB, evP, fl, gp, tab, simprocAttr, reduceCtorEq, reduceIte] <;> first | trivial | omega
              · refine hk_region fun K hK => runs_eval tab_ok ?_
                simp only [ev0, evA, evB, evP, fl, gp, tab, simprocAttr, reduceCtorEq, reduceIte, h1, decide_eq_false h2, ll_length, ll_get hlt, x3, il_length]
                refine fin_run ?_ (hK _ ?_) <;> clear hK <;> clear K
                · (first | exact trivial | omega | (simp only [In64] at *; omega) | (simp [In64] at *; omega) | (simp_all; done) | skip)
                refine qa ?_
                refine hk_cond rfl (fun hC6 => ?_) (fun hC6 => ?_)
                · cases hC6
                · (try simp only [nhs] at hC6)
                  refine qh (qd (qa ?_))
                  refine hk_region fun K hK => runs_eval tab_ok ?_
                  simp only [ev0, evA, evB, evP, fl, gp, tab, simprocAttr, reduceCtorEq, reduceIte]
                  refine fin_run ?_ (hK _ ?_) <;> clear hK <;> clear K
                  · (first | exact trivial | omega | (simp only [In64] at *; omega) | (simp [In64] at *; omega) | (simp_all; done) | skip)
                  refine qa ?_
                  refine ⟨i + 1, [], by omega, by omega, ?_⟩
                  simp only [leq, leA, ev0, evA, evB, evP, fl, gp, tab, simprocAttr, reduceCtorEq, reduceIte] <;> first | trivial | omega
            · (try simp only [nhs] at hC5)
              refine qj (qc (qc (qf (qa (qm ?_)))))
              refine hk_region fun K hK => runs_eval tab_ok ?_
              simp only [ev0, evA, evB, evP, fl, gp, tab, simprocAttr, reduceCtorEq, reduceIte]
              refine fin_run trivial (hK _ ?_) <;> clear hK <;> clear K
              refine qa (qk ?_)
              simp only [Tryd.results9, enA, ev0, evA, evB, evP, fl, gp, tab, simprocAttr, reduceCtorEq, reduceIte]
              all_goals (rfl)
    · refine hk_region fun K hK => runs_eval tab_ok ?_
      simp only [ev0, evA, evB, evP, fl, gp, tab, simprocAttr, reduceCtorEq, reduceIte]
      refine fin_stop trivial (runs_call (closure_no N m l (by omega) (by omega) hf) rfl rfl rfl (by simp only [dstOk, Nat.reduceLT]) (by repeat (first | exact trivial | constructor)) (runs_eval tab_ok ?_))
      simp only [ev0, evA, evB, evP, fl, gp, tab, simprocAttr, reduceCtorEq, reduceIte]
      refine fin_run ?_ (hK _ ?_) <;> clear hK <;> clear K
      · (first | exact trivial | omega | (simp only [In64] at *; omega) | (simp [In64] at *; omega) | (simp_all; done) | skip)
      refine qa (qm (qm ?_))
      refine hk_region fun K hK => runs_eval tab_ok ?_
      simp only [ev0, evA, evB, evP, fl, gp, tab, simprocAttr, reduceCtorEq, reduceIte]
      refine fin_run ?_ (hK _ ?_) <;> clear hK <;> clear K
      · (first | exact trivial | omega | (simp only [In64] at *; omega) | (simp [In64] at *; omega) | (simp_all; done) | skip)
      refine qa ?_
      refine hk_cond rfl (fun hC2 => ?_) (fun hC2 => ?_)
      · (try simp only [nhs] at hC2)
        refine qm ?_
        refine hk_region fun K hK => runs_eval tab_ok ?_
        simp only [ev0, evA, evB, evP, fl, gp, tab, simprocAttr, reduceCtorEq, reduceIte]
        refine fin_run trivial (hK _ ?_) <;> clear hK <;> clear K
        refine qa (qk (qb ?_))
        simp only [Tryd.results9, enA, ev0, evA, evB, evP, fl, gp, tab, simprocAttr, reduceCtorEq, reduceIte]
        all_goals (rfl)
      · (try simp only [nhs] at hC2)
        exact absurd hC2 hf
end Go.Proofs.YtgnhcdpjmfoklaaDoor
