/-
  Walks: the law CosetSides. Conditions: none.
-/
import Derived.Test.YtchoalibhpbbdaaDoorLS11
set_option linter.all false
namespace Go.Proofs.YtchoalibhpbbdaaDoor
open Go.Pv

theorem cst_inj {n : Nat} {r r' : Nat → Nat → Bool} (E : Eqv n r) (E' : Eqv n r') (h : cst n r = cst n r') : ∀ a b, a < n → b < n → r a b = r' a b := by
  have key : ∀ {r : Nat → Nat → Bool}, Eqv n r → ∀ a b, a < n → b < n → (r a b = true ↔ ∃ i, i < (cst n r).length ∧ ((a : Nat) : Int) ∈ (cst n r).getD i [] ∧ ((b : Nat) : Int) ∈ (cst n r).getD i []) := by
    intro r E a b ha hb
    constructor
    · intro h
      obtain ⟨i, i1, i2⟩ := cst_in E ha
      obtain ⟨x, x1, x2, x3, x4⟩ := cst_get i1
      refine ⟨i, i1, i2, ?_⟩
      rw [x3, mem_thl_n ha] at i2
      rw [x3, mem_thl_n hb]
      exact E.trans x a b x1 ha hb i2 h
    · rintro ⟨i, i1, i2, i3⟩
      obtain ⟨x, x1, x2, x3, x4⟩ := cst_get i1
      rw [x3, mem_thl_n ha] at i2
      rw [x3, mem_thl_n hb] at i3
      exact E.trans a x b ha x1 hb (E.symm x a x1 ha i2) i3
  intro a b ha hb
  rw [Bool.eq_iff_iff, key E a b ha hb, key E' a b ha hb, h]

theorem cs1_c {n e : Nat} {m : List Int} (h : GT n m n e) (A : List (List Int)) {i z y : Nat} (q : Nat → Bool) (hi : i < A.length) (hA : A.getD i [] = thl n q) (hy : y < n) : FnC Tryd.prog 55 [.int .i64 y, .ptr [.list (ll A)], .ptr [.int .i64 i], .ptr [.int .i64 n, .list (il m)]] (.bool (q (iv n (op m n) e y))) := by
  have G := h.2.2
  have hb := h.2.1.big
  have hlq := thl_le n q
  have hc := G.iv_lt hy
  have hz : decide (((iv n (op m n) e y : Nat) : Int) ∈ thl n q) = q (iv n (op m n) e y) := by rw [Bool.eq_iff_iff, decide_eq_true_eq]; exact mem_thl_n hc
  refine fnc_of tab_ok Tryd.func55 rfl (by kernel_rfl) (by rw [Tryd.ntmps55]; exact Nat.le_add_left 4 _) ?_; rw [Tryd.ntmps55]
  refine qm ?_
  refine hk_region fun K hK => runs_eval tab_ok ?_
  simp only [ev0, evA, evB, evP, fl, gp, tab, simprocAttr, reduceCtorEq, reduceIte]
  refine fin_run trivial (hK _ ?_) <;> clear hK <;> clear K
  refine qa (qm ?_)
  refine hk_draw mixed (by kernel_rfl) fun K hK => runs_eval tab_ok ?_
  simp only [ev0, evA, evB, evP, fl, gp, tab, simprocAttr, reduceCtorEq, reduceIte, ll_length, ll_get hi, hA]
  refine fin_stop ?_ (runs_call (i_c h.2.1 hy) rfl rfl rfl (by simp only [dstOk, Nat.reduceLT]) (by repeat (first | exact trivial | constructor)) (runs_eval tab_ok ?_))
  · (first | exact trivial | omega | (simp only [In64] at *; omega) | (simp [In64] at *; omega) | (simp_all; done) | skip)
  simp only [ev0, evA, evB, evP, fl, gp, tab, simprocAttr, reduceCtorEq, reduceIte, h.iI hy, ll_length, ll_get hi, hA]
  refine fin_stop trivial (runs_call (has_r (thl n q) (iv n (op m n) e y : Nat) (by omega)) rfl rfl rfl (by simp only [dstOk, Nat.reduceLT]) (by repeat (first | exact trivial | constructor)) (runs_eval tab_ok ?_))
  simp only [ev0, evA, evB, evP, fl, gp, tab, simprocAttr, reduceCtorEq, reduceIte, ll_length, ll_get hi, hA]
  refine fin_run ?_ (hK _ ?_) <;> clear hK <;> clear K
  · (first | exact trivial | omega | (simp only [In64] at *; omega) | (simp [In64] at *; omega) | (simp_all; done) | skip)
  refine qa (qk ?_)
  simp only [Tryd.results55, enA, ev0, evA, evB, evP, fl, gp, tab, simprocAttr, reduceCtorEq, reduceIte]
  all_goals (exact hz)

set_option maxRecDepth 20000 in
set_option maxHeartbeats 4000000 in
theorem cosetSides_c (N : Int) (m l : List Int) (hm : m.length ≤ 17592186043904) (hl : l.length ≤ 17592186043904) : FnC Tryd.prog 7 [gp N m, .list (il l)] (.bool true) := by
  refine fnc_of tab_ok Tryd.func7 rfl (by kernel_rfl) (by rw [Tryd.ntmps7]; exact Nat.le_add_left 2 _) ?_; rw [Tryd.ntmps7]
  refine qm ?_
  refine hk_region fun K hK => runs_eval tab_ok ?_
  simp only [ev0, evA, evB, evP, fl, gp, tab, simprocAttr, reduceCtorEq, reduceIte]
  refine fin_run ?_ (hK _ ?_) <;> clear hK <;> clear K
  · (first | exact trivial | omega | (simp only [In64] at *; omega) | (simp [In64] at *; omega) | (simp_all; done) | skip)
  refine qa (qm (qm ?_))
  refine hk_region fun K hK => runs_eval tab_ok ?_
  simp only [ev0, evA, evB, evP, fl, gp, tab, simprocAttr, reduceCtorEq, reduceIte]
  refine fin_stop trivial (runs_call (cosetBegun_c) rfl rfl rfl (by simp only [dstOk, Nat.reduceLT]) (by repeat (first | exact trivial | constructor)) (runs_eval tab_ok ?_))
  simp only [ev0, evA, evB, evP, fl, gp, tab, simprocAttr, reduceCtorEq, reduceIte]
  refine fin_run trivial (hK _ ?_) <;> clear hK <;> clear K
  refine qa ?_
  refine hk_cond rfl (fun hC1 => ?_) (fun hC1 => ?_)
  · cases hC1
  · (try simp only [nhs] at hC1)
    refine qh (qa (qm ?_))
    rcases sub3 N m l with ⟨n, e, p, h, rfl, rfl, hsub⟩ | ⟨n, e, p, h, rfl, rfl, hsub⟩ | hf
    · have G := h.2.2
      have hb := h.2.1.big
      have hlp := thl_le n p
      have E1 := G.dco_eqv hsub G.onp_sub
      have E2 := G.dco_eqv G.onp_sub hsub
      have hla : (cst n (dco n (op m n) p (onp e))).length ≤ n := cstp_len _ _ _
      have hlb : (cst n (dco n (op m n) (onp e) p)).length ≤ n := cstp_len _ _ _
      have ha1 := cst_len n (dco n (op m n) p (onp e))
      have hbl := cst_len n (dco n (op m n) (onp e) p)
      have hll1 := ll_length (cst n (dco n (op m n) p (onp e)))
      have hll2 := ll_length (cst n (dco n (op m n) (onp e) p))
      obtain ⟨bn, hbn⟩ := truth (Nml n (op m n) e p)
      have hz : decide (cst n (dco n (op m n) p (onp e)) = cst n (dco n (op m n) (onp e) p)) = bn := by
        rw [Bool.eq_iff_iff, decide_eq_true_eq, hbn, G.nml_sides]
        exact ⟨fun he => cst_inj E1 E2 he, fun he => cst_congr he⟩
      refine hk_region fun K hK => runs_eval tab_ok ?_
      simp only [ev0, evA, evB, evP, fl, gp, tab, simprocAttr, reduceCtorEq, reduceIte]
      refine fin_stop trivial (runs_call (right_ok h p hsub) rfl rfl rfl (by simp only [dstOk, Nat.reduceLT]) (by repeat (first | exact trivial | constructor)) (runs_eval tab_ok ?_))
      simp only [ev0, evA, evB, evP, fl, gp, tab, simprocAttr, reduceCtorEq, reduceIte]
      refine fin_run ?_ (hK _ ?_) <;> clear hK <;> clear K
      · (first | exact trivial | omega | (simp only [In64] at *; omega) | (simp [In64] at *; omega) | (simp_all; done) | skip)
      refine qa (qm ?_)
      refine hk_region fun K hK => runs_eval tab_ok ?_
      simp only [ev0, evA, evB, evP, fl, gp, tab, simprocAttr, reduceCtorEq, reduceIte]
      refine fin_stop trivial (runs_call (left_ok h p hsub) rfl rfl rfl (by simp only [dstOk, Nat.reduceLT]) (by repeat (first | exact trivial | constructor)) (runs_eval tab_ok ?_))
      simp only [ev0, evA, evB, evP, fl, gp, tab, simprocAttr, reduceCtorEq, reduceIte]
      refine fin_run ?_ (hK _ ?_) <;> clear hK <;> clear K
      · (first | exact trivial | omega | (simp only [In64] at *; omega) | (simp [In64] at *; omega) | (simp_all; done) | skip)
      refine qa (qm ?_)
      refine hk_region fun K hK => runs_eval tab_ok ?_
      simp only [ev0, evA, evB, evP, fl, gp, tab, simprocAttr, reduceCtorEq, reduceIte]
      refine fin_stop trivial (runs_call (normal_ok h p hsub bn hbn) rfl rfl rfl (by simp only [dstOk, Nat.reduceLT]) (by repeat (first | exact trivial | constructor)) (runs_eval tab_ok ?_))
      simp only [ev0, evA, evB, evP, fl, gp, tab, simprocAttr, reduceCtorEq, reduceIte]
      refine fin_run ?_ (hK _ ?_) <;> clear hK <;> clear K
      · (first | exact trivial | omega | (simp only [In64] at *; omega) | (simp [In64] at *; omega) | (simp_all; done) | skip)
      refine qa (qm (qm ?_))
      refine hk_region fun K hK => runs_eval tab_ok ?_
      simp only [ev0, evA, evB, evP, fl, gp, tab, simprocAttr, reduceCtorEq, reduceIte]
      refine fin_run ?_ (hK _ ?_) <;> clear hK <;> clear K
      · (first | exact trivial | omega | (simp only [In64] at *; omega) | (simp [In64] at *; omega) | (simp_all; done) | skip)
      refine qa ?_
      refine hk_cond rfl (fun hC2 => ?_) (fun hC2 => ?_)
      · cases hC2
      · (try simp only [nhs] at hC2)
        refine qh (qa (qm (qm ?_)))
        refine hk_region fun K hK => runs_eval tab_ok ?_
        simp only [ev0, evA, evB, evP, fl, gp, tab, simprocAttr, reduceCtorEq, reduceIte]
        refine fin_run ?_ (hK _ ?_) <;> clear hK <;> clear K
        · (first | exact trivial | omega | (simp only [In64] at *; omega) | (simp [In64] at *; omega) | (simp_all; done) | skip)
        refine qa (ql ?_)
        refine hk_freeze 0 rfl rfl ?_
        refine hk_freeze 1 rfl rfl ?_
        simp only [hset]
        refine hk_loop (ι := Nat) (fun i => ⟨93, [(2, .ptr 0 0), (5, .ptr 1 0), (7, .p (.list (ll (cst n (dco n (op m n) (onp e) p))))), (9, .p (.bool bn)), (11, .ptr 2 0)], [.fro [.int .i64 n, .list (il m)], .fro [.list (ll (cst n (dco n (op m n) p (onp e))))], .own [.p (.int .i64 i)]]⟩) (fun i => i ≤ (cst n (dco n (op m n) p (onp e))).length) (fun i => (cst n (dco n (op m n) p (onp e))).length - i) 0 (Nat.zero_le _) [0, 1, 5] (by simp only [leq, leA, ev0, evA, evB, evP, fl, gp, tab, simprocAttr, reduceCtorEq, reduceIte] <;> trivial) fun i hi => ?_
        refine qm (qm ?_)
        refine hk_region fun K hK => runs_eval tab_ok ?_
        simp only [ev0, evA, evB, evP, fl, gp, tab, simprocAttr, reduceCtorEq, reduceIte, ll_length]
        refine fin_run ?_ (hK _ ?_) <;> clear hK <;> clear K
        · (first | exact trivial | omega | (simp only [In64] at *; omega) | (simp [In64] at *; omega) | (simp_all; done) | skip)
        refine qa ?_
        refine hk_cond rfl (fun hC3 => ?_) (fun hC3 => ?_)
        · (try simp only [nhs] at hC3)
          have hlt : i < (cst n (dco n (op m n) p (onp e))).length := by omega
          obtain ⟨z, z1, z2, z3, z4⟩ := cst_get hlt
          have iz := G.iv_lt z1
          have hinv : thl n (fun y => dco n (op m n) p (onp e) z (iv n (op m n) e y)) = thl n (dco n (op m n) (onp e) p (iv n (op m n) e z)) := thl_congr fun y hy => G.inv_side hsub z1 hy
          have l1 := thl_le n (dco n (op m n) (onp e) p (iv n (op m n) e z))
          refine qh (qa (qm (ql (qm ?_))))
          refine hk_freeze 2 rfl rfl ?_
          simp only [hset]
          refine hk_region fun K hK => runs_eval tab_ok ?_
          simp only [ev0, evA, evB, evP, fl, gp, tab, simprocAttr, reduceCtorEq, reduceIte]
          refine fin_stop trivial (runs_call (those_c n m _ _ (fun y => dco n (op m n) p (onp e) z (iv n (op m n) e y)) (by omega) (fun y hy => cs1_c h (z := z) _ (dco n (op m n) p (onp e) z) hlt z3 hy)) rfl rfl rfl (by simp only [dstOk, Nat.reduceLT]) (by repeat (first | exact trivial | constructor)) (runs_eval tab_ok ?_))
          simp only [ev0, evA, evB, evP, fl, gp, tab, simprocAttr, reduceCtorEq, reduceIte, hinv]
          refine fin_run ?_ (hK _ ?_) <;> clear hK <;> clear K
          · (first | exact trivial | omega | (simp only [In64] at *; omega) | (simp [In64] at *; omega) | (simp_all; done) | skip)
          refine qa (qm ?_)
          refine hk_region fun K hK => runs_eval tab_ok ?_
          simp only [ev0, evA, evB, evP, fl, gp, tab, simprocAttr, reduceCtorEq, reduceIte]
          refine fin_run trivial (hK _ ?_) <;> clear hK <;> clear K
          refine qa (qm (qm ?_))
          refine hk_region fun K hK => runs_eval tab_ok ?_
          simp only [ev0, evA, evB, evP, fl, gp, tab, simprocAttr, reduceCtorEq, reduceIte]
          refine fin_run trivial (hK _ ?_) <;> clear hK <;> clear K
          refine qa (ql ?_)
          refine hk_loop (ι := Nat) (fun k => ⟨93, [(2, .ptr 0 0), (5, .ptr 1 0), (7, .p (.list (ll (cst n (dco n (op m n) (onp e) p))))), (9, .p (.bool bn)), (11, .ptr 2 0), (12, .p (.list (il (thl n (dco n (op m n) (onp e) p (iv n (op m n) e z)))))), (13, .p (.bool (decide (∃ j, j < k ∧ thl n (dco n (op m n) (onp e) p (iv n (op m n) e z)) = (cst n (dco n (op m n) (onp e) p)).getD j [])))), (14, .p (.int .i64 k))], [.fro [.int .i64 n, .list (il m)], .fro [.list (ll (cst n (dco n (op m n) p (onp e))))], .fro [.int .i64 i]]⟩) (fun k => k ≤ (cst n (dco n (op m n) (onp e) p)).length) (fun k => (cst n (dco n (op m n) (onp e) p)).length - k) 0 (Nat.zero_le _) [0, 1, 2] (by simp only [leq, leA, ev0, evA, evB, evP, fl, gp, tab, simprocAttr, reduceCtorEq, reduceIte] <;> first | trivial | (simp; done)) fun k hk => ?_
          refine qm (qm ?_)
          refine hk_region fun K hK => runs_eval tab_ok ?_
          simp only [ev0, evA, evB, evP, fl, gp, tab, simprocAttr, reduceCtorEq, reduceIte, ll_length]
          refine fin_run trivial (hK _ ?_) <;> clear hK <;> clear K
          refine qa ?_
          refine hk_cond rfl (fun hC4 => ?_) (fun hC4 => ?_)
          · (try simp only [nhs] at hC4)
            have hkl : k < (cst n (dco n (op m n) (onp e) p)).length := by omega
            refine qh (qa (qm (ql ?_)))
            by_cases hv : ∃ j, j < k ∧ thl n (dco n (op m n) (onp e) p (iv n (op m n) e z)) = (cst n (dco n (op m n) (onp e) p)).getD j []
            · refine hk_region fun K hK => runs_eval tab_ok ?_
              simp only [ev0, evA, evB, evP, fl, gp, tab, simprocAttr, reduceCtorEq, reduceIte, decide_eq_true hv]
              refine fin_run trivial (hK _ ?_) <;> clear hK <;> clear K
              refine qd (qa ?_)
              refine hk_region fun K hK => runs_eval tab_ok ?_
              simp only [ev0, evA, evB, evP, fl, gp, tab, simprocAttr, reduceCtorEq, reduceIte]
              refine fin_run ?_ (hK _ ?_) <;> clear hK <;> clear K
              · (first | exact trivial | omega | (simp only [In64] at *; omega) | (simp [In64] at *; omega) | (simp_all; done) | skip)
              refine qa ?_
              refine ⟨k + 1, [0, 1, 2], by omega, by omega, ?_⟩
              have hn : decide (∃ j, j < k + 1 ∧ thl n (dco n (op m n) (onp e) p (iv n (op m n) e z)) = (cst n (dco n (op m n) (onp e) p)).getD j []) = true := decide_eq_true (by obtain ⟨j, j1, j2⟩ := hv; exact ⟨j, by omega, j2⟩)
              rw [hn]
              simp only [leq, leA, ev0, evA, evB, evP, fl, gp, tab, simprocAttr, reduceCtorEq, reduceIte] <;> first | trivial | omega
            · refine hk_region fun K hK => runs_eval tab_ok ?_
              simp only [ev0, evA, evB, evP, fl, gp, tab, simprocAttr, reduceCtorEq, reduceIte, decide_eq_false hv, ll_length, ll_get hkl]
              refine fin_stop ?_ (runs_call (ints_c (thl n (dco n (op m n) (onp e) p (iv n (op m n) e z))) ((cst n (dco n (op m n) (onp e) p)).getD k []) (by omega)) rfl rfl rfl (by simp only [dstOk, Nat.reduceLT]) (by repeat (first | exact trivial | constructor)) (runs_eval tab_ok ?_))
              · (first | exact trivial | omega | (simp only [In64] at *; omega) | (simp [In64] at *; omega) | (simp_all; done) | skip)
              simp only [ev0, evA, evB, evP, fl, gp, tab, simprocAttr, reduceCtorEq, reduceIte, decide_eq_false hv, ll_length, ll_get hkl]
              refine fin_run ?_ (hK _ ?_) <;> clear hK <;> clear K
              · (first | exact trivial | omega | (simp only [In64] at *; omega) | (simp [In64] at *; omega) | (simp_all; done) | skip)
              refine qd (qa ?_)
              refine hk_region fun K hK => runs_eval tab_ok ?_
              simp only [ev0, evA, evB, evP, fl, gp, tab, simprocAttr, reduceCtorEq, reduceIte]
              refine fin_run ?_ (hK _ ?_) <;> clear hK <;> clear K
              · (first | exact trivial | omega | (simp only [In64] at *; omega) | (simp [In64] at *; omega) | (simp_all; done) | skip)
              refine qa ?_
              refine ⟨k + 1, [0, 1, 2], by omega, by omega, ?_⟩
              have hn : decide (∃ j, j < k + 1 ∧ thl n (dco n (op m n) (onp e) p (iv n (op m n) e z)) = (cst n (dco n (op m n) (onp e) p)).getD j []) = decide (thl n (dco n (op m n) (onp e) p (iv n (op m n) e z)) = (cst n (dco n (op m n) (onp e) p)).getD k []) := decide_eq_decide.2 ⟨fun ⟨j, j1, j2⟩ => by
                by_cases hjk : j = k
                · subst hjk; exact j2
                · exact absurd ⟨j, by omega, j2⟩ hv, fun h => ⟨k, by omega, h⟩⟩
              rw [hn]
              simp only [leq, leA, ev0, evA, evB, evP, fl, gp, tab, simprocAttr, reduceCtorEq, reduceIte] <;> first | trivial | omega
          · (try simp only [nhs] at hC4)
            have hkn : k = (cst n (dco n (op m n) (onp e) p)).length := by omega
            have hfound : ∃ j, j < k ∧ thl n (dco n (op m n) (onp e) p (iv n (op m n) e z)) = (cst n (dco n (op m n) (onp e) p)).getD j [] := by
              obtain ⟨j, j1, j2⟩ := cst_in E2 iz
              obtain ⟨x, x1, x2, x3, x4⟩ := cst_get j1
              refine ⟨j, by omega, ?_⟩
              rw [x3, mem_thl_n iz] at j2
              rw [x3]
              exact thl_congr fun y hy => by
                rw [Bool.eq_iff_iff]
                exact ⟨fun h1 => E2.trans _ _ _ x1 iz hy j2 h1, fun h1 => E2.trans _ _ _ iz x1 hy (E2.symm _ _ x1 iz j2) h1⟩
            refine qj (qc (qc (qf (qa (qm ?_)))))
            refine hk_region fun K hK => runs_eval tab_ok ?_
            simp only [ev0, evA, evB, evP, fl, gp, tab, simprocAttr, reduceCtorEq, reduceIte, decide_eq_true hfound]
            refine fin_run trivial (hK _ ?_) <;> clear hK <;> clear K
            refine qa ?_
            refine hk_cond rfl (fun hC5 => ?_) (fun hC5 => ?_)
            · cases hC5
            · (try simp only [nhs] at hC5)
              refine qh (qd (qa (qm (qm ?_))))
              refine hk_region fun K hK => runs_eval tab_ok ?_
              simp only [ev0, evA, evB, evP, fl, gp, tab, simprocAttr, reduceCtorEq, reduceIte]
              refine fin_run ?_ (hK _ ?_) <;> clear hK <;> clear K
              · (first | exact trivial | omega | (simp only [In64] at *; omega) | (simp [In64] at *; omega) | (simp_all; done) | skip)
              refine qa ?_
              refine hk_region fun K hK => runs_eval tab_ok ?_
              simp only [ev0, evA, evB, evP, fl, gp, tab, simprocAttr, reduceCtorEq, reduceIte]
              refine fin_run ?_ (hK _ ?_) <;> clear hK <;> clear K
              · (first | exact trivial | omega | (simp only [In64] at *; omega) | (simp [In64] at *; omega) | (simp_all; done) | skip)
              refine qa ?_
              refine hk_region fun K hK => runs_eval tab_ok ?_
              simp only [ev0, evA, evB, evP, fl, gp, tab, simprocAttr, reduceCtorEq, reduceIte]
              refine fin_run ?_ (hK _ ?_) <;> clear hK <;> clear K
              · (first | exact trivial | omega | (simp only [In64] at *; omega) | (simp [In64] at *; omega) | (simp_all; done) | skip)
              refine qa ?_
              refine ⟨i + 1, [0, 1, 3], by omega, by omega, ?_⟩
              simp only [leq, leA, ev0, evA, evB, evP, fl, gp, tab, simprocAttr, reduceCtorEq, reduceIte] <;> first | trivial | omega
        · (try simp only [nhs] at hC3)
          refine qj (qc (qc (qf (qa (qm ?_)))))
          by_cases g21b : ((cst n (dco n (op m n) p (onp e))).length : Int) = 2
          · refine hk_region fun K hK => runs_eval tab_ok ?_
            simp only [ev0, evA, evB, evP, fl, gp, tab, simprocAttr, reduceCtorEq, reduceIte, ll_length, hz, beq_self_eq_true, decide_eq_true g21b]
            refine fin_stop trivial (runs_call (lists_r (cst n (dco n (op m n) p (onp e))) (cst n (dco n (op m n) (onp e) p)) (by omega) (fun x hx => Nat.le_trans (cst_row x hx) (by omega))) rfl rfl rfl (by simp only [dstOk, Nat.reduceLT]) (by repeat (first | exact trivial | constructor)) (runs_eval tab_ok ?_))
            simp only [ev0, evA, evB, evP, fl, gp, tab, simprocAttr, reduceCtorEq, reduceIte, ll_length, hz, beq_self_eq_true, decide_eq_true g21b]
            refine fin_run ?_ (hK _ ?_) <;> clear hK <;> clear K
            · (first | exact trivial | omega | (simp only [In64] at *; omega) | (simp [In64] at *; omega) | (simp_all; done) | skip)
            refine qa (qk ?_)
            simp only [Tryd.results7, enA, ev0, evA, evB, evP, fl, gp, tab, simprocAttr, reduceCtorEq, reduceIte]
            all_goals (exact hbn.2 (G.two_nml hsub (by omega)))
          · refine hk_region fun K hK => runs_eval tab_ok ?_
            simp only [ev0, evA, evB, evP, fl, gp, tab, simprocAttr, reduceCtorEq, reduceIte, ll_length, hz, beq_self_eq_true, decide_eq_false g21b]
            refine fin_stop trivial (runs_call (lists_r (cst n (dco n (op m n) p (onp e))) (cst n (dco n (op m n) (onp e) p)) (by omega) (fun x hx => Nat.le_trans (cst_row x hx) (by omega))) rfl rfl rfl (by simp only [dstOk, Nat.reduceLT]) (by repeat (first | exact trivial | constructor)) (runs_eval tab_ok ?_))
            simp only [ev0, evA, evB, evP, fl, gp, tab, simprocAttr, reduceCtorEq, reduceIte, ll_length, hz, beq_self_eq_true, decide_eq_false g21b]
            refine fin_run ?_ (hK _ ?_) <;> clear hK <;> clear K
            · (first | exact trivial | omega | (simp only [In64] at *; omega) | (simp [In64] at *; omega) | (simp_all; done) | skip)
            refine qa (qk ?_)
            simp only [Tryd.results7, enA, ev0, evA, evB, evP, fl, gp, tab, simprocAttr, reduceCtorEq, reduceIte]
            all_goals (rfl)
    · have hb := h.2.1.big
      have hlp := thl_le n p
      refine hk_region fun K hK => runs_eval tab_ok ?_
      simp only [ev0, evA, evB, evP, fl, gp, tab, simprocAttr, reduceCtorEq, reduceIte]
      refine fin_stop trivial (runs_call (right_w n m (thl n p) (7, 0) (group_ok h p false (by simp [hsub])) (by simp)) rfl rfl rfl (by simp only [dstOk, Nat.reduceLT]) (by repeat (first | exact trivial | constructor)) (runs_eval tab_ok ?_))
      simp only [ev0, evA, evB, evP, fl, gp, tab, simprocAttr, reduceCtorEq, reduceIte]
      refine fin_run ?_ (hK _ ?_) <;> clear hK <;> clear K
      · (first | exact trivial | omega | (simp only [In64] at *; omega) | (simp [In64] at *; omega) | (simp_all; done) | skip)
      refine qa (qm ?_)
      refine hk_region fun K hK => runs_eval tab_ok ?_
      simp only [ev0, evA, evB, evP, fl, gp, tab, simprocAttr, reduceCtorEq, reduceIte]
      refine fin_stop trivial (runs_call (left_w n m (thl n p) (7, 0) (group_ok h p false (by simp [hsub])) (by simp)) rfl rfl rfl (by simp only [dstOk, Nat.reduceLT]) (by repeat (first | exact trivial | constructor)) (runs_eval tab_ok ?_))
      simp only [ev0, evA, evB, evP, fl, gp, tab, simprocAttr, reduceCtorEq, reduceIte]
      refine fin_run ?_ (hK _ ?_) <;> clear hK <;> clear K
      · (first | exact trivial | omega | (simp only [In64] at *; omega) | (simp [In64] at *; omega) | (simp_all; done) | skip)
      refine qa (qm ?_)
      refine hk_region fun K hK => runs_eval tab_ok ?_
      simp only [ev0, evA, evB, evP, fl, gp, tab, simprocAttr, reduceCtorEq, reduceIte]
      refine fin_stop trivial (runs_call (normal_w n m (thl n p) (7, 0) (group_ok h p false (by simp [hsub])) (by simp)) rfl rfl rfl (by simp only [dstOk, Nat.reduceLT]) (by repeat (first | exact trivial | constructor)) (runs_eval tab_ok ?_))
      simp only [ev0, evA, evB, evP, fl, gp, tab, simprocAttr, reduceCtorEq, reduceIte]
      refine fin_run ?_ (hK _ ?_) <;> clear hK <;> clear K
      · (first | exact trivial | omega | (simp only [In64] at *; omega) | (simp [In64] at *; omega) | (simp_all; done) | skip)
      refine qa (qm (qm ?_))
      refine hk_region fun K hK => runs_eval tab_ok ?_
      simp only [ev0, evA, evB, evP, fl, gp, tab, simprocAttr, reduceCtorEq, reduceIte]
      refine fin_run ?_ (hK _ ?_) <;> clear hK <;> clear K
      · (first | exact trivial | omega | (simp only [In64] at *; omega) | (simp [In64] at *; omega) | (simp_all; done) | skip)
      refine qa ?_
      refine hk_cond rfl (fun hC2 => ?_) (fun hC2 => ?_)
      · refine qm ?_
        refine hk_region fun K hK => runs_eval tab_ok ?_
        simp only [ev0, evA, evB, evP, fl, gp, tab, simprocAttr, reduceCtorEq, reduceIte, ufb_f]
        refine fin_stop trivial (runs_call (subFault_ok h p false (by simp [hsub])) rfl rfl rfl (by simp only [dstOk, Nat.reduceLT]) (by repeat (first | exact trivial | constructor)) (runs_eval tab_ok ?_))
        simp only [ev0, evA, evB, evP, fl, gp, tab, simprocAttr, reduceCtorEq, reduceIte, ufb_f]
        refine fin_run ?_ (hK _ ?_) <;> clear hK <;> clear K
        · (first | exact trivial | omega | (simp only [In64] at *; omega) | (simp [In64] at *; omega) | (simp_all; done) | skip)
        refine qa (qk (qb ?_))
        simp only [Tryd.results7, enA, ev0, evA, evB, evP, fl, gp, tab, simprocAttr, reduceCtorEq, reduceIte]
        all_goals ((first | exact rfl | exact ⟨rfl, rfl⟩ | exact ⟨rfl, rfl, rfl⟩ | exact ⟨trivial, rfl⟩ | exact ⟨Nat.le_refl _, rfl⟩ | trivial | (simp; done)))
      · cases hC2
    · refine hk_region fun K hK => runs_eval tab_ok ?_
      simp only [ev0, evA, evB, evP, fl, gp, tab, simprocAttr, reduceCtorEq, reduceIte]
      refine fin_stop trivial (runs_call (right_w N m l (sf N m l) (group_no N m l (by omega) (by omega) hf) hf) rfl rfl rfl (by simp only [dstOk, Nat.reduceLT]) (by repeat (first | exact trivial | constructor)) (runs_eval tab_ok ?_))
      simp only [ev0, evA, evB, evP, fl, gp, tab, simprocAttr, reduceCtorEq, reduceIte]
      refine fin_run ?_ (hK _ ?_) <;> clear hK <;> clear K
      · (first | exact trivial | omega | (simp only [In64] at *; omega) | (simp [In64] at *; omega) | (simp_all; done) | skip)
      refine qa (qm ?_)
      refine hk_region fun K hK => runs_eval tab_ok ?_
      simp only [ev0, evA, evB, evP, fl, gp, tab, simprocAttr, reduceCtorEq, reduceIte]
      refine fin_stop trivial (runs_call (left_w N m l (sf N m l) (group_no N m l (by omega) (by omega) hf) hf) rfl rfl rfl (by simp only [dstOk, Nat.reduceLT]) (by repeat (first | exact trivial | constructor)) (runs_eval tab_ok ?_))
      simp only [ev0, evA, evB, evP, fl, gp, tab, simprocAttr, reduceCtorEq, reduceIte]
      refine fin_run ?_ (hK _ ?_) <;> clear hK <;> clear K
      · (first | exact trivial | omega | (simp only [In64] at *; omega) | (simp [In64] at *; omega) | (simp_all; done) | skip)
      refine qa (qm ?_)
      refine hk_region fun K hK => runs_eval tab_ok ?_
      simp only [ev0, evA, evB, evP, fl, gp, tab, simprocAttr, reduceCtorEq, reduceIte]
      refine fin_stop trivial (runs_call (normal_w N m l (sf N m l) (group_no N m l (by omega) (by omega) hf) hf) rfl rfl rfl (by simp only [dstOk, Nat.reduceLT]) (by repeat (first | exact trivial | constructor)) (runs_eval tab_ok ?_))
      simp only [ev0, evA, evB, evP, fl, gp, tab, simprocAttr, reduceCtorEq, reduceIte]
      refine fin_run ?_ (hK _ ?_) <;> clear hK <;> clear K
      · (first | exact trivial | omega | (simp only [In64] at *; omega) | (simp [In64] at *; omega) | (simp_all; done) | skip)
      refine qa (qm (qm ?_))
      refine hk_region fun K hK => runs_eval tab_ok ?_
      simp only [ev0, evA, evB, evP, fl, gp, tab, simprocAttr, reduceCtorEq, reduceIte, decide_eq_false hf]
      refine fin_run ?_ (hK _ ?_) <;> clear hK <;> clear K
      · (first | exact trivial | omega | (simp only [In64] at *; omega) | (simp [In64] at *; omega) | (simp_all; done) | skip)
      refine qa ?_
      refine hk_cond rfl (fun hC2 => ?_) (fun hC2 => ?_)
      · refine qm ?_
        refine hk_region fun K hK => runs_eval tab_ok ?_
        simp only [ev0, evA, evB, evP, fl, gp, tab, simprocAttr, reduceCtorEq, reduceIte, decide_eq_false hf]
        refine fin_stop trivial (runs_call (subFault_no N m l (by omega) (by omega) hf) rfl rfl rfl (by simp only [dstOk, Nat.reduceLT]) (by repeat (first | exact trivial | constructor)) (runs_eval tab_ok ?_))
        simp only [ev0, evA, evB, evP, fl, gp, tab, simprocAttr, reduceCtorEq, reduceIte, decide_eq_false hf]
        refine fin_run ?_ (hK _ ?_) <;> clear hK <;> clear K
        · (first | exact trivial | omega | (simp only [In64] at *; omega) | (simp [In64] at *; omega) | (simp_all; done) | skip)
        refine qa (qk (qb ?_))
        simp only [Tryd.results7, enA, ev0, evA, evB, evP, fl, gp, tab, simprocAttr, reduceCtorEq, reduceIte]
        all_goals ((first | exact rfl | exact ⟨rfl, rfl⟩ | exact ⟨rfl, rfl, rfl⟩ | exact ⟨trivial, rfl⟩ | exact ⟨Nat.le_refl _, rfl⟩ | trivial | (simp; done)))
      · cases hC2
end Go.Proofs.YtchoalibhpbbdaaDoor
