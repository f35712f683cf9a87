/-
  Walks: the law CosetTowers. Conditions: none.
-/
import Derived.Test.YtchoalibhpbbdaaDoorLS11
set_option linter.all false
namespace Go.Proofs.YtchoalibhpbbdaaDoor
open Go.Pv

def orC (p q : Nat → Bool) (a : Nat) : Bool := p a || q a
theorem ct1_c (n : Nat) (p r : Nat → Bool) (hn : n ≤ 60) {x : Nat} (hx : x < n) : FnC Tryd.prog 43 [.int .i64 x, .ptr [.list (il (thl n p))], .ptr [.list (il (thl n r))]] (.bool (orC p r x)) := by
  have hlp := thl_le n p
  have hlr := thl_le n r
  have e1 : decide (((x : Nat) : Int) ∈ thl n p) = p x := by rw [Bool.eq_iff_iff, decide_eq_true_eq]; exact mem_thl_n hx
  have e2 : decide (((x : Nat) : Int) ∈ thl n r) = r x := by rw [Bool.eq_iff_iff, decide_eq_true_eq]; exact mem_thl_n hx
  refine fnc_of tab_ok Tryd.func43 rfl (by kernel_rfl) (by rw [Tryd.ntmps43]; exact Nat.le_add_left 3 _) ?_; rw [Tryd.ntmps43]
  refine qm ?_
  refine hk_region fun K hK => runs_eval tab_ok ?_
  simp only [ev0, evA, evB, evP, fl, gp, tab, simprocAttr, reduceCtorEq, reduceIte]
  refine fin_run trivial (hK _ ?_) <;> clear hK <;> clear K
  refine qa (qm ?_)
  cases hpx : p x
  · refine hk_region fun K hK => runs_eval tab_ok ?_
    simp only [ev0, evA, evB, evP, fl, gp, tab, simprocAttr, reduceCtorEq, reduceIte, e1, e2, hpx]
    refine fin_stop trivial (runs_call (has_r (thl n p) x (by omega)) rfl rfl rfl (by simp only [dstOk, Nat.reduceLT]) (by repeat (first | exact trivial | constructor)) (runs_eval tab_ok ?_))
    simp only [ev0, evA, evB, evP, fl, gp, tab, simprocAttr, reduceCtorEq, reduceIte, e1, e2, hpx]
    refine fin_stop trivial (runs_call (has_r (thl n r) x (by omega)) rfl rfl rfl (by simp only [dstOk, Nat.reduceLT]) (by repeat (first | exact trivial | constructor)) (runs_eval tab_ok ?_))
    simp only [ev0, evA, evB, evP, fl, gp, tab, simprocAttr, reduceCtorEq, reduceIte, e1, e2, hpx]
    refine fin_run ?_ (hK _ ?_) <;> clear hK <;> clear K
    · (first | exact trivial | omega | (simp only [In64] at *; omega) | (simp [In64] at *; omega) | (simp_all; done) | skip)
    refine qa (qk ?_)
    simp only [Tryd.results43, enA, ev0, evA, evB, evP, fl, gp, tab, simprocAttr, reduceCtorEq, reduceIte]
    all_goals (unfold orC; rw [hpx]; rfl)
  · refine hk_region fun K hK => runs_eval tab_ok ?_
    simp only [ev0, evA, evB, evP, fl, gp, tab, simprocAttr, reduceCtorEq, reduceIte, e1, e2, hpx]
    refine fin_stop trivial (runs_call (has_r (thl n p) x (by omega)) rfl rfl rfl (by simp only [dstOk, Nat.reduceLT]) (by repeat (first | exact trivial | constructor)) (runs_eval tab_ok ?_))
    simp only [ev0, evA, evB, evP, fl, gp, tab, simprocAttr, reduceCtorEq, reduceIte, e1, e2, hpx]
    refine fin_run ?_ (hK _ ?_) <;> clear hK <;> clear K
    · (first | exact trivial | omega | (simp only [In64] at *; omega) | (simp [In64] at *; omega) | (simp_all; done) | skip)
    refine qa (qk ?_)
    simp only [Tryd.results43, enA, ev0, evA, evB, evP, fl, gp, tab, simprocAttr, reduceCtorEq, reduceIte]
    all_goals (unfold orC; rw [hpx]; rfl)

/-- How many of the first classes are in a set. -/
def tcn (n : Nat) (ra : Nat → Nat → Bool) (r : Nat → Bool) (i : Nat) : Nat := (((mem n (lead ra)).take i).filter r).length
theorem tcn_succ {n : Nat} {ra : Nat → Nat → Bool} {r : Nat → Bool} {i : Nat} (hi : i < (mem n (lead ra)).length) : tcn n ra r (i + 1) = tcn n ra r i + if r ((mem n (lead ra)).getD i 0) = true then 1 else 0 := by
  unfold tcn
  rw [List.take_succ_eq_append_getElem hi, List.filter_append, List.length_append]
  have : (mem n (lead ra))[i] = (mem n (lead ra)).getD i 0 := by simp [List.getD, List.getElem?_eq_getElem hi]
  rw [this, List.filter_cons]
  by_cases h : r ((mem n (lead ra)).getD i 0) = true
  · rw [if_pos h, if_pos h]; rfl
  · rw [if_neg h, if_neg h]; rfl
theorem tcn_le (n : Nat) (ra : Nat → Nat → Bool) (r : Nat → Bool) (i : Nat) : tcn n ra r i ≤ i := by
  unfold tcn
  have := List.length_filter_le r ((mem n (lead ra)).take i)
  rw [List.length_take] at this
  omega
theorem tcn_all (n : Nat) (ra : Nat → Nat → Bool) (r : Nat → Bool) : tcn n ra r (mem n (lead ra)).length = (mem n fun x => lead ra x && r x).length := by
  unfold tcn mem
  rw [List.take_length, List.filter_filter]
  congr 1
  exact List.filter_congr fun a _ => by rw [Bool.and_comm]

set_option maxRecDepth 20000 in
set_option maxHeartbeats 4000000 in
theorem cosetTowers_c (N : Int) (m l l2 : List Int) (hm : m.length ≤ 17592186043904) (hl : l.length ≤ 17592186043904) (hl2 : l2.length ≤ 17592186043904) : FnC Tryd.prog 5 [gp N m, .list (il l), .list (il l2)] (.bool true) := by
  have key : (sf N m l).1 = 0 ∧ (sf N m l2).1 = 0 ∨ (sf N m l).1 = 0 ∧ ¬ (sf N m l2).1 = 0 ∨ ¬ (sf N m l).1 = 0 := by omega
  refine fnc_of tab_ok Tryd.func5 rfl (by kernel_rfl) (by rw [Tryd.ntmps5]; exact Nat.le_add_left 3 _) ?_; rw [Tryd.ntmps5]
  refine qm ?_
  refine hk_region fun K hK => runs_eval tab_ok ?_
  simp only [ev0, evA, evB, evP, fl, gp, tab, simprocAttr, reduceCtorEq, reduceIte]
  refine fin_run ?_ (hK _ ?_) <;> clear hK <;> clear K
  · (first | exact trivial | omega | (simp only [In64] at *; omega) | (simp [In64] at *; omega) | (simp_all; done) | skip)
  refine qa (qm (qm ?_))
  refine hk_region fun K hK => runs_eval tab_ok ?_
  simp only [ev0, evA, evB, evP, fl, gp, tab, simprocAttr, reduceCtorEq, reduceIte]
  refine fin_stop trivial (runs_call (cosetBegun_c) rfl rfl rfl (by simp only [dstOk, Nat.reduceLT]) (by repeat (first | exact trivial | constructor)) (runs_eval tab_ok ?_))
  simp only [ev0, evA, evB, evP, fl, gp, tab, simprocAttr, reduceCtorEq, reduceIte]
  refine fin_run trivial (hK _ ?_) <;> clear hK <;> clear K
  refine qa ?_
  refine hk_cond rfl (fun hC1 => ?_) (fun hC1 => ?_)
  · cases hC1
  · (try simp only [nhs] at hC1)
    refine qh (qa (qm ?_))
    rcases key with ⟨hf, hf2⟩ | ⟨hf, hf2⟩ | hf
    · obtain ⟨n, e, h, rfl, h1, hs⟩ := sf_ok hf
      have G := h.2.2
      have hb := h.2.1.big
      have h2 : l2 = thl n (tst l2) := by
        have : sf n m l2 = lf n l2 := by unfold sf; rw [if_neg (by rw [gf_of h]; simp)]
        rw [this] at hf2
        exact (lf_list hf2).1
      generalize tst l = p0 at h1
      subst h1
      generalize tst l2 = s at h2
      subst h2
      obtain ⟨p, hp⟩ := gen_ex n (op m n) e p0
      have hsub := gen_sub G hp
      obtain ⟨r, hr⟩ := gen_ex n (op m n) e (orC p s)
      have hrs := gen_sub G hr
      have hpr : ∀ x, x < n → p x = true → r x = true := fun a ha h => (hr a ha).2 (Gen.mem G ha (by unfold orC; rw [h]; rfl))
      have hlp := thl_le n p
      have hlr := thl_le n r
      have hls := thl_le n s
      have hla : (cst n (dco n (op m n) p (onp e))).length ≤ n := cstp_len _ _ _
      have hlb : (cst n (dco n (op m n) r (onp e))).length ≤ n := cstp_len _ _ _
      have ha1 := cst_len n (dco n (op m n) p (onp e))
      have hb1 := cst_len n (dco n (op m n) r (onp e))
      have hE := G.dco_eqv hsub G.onp_sub
      have htw := G.tower hsub hrs hpr
      rw [← hb1, ← tcn_all, ← ha1] at htw
      have hprod : ((tcn n (dco n (op m n) p (onp e)) r (cst n (dco n (op m n) p (onp e))).length : Nat) : Int) * ((cst n (dco n (op m n) r (onp e))).length : Int) = ((cst n (dco n (op m n) p (onp e))).length : Int) := by rw [← Int.natCast_mul, htw]
      refine hk_region fun K hK => runs_eval tab_ok ?_
      simp only [ev0, evA, evB, evP, fl, gp, tab, simprocAttr, reduceCtorEq, reduceIte]
      refine fin_stop trivial (runs_call (made_ok h p0 p hp) rfl rfl rfl (by simp only [dstOk, Nat.reduceLT]) (by repeat (first | exact trivial | constructor)) (runs_eval tab_ok ?_))
      simp only [ev0, evA, evB, evP, fl, gp, tab, simprocAttr, reduceCtorEq, reduceIte]
      refine fin_run ?_ (hK _ ?_) <;> clear hK <;> clear K
      · (first | exact trivial | omega | (simp only [In64] at *; omega) | (simp [In64] at *; omega) | (simp_all; done) | skip)
      refine qa (qm (qm ?_))
      refine hk_region fun K hK => runs_eval tab_ok ?_
      simp only [ev0, evA, evB, evP, fl, gp, tab, simprocAttr, reduceCtorEq, reduceIte, sf_thl h]
      refine fin_stop trivial (runs_call (setFault_c n m (thl n s) (by omega) (by omega)) rfl rfl rfl (by simp only [dstOk, Nat.reduceLT]) (by repeat (first | exact trivial | constructor)) (runs_eval tab_ok ?_))
      simp only [ev0, evA, evB, evP, fl, gp, tab, simprocAttr, reduceCtorEq, reduceIte, sf_thl h]
      refine fin_run ?_ (hK _ ?_) <;> clear hK <;> clear K
      · (first | exact trivial | omega | (simp only [In64] at *; omega) | (simp [In64] at *; omega) | (simp_all; done) | skip)
      refine qa ?_
      refine hk_cond rfl (fun hC2 => ?_) (fun hC2 => ?_)
      · cases hC2
      · (try simp only [nhs] at hC2)
        refine qh (qa (qm ?_))
        refine hk_freeze 1 rfl rfl ?_
        refine hk_freeze 2 rfl rfl ?_
        refine hk_pure 7 rfl (Nat.zero_le _) ?_
        refine hk_pure 5 rfl (Nat.zero_le _) ?_
        simp only [hset, List.drop_zero]
        refine hk_draw2 mixed fun K hK => runs2_eval tab_ok ?_
        simp only [evD, ev0, evA, evB, evP, fl, gp, tab, simprocAttr, reduceCtorEq, reduceIte]
        refine fin2_stop trivial (runs2_call (those_c n m _ _ (orC p s) (by omega) (fun a ha => ct1_c n p s hb ha)) rfl rfl rfl rfl (by simp only [dstOk, Nat.reduceLT]) (by repeat (first | exact trivial | constructor)) (runs2_eval tab_ok ?_))
        simp only [evD, ev0, evA, evB, evP, fl, gp, tab, simprocAttr, reduceCtorEq, reduceIte]
        refine fin2_stop trivial (runs2_call (made_ok h (orC p s) r hr) rfl rfl rfl rfl (by simp only [dstOk, Nat.reduceLT]) (by repeat (first | exact trivial | constructor)) (runs2_eval tab_ok ?_))
        simp only [evD, ev0, evA, evB, evP, fl, gp, tab, simprocAttr, reduceCtorEq, reduceIte]
        refine fin2_run ?_ (hK _ _ (by first | kernel_rfl | rfl) ?_) <;> clear hK <;> clear K
        · (first | exact trivial | omega | (simp only [In64] at *; omega) | (simp [In64] at *; omega) | (simp_all; done) | skip)
        refine qa (qm ?_)
        refine hk_region fun K hK => runs_eval tab_ok ?_
        simp only [ev0, evA, evB, evP, fl, gp, tab, simprocAttr, reduceCtorEq, reduceIte]
        refine fin_stop trivial (runs_call (right_ok h p hsub) rfl rfl rfl (by simp only [dstOk, Nat.reduceLT]) (by repeat (first | exact trivial | constructor)) (runs_eval tab_ok ?_))
        simp only [ev0, evA, evB, evP, fl, gp, tab, simprocAttr, reduceCtorEq, reduceIte]
        refine fin_run ?_ (hK _ ?_) <;> clear hK <;> clear K
        · (first | exact trivial | omega | (simp only [In64] at *; omega) | (simp [In64] at *; omega) | (simp_all; done) | skip)
        refine qa (qm ?_)
        refine hk_region fun K hK => runs_eval tab_ok ?_
        simp only [ev0, evA, evB, evP, fl, gp, tab, simprocAttr, reduceCtorEq, reduceIte]
        refine fin_stop trivial (runs_call (right_ok h r hrs) rfl rfl rfl (by simp only [dstOk, Nat.reduceLT]) (by repeat (first | exact trivial | constructor)) (runs_eval tab_ok ?_))
        simp only [ev0, evA, evB, evP, fl, gp, tab, simprocAttr, reduceCtorEq, reduceIte]
        refine fin_run ?_ (hK _ ?_) <;> clear hK <;> clear K
        · (first | exact trivial | omega | (simp only [In64] at *; omega) | (simp [In64] at *; omega) | (simp_all; done) | skip)
        refine qa (qm (qm ?_))
        refine hk_region fun K hK => runs_eval tab_ok ?_
        simp only [ev0, evA, evB, evP, fl, gp, tab, simprocAttr, reduceCtorEq, reduceIte]
        refine fin_run ?_ (hK _ ?_) <;> clear hK <;> clear K
        · (first | exact trivial | omega | (simp only [In64] at *; omega) | (simp [In64] at *; omega) | (simp_all; done) | skip)
        refine qa ?_
        refine hk_cond rfl (fun hC3 => ?_) (fun hC3 => ?_)
        · cases hC3
        · (try simp only [nhs] at hC3)
          refine qh (qa (qm ?_))
          refine hk_region fun K hK => runs_eval tab_ok ?_
          simp only [ev0, evA, evB, evP, fl, gp, tab, simprocAttr, reduceCtorEq, reduceIte]
          refine fin_run trivial (hK _ ?_) <;> clear hK <;> clear K
          refine qa (qm (qm ?_))
          refine hk_region fun K hK => runs_eval tab_ok ?_
          simp only [ev0, evA, evB, evP, fl, gp, tab, simprocAttr, reduceCtorEq, reduceIte]
          refine fin_run trivial (hK _ ?_) <;> clear hK <;> clear K
          refine qa (ql ?_)
          refine hk_loop (ι := Nat) (fun i => ⟨97, [(9, .p (.list (il (thl n r)))), (11, .p (.list (ll (cst n (dco n (op m n) p (onp e)))))), (13, .p (.list (ll (cst n (dco n (op m n) r (onp e)))))), (15, .p (.int .i64 (tcn n (dco n (op m n) p (onp e)) r i : Nat))), (16, .p (.int .i64 i))], []⟩) (fun i => i ≤ (cst n (dco n (op m n) p (onp e))).length) (fun i => (cst n (dco n (op m n) p (onp e))).length - i) 0 (Nat.zero_le _) [] (by simp only [leq, leA, ev0, evA, evB, evP, fl, gp, tab, simprocAttr, reduceCtorEq, reduceIte] <;> first | trivial | (simp [tcn]; done)) fun i hi => ?_
          have htl := tcn_le n (dco n (op m n) p (onp e)) r i
          refine qm (qm ?_)
          refine hk_region fun K hK => runs_eval tab_ok ?_
          simp only [ev0, evA, evB, evP, fl, gp, tab, simprocAttr, reduceCtorEq, reduceIte, ll_length]
          refine fin_run trivial (hK _ ?_) <;> clear hK <;> clear K
          refine qa ?_
          refine hk_cond rfl (fun hC4 => ?_) (fun hC4 => ?_)
          · (try simp only [nhs] at hC4)
            have hlt : i < (cst n (dco n (op m n) p (onp e))).length := by omega
            obtain ⟨x, x1, x2, x3, x4⟩ := cst_get hlt
            have l1 := thl_le n (dco n (op m n) p (onp e) x)
            have hts := tcn_succ (n := n) (ra := dco n (op m n) p (onp e)) (r := r) (i := i) (by omega)
            rw [x4] at hts
            refine qh (qa (qm (ql (qm ?_))))
            refine hk_region fun K hK => runs_eval tab_ok ?_
            simp only [ev0, evA, evB, evP, fl, gp, tab, simprocAttr, reduceCtorEq, reduceIte, ll_length, ll_get hlt, x3]
            refine fin_stop ?_ (runs_call (parted_r n (dco n (op m n) p (onp e) x) r hb (r x) ⟨fun hrx a ha h1 => G.rco_in hrs hpr x1 ha h1 hrx, fun hall => hall x x1 (hE.refl x x1)⟩) rfl rfl rfl (by simp only [dstOk, Nat.reduceLT]) (by repeat (first | exact trivial | constructor)) (runs_eval tab_ok ?_))
            · (first | exact trivial | omega | (simp only [In64] at *; omega) | (simp [In64] at *; omega) | (simp_all; done) | skip)
            simp only [ev0, evA, evB, evP, fl, gp, tab, simprocAttr, reduceCtorEq, reduceIte, ll_length, ll_get hlt, x3]
            refine fin_run ?_ (hK _ ?_) <;> clear hK <;> clear K
            · (first | exact trivial | omega | (simp only [In64] at *; omega) | (simp [In64] at *; omega) | (simp_all; done) | skip)
            refine qa ?_
            refine hk_cond rfl (fun hC5 => ?_) (fun hC5 => ?_)
            · (try simp only [nhs] at hC5)
              rw [if_pos hC5] at hts
              refine hk_region fun K hK => runs_eval tab_ok ?_
              simp only [ev0, evA, evB, evP, fl, gp, tab, simprocAttr, reduceCtorEq, reduceIte]
              refine fin_run ?_ (hK _ ?_) <;> clear hK <;> clear K
              · (first | exact trivial | omega | (simp only [In64] at *; omega) | (simp [In64] at *; omega) | (simp_all; done) | skip)
              refine qd (qa ?_)
              refine hk_region fun K hK => runs_eval tab_ok ?_
              simp only [ev0, evA, evB, evP, fl, gp, tab, simprocAttr, reduceCtorEq, reduceIte]
              refine fin_run ?_ (hK _ ?_) <;> clear hK <;> clear K
              · (first | exact trivial | omega | (simp only [In64] at *; omega) | (simp [In64] at *; omega) | (simp_all; done) | skip)
              refine qa ?_
              refine ⟨i + 1, [], by omega, by omega, ?_⟩
              rw [hts]
              simp only [leq, leA, ev0, evA, evB, evP, fl, gp, tab, simprocAttr, reduceCtorEq, reduceIte] <;> first | trivial | omega
            · (try simp only [nhs] at hC5)
              rw [if_neg (by rw [hC5]; simp), Nat.add_zero] at hts
              have hem : thl n (fun a => dco n (op m n) p (onp e) x a && r a) = [] := by
                refine List.eq_nil_iff_forall_not_mem.2 fun z hz => ?_
                obtain ⟨a, a1, a2, _⟩ := mem_thl.1 hz
                rw [Bool.and_eq_true] at a2
                have := G.rco_in hrs hpr a1 x1 (hE.symm x a x1 a1 a2.1) a2.2
                rw [hC5] at this; cases this
              refine qm ?_
              refine hk_region fun K hK => runs_eval tab_ok ?_
              simp only [ev0, evA, evB, evP, fl, gp, tab, simprocAttr, reduceCtorEq, reduceIte, ll_length, ll_get hlt, x3]
              refine fin_stop ?_ (runs_call (both_c (thl n (dco n (op m n) p (onp e) x)) (thl n r) (by omega) (by omega)) rfl rfl rfl (by simp only [dstOk, Nat.reduceLT]) (by repeat (first | exact trivial | constructor)) (runs_eval tab_ok ?_))
              · (first | exact trivial | omega | (simp only [In64] at *; omega) | (simp [In64] at *; omega) | (simp_all; done) | skip)
              simp only [ev0, evA, evB, evP, fl, gp, tab, simprocAttr, reduceCtorEq, reduceIte, bth_thl, hem, il_length, List.length_nil, ll_length, ll_get hlt, x3]
              refine fin_run ?_ (hK _ ?_) <;> clear hK <;> clear K
              · (first | exact trivial | omega | (simp only [In64] at *; omega) | (simp [In64] at *; omega) | (simp_all; done) | skip)
              refine qa ?_
              refine hk_cond rfl (fun hC6 => ?_) (fun hC6 => ?_)
              · cases hC6
              · (try simp only [nhs] at hC6)
                refine qh (qd (qa ?_))
                refine hk_region fun K hK => runs_eval tab_ok ?_
                simp only [ev0, evA, evB, evP, fl, gp, tab, simprocAttr, reduceCtorEq, reduceIte]
                refine fin_run ?_ (hK _ ?_) <;> clear hK <;> clear K
                · (first | exact trivial | omega | (simp only [In64] at *; omega) | (simp [In64] at *; omega) | (simp_all; done) | skip)
                refine qa ?_
                refine ⟨i + 1, [], by omega, by omega, ?_⟩
                rw [hts]
                simp only [leq, leA, ev0, evA, evB, evP, fl, gp, tab, simprocAttr, reduceCtorEq, reduceIte] <;> first | trivial | omega
          · (try simp only [nhs] at hC4)
            have hin : i = (cst n (dco n (op m n) p (onp e))).length := by omega
            rw [hin]
            have hpl : ((tcn n (dco n (op m n) p (onp e)) r (cst n (dco n (op m n) p (onp e))).length : Nat) : Int) * ((cst n (dco n (op m n) r (onp e))).length : Int) ≤ 60 := by omega
            refine qj (qc (qc (qf (qa (qm ?_)))))
            refine hk_region fun K hK => runs_eval tab_ok ?_
            simp only [ev0, evA, evB, evP, fl, gp, tab, simprocAttr, reduceCtorEq, reduceIte, ll_length, hprod]
            refine fin_run ?_ (hK _ ?_) <;> clear hK <;> clear K
            · simp only [In64]; omega
            refine qa (qk ?_)
            simp only [Tryd.results5, enA, ev0, evA, evB, evP, fl, gp, tab, simprocAttr, reduceCtorEq, reduceIte]
            all_goals (rfl)
    · obtain ⟨n, e, h, rfl, h1, hs⟩ := sf_ok hf
      have G := h.2.2
      generalize tst l = p0 at h1
      subst h1
      obtain ⟨p, hp⟩ := gen_ex n (op m n) e p0
      refine hk_region fun K hK => runs_eval tab_ok ?_
      simp only [ev0, evA, evB, evP, fl, gp, tab, simprocAttr, reduceCtorEq, reduceIte]
      refine fin_stop trivial (runs_call (made_ok h p0 p hp) rfl rfl rfl (by simp only [dstOk, Nat.reduceLT]) (by repeat (first | exact trivial | constructor)) (runs_eval tab_ok ?_))
      simp only [ev0, evA, evB, evP, fl, gp, tab, simprocAttr, reduceCtorEq, reduceIte]
      refine fin_run ?_ (hK _ ?_) <;> clear hK <;> clear K
      · (first | exact trivial | omega | (simp only [In64] at *; omega) | (simp [In64] at *; omega) | (simp_all; done) | skip)
      refine qa (qm (qm ?_))
      refine hk_region fun K hK => runs_eval tab_ok ?_
      simp only [ev0, evA, evB, evP, fl, gp, tab, simprocAttr, reduceCtorEq, reduceIte, decide_eq_false hf2]
      refine fin_stop trivial (runs_call (setFault_c n m l2 (by omega) (by omega)) rfl rfl rfl (by simp only [dstOk, Nat.reduceLT]) (by repeat (first | exact trivial | constructor)) (runs_eval tab_ok ?_))
      simp only [ev0, evA, evB, evP, fl, gp, tab, simprocAttr, reduceCtorEq, reduceIte, decide_eq_false hf2]
      refine fin_run ?_ (hK _ ?_) <;> clear hK <;> clear K
      · (first | exact trivial | omega | (simp only [In64] at *; omega) | (simp [In64] at *; omega) | (simp_all; done) | skip)
      refine qa ?_
      refine hk_cond rfl (fun hC2 => ?_) (fun hC2 => ?_)
      · (try simp only [nhs] at hC2)
        refine qm ?_
        refine hk_region fun K hK => runs_eval tab_ok ?_
        simp only [ev0, evA, evB, evP, fl, gp, tab, simprocAttr, reduceCtorEq, reduceIte]
        refine fin_run trivial (hK _ ?_) <;> clear hK <;> clear K
        refine qa (qk (qb ?_))
        simp only [Tryd.results5, enA, ev0, evA, evB, evP, fl, gp, tab, simprocAttr, reduceCtorEq, reduceIte]
        all_goals (rfl)
      · cases hC2
    · refine hk_region fun K hK => runs_eval tab_ok ?_
      simp only [ev0, evA, evB, evP, fl, gp, tab, simprocAttr, reduceCtorEq, reduceIte]
      refine fin_stop trivial (runs_call (made_no N m l (by omega) (by omega) hf) rfl rfl rfl (by simp only [dstOk, Nat.reduceLT]) (by repeat (first | exact trivial | constructor)) (runs_eval tab_ok ?_))
      simp only [ev0, evA, evB, evP, fl, gp, tab, simprocAttr, reduceCtorEq, reduceIte]
      refine fin_run ?_ (hK _ ?_) <;> clear hK <;> clear K
      · (first | exact trivial | omega | (simp only [In64] at *; omega) | (simp [In64] at *; omega) | (simp_all; done) | skip)
      refine qa (qm (qm ?_))
      refine hk_region fun K hK => runs_eval tab_ok ?_
      simp only [ev0, evA, evB, evP, fl, gp, tab, simprocAttr, reduceCtorEq, reduceIte, decide_eq_false hf]
      refine fin_run ?_ (hK _ ?_) <;> clear hK <;> clear K
      · (first | exact trivial | omega | (simp only [In64] at *; omega) | (simp [In64] at *; omega) | (simp_all; done) | skip)
      refine qa ?_
      refine hk_cond rfl (fun hC2 => ?_) (fun hC2 => ?_)
      · refine qm ?_
        refine hk_region fun K hK => runs_eval tab_ok ?_
        simp only [ev0, evA, evB, evP, fl, gp, tab, simprocAttr, reduceCtorEq, reduceIte]
        refine fin_run trivial (hK _ ?_) <;> clear hK <;> clear K
        refine qa (qk (qb ?_))
        simp only [Tryd.results5, enA, ev0, evA, evB, evP, fl, gp, tab, simprocAttr, reduceCtorEq, reduceIte]
        all_goals (rfl)
      · cases hC2
end Go.Proofs.YtchoalibhpbbdaaDoor
