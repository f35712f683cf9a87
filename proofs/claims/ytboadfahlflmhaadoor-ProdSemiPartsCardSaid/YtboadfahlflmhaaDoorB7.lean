/-
  Texts of this proof, one behind the other: what each says stands at its head. Conditions: none.
-/
import Derived.Test.YtboadfahlflmhaaDoorB6
import Derived.Test.YtboadfahlflmhaaDoorB4
import Derived.Shelf.Sort.Plain
import Derived.Shelf.Slices.In.SortNone
import Derived.Test.YtboadfahlflmhaaDoorProg
import Derived.Shelf.Lays
import Derived.Test.YtboadfahlflmhaaDoorB5

/-
  Walks: a map of some things, spread to all. Conditions: none.
-/
set_option linter.all false
namespace Go.Proofs.YtboadfahlflmhaaDoor
open Go.Pv

theorem nl_cons (a : Nat) (W : List Nat) : nl (a :: W) = ((a : Nat) : Int) :: nl W := rfl
theorem rgz_neg (n : Nat) : rgz n (fun a => if a < n then -1 else 0) = prow n (fun _ => false) (fun _ => 0) := by
  unfold rgz prow
  exact List.map_congr_left fun a ha => by simp [List.mem_range.1 ha]

theorem outs_le (n : Nat) (S : Nat → Bool) : outs n S ≤ n := by
  unfold outs mem
  exact Nat.le_trans (List.length_filter_le _ _) (by simp)
section
variable {n e N d : Nat} {m M : List Int}

set_option maxHeartbeats 4000000 in
theorem spread_yes (h : GT n m n e) (h' : GT N M N d) (F T : List Nat) (hFT : F.length = T.length) (hFl : F.length ≤ 1000000) (hF : ∀ i, i < F.length → F.getD i 0 < n) (hT : ∀ i, i < F.length → T.getD i 0 < N) (hgen : ∀ a, a < n → Gen n (op m n) e (fun x => decide (x ∈ F)) a) {φ : Nat → Nat} (hφ : Ext n (op m n) N (op M N) F T φ) : FnG Tryd.prog 130 [gp n m, gp N M, .list (il (nl F)), .list (il (nl T))] (.sl 0 0 (il (tbm n φ)).length) [.own (opl (il (tbm n φ)))] := by
  have G := h.2.2
  have K := h'.2.2
  have Tb := h.2.1
  have Tb' := h'.2.1
  have hb := Tb.big
  have hb' := Tb'.big
  have hlF := nl_len F
  have hlT := nl_len T
  have hel := G.el
  have hr0 := rgz_len n (fun a => if a < n then -1 else 0)
  refine fng_of tab_ok Tryd.func130 rfl (by kernel_rfl) (by rw [Tryd.ntmps130]; exact Nat.le_add_left 4 _) ?_; rw [Tryd.ntmps130]
  refine qm ?_
  refine hk_region fun K hK => runs_eval tab_ok ?_
  simp only [ev0, evA, evB, evP, fl, gp, tab, simprocAttr, reduceCtorEq, reduceIte]
  refine fin_run ?_ (hK _ ?_) <;> clear hK <;> clear K
  · (first | exact trivial | omega | (simp only [In64] at *; omega) | (simp [In64] at *; omega) | (simp_all; done) | skip)
  refine qa (qm ?_)
  refine hk_region fun K hK => runs_eval tab_ok ?_
  simp only [ev0, evA, evB, evP, fl, gp, tab, simprocAttr, reduceCtorEq, reduceIte, makeSliceA.eq_def, rgz_new]
  refine fin_run ?_ (hK _ ?_) <;> clear hK <;> clear K
  · omega
  refine qa (qm (qm ?_))
  refine hk_region fun K hK => runs_eval tab_ok ?_
  simp only [ev0, evA, evB, evP, fl, gp, tab, simprocAttr, reduceCtorEq, reduceIte]
  refine fin_run trivial (hK _ ?_) <;> clear hK <;> clear K
  refine qa (ql ?_)
  refine hk_loop (ι := Nat) (fun i => ⟨88, [(2, .p (.list (il (nl F)))), (3, .p (.list (il (nl T)))), (4, .ptr 0 0), (5, .ptr 1 0), (9, .sl 2 0 n), (21, .p (.int .i64 n)), (22, .p (.int .i64 i))], [.own [.p (.int .i64 n), .p (.list (il m))], .own [.p (.int .i64 N), .p (.list (il M))], .own (ol (rgz n fun a => if a < i then -1 else 0))]⟩) (fun i => i ≤ n) (fun i => n - i) 0 (Nat.zero_le _) [0, 1, 2] (by simp only [leq, leA, ev0, evA, evB, evP, fl, gp, tab, simprocAttr, reduceCtorEq, reduceIte] <;> first | trivial | (simp [rgz]; done) | (simp [rgz, List.take_of_length_le]; done)) fun i hi => ?_
  have hr := rgz_len n (fun a => if a < i then -1 else 0)
  refine qm ?_
  refine hk_region fun K hK => runs_eval tab_ok ?_
  simp only [ev0, evA, evB, evP, fl, gp, tab, simprocAttr, reduceCtorEq, reduceIte]
  refine fin_run trivial (hK _ ?_) <;> clear hK <;> clear K
  refine qa (qm ?_)
  refine hk_cond rfl (fun hC1 => ?_) (fun hC1 => ?_)
  · (try simp only [nhs] at hC1)
    have hlt : i < n := by omega
    have hse : (rgz n fun a => if a < i then -1 else 0).set i (-1) = rgz n fun a => if a < i + 1 then -1 else 0 := by
      rw [rgz_set]
      exact rgz_congr fun a ha => by
        by_cases e : a = i
        · simp [e]
        · by_cases e2 : a < i
          · simp [e, e2, show a < i + 1 by omega]
          · simp [e, e2, show ¬ a < i + 1 by omega]
    refine qh (qa (qm (ql (qm ?_))))
    refine hk_region fun K hK => runs_eval tab_ok ?_
    simp only [ev0, evA, evB, evP, fl, gp, tab, simprocAttr, reduceCtorEq, reduceIte]
    refine fin_run trivial (hK _ ?_) <;> clear hK <;> clear K
    refine qa ?_
    refine hk_region fun K hK => runs_eval tab_ok ?_
    simp only [ev0, evA, evB, evP, fl, gp, tab, simprocAttr, reduceCtorEq, reduceIte, ol_set, hse]
    refine fin_run ?_ (hK _ ?_) <;> clear hK <;> clear K
    · (first | exact trivial | omega | (simp only [In64] at *; omega) | (simp [In64] at *; omega) | (simp_all; done) | skip)
    refine qd (qa ?_)
    refine hk_region fun K hK => runs_eval tab_ok ?_
    simp only [ev0, evA, evB, evP, fl, gp, tab, simprocAttr, reduceCtorEq, reduceIte]
    refine fin_run ?_ (hK _ ?_) <;> clear hK <;> clear K
    · (first | exact trivial | omega | (simp only [In64] at *; omega) | (simp [In64] at *; omega) | (simp_all; done) | skip)
    refine qa ?_
    refine ⟨i + 1, [0, 1, 2], by omega, by omega, ?_⟩
    simp only [leq, leA, ev0, evA, evB, evP, fl, gp, tab, simprocAttr, reduceCtorEq, reduceIte] <;> first | trivial | omega | (simp [ol_length, rgz_len]; done)
  · (try simp only [nhs] at hC1)
    obtain rfl : i = n := by omega
    rw [rgz_neg]
    have hp0 := prow_len i (fun _ => false) (fun _ => 0)
    refine qj (qc (qc (qf (qa (qm ?_)))))
    refine hk_draw2 mixed fun K hK => runs2_eval tab_ok ?_
    simp only [evD, ev0, evA, evB, evP, fl, gp, tab, simprocAttr, reduceCtorEq, reduceIte, ol_set, prow_set (S := fun _ => false) (ψ := fun _ => 0) hel rfl]
    refine fin2_stop trivial (runs2_call (oneOf_c h) rfl rfl rfl rfl (by simp only [dstOk, Nat.reduceLT]) (by repeat (first | exact trivial | constructor)) (runs2_eval tab_ok ?_))
    simp only [evD, ev0, evA, evB, evP, fl, gp, tab, simprocAttr, reduceCtorEq, reduceIte, ol_set, prow_set (S := fun _ => false) (ψ := fun _ => 0) hel rfl]
    refine fin2_stop trivial (runs2_call (oneOf_c h') rfl rfl rfl rfl (by simp only [dstOk, Nat.reduceLT]) (by repeat (first | exact trivial | constructor)) (runs2_eval tab_ok ?_))
    simp only [evD, ev0, evA, evB, evP, fl, gp, tab, simprocAttr, reduceCtorEq, reduceIte, ol_set, prow_set (S := fun _ => false) (ψ := fun _ => 0) hel rfl]
    refine fin2_run ?_ (hK _ _ (by first | kernel_rfl | rfl) ?_) <;> clear hK <;> clear K
    · (first | exact trivial | omega | (simp only [In64] at *; omega) | (simp [In64] at *; omega) | (simp_all; done) | skip)
    refine qa (qm ?_)
    refine hk_region fun K hK => runs_eval tab_ok ?_
    simp only [ev0, evA, evB, evP, fl, gp, tab, simprocAttr, reduceCtorEq, reduceIte]
    refine fin_stop trivial (runs_call (oneOf_c h) rfl rfl rfl (by simp only [dstOk, Nat.reduceLT]) (by repeat (first | exact trivial | constructor)) (runs_op (buildOwn_does (n := 1) (l := [.int .i64 ((e : Nat) : Int)]) tab_ok rfl rfl rfl rfl rfl rfl rfl ⟨⟨rfl, rfl, rfl⟩, trivial⟩ rfl (by decide) rfl) rfl (show (37 : Nat) < 88 by decide) (runs_eval tab_ok ?_)))
    simp only [ev0, evA, evB, evP, fl, gp, tab, simprocAttr, reduceCtorEq, reduceIte]
    refine fin_run ?_ (hK _ ?_) <;> clear hK <;> clear K
    · trivial
    refine qa (qm (ql ?_))
    refine hk_loop (ι := (Nat → Bool) × (Nat → Nat) × List Int × List Nat) (fun p => ⟨88, [(2, .p (.list (il (nl F)))), (3, .p (.list (il (nl T)))), (4, .ptr 0 0), (5, .ptr 1 0), (9, .sl 2 0 (prow i p.1 p.2.1).length), (11, .sl 3 p.2.2.1.length (nl p.2.2.2).length)], [.own [.p (.int .i64 i), .p (.list (il m))], .own [.p (.int .i64 N), .p (.list (il M))], .own (ol (prow i p.1 p.2.1)), .own (ol (p.2.2.1 ++ nl p.2.2.2))]⟩) (fun p => Sprd i (op m i) e N (op M N) d F T p.1 p.2.1 p.2.2.2 ∧ 2 * outs i p.1 + p.2.2.2.length ≤ 200) (fun p => 2 * outs i p.1 + p.2.2.2.length) (upd1 (fun _ => false) e, updF (fun _ => 0) e d, [], [e]) ⟨Sprd.begin G K, by have := outs_le i (upd1 (fun _ => false) e); simp only [List.length_cons, List.length_nil]; omega⟩ [0, 1, 2, 3] (by simp only [leq, leA, ev0, evA, evB, evP, fl, gp, tab, simprocAttr, reduceCtorEq, reduceIte] <;> first | trivial | exact ⟨rfl, rfl⟩ | rfl | (simp [prow_len]; done) | (simp [ol, opl, il, nl, prow_len]; done) | (simp [prow_len, List.take_of_length_le]; done)) fun p hp => ?_
    obtain ⟨S, ψ, J, W⟩ := p
    obtain ⟨hp, hbd⟩ := hp
    simp only at hp hbd
    have hpl := prow_len i S ψ
    have hnW := nl_len W
    refine qm (qm ?_)
    refine hk_region fun K hK => runs_eval tab_ok ?_
    simp only [ev0, evA, evB, evP, fl, gp, tab, simprocAttr, reduceCtorEq, reduceIte]
    refine fin_run trivial (hK _ ?_) <;> clear hK <;> clear K
    refine qa ?_
    refine hk_cond rfl (fun hC2 => ?_) (fun hC2 => ?_)
    · (try simp only [nhs] at hC2)
      obtain ⟨a, W', rfl⟩ : ∃ a W', W = a :: W' := by
        cases W with
        | nil => simp [nl] at hC2
        | cons x w' => exact ⟨x, w', rfl⟩
      have hnc := nl_cons a W'
      have hnW' := nl_len W'
      have hP2 := hp.pop
      simp only [List.length_cons] at hbd
      obtain ⟨ha, hSa⟩ := hP2.ha
      refine qh (qa (ql (qm ?_)))
      refine hk_region fun K hK => runs_eval tab_ok ?_
      simp only [ev0, evA, evB, evP, fl, gp, tab, simprocAttr, reduceCtorEq, reduceIte, hnc, app_at, Nat.add_zero]
      refine fin_run ?_ (hK _ ?_) <;> clear hK <;> clear K
      · simp only [List.length_append, List.length_cons]; omega
      refine qa (qm ?_)
      refine hk_region fun K hK => runs_eval tab_ok ?_
      simp only [ev0, evA, evB, evP, fl, gp, tab, simprocAttr, reduceCtorEq, reduceIte]
      refine fin_run ?_ (hK _ ?_) <;> clear hK <;> clear K
      · (first | exact trivial | omega | (simp only [In64] at *; omega) | (simp [In64] at *; omega) | (simp_all; done) | skip)
      refine qa (qm ?_)
      refine hk_region fun K hK => runs_eval tab_ok ?_
      simp only [ev0, evA, evB, evP, fl, gp, tab, simprocAttr, reduceCtorEq, reduceIte]
      refine fin_run trivial (hK _ ?_) <;> clear hK <;> clear K
      refine qa (ql ?_)
      refine hk_loop (ι := Nat × (Nat → Bool) × (Nat → Nat) × List Int × List Nat) (fun p => ⟨88, [(2, .p (.list (il (nl F)))), (3, .p (.list (il (nl T)))), (4, .ptr 0 0), (5, .ptr 1 0), (9, .sl 2 0 (prow i p.2.1 p.2.2.1).length), (11, .sl 3 p.2.2.2.1.length (nl p.2.2.2.2).length), (12, .p (.int .i64 a)), (46, .p (.list (il (nl F)))), (47, .p (.int .i64 F.length)), (48, .p (.int .i64 p.1))], [.own [.p (.int .i64 i), .p (.list (il m))], .own [.p (.int .i64 N), .p (.list (il M))], .own (ol (prow i p.2.1 p.2.2.1)), .own (ol (p.2.2.2.1 ++ nl p.2.2.2.2))]⟩) (fun p => p.1 ≤ F.length ∧ Sprd2 i (op m i) e N (op M N) d F T a p.1 p.2.1 p.2.2.1 p.2.2.2.2 ∧ 2 * outs i p.2.1 + p.2.2.2.2.length ≤ 2 * outs i S + W'.length) (fun p => F.length - p.1) (0, S, ψ, J ++ [((a : Nat) : Int)], W') ⟨Nat.zero_le _, hP2, Nat.le_refl _⟩ [0, 1, 2, 3] (by simp only [leq, leA, ev0, evA, evB, evP, fl, gp, tab, simprocAttr, reduceCtorEq, reduceIte, hnc] <;> first | trivial | exact ⟨rfl, rfl⟩ | rfl | (simp [nl]; done) | (simp [nl_len, il_length]; done) | omega | (rw [List.take_of_length_le (by simp only [List.length_append, List.length_cons]; omega)]; done) | exact congrArg ol (List.take_of_length_le (by simp only [List.length_append, List.length_cons]; omega)).symm | exact ⟨by rw [List.take_of_length_le (by simp only [List.length_append, List.length_cons]; omega), List.append_assoc]; rfl, by omega⟩ | trace_state) fun p hp' => ?_
      obtain ⟨j, S2, ψ2, J2, W2⟩ := p
      obtain ⟨q1, q2, q3⟩ := hp'
      simp only at q1 q2 q3
      have hpl2 := prow_len i S2 ψ2
      have hnW2 := nl_len W2
      refine qm ?_
      refine hk_region fun K hK => runs_eval tab_ok ?_
      simp only [ev0, evA, evB, evP, fl, gp, tab, simprocAttr, reduceCtorEq, reduceIte]
      refine fin_run trivial (hK _ ?_) <;> clear hK <;> clear K
      refine qa (qm ?_)
      refine hk_cond rfl (fun hC3 => ?_) (fun hC3 => ?_)
      · (try simp only [nhs] at hC3)
        have hjl : j < F.length := by omega
        have hFj := hF j hjl
        have hTj := hT j hjl
        obtain ⟨_, hSa2⟩ := q2.ha
        have hψa := q2.lt a ha hSa2
        have hbl := G.cl _ _ ha hFj
        have pa := prow_get (S := S2) (ψ := ψ2) ha
        rw [hSa2, if_pos rfl] at pa
        have pb := prow_get (S := S2) (ψ := ψ2) hbl
        refine qh (qa (qm (ql (qm ?_))))
        refine hk_region fun K hK => runs_eval tab_ok ?_
        simp only [ev0, evA, evB, evP, fl, gp, tab, simprocAttr, reduceCtorEq, reduceIte, il_get (show j < (nl F).length by omega), nl_get hjl]
        refine fin_run ?_ (hK _ ?_) <;> clear hK <;> clear K
        · (first | exact trivial | omega | (simp only [In64] at *; omega) | (simp [In64] at *; omega) | (simp_all; done) | skip)
        refine qa (qm ?_)
        refine hk_draw2 mixed fun K hK => runs2_eval tab_ok ?_
        simp only [evD, ev0, evA, evB, evP, fl, gp, tab, simprocAttr, reduceCtorEq, reduceIte, il_get (show j < (nl T).length by omega), nl_get (show j < T.length by omega), ol_get (show a < (prow i S2 ψ2).length by omega), pa]
        refine fin2_stop trivial (runs2_call (of_c Tb ha hFj) rfl rfl rfl rfl (by simp only [dstOk, Nat.reduceLT]) (by repeat (first | exact trivial | constructor)) (runs2_eval tab_ok ?_))
        simp only [evD, ev0, evA, evB, evP, fl, gp, tab, simprocAttr, reduceCtorEq, reduceIte, il_get (show j < (nl T).length by omega), nl_get (show j < T.length by omega), ol_get (show a < (prow i S2 ψ2).length by omega), pa]
        refine fin2_stop ?_ (runs2_call (of_c Tb' hψa hTj) rfl rfl rfl rfl (by simp only [dstOk, Nat.reduceLT]) (by repeat (first | exact trivial | constructor)) (runs2_eval tab_ok ?_))
        · (first | exact trivial | omega | (simp only [In64] at *; omega) | (simp [In64] at *; omega) | (simp_all; done) | skip)
        simp only [evD, ev0, evA, evB, evP, fl, gp, tab, simprocAttr, reduceCtorEq, reduceIte, il_get (show j < (nl T).length by omega), nl_get (show j < T.length by omega), ol_get (show a < (prow i S2 ψ2).length by omega), pa]
        refine fin2_run ?_ (hK _ _ (by first | kernel_rfl | rfl) ?_) <;> clear hK <;> clear K
        · (first | exact trivial | omega | (simp only [In64] at *; omega) | (simp [In64] at *; omega) | (simp_all; done) | skip)
        refine qa (qm ?_)
        rcases Bool.eq_false_or_eq_true (S2 (op m i a (F.getD j 0))) with hSb | hSb <;> simp only [hSb, if_true, if_false, Bool.false_eq_true] at pb
        · refine hk_region fun K hK => runs_eval tab_ok ?_
          simp only [ev0, evA, evB, evP, fl, gp, tab, simprocAttr, reduceCtorEq, reduceIte, ol_get (show op m i a (F.getD j 0) < (prow i S2 ψ2).length by omega), pb, if_true, if_false, Bool.false_eq_true]
          refine fin_run ?_ (hK _ ?_) <;> clear hK <;> clear K
          · (first | exact trivial | omega | (simp only [In64] at *; omega) | (simp [In64] at *; omega) | (simp_all; done) | skip)
          refine qa ?_
          refine hk_cond rfl (fun hC4 => ?_) (fun hC4 => ?_)
          · (try simp only [nhs] at hC4)
            simp at hC4
            omega
          · (try simp only [nhs] at hC4)
            have hdum : True := trivial
            refine qm ?_
            refine hk_region fun K hK => runs_eval tab_ok ?_
            simp only [ev0, evA, evB, evP, fl, gp, tab, simprocAttr, reduceCtorEq, reduceIte, ol_get (show op m i a (F.getD j 0) < (prow i S2 ψ2).length by omega), pb, if_true]
            refine fin_run ?_ (hK _ ?_) <;> clear hK <;> clear K
            · (first | exact trivial | omega | (simp only [In64] at *; omega) | (simp [In64] at *; omega) | (simp_all; done) | skip)
            refine qa ?_
            refine hk_cond rfl (fun hC5 => ?_) (fun hC5 => ?_)
            · (try simp only [nhs] at hC5)
              have h1 := ((q2.rch _ hbl hSb).fun_ G K hF hφ).2
              have h2 := ((Rch.step j hjl (q2.rch a ha hSa2)).fun_ G K hF hφ).2
              omega
            · (try simp only [nhs] at hC5)
              refine qh (qd (qa ?_))
              refine hk_region fun K hK => runs_eval tab_ok ?_
              simp only [ev0, evA, evB, evP, fl, gp, tab, simprocAttr, reduceCtorEq, reduceIte]
              refine fin_run ?_ (hK _ ?_) <;> clear hK <;> clear K
              · (first | exact trivial | omega | (simp only [In64] at *; omega) | (simp [In64] at *; omega) | (simp_all; done) | skip)
              refine qa ?_
              have hv : ψ2 (op m i a (F.getD j 0)) = op M N (ψ2 a) (T.getD j 0) := by omega
              refine ⟨(j + 1, S2, ψ2, J2, W2), [0, 1, 2, 3], ⟨by simp only; omega, q2.keep hSb hv, q3⟩, by simp only; omega, ?_⟩
              simp only [leq, leA, ev0, evA, evB, evP, fl, gp, tab, simprocAttr, reduceCtorEq, reduceIte] <;> first | trivial | omega
        · refine hk_region fun K hK => runs_eval tab_ok ?_
          simp only [ev0, evA, evB, evP, fl, gp, tab, simprocAttr, reduceCtorEq, reduceIte, ol_get (show op m i a (F.getD j 0) < (prow i S2 ψ2).length by omega), pb, if_true, if_false, Bool.false_eq_true]
          refine fin_run ?_ (hK _ ?_) <;> clear hK <;> clear K
          · (first | exact trivial | omega | (simp only [In64] at *; omega) | (simp [In64] at *; omega) | (simp_all; done) | skip)
          refine qa ?_
          refine hk_cond rfl (fun hC4 => ?_) (fun hC4 => ?_)
          · (try simp only [nhs] at hC4)
            refine qm ?_
            refine hk_region fun K hK => runs_eval tab_ok ?_
            simp only [ev0, evA, evB, evP, fl, gp, tab, simprocAttr, reduceCtorEq, reduceIte, ol_set, prow_set hbl hSb]
            refine fin_run ?_ (hK _ ?_) <;> clear hK <;> clear K
            · (first | exact trivial | omega | (simp only [In64] at *; omega) | (simp [In64] at *; omega) | (simp_all; done) | skip)
            refine qa ?_
            refine hk_region fun K hK => runs_eval tab_ok ?_
            simp only [ev0, evA, evB, evP, fl, gp, tab, simprocAttr, reduceCtorEq, reduceIte]
            refine fin_run ?_ (hK _ ?_) <;> clear hK <;> clear K
            · simp only [List.length_append]; omega
            refine qd (qa ?_)
            refine hk_region fun K hK => runs_eval tab_ok ?_
            simp only [ev0, evA, evB, evP, fl, gp, tab, simprocAttr, reduceCtorEq, reduceIte]
            refine fin_run ?_ (hK _ ?_) <;> clear hK <;> clear K
            · (first | exact trivial | omega | (simp only [In64] at *; omega) | (simp [In64] at *; omega) | (simp_all; done) | skip)
            refine qa ?_
            have ho := outs_upd hbl hSb
            refine ⟨(j + 1, upd1 S2 (op m i a (F.getD j 0)), updF ψ2 (op m i a (F.getD j 0)) (op M N (ψ2 a) (T.getD j 0)), [], W2 ++ [op m i a (F.getD j 0)]), [0, 1, 2, 4], ⟨by simp only; omega, q2.push G K hF hT hjl hSb, by simp only [List.length_append, List.length_cons, List.length_nil]; omega⟩, by simp only; omega, ?_⟩
            simp only [nl_snoc]
            simp only [leq, leA, ev0, evA, evB, evP, fl, gp, tab, simprocAttr, reduceCtorEq, reduceIte] <;> first | trivial | omega | (simp [prow_len]; done) | exact ⟨by rw [List.drop_left, List.take_length, List.take_of_length_le (by simp)], by rw [prow_len, prow_len]⟩ | trace_state
          · (try simp only [nhs] at hC4)
            simp at hC4
      · (try simp only [nhs] at hC3)
        obtain rfl : j = F.length := by omega
        refine qj (qc (qc (qf (qd (qa ?_)))))
        refine ⟨(S2, ψ2, J2, W2), [0, 1, 2, 3], ⟨q2.done, by simp only; omega⟩, by simp only [List.length_cons]; omega, ?_⟩
        simp only [leq, leA, ev0, evA, evB, evP, fl, gp, tab, simprocAttr, reduceCtorEq, reduceIte] <;> first | trivial | omega
    · (try simp only [nhs] at hC2)
      obtain rfl : W = [] := by
        cases W with
        | nil => rfl
        | cons x w => simp [nl] at hC2
      obtain ⟨hall, hext⟩ := hp.fin G K hF hT hgen
      have hφe : ∀ a, a < i → S a = true ∧ ψ a = φ a := fun a ha => ⟨hall a ha, ((hp.rch a ha (hall a ha)).fun_ G K hF hφ).2.symm⟩
      have htl := tbm_len i φ
      rw [prow_all hφe]
      refine qj (qc (qc (qf (qa (qm ?_)))))
      refine hk_region fun K hK => runs_eval tab_ok ?_
      simp only [ev0, evA, evB, evP, fl, gp, tab, simprocAttr, reduceCtorEq, reduceIte]
      refine fin_run trivial (hK _ ?_) <;> clear hK <;> clear K
      refine qa (qk ?_)
      simp only [Tryd.results130, PostG, endG, rvsA, rvA, mkTup, ev0, evA, evB, evP, fl, gp, tab, simprocAttr, reduceCtorEq, reduceIte]
      all_goals (exact ⟨[2], rfl, rfl, rfl, by simp, ⟨⟨by rw [show opl (il (tbm i φ)) = ol (tbm i φ) from rfl, ol_ren, take_len], opl_sc _ _⟩, trivial⟩, trivial⟩)

set_option maxHeartbeats 4000000 in
theorem spread_no (h : GT n m n e) (h' : GT N M N d) (F T : List Nat) (hFT : F.length = T.length) (hFl : F.length ≤ 1000000) (hF : ∀ i, i < F.length → F.getD i 0 < n) (hT : ∀ i, i < F.length → T.getD i 0 < N) (hgen : ∀ a, a < n → Gen n (op m n) e (fun x => decide (x ∈ F)) a) (hφ : ∀ φ, ¬ Ext n (op m n) N (op M N) F T φ) : FnG Tryd.prog 130 [gp n m, gp N M, .list (il (nl F)), .list (il (nl T))] (.p .nil) [] := by
  have G := h.2.2
  have K := h'.2.2
  have Tb := h.2.1
  have Tb' := h'.2.1
  have hb := Tb.big
  have hb' := Tb'.big
  have hlF := nl_len F
  have hlT := nl_len T
  have hel := G.el
  have hr0 := rgz_len n (fun a => if a < n then -1 else 0)
  refine fng_of tab_ok Tryd.func130 rfl (by kernel_rfl) (by rw [Tryd.ntmps130]; exact Nat.le_add_left 4 _) ?_; rw [Tryd.ntmps130]
  refine qm ?_
  refine hk_region fun K hK => runs_eval tab_ok ?_
  simp only [ev0, evA, evB, evP, fl, gp, tab, simprocAttr, reduceCtorEq, reduceIte]
  refine fin_run ?_ (hK _ ?_) <;> clear hK <;> clear K
  · (first | exact trivial | omega | (simp only [In64] at *; omega) | (simp [In64] at *; omega) | (simp_all; done) | skip)
  refine qa (qm ?_)
  refine hk_region fun K hK => runs_eval tab_ok ?_
  simp only [ev0, evA, evB, evP, fl, gp, tab, simprocAttr, reduceCtorEq, reduceIte, makeSliceA.eq_def, rgz_new]
  refine fin_run ?_ (hK _ ?_) <;> clear hK <;> clear K
  · omega
  refine qa (qm (qm ?_))
  refine hk_region fun K hK => runs_eval tab_ok ?_
  simp only [ev0, evA, evB, evP, fl, gp, tab, simprocAttr, reduceCtorEq, reduceIte]
  refine fin_run trivial (hK _ ?_) <;> clear hK <;> clear K
  refine qa (ql ?_)
  refine hk_loop (ι := Nat) (fun i => ⟨88, [(2, .p (.list (il (nl F)))), (3, .p (.list (il (nl T)))), (4, .ptr 0 0), (5, .ptr 1 0), (9, .sl 2 0 n), (21, .p (.int .i64 n)), (22, .p (.int .i64 i))], [.own [.p (.int .i64 n), .p (.list (il m))], .own [.p (.int .i64 N), .p (.list (il M))], .own (ol (rgz n fun a => if a < i then -1 else 0))]⟩) (fun i => i ≤ n) (fun i => n - i) 0 (Nat.zero_le _) [0, 1, 2] (by simp only [leq, leA, ev0, evA, evB, evP, fl, gp, tab, simprocAttr, reduceCtorEq, reduceIte] <;> first | trivial | (simp [rgz]; done) | (simp [rgz, List.take_of_length_le]; done)) fun i hi => ?_
  have hr := rgz_len n (fun a => if a < i then -1 else 0)
  refine qm ?_
  refine hk_region fun K hK => runs_eval tab_ok ?_
  simp only [ev0, evA, evB, evP, fl, gp, tab, simprocAttr, reduceCtorEq, reduceIte]
  refine fin_run trivial (hK _ ?_) <;> clear hK <;> clear K
  refine qa (qm ?_)
  refine hk_cond rfl (fun hC1 => ?_) (fun hC1 => ?_)
  · (try simp only [nhs] at hC1)
    have hlt : i < n := by omega
    have hse : (rgz n fun a => if a < i then -1 else 0).set i (-1) = rgz n fun a => if a < i + 1 then -1 else 0 := by
      rw [rgz_set]
      exact rgz_congr fun a ha => by
        by_cases e : a = i
        · simp [e]
        · by_cases e2 : a < i
          · simp [e, e2, show a < i + 1 by omega]
          · simp [e, e2, show ¬ a < i + 1 by omega]
    refine qh (qa (qm (ql (qm ?_))))
    refine hk_region fun K hK => runs_eval tab_ok ?_
    simp only [ev0, evA, evB, evP, fl, gp, tab, simprocAttr, reduceCtorEq, reduceIte]
    refine fin_run trivial (hK _ ?_) <;> clear hK <;> clear K
    refine qa ?_
    refine hk_region fun K hK => runs_eval tab_ok ?_
    simp only [ev0, evA, evB, evP, fl, gp, tab, simprocAttr, reduceCtorEq, reduceIte, ol_set, hse]
    refine fin_run ?_ (hK _ ?_) <;> clear hK <;> clear K
    · (first | exact trivial | omega | (simp only [In64] at *; omega) | (simp [In64] at *; omega) | (simp_all; done) | skip)
    refine qd (qa ?_)
    refine hk_region fun K hK => runs_eval tab_ok ?_
    simp only [ev0, evA, evB, evP, fl, gp, tab, simprocAttr, reduceCtorEq, reduceIte]
    refine fin_run ?_ (hK _ ?_) <;> clear hK <;> clear K
    · (first | exact trivial | omega | (simp only [In64] at *; omega) | (simp [In64] at *; omega) | (simp_all; done) | skip)
    refine qa ?_
    refine ⟨i + 1, [0, 1, 2], by omega, by omega, ?_⟩
    simp only [leq, leA, ev0, evA, evB, evP, fl, gp, tab, simprocAttr, reduceCtorEq, reduceIte] <;> first | trivial | omega | (simp [ol_length, rgz_len]; done)
  · (try simp only [nhs] at hC1)
    obtain rfl : i = n := by omega
    rw [rgz_neg]
    have hp0 := prow_len i (fun _ => false) (fun _ => 0)
    refine qj (qc (qc (qf (qa (qm ?_)))))
    refine hk_draw2 mixed fun K hK => runs2_eval tab_ok ?_
    simp only [evD, ev0, evA, evB, evP, fl, gp, tab, simprocAttr, reduceCtorEq, reduceIte, ol_set, prow_set (S := fun _ => false) (ψ := fun _ => 0) hel rfl]
    refine fin2_stop trivial (runs2_call (oneOf_c h) rfl rfl rfl rfl (by simp only [dstOk, Nat.reduceLT]) (by repeat (first | exact trivial | constructor)) (runs2_eval tab_ok ?_))
    simp only [evD, ev0, evA, evB, evP, fl, gp, tab, simprocAttr, reduceCtorEq, reduceIte, ol_set, prow_set (S := fun _ => false) (ψ := fun _ => 0) hel rfl]
    refine fin2_stop trivial (runs2_call (oneOf_c h') rfl rfl rfl rfl (by simp only [dstOk, Nat.reduceLT]) (by repeat (first | exact trivial | constructor)) (runs2_eval tab_ok ?_))
    simp only [evD, ev0, evA, evB, evP, fl, gp, tab, simprocAttr, reduceCtorEq, reduceIte, ol_set, prow_set (S := fun _ => false) (ψ := fun _ => 0) hel rfl]
    refine fin2_run ?_ (hK _ _ (by first | kernel_rfl | rfl) ?_) <;> clear hK <;> clear K
    · (first | exact trivial | omega | (simp only [In64] at *; omega) | (simp [In64] at *; omega) | (simp_all; done) | skip)
    refine qa (qm ?_)
    refine hk_region fun K hK => runs_eval tab_ok ?_
    simp only [ev0, evA, evB, evP, fl, gp, tab, simprocAttr, reduceCtorEq, reduceIte]
    refine fin_stop trivial (runs_call (oneOf_c h) rfl rfl rfl (by simp only [dstOk, Nat.reduceLT]) (by repeat (first | exact trivial | constructor)) (runs_op (buildOwn_does (n := 1) (l := [.int .i64 ((e : Nat) : Int)]) tab_ok rfl rfl rfl rfl rfl rfl rfl ⟨⟨rfl, rfl, rfl⟩, trivial⟩ rfl (by decide) rfl) rfl (show (37 : Nat) < 88 by decide) (runs_eval tab_ok ?_)))
    simp only [ev0, evA, evB, evP, fl, gp, tab, simprocAttr, reduceCtorEq, reduceIte]
    refine fin_run ?_ (hK _ ?_) <;> clear hK <;> clear K
    · trivial
    refine qa (qm (ql ?_))
    refine hk_loop (ι := (Nat → Bool) × (Nat → Nat) × List Int × List Nat) (fun p => ⟨88, [(2, .p (.list (il (nl F)))), (3, .p (.list (il (nl T)))), (4, .ptr 0 0), (5, .ptr 1 0), (9, .sl 2 0 (prow i p.1 p.2.1).length), (11, .sl 3 p.2.2.1.length (nl p.2.2.2).length)], [.own [.p (.int .i64 i), .p (.list (il m))], .own [.p (.int .i64 N), .p (.list (il M))], .own (ol (prow i p.1 p.2.1)), .own (ol (p.2.2.1 ++ nl p.2.2.2))]⟩) (fun p => Sprd i (op m i) e N (op M N) d F T p.1 p.2.1 p.2.2.2 ∧ 2 * outs i p.1 + p.2.2.2.length ≤ 200) (fun p => 2 * outs i p.1 + p.2.2.2.length) (upd1 (fun _ => false) e, updF (fun _ => 0) e d, [], [e]) ⟨Sprd.begin G K, by have := outs_le i (upd1 (fun _ => false) e); simp only [List.length_cons, List.length_nil]; omega⟩ [0, 1, 2, 3] (by simp only [leq, leA, ev0, evA, evB, evP, fl, gp, tab, simprocAttr, reduceCtorEq, reduceIte] <;> first | trivial | exact ⟨rfl, rfl⟩ | rfl | (simp [prow_len]; done) | (simp [ol, opl, il, nl, prow_len]; done) | (simp [prow_len, List.take_of_length_le]; done)) fun p hp => ?_
    obtain ⟨S, ψ, J, W⟩ := p
    obtain ⟨hp, hbd⟩ := hp
    simp only at hp hbd
    have hpl := prow_len i S ψ
    have hnW := nl_len W
    refine qm (qm ?_)
    refine hk_region fun K hK => runs_eval tab_ok ?_
    simp only [ev0, evA, evB, evP, fl, gp, tab, simprocAttr, reduceCtorEq, reduceIte]
    refine fin_run trivial (hK _ ?_) <;> clear hK <;> clear K
    refine qa ?_
    refine hk_cond rfl (fun hC2 => ?_) (fun hC2 => ?_)
    · (try simp only [nhs] at hC2)
      obtain ⟨a, W', rfl⟩ : ∃ a W', W = a :: W' := by
        cases W with
        | nil => simp [nl] at hC2
        | cons x w' => exact ⟨x, w', rfl⟩
      have hnc := nl_cons a W'
      have hnW' := nl_len W'
      have hP2 := hp.pop
      simp only [List.length_cons] at hbd
      obtain ⟨ha, hSa⟩ := hP2.ha
      refine qh (qa (ql (qm ?_)))
      refine hk_region fun K hK => runs_eval tab_ok ?_
      simp only [ev0, evA, evB, evP, fl, gp, tab, simprocAttr, reduceCtorEq, reduceIte, hnc, app_at, Nat.add_zero]
      refine fin_run ?_ (hK _ ?_) <;> clear hK <;> clear K
      · simp only [List.length_append, List.length_cons]; omega
      refine qa (qm ?_)
      refine hk_region fun K hK => runs_eval tab_ok ?_
      simp only [ev0, evA, evB, evP, fl, gp, tab, simprocAttr, reduceCtorEq, reduceIte]
      refine fin_run ?_ (hK _ ?_) <;> clear hK <;> clear K
      · (first | exact trivial | omega | (simp only [In64] at *; omega) | (simp [In64] at *; omega) | (simp_all; done) | skip)
      refine qa (qm ?_)
      refine hk_region fun K hK => runs_eval tab_ok ?_
      simp only [ev0, evA, evB, evP, fl, gp, tab, simprocAttr, reduceCtorEq, reduceIte]
      refine fin_run trivial (hK _ ?_) <;> clear hK <;> clear K
      refine qa (ql ?_)
      refine hk_loop (ι := Nat × (Nat → Bool) × (Nat → Nat) × List Int × List Nat) (fun p => ⟨88, [(2, .p (.list (il (nl F)))), (3, .p (.list (il (nl T)))), (4, .ptr 0 0), (5, .ptr 1 0), (9, .sl 2 0 (prow i p.2.1 p.2.2.1).length), (11, .sl 3 p.2.2.2.1.length (nl p.2.2.2.2).length), (12, .p (.int .i64 a)), (46, .p (.list (il (nl F)))), (47, .p (.int .i64 F.length)), (48, .p (.int .i64 p.1))], [.own [.p (.int .i64 i), .p (.list (il m))], .own [.p (.int .i64 N), .p (.list (il M))], .own (ol (prow i p.2.1 p.2.2.1)), .own (ol (p.2.2.2.1 ++ nl p.2.2.2.2))]⟩) (fun p => p.1 ≤ F.length ∧ Sprd2 i (op m i) e N (op M N) d F T a p.1 p.2.1 p.2.2.1 p.2.2.2.2 ∧ 2 * outs i p.2.1 + p.2.2.2.2.length ≤ 2 * outs i S + W'.length) (fun p => F.length - p.1) (0, S, ψ, J ++ [((a : Nat) : Int)], W') ⟨Nat.zero_le _, hP2, Nat.le_refl _⟩ [0, 1, 2, 3] (by simp only [leq, leA, ev0, evA, evB, evP, fl, gp, tab, simprocAttr, reduceCtorEq, reduceIte, hnc] <;> first | trivial | exact ⟨rfl, rfl⟩ | rfl | (simp [nl]; done) | (simp [nl_len, il_length]; done) | omega | (rw [List.take_of_length_le (by simp only [List.length_append, List.length_cons]; omega)]; done) | exact congrArg ol (List.take_of_length_le (by simp only [List.length_append, List.length_cons]; omega)).symm | exact ⟨by rw [List.take_of_length_le (by simp only [List.length_append, List.length_cons]; omega), List.append_assoc]; rfl, by omega⟩ | trace_state) fun p hp' => ?_
      obtain ⟨j, S2, ψ2, J2, W2⟩ := p
      obtain ⟨q1, q2, q3⟩ := hp'
      simp only at q1 q2 q3
      have hpl2 := prow_len i S2 ψ2
      have hnW2 := nl_len W2
      refine qm ?_
      refine hk_region fun K hK => runs_eval tab_ok ?_
      simp only [ev0, evA, evB, evP, fl, gp, tab, simprocAttr, reduceCtorEq, reduceIte]
      refine fin_run trivial (hK _ ?_) <;> clear hK <;> clear K
      refine qa (qm ?_)
      refine hk_cond rfl (fun hC3 => ?_) (fun hC3 => ?_)
      · (try simp only [nhs] at hC3)
        have hjl : j < F.length := by omega
        have hFj := hF j hjl
        have hTj := hT j hjl
        obtain ⟨_, hSa2⟩ := q2.ha
        have hψa := q2.lt a ha hSa2
        have hbl := G.cl _ _ ha hFj
        have pa := prow_get (S := S2) (ψ := ψ2) ha
        rw [hSa2, if_pos rfl] at pa
        have pb := prow_get (S := S2) (ψ := ψ2) hbl
        refine qh (qa (qm (ql (qm ?_))))
        refine hk_region fun K hK => runs_eval tab_ok ?_
        simp only [ev0, evA, evB, evP, fl, gp, tab, simprocAttr, reduceCtorEq, reduceIte, il_get (show j < (nl F).length by omega), nl_get hjl]
        refine fin_run ?_ (hK _ ?_) <;> clear hK <;> clear K
        · (first | exact trivial | omega | (simp only [In64] at *; omega) | (simp [In64] at *; omega) | (simp_all; done) | skip)
        refine qa (qm ?_)
        refine hk_draw2 mixed fun K hK => runs2_eval tab_ok ?_
        simp only [evD, ev0, evA, evB, evP, fl, gp, tab, simprocAttr, reduceCtorEq, reduceIte, il_get (show j < (nl T).length by omega), nl_get (show j < T.length by omega), ol_get (show a < (prow i S2 ψ2).length by omega), pa]
        refine fin2_stop trivial (runs2_call (of_c Tb ha hFj) rfl rfl rfl rfl (by simp only [dstOk, Nat.reduceLT]) (by repeat (first | exact trivial | constructor)) (runs2_eval tab_ok ?_))
        simp only [evD, ev0, evA, evB, evP, fl, gp, tab, simprocAttr, reduceCtorEq, reduceIte, il_get (show j < (nl T).length by omega), nl_get (show j < T.length by omega), ol_get (show a < (prow i S2 ψ2).length by omega), pa]
        refine fin2_stop ?_ (runs2_call (of_c Tb' hψa hTj) rfl rfl rfl rfl (by simp only [dstOk, Nat.reduceLT]) (by repeat (first | exact trivial | constructor)) (runs2_eval tab_ok ?_))
        · (first | exact trivial | omega | (simp only [In64] at *; omega) | (simp [In64] at *; omega) | (simp_all; done) | skip)
        simp only [evD, ev0, evA, evB, evP, fl, gp, tab, simprocAttr, reduceCtorEq, reduceIte, il_get (show j < (nl T).length by omega), nl_get (show j < T.length by omega), ol_get (show a < (prow i S2 ψ2).length by omega), pa]
        refine fin2_run ?_ (hK _ _ (by first | kernel_rfl | rfl) ?_) <;> clear hK <;> clear K
        · (first | exact trivial | omega | (simp only [In64] at *; omega) | (simp [In64] at *; omega) | (simp_all; done) | skip)
        refine qa (qm ?_)
        rcases Bool.eq_false_or_eq_true (S2 (op m i a (F.getD j 0))) with hSb | hSb <;> simp only [hSb, if_true, if_false, Bool.false_eq_true] at pb
        · refine hk_region fun K hK => runs_eval tab_ok ?_
          simp only [ev0, evA, evB, evP, fl, gp, tab, simprocAttr, reduceCtorEq, reduceIte, ol_get (show op m i a (F.getD j 0) < (prow i S2 ψ2).length by omega), pb, if_true, if_false, Bool.false_eq_true]
          refine fin_run ?_ (hK _ ?_) <;> clear hK <;> clear K
          · (first | exact trivial | omega | (simp only [In64] at *; omega) | (simp [In64] at *; omega) | (simp_all; done) | skip)
          refine qa ?_
          refine hk_cond rfl (fun hC4 => ?_) (fun hC4 => ?_)
          · (try simp only [nhs] at hC4)
            simp at hC4
            omega
          · (try simp only [nhs] at hC4)
            have hdum : True := trivial
            refine qm ?_
            refine hk_region fun K hK => runs_eval tab_ok ?_
            simp only [ev0, evA, evB, evP, fl, gp, tab, simprocAttr, reduceCtorEq, reduceIte, ol_get (show op m i a (F.getD j 0) < (prow i S2 ψ2).length by omega), pb, if_true]
            refine fin_run ?_ (hK _ ?_) <;> clear hK <;> clear K
            · (first | exact trivial | omega | (simp only [In64] at *; omega) | (simp [In64] at *; omega) | (simp_all; done) | skip)
            refine qa ?_
            refine hk_cond rfl (fun hC5 => ?_) (fun hC5 => ?_)
            · (try simp only [nhs] at hC5)
              refine qm ?_
              refine hk_region fun K hK => runs_eval tab_ok ?_
              simp only [ev0, evA, evB, evP, fl, gp, tab, simprocAttr, reduceCtorEq, reduceIte]
              refine fin_run trivial (hK _ ?_) <;> clear hK <;> clear K
              refine qa (qk (qe (qb (qb (qe (qe (qb (qe (qb ?_)))))))))
              simp only [Tryd.results130, PostG, endG, rvsA, rvA, mkTup, ev0, evA, evB, evP, fl, gp, tab, simprocAttr, reduceCtorEq, reduceIte]
              all_goals (exact ⟨[], rfl, rfl, by simp only [leq, leA, ev0, evA, evB, evP, fl, gp, tab, simprocAttr, reduceCtorEq, reduceIte] <;> first | trivial | omega⟩)
            · (try simp only [nhs] at hC5)
              refine qh (qd (qa ?_))
              refine hk_region fun K hK => runs_eval tab_ok ?_
              simp only [ev0, evA, evB, evP, fl, gp, tab, simprocAttr, reduceCtorEq, reduceIte]
              refine fin_run ?_ (hK _ ?_) <;> clear hK <;> clear K
              · (first | exact trivial | omega | (simp only [In64] at *; omega) | (simp [In64] at *; omega) | (simp_all; done) | skip)
              refine qa ?_
              have hv : ψ2 (op m i a (F.getD j 0)) = op M N (ψ2 a) (T.getD j 0) := by omega
              refine ⟨(j + 1, S2, ψ2, J2, W2), [0, 1, 2, 3], ⟨by simp only; omega, q2.keep hSb hv, q3⟩, by simp only; omega, ?_⟩
              simp only [leq, leA, ev0, evA, evB, evP, fl, gp, tab, simprocAttr, reduceCtorEq, reduceIte] <;> first | trivial | omega
        · refine hk_region fun K hK => runs_eval tab_ok ?_
          simp only [ev0, evA, evB, evP, fl, gp, tab, simprocAttr, reduceCtorEq, reduceIte, ol_get (show op m i a (F.getD j 0) < (prow i S2 ψ2).length by omega), pb, if_true, if_false, Bool.false_eq_true]
          refine fin_run ?_ (hK _ ?_) <;> clear hK <;> clear K
          · (first | exact trivial | omega | (simp only [In64] at *; omega) | (simp [In64] at *; omega) | (simp_all; done) | skip)
          refine qa ?_
          refine hk_cond rfl (fun hC4 => ?_) (fun hC4 => ?_)
          · (try simp only [nhs] at hC4)
            refine qm ?_
            refine hk_region fun K hK => runs_eval tab_ok ?_
            simp only [ev0, evA, evB, evP, fl, gp, tab, simprocAttr, reduceCtorEq, reduceIte, ol_set, prow_set hbl hSb]
            refine fin_run ?_ (hK _ ?_) <;> clear hK <;> clear K
            · (first | exact trivial | omega | (simp only [In64] at *; omega) | (simp [In64] at *; omega) | (simp_all; done) | skip)
            refine qa ?_
            refine hk_region fun K hK => runs_eval tab_ok ?_
            simp only [ev0, evA, evB, evP, fl, gp, tab, simprocAttr, reduceCtorEq, reduceIte]
            refine fin_run ?_ (hK _ ?_) <;> clear hK <;> clear K
            · simp only [List.length_append]; omega
            refine qd (qa ?_)
            refine hk_region fun K hK => runs_eval tab_ok ?_
            simp only [ev0, evA, evB, evP, fl, gp, tab, simprocAttr, reduceCtorEq, reduceIte]
            refine fin_run ?_ (hK _ ?_) <;> clear hK <;> clear K
            · (first | exact trivial | omega | (simp only [In64] at *; omega) | (simp [In64] at *; omega) | (simp_all; done) | skip)
            refine qa ?_
            have ho := outs_upd hbl hSb
            refine ⟨(j + 1, upd1 S2 (op m i a (F.getD j 0)), updF ψ2 (op m i a (F.getD j 0)) (op M N (ψ2 a) (T.getD j 0)), [], W2 ++ [op m i a (F.getD j 0)]), [0, 1, 2, 4], ⟨by simp only; omega, q2.push G K hF hT hjl hSb, by simp only [List.length_append, List.length_cons, List.length_nil]; omega⟩, by simp only; omega, ?_⟩
            simp only [nl_snoc]
            simp only [leq, leA, ev0, evA, evB, evP, fl, gp, tab, simprocAttr, reduceCtorEq, reduceIte] <;> first | trivial | omega | (simp [prow_len]; done) | exact ⟨by rw [List.drop_left, List.take_length, List.take_of_length_le (by simp)], by rw [prow_len, prow_len]⟩ | trace_state
          · (try simp only [nhs] at hC4)
            simp at hC4
      · (try simp only [nhs] at hC3)
        obtain rfl : j = F.length := by omega
        refine qj (qc (qc (qf (qd (qa ?_)))))
        refine ⟨(S2, ψ2, J2, W2), [0, 1, 2, 3], ⟨q2.done, by simp only; omega⟩, by simp only [List.length_cons]; omega, ?_⟩
        simp only [leq, leA, ev0, evA, evB, evP, fl, gp, tab, simprocAttr, reduceCtorEq, reduceIte] <;> first | trivial | omega
    · (try simp only [nhs] at hC2)
      obtain rfl : W = [] := by
        cases W with
        | nil => rfl
        | cons x w => simp [nl] at hC2
      obtain ⟨hall, hext⟩ := hp.fin G K hF hT hgen
      exact absurd hext (hφ ψ)
end
end Go.Proofs.YtboadfahlflmhaaDoor

/-
  Loops over a function: a round out of its body's walk; the statement. Conditions: none; a library text.
-/
set_option linter.all false
namespace Go.Pv
open Go.RowKit

section
variable {P : Program} {T : TypeId → Option TI} {C : Ctx} {m : Map} {s : St} {tmps : Array Value} {w : World}

theorem Rel.reslot {n n' : Nat} {sl sl' : List (Nat × AV)} {H : Heap} {tmps' : Array Value} (R : Rel C m ⟨n, sl, H⟩ tmps w) (h1 : tmps'.size = n') (h2 : ∀ t, AVal (Reads (OK C m H w) w) m H (lk sl' t) (tmps'.getD t undef)) : Rel C m ⟨n', sl', H⟩ tmps' w :=
  ⟨R.laid, R.below, R.base, h1, R.inj, R.blk, R.fro, h2, R.mp⟩

theorem hset_app {A B : Heap} {κ : Nat} {b : Blk} (h : κ < A.length) : hset (A ++ B) κ b = hset A κ b ++ B := by
  refine List.ext_getElem? fun j => ?_
  have h2 : κ < (A ++ B).length := by simp; omega
  by_cases hj : j < A.length
  · have e1 : (hset A κ b ++ B)[j]? = (hset A κ b)[j]? := List.getElem?_append_left (by rw [hset_length]; exact hj)
    have e2 : (A ++ B)[j]? = A[j]? := List.getElem?_append_left hj
    rw [e1, hset_get, hset_get, e2]
    by_cases e : j = κ
    · rw [if_pos ⟨e, h2⟩, if_pos ⟨e, h⟩]
    · rw [if_neg (by simp [e]), if_neg (by simp [e])]
  · have e1 : (hset A κ b ++ B)[j]? = B[j - A.length]? := by rw [List.getElem?_append_right (by rw [hset_length]; omega), hset_length]
    have e2 : (A ++ B)[j]? = B[j - A.length]? := List.getElem?_append_right (by omega)
    rw [e1, hset_get, e2, if_neg (by omega)]

/-- What is known of a frame, slot by slot. -/
def envA (n : Nat) (sl : List (Nat × AV)) : List AV := (List.range n).map (lk sl)
theorem envA_len (n : Nat) (sl : List (Nat × AV)) : (envA n sl).length = n := by simp [envA]
theorem envA_get {n : Nat} {sl : List (Nat × AV)} {c : Nat} (h : c < (envA n sl).length) : (envA n sl)[c] = lk sl c := by simp [envA]
def keysLt (n : Nat) (sl : List (Nat × AV)) : Bool := sl.all fun e => decide (e.1 < n)
theorem keysLt_lk : ∀ {n : Nat} {sl : List (Nat × AV)}, keysLt n sl = true → ∀ t, n ≤ t → lk sl t = .dead
  | n, [], _, t, _ => rfl
  | n, (i, a) :: r, h, t, ht => by
    simp only [keysLt, List.all_cons, Bool.and_eq_true, decide_eq_true_eq] at h
    simp only [lk]
    rw [show (i == t) = false by simp; omega]
    exact keysLt_lk h.2 t ht

/-- A hole for a loop's record. -/
structure HoleQ (κ : Nat) (Hf : Blk → Heap) : Prop where
  at_ : ∀ b, (Hf b)[κ]? = some b
  set_ : ∀ b b', hset (Hf b) κ b' = Hf b'

theorem HoleQ.lt {κ : Nat} {Hf : Blk → Heap} (h : HoleQ κ Hf) (b : Blk) : κ < (Hf b).length := (List.getElem?_eq_some_iff.1 (h.at_ b)).1
theorem HoleQ.app {κ : Nat} {Hf : Blk → Heap} (h : HoleQ κ Hf) (B : Heap) : HoleQ κ fun b => Hf b ++ B :=
  ⟨fun b => by rw [List.getElem?_append_left (h.lt b)]; exact h.at_ b, fun b b' => by show hset (Hf b ++ B) κ b' = Hf b' ++ B; rw [hset_app (h.lt b), h.set_]⟩

/-- The record behind a round. -/
def recB (b : Bool) (rec : Loop) : Loop := if b then rec else { rec with state := .done, pending := some .ret }

structure RecOk (rec : Loop) (n pp : Nat) (assign body : Code) : Prop where
  params : rec.params = #[pp]
  assign : rec.assign = assign
  body : rec.body = body
  state : rec.state = .ready
  pending : rec.pending = none
  size : rec.tmps.size = n

theorem anc_at {q : Nat} {H : Heap} {κ : Nat} (hκ : κ < q) : (H ++ ancs 0 q)[H.length + κ]? = some (.anc κ κ) := by
  rw [List.getElem?_append_right (by omega), Nat.add_sub_cancel_left, ancs_at _ _ _ hκ, Nat.zero_add]

/-- A ROUND'S CONTRACT, out of its body's walk. -/
theorem yld_of {q κ n pp : Nat} {rec : Loop} {assign body : Code} {sl sl1 : List (Nat × AV)} {x : PV} {H0 H1 : Blk → Heap} {b : Bool} (hr : RecOk rec n pp assign body) (hpp : pp < n) (hsl : keysLt n sl = true) (hκ : κ < q) (h0 : HoleQ κ H0) (h1 : HoleQ κ H1)
    (hA : ∀ r0, Holds P assign (fun e s' => e = .normal ∧ ∃ π, Le π ⟨n, sl1, H0 (.lp r0) ++ ancs 0 q⟩ s') ⟨n, (pp, .p x) :: sl, H0 (.lp r0) ++ ancs 0 q⟩)
    (hB : ∀ r0, Holds P body (fun e s' => e = (if b then .normal else .ret) ∧ ∃ π, Le π ⟨n, [], H1 (.lp r0) ++ ancs 0 q⟩ s') ⟨n, sl1, H0 (.lp r0) ++ ancs 0 q⟩) :
    YldQ P q κ rec (envA n sl) x (H0 (.lp rec)) (.p (.bool b)) (H1 (.lp (recB b rec))) := by
  intro C m w fv v g R hfv hg
  have hs0 : AVal _ m (H0 (.lp rec) ++ ancs 0 q) (.yv κ (envA n sl) rec.tmps) fv := R.slot 0
  have hs1 : AVal _ m (H0 (.lp rec) ++ ancs 0 q) (.p x) v := R.slot 1
  have hloc : ∃ lc, m κ = some lc ∧ fv = .func (.yield lc.g) #[] #[] := by
    cases hs0 with
    | yv _ _ _ _ _ h _ _ => exact h
  have henv : ∀ c (h : c < (envA n sl).length), AVal (Reads (OK C m (H0 (.lp rec) ++ ancs 0 q) w) w) m (H0 (.lp rec) ++ ancs 0 q) (envA n sl)[c] (rec.tmps.getD c undef) := by
    cases hs0 with
    | yv _ _ _ _ _ _ _ h => exact h
  obtain ⟨lc, hm, hfe⟩ := hloc
  rw [hfv] at hfe
  obtain rfl : g = lc.g := by cases hfe; rfl
  have hanc : m κ = C.anc κ := (R.mp.2.2.1 _ κ κ (anc_at hκ)).2
  have htm : (rec.params.zip #[v]).foldl (fun tmps (t, a) => tmps.setIfInBounds t a) rec.tmps = rec.tmps.setIfInBounds pp v := by rw [hr.params]; simp [Array.zip]
  rw [htm, hr.assign, hr.body]
  have R1 : Rel C m ⟨n, (pp, .p x) :: sl, H0 (.lp rec) ++ ancs 0 q⟩ (rec.tmps.setIfInBounds pp v) w := R.reslot (by rw [Array.size_setIfInBounds]; exact hr.size) fun t => by
    simp only [lk]
    by_cases e : pp = t
    · subst e
      rw [show (pp == pp) = true by simp, cond_true]
      have : (rec.tmps.setIfInBounds pp v).getD pp undef = v := by simp [Array.getD_eq_getD_getElem?, hr.size, hpp]
      rw [this]; exact hs1
    · rw [show (pp == t) = false by simpa using e, cond_false]
      have e2 : (rec.tmps.setIfInBounds pp v).getD t undef = rec.tmps.getD t undef := by
        simp only [Array.getD_eq_getD_getElem?]
        rw [Array.getElem?_setIfInBounds_ne e]
      rw [e2]
      by_cases ht : t < n
      · have := henv t (by rw [envA_len]; exact ht)
        rwa [envA_get] at this
      · rw [keysLt_lk hsl t (by omega)]; exact .dead _
  refine roundIn_of_wpIn (F := Fence.wide) trivial ?_
  refine wpR_mono (r := some lc.g) (hA rec (some lc.g) [] C m { tmps := rec.tmps.setIfInBounds pp v, defers := [] } w R1 rfl) fun e a1 w1 ⟨s1, m1, ⟨he, π, hle⟩, R2, hd⟩ => ?_
  subst he
  have R3 := R2.weaken hle
  have g0 := h0.app (ancs 0 q)
  obtain ⟨l1, c1, c2, c3⟩ := R3.mp.2.2.2.1 κ rec (g0.at_ _)
  have hl1 : l1.g = lc.g := by
    have := (R3.mp.2.2.1 _ κ κ (anc_at hκ)).2
    rw [c1, ← hanc, hm] at this
    rw [Option.some.inj this]
  rw [hl1] at c3
  refine ⟨_, run_beginRound c3 hr.state, ?_⟩
  have R4 := R3.setLp (r' := { rec with state := .busy }) (g0.at_ _) c1
  rw [hl1] at R4
  simp only at R4
  rw [show hset (H0 (.lp rec) ++ ancs 0 q) κ (.lp { rec with state := .busy }) = H0 (.lp { rec with state := .busy }) ++ ancs 0 q from g0.set_ _ _] at R4
  refine wpR_mono (r := some lc.g) (hB _ (some lc.g) [] C _ a1 _ R4 hd) fun e a2 w3 ⟨s2, m2, ⟨he, π2, hle2⟩, R5, hd2⟩ => ?_
  have R6 := R5.weaken hle2
  have g1 := h1.app (ancs 0 q)
  obtain ⟨l2, d1, d2, d3⟩ := R6.mp.2.2.2.1 κ _ (g1.at_ _)
  have hl2 : l2.g = lc.g := by
    have := (R6.mp.2.2.1 _ κ κ (anc_at hκ)).2
    rw [d1, ← hanc, hm] at this
    rw [Option.some.inj this]
  rw [hl2] at d3
  have fin : ∀ (jump : Option Code) (b' : Bool), jump.isNone = b' → ({ rec with state := if b' then .ready else .done, pending := jump } : Loop) = recB b rec → b' = b → ∃ v w', (Instr.endRound lc.g jump).run P w3 = .ok v w' ∧
      ∃ v' m', Ending.returned v = .returned v' ∧ Rel C m' ⟨1, [(0, .p (.bool b))], H1 (.lp (recB b rec)) ++ ancs 0 q⟩ #[v'] w' := fun jump b' hj hrec hb => by
    have hrun := run_endRound (P := P) jump d3
    rw [hj] at hrun
    refine ⟨_, _, hrun, _, mren m2 π2, rfl, ?_⟩
    have R7 := R6.setLp (r' := recB b rec) (g1.at_ _) d1
    rw [hl2] at R7
    simp only at R7
    rw [show hset (H1 (.lp { rec with state := .busy }) ++ ancs 0 q) κ (.lp (recB b rec)) = H1 (.lp (recB b rec)) ++ ancs 0 q from g1.set_ _ _] at R7
    rw [← hrec] at R7 ⊢
    simp only at R7 ⊢
    refine R7.reslot rfl fun t => ?_
    cases t with
    | zero => rw [hb]; exact .p _ _ (.bool b)
    | succ t => exact .dead _
  subst he
  cases b with
  | true =>
    refine fin none true rfl ?_ rfl
    have := hr.state
    have := hr.pending
    cases rec
    simp only at *
    subst_vars
    rfl
  | false => exact fin (some .ret) false rfl rfl rfl

/-! ### Code with a loop over a function -/

/-- The marks among the deferred calls. -/
def Dfr (C0 C : Ctx) (ds : List Deferred) : Prop := ds.Nodup ∧ ∀ d ∈ ds, ∃ D, d = { target := .collected D, args := #[] } ∧ C0.B D ∧ ¬ C.B D ∧ C.w0.heap[D]? = some (.deferred (some []))

def SubX (C C0 : Ctx) : Prop := ∀ m s tmps w, Rel C m s tmps w → Rel C0 m s tmps w

def HoldsR (P : Program) (c : Code) (Q : Exit → St → Prop) (s : St) : Prop :=
  ∀ C0 C m (a : Act) w, SubX C C0 → Rel C m s a.tmps w → Dfr C0 C a.defers → wpR none P c (fun e a' w' => ∃ C' s' m', SubX C' C0 ∧ Q e s' ∧ Rel C' m' s' a'.tmps w' ∧ Dfr C0 C' a'.defers) a w

variable {Q : Exit → St → Prop}

theorem hr_of_hk {c : Code} (h : Holds P c Q s) : HoldsR P c Q s := fun C0 C m a w hS R hd =>
  wpR_mono (h none a.defers C m a w R rfl) fun e a' w' ⟨s', m', h1, h2, h3⟩ => ⟨C, s', m', hS, h1, h2, by rw [h3]; exact hd⟩
theorem hr_seq {x y : Code} (h : HoldsR P x (Thn (HoldsR P y Q) Q) s) : HoldsR P (.seq x y) Q s := by
  intro C0 C m a w hS R hd
  refine wpR_seq (wpR_mono (h C0 C m a w hS R hd) fun e a' w' ⟨C', s', m', h0, h1, h2, h3⟩ => ?_)
  cases e with
  | normal => exact h1 C0 C' m' a' w' h0 h2 h3
  | _ => exact ⟨C', s', m', h0, h1, h2, h3⟩
theorem hr_seqH {x y : Code} (h : Holds P x (Thn (HoldsR P y Q) Q) s) : HoldsR P (.seq x y) Q s := hr_seq (hr_of_hk h)
theorem hr_block {id : Nat} {c : Code} (h : HoldsR P c (InB id Q) s) : HoldsR P (.block id c) Q s := by
  intro C0 C m a w hS R hd
  refine wpR_block (wpR_mono (h C0 C m a w hS R hd) fun e a' w' ⟨C', s', m', h0, h1, h2, h3⟩ => ?_)
  cases e with
  | exit j =>
    simp only [InB, Exit.inBlock] at h1 ⊢
    by_cases e : j = id
    · rw [if_pos e] at h1 ⊢; exact ⟨C', s', m', h0, h1, h2, h3⟩
    · rw [if_neg e] at h1 ⊢; exact ⟨C', s', m', h0, h1, h2, h3⟩
  | _ => exact ⟨C', s', m', h0, h1, h2, h3⟩
theorem hr_cond {c : Operand} {x y : Code} {b : Bool} (hc : testA s c = some b) (hx : b = true → HoldsR P x Q s) (hy : b = false → HoldsR P y Q s) : HoldsR P (.cond c x y) Q s := by
  intro C0 C m a w hS R hd
  have he : a.eval c = .bool b := by
    have := R.ev c
    unfold testA at hc
    split at hc <;> simp only [Option.some.injEq, reduceCtorEq] at hc
    rename_i b' hb
    rw [hb] at this
    rw [← hc]
    exact this.p_inv.bool_inv
  exact wpR_cond_split he (fun h => hx h C0 C m a w hS R hd) (fun h => hy h C0 C m a w hS R hd)
theorem ren1_range {n : Nat} {x : AV} (h : sc1 n x = true) : ren1 (List.range n) x = x := by
  have g : ∀ k, k < n → (List.range n).getD k 0 = k := fun k hk => by simp [List.getD, hk]
  cases x <;> simp only [ren1] <;> simp only [sc1, decide_eq_true_eq] at h <;> first | rfl | rw [g _ h] | cases h
theorem ren_range {n : Nat} {x : AV} (h : scA n x = true) : Go.Pv.ren (List.range n) x = x := by
  have gl : ∀ l : List AV, l.all (sc1 n) = true → l.map (ren1 (List.range n)) = l := fun l hl => by
    refine (List.map_congr_left fun y hy => ren1_range ((List.all_eq_true.1 hl) y hy)).trans (List.map_id _)
  cases x with
  | agg l => simp only [Go.Pv.ren]; rw [gl l h]
  | tup l => simp only [Go.Pv.ren]; rw [gl l h]
  | cl f l => simp only [Go.Pv.ren]; rw [gl l h]
  | yv k l vs =>
    simp only [scA, Bool.and_eq_true, decide_eq_true_eq] at h
    simp only [Go.Pv.ren]
    rw [gl l h.2]
    simp [List.getD, h.1]
  | dead => exact ren1_range (n := n) (x := .dead) h
  | p v => exact ren1_range (n := n) (x := .p v) h
  | sl k lo len => exact ren1_range (n := n) (x := .sl k lo len) h
  | ptr k i => exact ren1_range (n := n) (x := .ptr k i) h
  | mptr k => exact ren1_range (n := n) (x := .mptr k) h
  | itv r => exact ren1_range (n := n) (x := .itv r) h

def scH (H : Heap) : Bool := H.all fun | .own c => c.all (scA H.length) | .anc _ _ => false | _ => true
theorem scH_get {H : Heap} (h : scH H = true) {k : Nat} {b : Blk} (hk : H[k]? = some b) : (match b with | .own c => c.all (scA H.length) | .anc _ _ => false | _ => true) = true := by
  have := (List.all_eq_true.1 h) _ (List.mem_of_getElem? hk)
  cases b <;> exact this

theorem LeH_of {π : List Nat} {H : Heap} : ∀ (H1 : Heap) (ks : List Nat), ks.length = H1.length → (∀ (j : Nat) (b : Blk) (k : Nat), H1[j]? = some b → ks[j]? = some k → LeB π H k b) → LeH π H ks H1
  | [], [], _, _ => trivial
  | b :: r, k :: ks, hl, h => ⟨h 0 b k rfl rfl, LeH_of r ks (by simpa using hl) fun j b' k' h1 h2 => h (j + 1) b' k' (by simpa using h1) (by simpa using h2)⟩
  | [], _ :: _, hl, _ => by simp at hl
  | _ :: _, [], hl, _ => by simp at hl

theorem hget_of : ∀ {H : Heap} {k : Nat} {b : Blk}, H[k]? = some b → hget H k = b
  | [], k, b, h => by simp at h
  | x :: r, 0, b, h => by simp at h; simp [hget, h]
  | x :: r, k + 1, b, h => by
    have := hget_of (H := r) (k := k) (b := b) (by simpa using h)
    simpa [hget] using this

theorem LeH_id {H : Heap} (h : scH H = true) : LeH (List.range H.length) H (List.range H.length) H := by
  refine LeH_of H _ (by simp) fun j b k hj hk => ?_
  have hjl := (List.getElem?_eq_some_iff.1 hj).1
  obtain rfl : k = j := by simpa [hjl] using hk.symm
  have hg := hget_of hj
  have hs := scH_get h hj
  cases b with
  | own c =>
    simp only [LeB, hg]
    refine ⟨?_, by simpa using hs⟩
    rw [List.take_length]
    exact (List.map_congr_left fun y hy => ren_range ((List.all_eq_true.1 hs) y hy)).trans (List.map_id _)
  | fro c => exact hg
  | mp kk d v => exact hg
  | lp r => exact hg
  | dead => trivial
  | anc i j => cases hs

theorem putM_other : ∀ (ks : List Nat) (bs H : Heap) (k : Nat), k ∉ ks → k < H.length → (putM H ks bs)[k]? = H[k]?
  | [], bs, H, k, _, hk => by simp only [putM]; rw [List.getElem?_append_left hk]
  | k0 :: ks, [], H, k, _, _ => rfl
  | k0 :: ks, b0 :: bs, H, k, hn, hk => by
    simp only [putM]
    rw [putM_other ks bs _ k (fun h => hn (by simp [h])) (by rw [hset_length]; exact hk), hset_get, if_neg (fun h => hn (by simp [h.1]))]
theorem putM_at : ∀ (ks : List Nat) (bs H : Heap), ks.Nodup → (∀ k ∈ ks, k < H.length) → ks.length ≤ bs.length → ∀ (j : Nat) {b : Blk} {k : Nat}, bs[j]? = some b → (ks ++ List.range' H.length (bs.length - ks.length))[j]? = some k → (putM H ks bs)[k]? = some b
  | [], bs, H, _, _, _, j, b, k, h1, h2 => by
    have hj := (List.getElem?_eq_some_iff.1 h1).1
    simp only [List.nil_append, List.length_nil, Nat.sub_zero] at h2
    rw [List.getElem?_range' hj] at h2
    simp only [Option.some.injEq, Nat.one_mul] at h2
    subst h2
    simp only [putM]
    rw [List.getElem?_append_right (by omega), Nat.add_sub_cancel_left]; exact h1
  | k0 :: ks, [], H, _, _, hl, j, b, k, h1, h2 => by simp at hl
  | k0 :: ks, b0 :: bs, H, hnd, hk, hl, 0, b, k, h1, h2 => by
    simp at h1 h2
    subst h1 h2
    simp only [putM]
    rw [putM_other ks bs _ k0 (List.nodup_cons.1 hnd).1 (by rw [hset_length]; exact hk k0 (by simp)), hset_get, if_pos ⟨rfl, hk k0 (by simp)⟩]
  | k0 :: ks, b0 :: bs, H, hnd, hk, hl, j + 1, b, k, h1, h2 => by
    simp only [putM]
    refine putM_at ks bs _ (List.nodup_cons.1 hnd).2 (fun k hk' => by rw [hset_length]; exact hk k (by simp [hk'])) (by simpa using hl) j (by simpa using h1) ?_
    rw [hset_length]
    simpa using h2

/-- THE STATEMENT 'for x := range f': a loop over a function with captured values. -/
theorem hr_range {go : Operand} {gs pp κ q n : Nat} {assign body : Code} {sl : List (Nat × AV)} {Hs0 Hf : Blk → Heap} {b : Bool} {gf : FuncId} {cap : List AV} {rv : AV} (π : List Nat) (hgo : go = .tmp gs) (hn : s.n = n)
    (h0 : ∀ r0, Le π ⟨n, (gs, .cl gf cap) :: sl, Hs0 (.lp r0)⟩ { s with H := s.H ++ [.lp r0] }) (hπ : π.getD κ 0 = s.H.length) (hκ : κ < q) (hs0 : HoleQ κ Hs0) (hf : HoleQ κ Hf)
    (hcs : ∀ r0, (scH (Hs0 (.lp r0)) && cap.all (scA (Hs0 (.lp r0)).length) && (envA n sl).all (sc1 q)) = true) (hkl : keysLt n sl = true) (hgs : lk sl gs = .dead)
    (hsc : ∀ r0 r1, scQ q rv (Hs0 (.lp r0)) (Hf (.lp r1)) = true)
    (hit : ∀ rec, RecOk rec n pp assign body → FnQ P q gf (.yv κ (envA n sl) rec.tmps :: cap) (Hs0 (.lp rec)) rv (Hf (.lp (recB b rec))))
    (h1 : b = true → Q .normal ⟨n, sl, Hf .dead⟩) (h2 : b = false → Q .ret ⟨n, sl, Hf .dead⟩) : HoldsR P (.rangeFunc go #[pp] assign body) Q s := by
  intro C0 C m a w hS R hd
  subst hgo
  refine wpIn_rangeFunc (F := WF none) (n := 0) fun fn _ => ?_
  obtain ⟨rec, hrec⟩ : ∃ rec : Loop, rec = { state := .ready, pending := none, fn, tmps := a.tmps, params := #[pp], assign, body, defers := w.heap.size } := ⟨_, rfl⟩
  have hok : RecOk rec n pp assign body := by rw [hrec]; exact ⟨rfl, rfl, rfl, rfl, rfl, by rw [← hn]; exact R.size⟩
  obtain ⟨W1, hW1⟩ : ∃ W1, (w.alloc (.deferred (some []))).alloc (.loop rec) = W1 := ⟨_, rfl⟩
  have hsz1 : W1.heap.size = w.heap.size + 2 := by rw [← hW1, World.size_alloc, World.size_alloc]
  have hL1 : W1.heap[w.heap.size + 1]? = some (.loop rec) := by
    rw [← hW1]; have := World.alloc_heap_new (w.alloc (.deferred (some []))) (.loop rec); rwa [World.size_alloc] at this
  have hK1 : W1.heap[w.heap.size]? = some (.deferred (some [])) := by
    rw [← hW1]
    have h1 := (MapKept.heap_alloc (w.alloc (.deferred (some []))) (.loop rec)).2 w.heap.size (by rw [World.size_alloc]; omega)
    rw [h1]; exact World.alloc_heap_new w _
  have hbel : Below w.heap.size w W1 := by
    rw [← hW1]; exact (((Below.refl _ w).alloc (Nat.le_refl _) _).alloc (by rw [World.size_alloc]; omega) _)
  have R1 := R.later hbel
  have R2 := R1.addLp (g := w.heap.size + 1) (r := rec) (R.base _ (by omega)) hL1 fun k rr l hk hl e => by
    obtain ⟨l', a1, a2, a3⟩ := R.mp.2.2.2.1 k rr hk
    rw [hl] at a1; cases a1
    have := (Array.getElem?_eq_some_iff.1 a3).1
    omega
  have R3 := R2.weaken (h0 rec)
  generalize hm3 : mren (mput m s.H.length (some ⟨w.heap.size + 1, 0, 0⟩)) π = m3 at R3
  have hmκ : m3 κ = some ⟨w.heap.size + 1, 0, 0⟩ := by
    have hl : κ < π.length := by
      have := ((h0 rec).2.2.1.get).1
      have h2 := hs0.lt (.lp rec)
      simp only at this
      omega
    rw [← hm3]
    have e : π[κ] = s.H.length := by simpa [List.getD, List.getElem?_eq_getElem hl] using hπ
    simp [mren, List.getElem?_eq_getElem hl, e, mput]
  have hc3 := hcs rec
  rw [Bool.and_eq_true, Bool.and_eq_true] at hc3
  obtain ⟨⟨hsc0, hcap⟩, henv⟩ := hc3
  obtain ⟨hq1, hq0, hna⟩ := scQ_parts (hsc rec (recB b rec))
  -- the call
  have hgv : ∃ vs : Array Value, a.eval (.tmp gs) = .func (.func gf) #[] vs ∧ vs.size = cap.length ∧ ∀ c (h : c < cap.length), AVal (Reads (OK C m3 (Hs0 (.lp rec)) W1) W1) m3 (Hs0 (.lp rec)) cap[c] (vs.getD c undef) := by
    have hv : AVal _ m3 (Hs0 (.lp rec)) (lk ((gs, .cl gf cap) :: sl) gs) (a.tmps.getD gs undef) := R3.slot gs
    simp only [lk, BEq.rfl, cond_true] at hv
    show ∃ vs : Array Value, a.tmps.getD gs undef = _ ∧ _
    generalize a.tmps.getD gs undef = v at hv
    cases hv with
    | cl _ _ vs hl hr => exact ⟨vs, rfl, hl, hr⟩
  obtain ⟨vs, hfe, hvl, hvr⟩ := hgv
  have hLe := LeH_id hsc0
  have hlenv : (envA n sl).length = n := envA_len n sl
  have hlk : ∀ t, lk sl t = .dead ∨ (t < n ∧ sc1 q (lk sl t) = true) := fun t => by
    by_cases ht : t < n
    · refine .inr ⟨ht, ?_⟩
      have := (List.all_eq_true.1 henv) _ (List.getElem_mem (show t < (envA n sl).length by omega))
      rwa [envA_get] at this
    · exact .inl (keysLt_lk hkl t (by omega))
  have hslot : ∀ t, AVal (Reads (OK C m3 (Hs0 (.lp rec)) W1) W1) m3 (Hs0 (.lp rec)) (lk sl t) (a.tmps.getD t undef) := fun t => by
    by_cases e : t = gs
    · rw [e, hgs]; exact .dead _
    · have hv : AVal _ m3 (Hs0 (.lp rec)) (lk ((gs, .cl gf cap) :: sl) t) (a.tmps.getD t undef) := R3.slot t
      simp only [lk] at hv
      rwa [show (gs == t) = false by simpa using Ne.symm e, cond_false] at hv
  have hscm : ∀ {k k' : Nat} {x : AV}, k ≤ k' → sc1 k x = true → sc1 k' x = true := fun {k k' x} hkk h => by
    cases x <;> simp only [sc1, decide_eq_true_eq] at h ⊢ <;> first | omega | cases h
  have hscA : ∀ {k : Nat} {x : AV}, sc1 k x = true → scA k x = true := fun {k x} h => by
    cases x <;> first | exact h | (simp [sc1] at h)
  have hLl : (Hs0 (.lp rec)).length = (List.range (Hs0 (.lp rec)).length).length := by simp
  have hrd : ∀ p v, Reads (OK C m3 (Hs0 (.lp rec)) W1) W1 p v → Reads (OK (subC C m3 (Hs0 (.lp rec)) (List.range (Hs0 (.lp rec)).length) (Hs0 (.lp rec)) W1) (mren m3 (List.range (Hs0 (.lp rec)).length)) (Hs0 (.lp rec)) W1) W1 p v :=
    fun p v h => h.mono (lend_ok (s := ⟨n, (gs, .cl gf cap) :: sl, Hs0 (.lp rec)⟩) hLe)
  have hun : ∀ {x : AV} {v : Value}, AVal (Reads (OK C m3 (Hs0 (.lp rec)) W1) W1) m3 (Hs0 (.lp rec)) x v → scA (Hs0 (.lp rec)).length x = true →
      AVal (Reads (OK (subC C m3 (Hs0 (.lp rec)) (List.range (Hs0 (.lp rec)).length) (Hs0 (.lp rec)) W1) (mren m3 (List.range (Hs0 (.lp rec)).length)) (Hs0 (.lp rec)) W1) W1) (mren m3 (List.range (Hs0 (.lp rec)).length)) (Hs0 (.lp rec)) x v := fun {x v} hv hx => by
    refine AVal.unren (π := List.range (Hs0 (.lp rec)).length) (H := Hs0 (.lp rec)) (m := m3) hrd hLl ?_ (by rw [← hLl]; exact hx)
    rw [ren_range hx]; exact hv
  have hR0 := R3.lend (q := q) (ks := List.range (Hs0 (.lp rec)).length) (avs := .yv κ (envA n sl) rec.tmps :: cap) (vals := #[.func (.yield (w.heap.size + 1)) #[] #[]] ++ vs) hLe (List.nodup_range) hq0 hna (by simp [hvl]; omega) fun t ht => by
    cases t with
    | zero =>
      have e1 : ((#[.func (.yield (w.heap.size + 1)) #[] #[]] ++ vs : Array Value)).getD 0 undef = .func (.yield (w.heap.size + 1)) #[] #[] := by
        simp only [Array.getD_eq_getD_getElem?]
        rw [Array.getElem?_append_left (by simp)]; rfl
      rw [e1]
      refine hun (.yv _ _ _ _ (hs0.lt _) ⟨_, hmκ, rfl⟩ (by rw [hlenv]; exact hok.size) fun c hc => ?_) ?_
      · rw [envA_get]
        have e2 : rec.tmps = a.tmps := by rw [hrec]
        rw [e2]; exact hslot c
      · show (decide (κ < (Hs0 (.lp rec)).length) && (envA n sl).all (sc1 (Hs0 (.lp rec)).length)) = true
        rw [Bool.and_eq_true, decide_eq_true_eq]
        exact ⟨hs0.lt _, List.all_eq_true.2 fun x hx => hscm hq0 ((List.all_eq_true.1 henv) x hx)⟩
    | succ t =>
      have e1 : ((#[.func (.yield (w.heap.size + 1)) #[] #[]] ++ vs : Array Value)).getD (t + 1) undef = vs.getD t undef := by
        simp only [Array.getD_eq_getD_getElem?]
        rw [Array.getElem?_append_right (by simp)]
        simp
      rw [e1]
      have ht2 : t < cap.length := by simpa using ht
      rw [List.getElem_cons_succ]
      exact hun (hvr t ht2) ((List.all_eq_true.1 hcap) _ (List.getElem_mem ht2))
  obtain ⟨⟨fn', hfn', hnm', hbd'⟩, hcalls⟩ := hit rec hok
  refine ⟨w.heap.size + 1, [{ target := .collected w.heap.size, args := #[] }], W1, { target := .fn (.func gf) vs, args := #[.func (.yield (w.heap.size + 1)) #[] #[]] }, W1, gf,
    #[.func (.yield (w.heap.size + 1)) #[] #[]] ++ vs, W1, ?_, ?_, fun _ _ => trivial, ?_, (fun h => by cases h), ?_⟩
  · rw [← hW1, hrec]; exact run_enterLoop_outer _ _ _ _ _
  · simp only [resolve, hfe]
    simp [go_sem]
  · have hnm2 : ¬ fn'.name = "runtime.NumGoroutine" := by simpa using hnm'
    have hbd2 : ¬ fn'.body = none := by intro e; rw [e] at hbd'; simp at hbd'
    simp [invoke, callFunc, hfn', hnm2, hbd2]
  refine (callsIn_wide (n := 0)).2 ((hcalls _ _ W1 _ hR0).mono fun e w' ⟨v, m', he, R5⟩ => ?_)
  subst he
  have hks' : ∀ k ∈ List.range (Hs0 (.lp rec)).length, k < (Hs0 (.lp rec)).length := fun k hk => by simpa using hk
  obtain ⟨m2, R6, _, hm2⟩ := R3.joinQ hLe hks' R5 (hsc rec (recB b rec))
  have hD : ¬ (subC C m3 (Hs0 (.lp rec)) (List.range (Hs0 (.lp rec)).length) (Hs0 (.lp rec)) W1).B w.heap.size := by
    rintro (h | ⟨j, b0, l, a1, a2, a3, a4⟩)
    · omega
    · have hj := (List.getElem?_eq_some_iff.1 a1).1
      have a3 : m3 j = some l := by simpa [mren, hj] using a3
      rw [← a4] at hK1
      cases b0 with
      | own c =>
        rcases R3.blk j c a1 with ⟨_, hn⟩ | ⟨l', cur, e, c1, _, c2, _⟩
        · rw [a3] at hn; cases hn
        · rw [a3] at c1; cases c1
          rw [c2] at hK1; cases hK1
      | mp kk d v =>
        obtain ⟨l', ar, clk, vs, c1, _, c2, _⟩ := R3.mp.1 j kk d v a1
        rw [a3] at c1; cases c1
        rw [c2] at hK1; cases hK1
      | lp rr =>
        obtain ⟨l', c1, _, c2⟩ := R3.mp.2.2.2.1 j rr a1
        rw [a3] at c1; cases c1
        rw [c2] at hK1; cases hK1
      | _ => cases a2
  have hK5 : w'.heap[w.heap.size]? = some (.deferred (some [])) := (R5.below.block _ hD).trans hK1
  -- the state behind the call, its blocks in their places
  generalize hσ : (List.range (Hs0 (.lp rec)).length).take q ++ List.range' (Hs0 (.lp rec)).length ((Hf (.lp (recB b rec))).length - q) = σ at R6
  have htk : (List.range (Hs0 (.lp rec)).length).take q = List.range q := by rw [List.take_range, Nat.min_eq_left hq0]
  have hσl : σ.length = (Hf (.lp (recB b rec))).length := by rw [← hσ, htk]; simp; omega
  have hσk : ∀ k, k < q → σ.getD k 0 = k := fun k hk => by
    rw [← hσ, htk]
    simp only [List.getD_eq_getElem?_getD]
    rw [List.getElem?_append_left (by simpa using hk)]
    simp [hk]
  have hσnd : σ.Nodup := by
    rw [← hσ, htk]
    refine List.nodup_append.2 ⟨List.nodup_range, List.nodup_range', fun x hx y hy e => ?_⟩
    rw [List.mem_range] at hx
    rw [List.mem_range'_1] at hy
    omega
  have hσren : ∀ {x : AV}, sc1 q x = true → Go.Pv.ren σ x = x := fun {x} hx => by
    cases x <;> first | rfl | (simp only [sc1, decide_eq_true_eq] at hx; simp only [Go.Pv.ren, ren1]; rw [hσk _ hx]) | (simp [sc1] at hx)
  have hput : ∀ (j : Nat) (bb : Blk) (k : Nat), (Hf (.lp (recB b rec)))[j]? = some bb → σ[j]? = some k → (putM (kills (Hs0 (.lp rec)) ((List.range (Hs0 (.lp rec)).length).drop q)) ((List.range (Hs0 (.lp rec)).length).take q) ((Hf (.lp (recB b rec))).map (Blk.ren σ)))[k]? = some (Blk.ren σ bb) := by
    intro j bb k hj hk
    refine putM_at _ _ _ (by rw [htk]; exact List.nodup_range) (fun k hk => by rw [kills_length]; rw [htk, List.mem_range] at hk; omega) (by rw [htk]; simp; omega) j (by rw [List.getElem?_map, hj]; rfl) ?_
    rw [kills_length, List.length_map, htk, List.length_range, ← htk, hσ]
    exact hk
  have hsH := hsc rec (recB b rec)
  unfold scQ at hsH
  rw [Bool.and_eq_true, Bool.and_eq_true, Bool.and_eq_true, Bool.and_eq_true, Bool.and_eq_true, Bool.and_eq_true] at hsH
  have hs2 := hsH.1.1.1.1.1.2
  have hLe2 : LeH σ (putM (kills (Hs0 (.lp rec)) ((List.range (Hs0 (.lp rec)).length).drop q)) ((List.range (Hs0 (.lp rec)).length).take q) ((Hf (.lp (recB b rec))).map (Blk.ren σ))) σ (Hf (.lp (recB b rec))) := by
    refine LeH_of _ _ hσl fun j bb k hj hk => ?_
    have hg := hget_of (hput j bb k hj hk)
    have hs := (List.all_eq_true.1 hs2) _ (List.mem_of_getElem? hj)
    cases bb with
    | own c =>
      simp only [LeB, hg, Blk.ren]
      refine ⟨?_, by rw [hσl]; exact hs⟩
      rw [← List.length_map (f := Go.Pv.ren σ), List.take_length]
    | fro c => exact hg
    | mp kk d v => exact hg
    | lp r => exact hg
    | dead => trivial
    | anc i j => cases hs
  have R7 : Rel C (mren m2 σ) ⟨n, [], Hf (.lp (recB b rec))⟩ a.tmps w' := R6.weaken (s1 := ⟨n, [], Hf (.lp (recB b rec))⟩) ⟨rfl, hσnd, hLe2, trivial⟩
  have hlen7 : (Hf (.lp (recB b rec))).length = σ.length := hσl.symm
  have hoW := OK.weaken (C := C) (m := m2) (w := w') hLe2
  have R8 : Rel C (mren m2 σ) ⟨n, sl, Hf (.lp (recB b rec))⟩ a.tmps w' := R7.reslot R7.size fun t => by
    rcases hlk t with e | ⟨ht, hx⟩
    · rw [e]; exact .dead _
    · have hv : AVal _ m2 _ (lk ((gs, .cl gf cap) :: sl) t) (a.tmps.getD t undef) := R6.slot t
      by_cases e : t = gs
      · rw [e, hgs]; exact .dead _
      · simp only [lk] at hv
        rw [show (gs == t) = false by simpa using Ne.symm e, cond_false, ← hσren hx] at hv
        exact hv.unren (fun p v h => h.mono hoW) hlen7 (by rw [hσl]; exact hscA (hscm hq1 hx))
  -- the record
  have hm8 : mren m2 σ κ = some ⟨w.heap.size + 1, 0, 0⟩ := by
    have h1 : κ < σ.length := by omega
    have h2 : σ[κ] = κ := by have := hσk κ hκ; simpa [List.getD, List.getElem?_eq_getElem h1] using this
    simp only [mren, List.getElem?_eq_getElem h1, h2, Option.bind_some]
    rw [hm2 κ (hs0.lt _)]; exact hmκ
  obtain ⟨l8, e1, e2, e3⟩ := R8.mp.2.2.2.1 κ _ (hf.at_ _)
  rw [hm8] at e1; cases e1
  simp only at e3
  have hend := run_endLoop (P := P) e3 (by unfold recB; split <;> simp [hok.state])
  refine ⟨_, _, hend, ?_⟩
  have R9 := (R8.setLp (r' := { recB b rec with state := .exhausted }) (hf.at_ _) hm8)
  simp only [hf.set_] at R9
  have hkill := Rel.kill (a := a) R9 κ
  simp only [hf.set_] at hkill
  generalize hw4 : w'.putObj (w.heap.size + 1) (.loop { recB b rec with state := .exhausted }) = w4 at R9 hkill ⊢
  have hK6 : w4.heap[w.heap.size]? = some (.deferred (some [])) := by rw [← hw4]; exact (World.putObj_heap_other (by omega)).trans hK5
  have R10 := hkill.hold (fun x => x = w.heap.size) (fun x hx => by
    rw [hx]; exact ⟨(Array.getElem?_eq_some_iff.1 hK6).1, fun _ _ _ h => by rw [hK6] at h; cases h⟩) (fun k kk d v l h hl hx => by
    obtain ⟨l', ar, clk, vs, c1, _, c2, _⟩ := hkill.mp.1 k kk d v h
    rw [hl] at c1; cases c1
    rw [hx, hK6] at c2; cases c2) (fun x hx rr h => by rw [hx, hK6] at h; cases h)
  have hS' : SubX (holdC C (fun x => x = w.heap.size) w4) C0 := fun m s tmps w R => hS _ _ _ _ (R.unhold hkill.below)
  have hC0B : C0.B w.heap.size := (hS _ _ _ _ R).base _ (Nat.le_refl _)
  have hdfr : Dfr C0 (holdC C (fun x => x = w.heap.size) w4) ({ target := .collected w.heap.size, args := #[] } :: a.defers) := by
    obtain ⟨d1, d2⟩ := hd
    refine ⟨List.nodup_cons.2 ⟨fun hmem => ?_, d1⟩, fun d hdm => ?_⟩
    · obtain ⟨D, q1, _, _, q4⟩ := d2 _ hmem
      have : D = w.heap.size := by cases q1; rfl
      have h1 := (Array.getElem?_eq_some_iff.1 q4).1
      have h2 := R.below.size
      omega
    · rcases List.mem_cons.1 hdm with rfl | hdm
      · exact ⟨_, rfl, hC0B, fun h => h.2 rfl, hK6⟩
      · obtain ⟨D, q1, q2, q3, q4⟩ := d2 _ hdm
        exact ⟨D, q1, q2, fun h => q3 h.1, (hkill.below.block _ q3).trans q4⟩
  cases b with
  | true =>
    have hp : (recB true rec).pending = none := hok.pending
    rw [hp]
    exact ⟨_, _, _, hS', h1 rfl, R10, hdfr⟩
  | false =>
    have hp : (recB false rec).pending = some .ret := rfl
    rw [hp]
    exact wpR_ret ⟨_, _, _, hS', h2 rfl, R10, hdfr⟩

/-- On the way out: the marks are taken. -/
theorem leaves_marks {fn : Func} {s' : St} {m' : Map} {tmps : Array Value} {C0 : Ctx} {R : Ending → World → Prop} : ∀ (ds : List Deferred) (w : World), Rel C0 m' s' tmps w → ds.Nodup → (∀ d ∈ ds, ∃ D, d = { target := .collected D, args := #[] } ∧ C0.B D ∧ w.heap[D]? = some (.deferred (some []))) →
    (∀ w', Rel C0 m' s' tmps w' → ∃ v, (results fn tmps).run P w' = .ok v w' ∧ R (.returned v) w') → LeavesInM Fence.wide 0 P fn tmps R ds .returning w
  | [], w, RR, _, _, hfin => hfin w RR
  | d :: ds, w, RR, hnd, hds, hfin => by
    obtain ⟨D, e1, e2, e3⟩ := hds d (by simp)
    refine ⟨by simp, .inl ⟨D, w.putObj D (.deferred none), by rw [e1], run_takeDeferred e3, ?_⟩⟩
    refine leaves_marks ds _ (RR.setDef e2 e3) (List.nodup_cons.1 hnd).2 (fun d' hd' => ?_) hfin
    obtain ⟨D', f1, f2, f3⟩ := hds d' (by simp [hd'])
    refine ⟨D', f1, f2, ?_⟩
    have hne : D' ≠ D := fun e => (List.nodup_cons.1 hnd).1 (by rw [e1, ← e, ← f1]; exact hd')
    rw [World.putObj_heap_other hne]; exact f3

theorem fnc_ofR (hT : ∀ t ti, T t = some ti → tiOf P t = some ti) {f : FuncId} {fn : Func} {c : Code} {args : List PV} {r : PV} (hf : P.funcs[f]? = some fn) (hb : fn.body = some c) (hnm : (fn.name == "runtime.NumGoroutine") = false) (hn : args.length ≤ fn.ntmps)
    (h : HoldsR P c (Post T fn.results.toList r) (entry fn.ntmps args)) : FnC P f args r := by
  refine ⟨⟨fn, hf, hnm, by rw [hb]; rfl⟩, fun okA w vals hok hsz hrd => (callsIn_wide (n := 0)).1 (callsIn_of_wp_marks hf hb trivial ?_)⟩
  have hslot : ∀ t, (vals ++ Array.replicate (fn.ntmps - vals.size) undef).getD t undef = if t < vals.size then vals.getD t undef else undef := by
    intro t
    simp only [Array.getD_eq_getD_getElem?]
    by_cases ht : t < vals.size
    · rw [if_pos ht, Array.getElem?_append_left ht]
    · rw [if_neg ht, Array.getElem?_append_right (by omega), Array.getElem?_replicate]
      split <;> rfl
  have R : Rel (fresh okA w) (fun _ => none) (entry fn.ntmps args) (vals ++ Array.replicate (fn.ntmps - vals.size) undef) w := by
    have hOK : ∀ b, okA b → OK (fresh okA w) (fun _ => none) [] w b := fun b hb => ⟨.inl hb, hok.1 b hb, fun k c l h => by simp at h⟩
    refine ⟨fun g l hg => (hok.2 g l hg).mono hOK, BelowP.refl _ _, fun _ h => h, by simp [entry]; omega, fun k k' c c' l l' h => by simp [entry] at h, fun k c h => by simp [entry] at h, fun k c h => by simp [entry] at h, fun t => ?_, fun k kk d v h => by simp [entry] at h, fun k k' kk d v kk' d' v' l l' h => by simp [entry] at h, fun k i j h => by simp [entry] at h, fun k r h => by simp [entry] at h, fun k k' r r' l l' h => by simp [entry] at h⟩
    rw [hslot]
    unfold St.get entry
    simp only
    rw [ent_lk]
    simp only [Nat.zero_le, if_true, Nat.sub_zero]
    by_cases ht : t < args.length
    · rw [List.getElem?_eq_getElem ht, if_pos (by omega)]
      exact .p _ _ ((hrd t ht).mono hOK)
    · rw [List.getElem?_eq_none (by omega)]
      exact .dead _
  refine wpR_mono (r := none) (h _ _ _ { tmps := vals ++ Array.replicate (fn.ntmps - vals.size) undef, defers := [] } w (fun _ _ _ _ R => R) R ⟨List.nodup_nil, fun d h => by cases h⟩) fun e a' w' ⟨C', s', m', hS, h1, h2, h3⟩ => ?_
  have R0 := hS _ _ _ _ h2
  have key : endA T fn.results.toList r s' → LeavesInM Fence.wide 0 P fn a'.tmps (fun e w' => ∃ v, e = .returned v ∧ Below w.heap.size w w' ∧ Reads (okN okA w w') w' r v) a'.defers .returning w' := fun he => by
    refine leaves_marks (s' := s') (m' := m') a'.defers w' R0 h3.1 (fun d hd => ?_) fun w2 R2 => ?_
    · obtain ⟨D, q1, q2, q3, q4⟩ := h3.2 d hd
      exact ⟨D, q1, q2, (h2.below.block _ q3).trans q4⟩
    · unfold endA at he
      split at he
      · rename_i p l hl
        split at he
        · rename_i q pv b hpk
          obtain ⟨hp, hq, rfl⟩ := he
          obtain ⟨vs, e1, e2, e3⟩ := rvsA_run hT R2 fn.results.toList hl hp
          have hv := mkTup_val (w := w2) e2 e3
          have hpv := peekA_val R2 hv hpk hq
          refine ⟨_, ?_, _, rfl, R2.below.below (fun _ h => h), norm_reads hpv.1⟩
          rw [results_eq, Array.mapM_eq_mapM_toList]
          simp only [Sem.run_bind, Sem.run_map]
          rw [e1]
          simp only [Result.andThen_ok]
          rfl
        · exact he.elim
      · exact he.elim
  cases e with
  | normal => exact key h1
  | ret => exact key h1
  | _ => exact h1.elim
end
end Go.Pv

/-
  Calls that hand out fresh rows of plain values; functions with captured rows of the call's own. Conditions: none.
-/
set_option linter.all false
namespace Go.Pv
open Go.RowKit

section
variable {P : Program} {s : St}

/-- A contract whose result lies in memory that is new: whatever the arguments may be. -/
def FnF (P : Program) (f : FuncId) (args : List PV) (r : PV) : Prop :=
  Fun P f ∧ ∀ (okA : Nat → Prop) (w : World) (vals : Array Value), LaidW okA w → vals.size = args.length → (∀ i (h : i < args.length), Reads okA w args[i] (vals.getD i undef)) →
    Calls P f vals w fun e w' => ∃ v, e = .returned v ∧ Go.Pv.Below w.heap.size w w' ∧ Reads (fun b => w.heap.size ≤ b ∧ b < w'.heap.size) w' r v

/-- Plain data: no memory. -/
def PV.sc : PV → Bool
  | .int _ _ => true
  | .bool _ => true
  | .str _ => true
  | _ => false

theorem sc_reads {ok ok' : Nat → Prop} {w : World} {p : PV} {v : Value} (h : Reads ok w p v) (hs : p.sc = true) : Reads ok' w p v := by
  cases h <;> simp [PV.sc] at hs
  · exact .int _ _
  · exact .bool _
  · exact .str _

theorem FnG_fnf {f : FuncId} {args l : List PV} (h : FnG P f args (.sl 0 0 l.length) [.own (opl l)]) (hsc : l.all PV.sc = true) : FnF P f args (.list l) := by
  have hone : l.all PV.one = true := List.all_eq_true.2 fun x hx => by
    have := (List.all_eq_true.1 hsc) x hx
    cases x <;> simp [PV.sc] at this <;> rfl
  refine ⟨h.1, fun okA w vals h1 h2 h3 => (h.2 okA w vals h1 h2 h3).mono fun e w' ⟨v, m', he, hbl, ho⟩ => ⟨v, he, hbl, ?_⟩⟩
  cases ho.val with
  | sl _ _ _ _ hk hs =>
    rcases hs with ⟨h0, ad, rfl⟩ | ⟨lc, cap, hm, rfl, hc1, hc2⟩
    · have : l = [] := List.eq_nil_of_length_eq_zero h0
      subst this
      exact .list0 _ _ fun _ => rfl
    · rcases ho.blk 0 (opl l) rfl with ⟨hn, _⟩ | ⟨l', cur, e', hm2, hB, hh, hs1, hs3, hs2, hcells⟩
      · have : l = [] := List.map_eq_nil_iff.1 hn
        subst this
        exact .list0 _ _ fun h => by cases h
      · rw [hm] at hm2; cases hm2
        rw [opl_length] at hs2
        refine row_reads rfl hone ⟨hB, (Array.getElem?_eq_some_iff.1 hh).1⟩ hc1 (fun j => cur.getD (lc.o + j) undef) (fun j hj => ?_) fun j hj => ?_
        · have : lc.o + 0 + j = lc.o + j := by omega
          rw [this]; exact cell_of hh (by omega)
        · have := hcells j (by rw [opl_length]; exact hj)
          have e2 : (opl l)[j]'(by rw [opl_length]; exact hj) = .p l[j] := by simp [opl]
          rw [e2] at this
          exact sc_reads this.p_inv ((List.all_eq_true.1 hsc) _ (List.getElem_mem hj))

theorem call_doesF {o : Oper} {fo : Operand} {args : Array Operand} {ts : Array TypeId} (ho : o.op = .call { callee := .value fo, args := args, argTypes := ts }) {g : FuncId} {avs : List PV} {p : Prop} {b : Bool} {r : PV}
    (hc : FnF P g avs r) (hcall : callA s fo args = some (g, avs, p, b)) (hp : p) : DoesW P o s (.p r) s.H := by
  intro C m a w K Q R hK
  unfold callA at hcall
  split at hcall
  · rename_i g' cap hf
    split at hcall <;> simp only [Option.some.injEq, Prod.mk.injEq, reduceCtorEq] at hcall
    rename_i p' pvs b' hpl
    obtain ⟨rfl, rfl, rfl, rfl⟩ := hcall
    have hfv := R.ev fo
    rw [hf] at hfv
    generalize hfe : a.eval fo = fv at hfv
    have hfv := hfv.p_inv
    cases hfv with
    | fn _ _ vs hcl hcr =>
      obtain ⟨⟨fn, hfn, hnm, hbd⟩, hcalls⟩ := hc
      obtain ⟨e1, e2, e3⟩ := peekList_val (C := C) (m := m) (w := w) (H := s.H) (fun {x v p pv b} (hx : AVal (Reads (OK C m s.H w) w) m s.H x v) h hp => peekG_val R hx h hp) (args.toList.map s.ev) (fun c => (args.toList.map a.eval).getD c undef) (fun c hc => by
        simp only [List.length_map] at hc
        have := R.ev (args.toList[c])
        simpa [List.getD, List.getElem?_map, List.getElem?_eq_getElem hc] using this) hpl hp
      simp only [List.length_map] at e1
      have hvals : ∀ i (h : i < (pvs ++ cap).length), (args.map a.eval ++ vs).getD i undef = if i < pvs.length then (args.toList.map a.eval).getD i undef else vs.getD (i - pvs.length) undef := by
        intro i hi
        simp only [Array.getD_eq_getD_getElem?]
        by_cases hip : i < pvs.length
        · rw [if_pos hip, Array.getElem?_append_left (by simp at e1 ⊢; omega)]
          simp [List.getD]
        · rw [if_neg hip, Array.getElem?_append_right (by simp at e1 ⊢; omega)]
          congr 2
          simp at e1 ⊢; omega
      have hrun : (execOp a.eval o).run P w = .ok (.enter g' (args.map a.eval ++ vs)) w := by
        have hnm' : ¬ fn.name = "runtime.NumGoroutine" := by simpa using hnm
        have hbd' : ¬ fn.body = none := by intro e; rw [e] at hbd; simp at hbd
        simp [execOp, ho, resolve, hfe, Deferred.ofValue, invoke, callFunc, hfn, hnm', hbd']
      refine opR_of_wp (by first | rfl | (rw [ho]; rfl)) ?_
      unfold Oper.wp
      rw [hrun]
      simp only [Oper.upon]
      have hsz : (args.map a.eval ++ vs).size = (pvs ++ cap).length := by simp at e1 ⊢; omega
      refine (hcalls (fun b => b < w.heap.size) w _ R.laidLt hsz fun i hi => ?_).mono fun e w' ⟨v, he, hbl, hv⟩ => ?_
      · rw [hvals i hi]
        by_cases hip : i < pvs.length
        · rw [if_pos hip, List.getElem_append_left hip]; exact (e2 i hip).mono fun b hb => hb.2
        · rw [if_neg hip, List.getElem_append_right (by omega)]; exact (hcr _ (by simp at hi; omega)).mono fun b hb => hb.2.1
      · subst he
        refine hK v m w' (R.later hbl) (.p _ _ (hv.mono fun b hb => ⟨.inr (R.base _ hb.1), hb.2, fun k c l hk hl e' => ?_⟩))
        have := (R.wrLt hk rfl hl).2
        have := hb.1
        omega
  · cases hcall

theorem call_locF {o : Oper} {fo : Operand} {args : Array Operand} {ts : Array TypeId} (ho : o.op = .call { callee := .value fo, args := args, argTypes := ts }) {g : FuncId} {avs : List PV} {p : Prop} {b : Bool} {r : PV}
    (hc : FnF P g avs r) (hcall : callA s fo args = some (g, avs, p, b)) (hp : p) : Loc1 P o s (.p r) s.H := by
  refine ⟨fun s2 hn ha hH => ?_, fun hf => ?_, fun _ => rfl⟩
  · have := callA_congr (ts := ts) (s := s) (s2 := s2) (fo := fo) (args := args) (by rw [← ho]; exact ha) hH
    rw [hcall] at this
    rw [← hH]
    exact call_doesF ho hc this hp
  · rw [ho] at hf; simp [isT] at hf

theorem runs_callF {draw : Bool} {all : Array Oper} {rest : List Oper} {K : St → Prop} {dst : Option Tmp} {ty : TypeId} {pos : String} {aft : Array Edge} {gd : Option (Nat × Bool)} {fo : Operand} {args : Array Operand} {ts : Array TypeId} {g : FuncId} {avs : List PV} {p : Prop} {b : Bool} {r : PV}
    (hc : FnF P g avs r) (hg : guardA all s { dst := dst, op := .call { callee := .value fo, args := args, argTypes := ts }, type := ty, pos := pos, after := aft, guard := gd } = some true)
    (hcall : callA s fo args = some (g, avs, p, b)) (hd : dstOk s dst) (hp : p) (h : Runs P draw all rest K (s.put dst (.p r))) :
    Runs P draw all ({ dst := dst, op := .call { callee := .value fo, args := args, argTypes := ts }, type := ty, pos := pos, after := aft, guard := gd } :: rest) K s := by
  obtain ⟨s', hr, hK⟩ := h
  exact ⟨s', .cons (.op s (.p r) s.H hg (dstOk_spec hd) (call_doesF rfl hc hcall hp) fun _ => call_locF rfl hc hcall hp) hr, hK⟩

end

/-- A function with captured values, of whatever make. -/
theorem makeCl_does {P : Program} {s : St} {o : Oper} {f : FuncId} {first : Array Operand} {caps : Array Operand} (ho : o.op = .makeFunc (.func f) first caps) (hf : first.isEmpty = true) : DoesW P o s (.cl f (caps.toList.map s.ev)) s.H := by
  intro C m a w K Q R hK
  have hfe : first = #[] := by simpa using hf
  have hrun : (execOp a.eval o).run P w = .ok (.value (.func (.func f) #[] (caps.map a.eval))) w := by
    simp [execOp, ho, hfe, Instr.makeFunc]
  refine opR_of_wp (by first | rfl | (rw [ho]; rfl)) ?_
  unfold Oper.wp
  rw [hrun]
  refine hK _ m w R (.cl _ _ _ (by simp) fun c hc => ?_)
  have hc' : c < caps.size := by simpa using hc
  have e1 : (caps.map a.eval).getD c undef = a.eval caps[c] := by simp [Array.getD_eq_getD_getElem?, hc']
  have e2 : (caps.toList.map s.ev)[c] = s.ev caps[c] := by simp
  rw [e1, e2]
  exact R.ev _
end Go.Pv
namespace Go.Proofs.YtboadfahlflmhaaDoor
open Go.Pv

end Go.Proofs.YtboadfahlflmhaaDoor

/-
  Walks: all homomorphisms, handed out one by one. Conditions: none.
-/
set_option linter.all false
namespace Go.Pv
open Go.RowKit

theorem fnc_of_p {P : Program} {f : FuncId} {args : List PV} {pv : PV} (h : FnG P f args (.p pv) []) (hf : pv.flatOnly = true) : FnC P f args pv :=
  ⟨h.1, fun okA w vals h1 h2 h3 => (h.2 okA w vals h1 h2 h3).mono fun e w' ⟨v, m', he, hbl, ho⟩ => ⟨v, he, hbl, flatOnly_reads ho.val.p_inv hf⟩⟩

/-- What a loop over a function does, round by round: what its blocks hold; whether it goes on; how it goes on. -/
structure Prot (σ : Type) where
  c4 : σ → PV
  c51 : σ → PV
  c52 : σ → PV
  R : σ → List PV
  go : σ → PV → Bool
  nx : σ → PV → σ
  ok : σ → Prop
  okx : PV → Prop
  ok_nx : ∀ i x, ok i → okx x → go i x = true → ok (nx i x)
  ones : ∀ i, ok i → (R i).all PV.one = true

variable {σ : Type}
def foldS (p : Prot σ) : σ → List PV → σ × Bool
  | i, [] => (i, true)
  | i, x :: xs => if p.go i x then foldS p (p.nx i x) xs else (p.nx i x, false)
theorem foldS_app (p : Prot σ) : ∀ (i : σ) (xs ys : List PV), foldS p i (xs ++ ys) = if (foldS p i xs).2 then foldS p (foldS p i xs).1 ys else foldS p i xs
  | i, [], ys => by simp [foldS]
  | i, x :: xs, ys => by
    simp only [List.cons_append, foldS]
    split
    · exact foldS_app p _ xs ys
    · rfl
theorem foldS_ok (p : Prot σ) : ∀ (i : σ) (xs : List PV), p.ok i → (∀ x ∈ xs, p.okx x) → (foldS p i xs).2 = true → p.ok (foldS p i xs).1
  | i, [], h, _, _ => h
  | i, x :: xs, h, hx, hb => by
    simp only [foldS] at hb ⊢
    split at hb
    · rename_i hg
      rw [if_pos hg]
      exact foldS_ok p _ xs (p.ok_nx i x h (hx x (by simp)) hg) (fun y hy => hx y (by simp [hy])) hb
    · cases hb

end Go.Pv
namespace Go.Proofs.YtboadfahlflmhaaDoor
open Go.Pv

section
variable {n e N d : Nat} {m M : List Int}
open Classical in
/-- Where things that make the group go so: the homomorphism, if there is one. -/
noncomputable def hlf (n : Nat) (f : Nat → Nat → Nat) (N : Nat) (g : Nat → Nat → Nat) (L T : List Nat) : List (List Int) := if h : ∃ φ, Ext n f N g L T φ then [tbm n (Classical.choose h)] else []
/-- All that come, where some places are chosen. -/
noncomputable def hsq (n : Nat) (f : Nat → Nat → Nat) (e N : Nat) (g : Nat → Nat → Nat) (d : Nat) (L : List Nat) : List Nat → List Nat → List (List Int)
  | [], t => hlf n f N g L t
  | x :: r, t => ((List.range N).filter fun y => decide (ord n f e x % ord N g d y = 0)).flatMap fun y => hsq n f e N g d L r (t ++ [y])
/-- Up to a place. -/
noncomputable def hsu (n : Nat) (f : Nat → Nat → Nat) (e N : Nat) (g : Nat → Nat → Nat) (d : Nat) (L r t : List Nat) (x y : Nat) : List (List Int) :=
  ((List.range y).filter fun y => decide (ord n f e x % ord N g d y = 0)).flatMap fun y => hsq n f e N g d L r (t ++ [y])
def pls (l : List (List Int)) : List PV := l.map fun w => .list (il w)
theorem pls_app (a b : List (List Int)) : pls (a ++ b) = pls a ++ pls b := by simp [pls]
theorem hsu_succ {f g : Nat → Nat → Nat} {L r t : List Nat} {x y : Nat} : hsu n f e N g d L r t x (y + 1) = if ord n f e x % ord N g d y = 0 then hsu n f e N g d L r t x y ++ hsq n f e N g d L r (t ++ [y]) else hsu n f e N g d L r t x y := by
  unfold hsu
  rw [List.range_succ, List.filter_append, List.flatMap_append]
  by_cases h : ord n f e x % ord N g d y = 0
  · rw [if_pos h]; simp [h]
  · rw [if_neg h]; simp [h]

/-- A row that is filled so far. -/
def rwd (t : List Nat) (n : Nat) : List AV := opl (il (nl t)) ++ List.replicate (n - t.length) .dead
theorem rwd_len {t : List Nat} {n : Nat} (h : t.length ≤ n) : (rwd t n).length = n := by
  simp [rwd, opl_length, il_length, nl_len]; omega
theorem rwd_full {t : List Nat} {n : Nat} (h : t.length = n) : rwd t n = opl (il (nl t)) := by simp [rwd, h]
theorem rwd_ren (t : List Nat) (n : Nat) (π : List Nat) : (rwd t n).map (Go.Pv.ren π) = rwd t n := by
  rw [rwd, List.map_append, opl_ren, List.map_replicate]; rfl
theorem rwd_sc (t : List Nat) (n k : Nat) : (rwd t n).all (scA k) = true := by
  rw [rwd, List.all_append, opl_sc, List.all_replicate]; simp [scA, sc1]
theorem rwd_set {t : List Nat} {n y : Nat} (h : t.length < n) : (rwd t n).set t.length (.p (.int .i64 ((y : Nat) : Int))) = rwd (t ++ [y]) n := by
  have e1 : (opl (il (nl t))).length = t.length := by simp [opl_length, il_length, nl_len]
  obtain ⟨k, rfl⟩ : ∃ k, n = t.length + 1 + k := ⟨n - (t.length + 1), by omega⟩
  rw [rwd, rwd, List.set_append_right _ _ (by omega), e1, Nat.sub_self, show t.length + 1 + k - t.length = k + 1 by omega, List.replicate_succ, List.set_cons_zero,
    List.length_append, List.length_cons, List.length_nil, show t.length + 1 + k - (t.length + (0 + 1)) = k by omega, nl_snoc]
  simp [opl, il]
theorem rwd_get {t : List Nat} {n j : Nat} (h : j < t.length) : (rwd t n)[j]? = some (.p (.int .i64 ((t.getD j 0 : Nat) : Int))) := by
  rw [rwd, List.getElem?_append_left (by rw [opl_length, il_length, nl_len]; exact h)]
  simp [opl, il, nl, List.getElem?_eq_getElem h]
theorem rwd_dead {t : List Nat} {n j : Nat} (h : t.length ≤ j) (hn : j < n) : (rwd t n)[j]? = some .dead := by
  rw [rwd, List.getElem?_append_right (by rw [opl_length, il_length, nl_len]; exact h), opl_length, il_length, nl_len, List.getElem?_replicate, if_pos (by omega)]
/-- Back to what stood. -/
theorem hk_back {P : Program} {Q : Exit → St → Prop} {s : St} {c : Code} (k : Nat) {t : List Nat} {y n : Nat} (hk : hget s.H k = .own (rwd (t ++ [y]) n)) (hl : t.length < n) (h : Holds P c Q { s with H := hset s.H k (.own (rwd t n)) }) : Holds P c Q s := by
  have hl1 : (t ++ [y]).length ≤ n := by simp; omega
  refine hk_cells k hk (by rw [rwd_len (by omega), rwd_len hl1]) (fun C m tmps w R j h1 h2 v hv => ?_) h
  by_cases hj : j < t.length
  · have e : (rwd (t ++ [y]) n)[j] = (rwd t n)[j] := Option.some.inj (by
      rw [← List.getElem?_eq_getElem h1, ← List.getElem?_eq_getElem h2, rwd_get hj, rwd_get (by simp; omega)]
      simp [List.getElem?_append_left hj])
    rw [← e]; exact hv
  · have e : (rwd t n)[j] = .dead := Option.some.inj (by rw [← List.getElem?_eq_getElem h2, rwd_dead (by omega) (by rw [rwd_len (by omega)] at h2; exact h2)])
    rw [e]; exact .dead _

variable {σ : Type}
theorem sc1_up {a b : Nat} {x : AV} (h : a ≤ b) (hx : sc1 a x = true) : sc1 b x = true := by
  cases x <;> simp [sc1] at hx ⊢ <;> omega
theorem all_up {a b : Nat} {l : List AV} (h : a ≤ b) (hx : l.all (sc1 a) = true) : l.all (sc1 b) = true := by
  rw [List.all_eq_true] at hx ⊢
  exact fun x hm => sc1_up h (hx x hm)
theorem recB_true (rec : Loop) : recB true rec = rec := rfl

theorem hsq_mem {f g : Nat → Nat → Nat} {L : List Nat} : ∀ (r t : List Nat) (w : List Int), w ∈ hsq n f e N g d L r t → ∃ φ, Hmo n f N g φ ∧ w = tbm n φ
  | [], t, w, h => by
    unfold hsq hlf at h
    split at h
    · rename_i hex
      exact ⟨_, (Classical.choose_spec hex).1, by simpa using h⟩
    · simp at h
  | x :: r, t, w, h => by
    unfold hsq at h
    obtain ⟨y, _, h⟩ := List.mem_flatMap.1 h
    exact hsq_mem r _ w h
theorem hsu_mem {f g : Nat → Nat → Nat} {L r t : List Nat} {x y : Nat} (w : List Int) (h : w ∈ hsu n f e N g d L r t x y) : ∃ φ, Hmo n f N g φ ∧ w = tbm n φ := by
  unfold hsu at h
  obtain ⟨y, _, h⟩ := List.mem_flatMap.1 h
  exact hsq_mem r _ w h
theorem hsu_end {f g : Nat → Nat → Nat} {L r t : List Nat} {x : Nat} : hsq n f e N g d L (x :: r) t = hsu n f e N g d L r t x N := by
  rw [hsq]; rfl
theorem hsu_pre {f g : Nat → Nat → Nat} {L r t : List Nat} {x y : Nat} (h : y ≤ N) : ∃ z, hsq n f e N g d L (x :: r) t = hsu n f e N g d L r t x y ++ z := by
  rw [hsu_end]
  have : ∀ k, ∃ z, hsu n f e N g d L r t x (y + k) = hsu n f e N g d L r t x y ++ z := by
    intro k
    induction k with
    | zero => exact ⟨[], by simp⟩
    | succ k ih =>
      obtain ⟨z, hz⟩ := ih
      rw [← Nat.add_assoc, hsu_succ, hz]
      split
      · exact ⟨_, List.append_assoc _ _ _⟩
      · exact ⟨z, rfl⟩
  obtain ⟨k, hk⟩ : ∃ k, N = y + k := ⟨N - y, by omega⟩
  have := this k
  rwa [← hk] at this
theorem foldS_pre (p : Prot σ) {i : σ} {a b : List PV} (h : (foldS p i a).2 = false) : foldS p i (a ++ b) = foldS p i a := by
  rw [foldS_app, h]; rfl
theorem foldS_on (p : Prot σ) {i : σ} {a b : List PV} (h : (foldS p i a).2 = true) : foldS p i (a ++ b) = foldS p (foldS p i a).1 b := by
  rw [foldS_app, h]; rfl

end
end Go.Proofs.YtboadfahlflmhaaDoor

/-
  Walks: the search begun; loops over all homomorphisms. Conditions: none.
-/
set_option linter.all false
namespace Go.Pv
open Go.RowKit
theorem hk_forget {P : Program} {Q : Exit → St → Prop} {s : St} {c : Code} (k : Nat) {b : List AV} (hk : hget s.H k = .own b) (h : Holds P c Q { s with H := hset s.H k (.own (List.replicate b.length .dead)) }) : Holds P c Q s :=
  hk_cells k hk (by simp) (fun C m tmps w R j h1 h2 v hv => by rw [List.getElem_replicate]; exact .dead _) h
end Go.Pv
namespace Go.Proofs.YtboadfahlflmhaaDoor
open Go.Pv
section
variable {n e N d : Nat} {m M : List Int} {σ : Type}
end
end Go.Proofs.YtboadfahlflmhaaDoor

/-
  Walks: all homomorphisms of two groups. Conditions: none.
-/
set_option linter.all false
namespace Go.Pv
open Go.RowKit
section
variable {P : Program} {Q : Exit → St → Prop} {s : St} {C : Ctx} {m : Map} {tmps : Array Value} {w : World}
/-- A function that has pure things with it, as one with blocks. -/
theorem Rel.toCl (R : Rel C m s tmps w) {t : Nat} {f : FuncId} {ps : List PV} (h : s.get t = .p (.fn f ps)) : Rel C m { s with sl := (t, .cl f (ps.map AV.p)) :: s.sl } tmps w := by
  refine ⟨R.laid, R.below, R.base, R.size, R.inj, R.blk, R.fro, fun t' => ?_, R.mp⟩
  by_cases e : t = t'
  · subst e
    have e2 : ({ s with sl := (t, .cl f (ps.map AV.p)) :: s.sl } : St).get t = .cl f (ps.map AV.p) := by simp [St.get, lk]
    rw [e2]
    have hv := R.slot t
    rw [h] at hv
    have hv := hv.p_inv
    generalize tmps.getD t undef = v at hv
    cases hv with
    | fn _ _ vs hl hr =>
      refine .cl _ _ vs (by simpa using hl) fun c hc => ?_
      rw [List.getElem_map]
      exact .p _ _ (hr c (by simpa using hc))
  · have e2 : ({ s with sl := (t, .cl f (ps.map AV.p)) :: s.sl } : St).get t' = s.get t' := by simp [St.get, lk, show (t == t') = false by simpa using e]
    rw [e2]
    exact R.slot t'
theorem hr_cl {c : Code} (t : Nat) {f : FuncId} {ps : List PV} (h : s.get t = .p (.fn f ps)) (h' : HoldsR P c Q { s with sl := (t, .cl f (ps.map AV.p)) :: s.sl }) : HoldsR P c Q s :=
  fun C0 C m a w hS R hd => h' C0 C m a w hS (R.toCl h) hd
end
end Go.Pv
namespace Go.Proofs.YtboadfahlflmhaaDoor
open Go.Pv
section
variable {n e N d : Nat} {m M : List Int} {σ : Type}
theorem tg_ok (h : GT n m n e) (h' : GT N M N d) : tg n m N M = (0, 0) := by
  unfold tg
  rw [gf_of h, gf_of h']; rfl
end
end Go.Proofs.YtboadfahlflmhaaDoor

/-
  Walks: lists of lists, one to one, one map then another. Conditions: none.
-/
set_option linter.all false
namespace Go.Proofs.YtboadfahlflmhaaDoor
open Go.Pv

/-- A list of so many things has each of them. -/
def onto1 (l : List Int) (n : Nat) : Prop := (∀ i, i < n → ((i : Nat) : Int) ∈ l) ∧ l.length = n
instance (l : List Int) (n : Nat) : Decidable (onto1 l n) := by unfold onto1; infer_instance

/-- One map, then another. -/
def cmpl (p q : List Int) : List Int := p.map fun x => q.getD x.toNat 0

end Go.Proofs.YtboadfahlflmhaaDoor

/-
  Walks: rows of yes and no; the ring of so many things. Conditions: none.
-/
set_option linter.all false
namespace Go.Proofs.YtboadfahlflmhaaDoor
open Go.Pv

/-- A row of yes and no. -/
def hbl (n : Nat) (g : Nat → Bool) : List PV := (List.range n).map fun i => .bool (g i)
theorem hbl_len (n : Nat) (g : Nat → Bool) : (hbl n g).length = n := by simp [hbl]
theorem hbl_get {n : Nat} {g : Nat → Bool} {i : Nat} (h : i < n) : (hbl n g).getD i default = .bool (g i) := by
  simp [hbl, List.getD, List.getElem?_eq_getElem, h]
theorem hbl_all (n : Nat) (g : Nat → Bool) : (hbl n g).all PV.one = true := by simp [hbl, PV.one]

def ixb (n : Nat) (g : Nat → Bool) : Int := match fst' (fun i => !g i) n with | some i => (i : Int) | none => -1
theorem ixb_iff (n : Nat) (g : Nat → Bool) : ixb n g ≥ 0 ↔ ∃ i, i < n ∧ g i = false := by
  unfold ixb
  cases h : fst' (fun i => !g i) n with
  | none =>
    constructor
    · intro h; simp at h
    · rintro ⟨i, hi, e⟩
      have := fst_spec0 h i hi
      rw [e] at this; simp at this
  | some i =>
    obtain ⟨h1, h2, _⟩ := fst_spec h
    exact ⟨fun _ => ⟨i, h1, by simpa using h2⟩, fun _ => by simp⟩

theorem indexB_c (n : Nat) (g : Nat → Bool) (hn : n ≤ 1000000) : FnC Tryd.prog 131 [.list (hbl n g), .bool false] (.int .i64 (ixb n g)) := by
  refine fnc_of tab_ok Tryd.func131 rfl (by kernel_rfl) (by rw [Tryd.ntmps131]; exact Nat.le_add_left 2 _) ?_; rw [Tryd.ntmps131]
  refine qm ?_
  refine hk_region fun K hK => runs_eval tab_ok ?_
  simp only [ev0, evA, evB, evP, fl, gp, tab, simprocAttr, reduceCtorEq, reduceIte]
  refine fin_run trivial (hK _ ?_) <;> clear hK <;> clear K
  refine qa (qm (qm ?_))
  refine hk_region fun K hK => runs_eval tab_ok ?_
  simp only [ev0, evA, evB, evP, fl, gp, tab, simprocAttr, reduceCtorEq, reduceIte, hbl_len]
  refine fin_run trivial (hK _ ?_) <;> clear hK <;> clear K
  refine qa (ql ?_)
  refine hk_loop (ι := Nat) (fun i => ⟨19, [(0, .p (.list (hbl n g))), (1, .p (.bool false)), (7, .p (.int .i64 n)), (8, .p (.int .i64 i))], []⟩) (fun i => i ≤ n ∧ ∀ j, j < i → g j = true) (fun i => n - i) 0 ⟨Nat.zero_le _, fun j hj => by omega⟩ [] (by simp only [leq, leA, ev0, evA, evB, evP, fl, gp, tab, simprocAttr, reduceCtorEq, reduceIte, hbl_len] <;> trivial) fun i hi => ?_
  obtain ⟨hi1, hi2⟩ := hi
  refine qm ?_
  refine hk_region fun K hK => runs_eval tab_ok ?_
  simp only [ev0, evA, evB, evP, fl, gp, tab, simprocAttr, reduceCtorEq, reduceIte]
  refine fin_run trivial (hK _ ?_) <;> clear hK <;> clear K
  refine qa (qm ?_)
  refine hk_cond rfl (fun hC1 => ?_) (fun hC1 => ?_)
  · (try simp only [nhs] at hC1)
    have hlt : i < n := by omega
    refine qh (qa (qm (ql (qm ?_))))
    refine hk_region fun K hK => runs_eval tab_ok ?_
    simp only [ev0, evA, evB, evP, fl, gp, tab, simprocAttr, reduceCtorEq, reduceIte]
    refine fin_run trivial (hK _ ?_) <;> clear hK <;> clear K
    refine qa (qm ?_)
    refine hk_region fun K hK => runs_eval tab_ok ?_
    simp only [ev0, evA, evB, evP, fl, gp, tab, simprocAttr, reduceCtorEq, reduceIte, hbl_len, hbl_get hlt]
    refine fin_run ?_ (hK _ ?_) <;> clear hK <;> clear K
    · (first | exact trivial | omega | (simp only [In64] at *; omega) | (simp [In64] at *; omega) | (simp_all; done) | skip)
    refine qa ?_
    refine hk_cond rfl (fun hC2 => ?_) (fun hC2 => ?_)
    · (try simp only [nhs] at hC2)
      refine qm ?_
      refine hk_region fun K hK => runs_eval tab_ok ?_
      simp only [ev0, evA, evB, evP, fl, gp, tab, simprocAttr, reduceCtorEq, reduceIte]
      refine fin_run trivial (hK _ ?_) <;> clear hK <;> clear K
      refine qa (qk (qe (qb (qb (qe (qb ?_))))))
      simp only [Tryd.results131, enA, ev0, evA, evB, evP, fl, gp, tab, simprocAttr, reduceCtorEq, reduceIte]
      all_goals (unfold ixb; rw [fst_some hlt (by cases hg : g i <;> simp_all) fun j hj => by simp [hi2 j hj]])
    · (try simp only [nhs] at hC2)
      refine qh (qd (qa ?_))
      refine hk_region fun K hK => runs_eval tab_ok ?_
      simp only [ev0, evA, evB, evP, fl, gp, tab, simprocAttr, reduceCtorEq, reduceIte]
      refine fin_run ?_ (hK _ ?_) <;> clear hK <;> clear K
      · (first | exact trivial | omega | (simp only [In64] at *; omega) | (simp [In64] at *; omega) | (simp_all; done) | skip)
      refine qa ?_
      refine ⟨i + 1, [], ⟨by omega, fun j hj => ?_⟩, by omega, ?_⟩
      · by_cases hj : j = i
        · subst hj; (cases hg : g j <;> simp_all)
        · exact hi2 j (by omega)
      · simp only [leq, leA, ev0, evA, evB, evP, fl, gp, tab, simprocAttr, reduceCtorEq, reduceIte] <;> first | trivial | omega
  · (try simp only [nhs] at hC1)
    refine qj (qc (qc (qf (qa (qm ?_)))))
    refine hk_region fun K hK => runs_eval tab_ok ?_
    simp only [ev0, evA, evB, evP, fl, gp, tab, simprocAttr, reduceCtorEq, reduceIte]
    refine fin_run trivial (hK _ ?_) <;> clear hK <;> clear K
    refine qa (qk ?_)
    simp only [Tryd.results131, enA, ev0, evA, evB, evP, fl, gp, tab, simprocAttr, reduceCtorEq, reduceIte]
    all_goals (unfold ixb; rw [fst_none fun j hj => by simp [hi2 j (by omega)]])

theorem containsB_c (n : Nat) (g : Nat → Bool) (hn : n ≤ 1000000) : FnC Tryd.prog 80 [.list (hbl n g), .bool false] (.bool (decide (ixb n g ≥ 0))) := by
  refine fnc_of tab_ok Tryd.func80 rfl (by kernel_rfl) (by rw [Tryd.ntmps80]; exact Nat.le_add_left 2 _) ?_; rw [Tryd.ntmps80]
  refine qm ?_
  refine hk_region fun K hK => runs_eval tab_ok ?_
  simp only [ev0, evA, evB, evP, fl, gp, tab, simprocAttr, reduceCtorEq, reduceIte]
  refine fin_run trivial (hK _ ?_) <;> clear hK <;> clear K
  refine qa (qm ?_)
  refine hk_region fun K hK => runs_eval tab_ok ?_
  simp only [ev0, evA, evB, evP, fl, gp, tab, simprocAttr, reduceCtorEq, reduceIte]
  refine fin_stop trivial (runs_call (indexB_c n g hn) rfl rfl rfl (by simp only [dstOk, Nat.reduceLT]) (by repeat (first | exact trivial | constructor)) (runs_eval tab_ok ?_))
  simp only [ev0, evA, evB, evP, fl, gp, tab, simprocAttr, reduceCtorEq, reduceIte]
  refine fin_run trivial (hK _ ?_) <;> clear hK <;> clear K
  refine qa (qk ?_)
  simp only [Tryd.results80, enA, ev0, evA, evB, evP, fl, gp, tab, simprocAttr, reduceCtorEq, reduceIte]
  all_goals ((first | exact rfl | exact ⟨rfl, rfl⟩ | exact ⟨rfl, rfl, rfl⟩ | exact ⟨trivial, rfl⟩ | exact ⟨Nat.le_refl _, rfl⟩ | trivial | (simp; done)))
end Go.Proofs.YtboadfahlflmhaaDoor

/-
  The semidirect product of two groups: plain laws, with no program in sight. Conditions: none.
-/
set_option linter.all false
namespace Go.Proofs.YtboadfahlflmhaaDoor
open Go.Pv

/-- A pair's product: the second acts on the other's first. -/
def smi (n' : Nat) (f f' al : Nat → Nat → Nat) (a b : Nat) : Nat := f (a / n') (al (a % n') (b / n')) * n' + f' (a % n') (b % n')

structure Acts (n n' : Nat) (f f' al : Nat → Nat → Nat) : Prop where
  lt : ∀ x i, x < n' → i < n → al x i < n
  hom : ∀ x i j, x < n' → i < n → j < n → al x (f i j) = f (al x i) (al x j)
  onto : ∀ x i, x < n' → i < n → ∃ j, j < n ∧ al x j = i
  mul : ∀ x y i, x < n' → y < n' → i < n → al (f' x y) i = al x (al y i)

section
variable {n n' e e' : Nat} {f f' al : Nat → Nat → Nat}

theorem pr_div {x y n' : Nat} (hy : y < n') : (x * n' + y) / n' = x := by
  rw [Nat.mul_comm, Nat.mul_add_div (by omega), Nat.div_eq_of_lt hy]; omega
theorem pr_mod {x y n' : Nat} (hy : y < n') : (x * n' + y) % n' = y := by
  rw [Nat.mul_comm, Nat.mul_add_mod, Nat.mod_eq_of_lt hy]
theorem pr_lt {x y n n' : Nat} (hx : x < n) (hy : y < n') : x * n' + y < n * n' := by
  have : (x + 1) * n' ≤ n * n' := Nat.mul_le_mul_right _ hx
  rw [Nat.add_mul, Nat.one_mul] at this
  omega
theorem pr_split {a : Nat} (hp : 0 < n') (ha : a < n * n') : a / n' < n ∧ a % n' < n' ∧ a / n' * n' + a % n' = a :=
  ⟨Nat.div_lt_of_lt_mul (by rw [Nat.mul_comm]; exact ha), Nat.mod_lt _ hp, by rw [Nat.mul_comm]; exact Nat.div_add_mod a n'⟩

theorem Acts.one (A : Acts n n' f f' al) (G' : Grp n' f' e') {i : Nat} (hi : i < n) : al e' i = i := by
  obtain ⟨j, hj, rfl⟩ := A.onto e' i G'.el hi
  rw [← A.mul e' e' j G'.el G'.el hj, G'.one_l e' G'.el]
theorem Acts.el (A : Acts n n' f f' al) (G : Grp n f e) {x : Nat} (hx : x < n') : al x e = e := by
  have h1 := A.lt x e hx G.el
  have h2 := A.hom x e e hx G.el G.el
  rw [G.one_l e G.el] at h2
  exact (G.idem h1).1 h2.symm

theorem smi_div (G' : Grp n' f' e') {a b : Nat} : smi n' f f' al a b / n' = f (a / n') (al (a % n') (b / n')) := pr_div (G'.cl _ _ (Nat.mod_lt _ G'.pos) (Nat.mod_lt _ G'.pos))
theorem smi_mod (G' : Grp n' f' e') {a b : Nat} : smi n' f f' al a b % n' = f' (a % n') (b % n') := pr_mod (G'.cl _ _ (Nat.mod_lt _ G'.pos) (Nat.mod_lt _ G'.pos))

/-- THE SEMIDIRECT PRODUCT is a group. -/
theorem smi_grp (G : Grp n f e) (G' : Grp n' f' e') (A : Acts n n' f f' al) : Grp (n * n') (smi n' f f' al) (e * n' + e') := by
  have hp := G'.pos
  refine ⟨Nat.mul_pos G.pos hp, fun a b ha hb => ?_, pr_lt G.el G'.el, fun a ha => ?_, fun a ha => ?_, fun a b c ha hb hc => ?_, fun a ha => ?_⟩
  · obtain ⟨a1, a2, _⟩ := pr_split hp ha
    obtain ⟨b1, b2, _⟩ := pr_split hp hb
    exact pr_lt (G.cl _ _ a1 (A.lt _ _ a2 b1)) (G'.cl _ _ a2 b2)
  · obtain ⟨a1, a2, a3⟩ := pr_split hp ha
    unfold smi
    rw [pr_div G'.el, pr_mod G'.el, A.one G' a1, G.one_l _ a1, G'.one_l _ a2, a3]
  · obtain ⟨a1, a2, a3⟩ := pr_split hp ha
    unfold smi
    rw [pr_div G'.el, pr_mod G'.el, A.el G a2, G.one_r _ a1, G'.one_r _ a2, a3]
  · obtain ⟨a1, a2, _⟩ := pr_split hp ha
    obtain ⟨b1, b2, _⟩ := pr_split hp hb
    obtain ⟨c1, c2, _⟩ := pr_split hp hc
    have hbc := A.lt _ _ b2 c1
    show f (smi n' f f' al a b / n') (al (smi n' f f' al a b % n') (c / n')) * n' + f' (smi n' f f' al a b % n') (c % n') = f (a / n') (al (a % n') (smi n' f f' al b c / n')) * n' + f' (a % n') (smi n' f f' al b c % n')
    rw [smi_div G', smi_mod G', smi_div G', smi_mod G', A.mul _ _ _ a2 b2 c1, A.hom _ _ _ a2 b1 hbc, G.assoc _ _ _ a1 (A.lt _ _ a2 b1) (A.lt _ _ a2 hbc), G'.assoc _ _ _ a2 b2 c2]
  · obtain ⟨a1, a2, a3⟩ := pr_split hp ha
    have i1 := G.iv_lt a1
    have i2 := G'.iv_lt a2
    have h1 := A.lt _ _ i2 i1
    refine ⟨al (iv n' f' e' (a % n')) (iv n f e (a / n')) * n' + iv n' f' e' (a % n'), pr_lt h1 i2, ?_, ?_⟩
    · unfold smi
      rw [pr_div i2, pr_mod i2, ← A.mul _ _ _ a2 i2 i1, G'.mul_iv a2, A.one G' i1, G.mul_iv a1]
    · unfold smi
      rw [pr_div i2, pr_mod i2, ← A.hom _ _ _ i2 i1 a1, G.iv_mul a1, A.el G i2, G'.iv_mul a2]
end
end Go.Proofs.YtboadfahlflmhaaDoor

/-
  Walks: the ring of so many things; tables by a rule. Conditions: none.
-/
set_option linter.all false
namespace Go.Proofs.YtboadfahlflmhaaDoor
open Go.Pv

theorem ringOf_c (n : Nat) (h1 : 1 ≤ n) (hn : n ≤ 60) : FnC Tryd.prog 39 [.int .i64 n] (gp n (tbl (fun a b => (((a + b) % n : Nat) : Int)) n)) := by
  have hsq := sq_le hn
  have hlen := tbr_len (fun a b => (((a + b) % n : Nat) : Int)) n
  refine fnc_of tab_ok Tryd.func39 rfl (by kernel_rfl) (by rw [Tryd.ntmps39]; exact Nat.le_add_left 1 _) ?_; rw [Tryd.ntmps39]
  refine qm ?_
  refine hk_region fun K hK => runs_eval tab_ok ?_
  simp only [ev0, evA, evB, evP, fl, gp, tab, simprocAttr, reduceCtorEq, reduceIte]
  refine fin_run ?_ (hK _ ?_) <;> clear hK <;> clear K
  · (first | exact trivial | omega | (simp only [In64] at *; omega) | (simp [In64] at *; omega) | (simp_all; done) | skip)
  refine qa (qm ?_)
  refine hk_region fun K hK => runs_eval tab_ok ?_
  simp only [ev0, evA, evB, evP, fl, gp, tab, simprocAttr, reduceCtorEq, reduceIte]
  refine fin_run ?_ (hK _ ?_) <;> clear hK <;> clear K
  · (first | exact trivial | omega | (simp only [In64] at *; omega) | (simp [In64] at *; omega) | (simp_all; done) | skip)
  refine qa (qm (qm ?_))
  refine hk_own0c 1 1 rfl rfl ?_
  simp only [hset, List.cons_append, List.nil_append, List.set, List.length_cons, List.length_nil]
  refine hk_region fun K hK => runs_eval tab_ok ?_
  simp only [ev0, evA, evB, evP, fl, gp, tab, simprocAttr, reduceCtorEq, reduceIte]
  refine fin_run trivial (hK _ ?_) <;> clear hK <;> clear K
  refine qa (ql ?_)
  refine hk_loop (ι := Nat) (fun a => ⟨29, [(0, .p (.int .i64 n)), (2, .ptr 0 0), (3, .ptr 1 0), (4, .p (.int .i64 a))], [.own [.p (.int .i64 0), .p .nil], .own [.p (.int .i64 n), .sl 2 0 (tbr (fun a b => (((a + b) % n : Nat) : Int)) n (a * n)).length], .own (ol (tbr (fun a b => (((a + b) % n : Nat) : Int)) n (a * n)))]⟩) (fun a => a ≤ n) (fun a => n - a) 0 (Nat.zero_le _) [0, 1, 2] (by rw [Nat.zero_mul]; simp only [leq, leA, ev0, evA, evB, evP, fl, gp, tab, simprocAttr, reduceCtorEq, reduceIte] <;> simp [tbr, rg, ol_nil]) fun a ha => ?_
  refine qm (qm ?_)
  refine hk_region fun K hK => runs_eval tab_ok ?_
  simp only [ev0, evA, evB, evP, fl, gp, tab, simprocAttr, reduceCtorEq, reduceIte]
  refine fin_run trivial (hK _ ?_) <;> clear hK <;> clear K
  refine qa ?_
  refine hk_cond rfl (fun hC1 => ?_) (fun hC1 => ?_)
  · (try simp only [nhs] at hC1)
    have hal : a < n := by omega
    refine qh (qa (qm (ql (qm ?_))))
    refine hk_region fun K hK => runs_eval tab_ok ?_
    simp only [ev0, evA, evB, evP, fl, gp, tab, simprocAttr, reduceCtorEq, reduceIte]
    refine fin_run trivial (hK _ ?_) <;> clear hK <;> clear K
    refine qa (ql ?_)
    refine hk_loop (ι := Nat) (fun b => ⟨29, [(0, .p (.int .i64 n)), (2, .ptr 0 0), (3, .ptr 1 0), (4, .p (.int .i64 a)), (5, .p (.int .i64 b))], [.own [.p (.int .i64 0), .p .nil], .own [.p (.int .i64 n), .sl 2 0 (tbr (fun a b => (((a + b) % n : Nat) : Int)) n (a * n + b)).length], .own (ol (tbr (fun a b => (((a + b) % n : Nat) : Int)) n (a * n + b)))]⟩) (fun b => b ≤ n) (fun b => n - b) 0 (Nat.zero_le _) [0, 1, 2] (by rw [Nat.add_zero]; simp only [leq, leA, ev0, evA, evB, evP, fl, gp, tab, simprocAttr, reduceCtorEq, reduceIte] <;> trivial) fun b hb => ?_
    refine qm (qm ?_)
    refine hk_region fun K hK => runs_eval tab_ok ?_
    simp only [ev0, evA, evB, evP, fl, gp, tab, simprocAttr, reduceCtorEq, reduceIte]
    refine fin_run trivial (hK _ ?_) <;> clear hK <;> clear K
    refine qa ?_
    refine hk_cond rfl (fun hC2 => ?_) (fun hC2 => ?_)
    · (try simp only [nhs] at hC2)
      have hbl : b < n := by omega
      have hat := at_lt hal hbl
      have hl := hlen (a * n + b)
      have hab : (a : Int) + (b : Int) = ((a + b : Nat) : Int) := rfl
      refine qh (qa (qm (ql ?_)))
      refine hk_draw mixed (by kernel_rfl) fun K hK => runs_eval tab_ok ?_
      simp only [ev0, evA, evB, evP, fl, gp, tab, simprocAttr, reduceCtorEq, reduceIte, hab, tm_nat]
      refine fin_run ?_ (hK _ ?_) <;> clear hK <;> clear K
      · (first | exact trivial | omega | (simp only [In64] at *; omega) | (simp [In64] at *; omega) | (simp_all; done) | skip)
      refine qd (qa ?_)
      refine hk_region fun K hK => runs_eval tab_ok ?_
      simp only [ev0, evA, evB, evP, fl, gp, tab, simprocAttr, reduceCtorEq, reduceIte]
      refine fin_run ?_ (hK _ ?_) <;> clear hK <;> clear K
      · (first | exact trivial | omega | (simp only [In64] at *; omega) | (simp [In64] at *; omega) | (simp_all; done) | skip)
      refine qa ?_
      refine ⟨b + 1, [0, 1, 3], by omega, by omega, ?_⟩
      rw [tbr_succ _ hbl]
      simp only [leq, leA, ev0, evA, evB, evP, fl, gp, tab, simprocAttr, reduceCtorEq, reduceIte] <;> first | trivial | omega
    · (try simp only [nhs] at hC2)
      have hbn : b = n := by omega
      refine qj (qc (qc (qf (qd (qa ?_)))))
      refine hk_region fun K hK => runs_eval tab_ok ?_
      simp only [ev0, evA, evB, evP, fl, gp, tab, simprocAttr, reduceCtorEq, reduceIte]
      refine fin_run ?_ (hK _ ?_) <;> clear hK <;> clear K
      · (first | exact trivial | omega | (simp only [In64] at *; omega) | (simp [In64] at *; omega) | (simp_all; done) | skip)
      refine qa ?_
      refine ⟨a + 1, [0, 1, 2], by omega, by omega, ?_⟩
      rw [hbn, show (a + 1) * n = a * n + n by rw [Nat.add_mul, Nat.one_mul]]
      simp only [leq, leA, ev0, evA, evB, evP, fl, gp, tab, simprocAttr, reduceCtorEq, reduceIte] <;> first | trivial | omega
  · (try simp only [nhs] at hC1)
    have han : a = n := by omega
    refine qj (qc (qc (qf (qa (qm ?_)))))
    refine hk_region fun K hK => runs_eval tab_ok ?_
    simp only [ev0, evA, evB, evP, fl, gp, tab, simprocAttr, reduceCtorEq, reduceIte]
    refine fin_run ?_ (hK _ ?_) <;> clear hK <;> clear K
    · (first | exact trivial | omega | (simp only [In64] at *; omega) | (simp [In64] at *; omega) | (simp_all; done) | skip)
    refine qa (qk ?_)
    simp only [Tryd.results39, enA, ev0, evA, evB, evP, fl, gp, tab, simprocAttr, reduceCtorEq, reduceIte]
    all_goals (simp [han, tbl])
end Go.Proofs.YtboadfahlflmhaaDoor

/-
  Semidirect products: the fault, and what no fault says. Conditions: none.
-/
set_option linter.all false
namespace Go.Proofs.YtboadfahlflmhaaDoor
open Go.Pv

/-- The code of a row's fault: a map of the group to itself that is one to one. -/
def rwc (N : Int) (m l : List Int) : Int := if ¬ (homf N m N m l).1 = 0 then (homf N m N m l).1 else if ¬ onto1 l N.toNat then 10 else 0
def mgd (m' : List Int) (n' : Nat) (ls : List (List Int)) (x : Nat) : Prop := ∀ y, y < n' → ls.getD (op m' n' x y) [] = cmpl (ls.getD y []) (ls.getD x [])
instance (m' : List Int) (n' : Nat) (ls : List (List Int)) (x : Nat) : Decidable (mgd m' n' ls x) := by unfold mgd; infer_instance
def psf2 (m' : List Int) (ls : List (List Int)) (n n' : Nat) : Int × Int :=
  match fst' (fun x => decide (¬ mgd m' n' ls x)) n' with
  | some x => (7, (x : Int))
  | none => if n * n' > 60 then (9, 0) else (0, 0)
/-- THE FAULT of a group that acts on a group. -/
def psf (N : Int) (m : List Int) (N' : Int) (m' : List Int) (ls : List (List Int)) : Int × Int :=
  if ¬ (tg N m N' m').1 = 0 then tg N m N' m'
  else if ¬ (ls.length : Int) = N' then (8, 0)
  else match fst' (fun i => decide (¬ rwc N m (ls.getD i []) = 0)) ls.length with
    | some i => (rwc N m (ls.getD i []), (i : Int))
    | none => psf2 m' ls N.toNat N'.toNat

section
variable {N N' : Int} {m m' : List Int} {ls : List (List Int)} {n n' : Nat}
theorem psf_tg (h : ¬ (tg N m N' m').1 = 0) : psf N m N' m' ls = tg N m N' m' := by unfold psf; rw [if_pos h]
theorem psf_8 (h : (tg N m N' m').1 = 0) (h2 : ¬ (ls.length : Int) = N') : psf N m N' m' ls = (8, 0) := by unfold psf; rw [if_neg (by simpa using h), if_pos h2]
theorem psf_row (h : (tg N m N' m').1 = 0) (h2 : (ls.length : Int) = N') {i : Nat} (hi : i < ls.length) (hb : ¬ rwc N m (ls.getD i []) = 0) (hj : ∀ j, j < i → rwc N m (ls.getD j []) = 0) : psf N m N' m' ls = (rwc N m (ls.getD i []), (i : Int)) := by
  have e : fst' (fun i => decide (¬ rwc N m (ls.getD i []) = 0)) ls.length = some i := fst_some hi (decide_eq_true hb) fun j h => decide_eq_false fun h' => h' (hj j h)
  unfold psf; rw [if_neg (by simpa using h), if_neg (by simpa using h2), e]
theorem psf_2 (h : (tg n m n' m').1 = 0) (h2 : (ls.length : Int) = n') (hj : ∀ j, j < ls.length → rwc n m (ls.getD j []) = 0) : psf n m n' m' ls = psf2 m' ls n n' := by
  have e : fst' (fun i => decide (¬ rwc n m (ls.getD i []) = 0)) ls.length = none := fst_none fun j h => decide_eq_false fun h' => h' (hj j h)
  unfold psf; rw [if_neg (by simpa using h), if_neg (by simpa using h2), e]
  rfl
theorem psf2_7 {x : Nat} (hx : x < n') (hn : ¬ mgd m' n' ls x) (hj : ∀ j, j < x → mgd m' n' ls j) : psf2 m' ls n n' = (7, (x : Int)) := by
  have e : fst' (fun x => decide (¬ mgd m' n' ls x)) n' = some x := fst_some hx (decide_eq_true hn) fun j h => decide_eq_false fun h' => h' (hj j h)
  unfold psf2; rw [e]
theorem psf2_n (hj : ∀ j, j < n' → mgd m' n' ls j) : psf2 m' ls n n' = if n * n' > 60 then (9, 0) else (0, 0) := by
  have e : fst' (fun x => decide (¬ mgd m' n' ls x)) n' = none := fst_none fun j h => decide_eq_false fun h' => h' (hj j h)
  unfold psf2; rw [e]
theorem rwc_ok {l : List Int} (h : rwc n m l = 0) : Hom m m l n n ∧ onto1 l n := by
  unfold rwc at h
  by_cases h1 : (homf n m n m l).1 = 0
  · rw [if_neg (by simpa using h1)] at h
    by_cases h2 : onto1 l (n : Int).toNat
    · obtain ⟨a, e, a', e', g, g', hh, _⟩ := homf_ok h1
      have q1 := g.1
      have q2 := g'.1
      obtain rfl : a = n := by omega
      obtain rfl : a' = a := by omega
      exact ⟨hh, h2⟩
    · rw [if_pos h2] at h; simp at h
  · rw [if_pos h1] at h; exact absurd h h1

/-- What acts, as a rule. -/
def alp (ls : List (List Int)) (x i : Nat) : Nat := hv (ls.getD x []) i
theorem acts_of (hl : ls.length = n') (hr : ∀ j, j < n' → rwc n m (ls.getD j []) = 0) (hm : ∀ j, j < n' → mgd m' n' ls j) (T : Tab n m) : Acts n n' (op m n) (op m' n') (alp ls) := by
  refine ⟨fun x i hx hi => ((rwc_ok (hr x hx)).1.2.1 i hi).2, fun x i j hx hi hj => ((rwc_ok (hr x hx)).1.2.2 i hi j hj).symm, fun x i hx hi => ?_, fun x y i hx hy hi => ?_⟩
  · obtain ⟨⟨h1, h2, _⟩, h4, _⟩ := rwc_ok (hr x hx)
    obtain ⟨j, hj, e⟩ := List.getElem_of_mem (h4 i hi)
    refine ⟨j, by omega, ?_⟩
    unfold alp hv
    clear h2
    generalize ls.getD x [] = p at *
    simp [List.getD, List.getElem?_eq_getElem hj, e]
  · obtain ⟨⟨h1, h2, _⟩, _⟩ := rwc_ok (hr y hy)
    have e := hm x hx y hy
    unfold alp
    rw [e]
    unfold hv cmpl
    have hiy : i < (ls.getD y []).length := by omega
    clear h2 e
    generalize ls.getD x [] = p at *
    generalize ls.getD y [] = q at *
    simp only [List.getD, List.getElem?_map, List.getElem?_eq_getElem hiy, Option.map_some, Option.getD_some]
end
end Go.Proofs.YtboadfahlflmhaaDoor

/-
  Walks: prod.Semi. Conditions: none.
-/
set_option linter.all false
namespace Go.Proofs.YtboadfahlflmhaaDoor
open Go.Pv

theorem prodFlt_c (c a : Int) : FnC Tryd.prog 118 [.int .i64 c, .int .i64 a] (fl (c, a)) := by
  refine fnc_of tab_ok Tryd.func118 rfl (by kernel_rfl) (by rw [Tryd.ntmps118]; exact Nat.le_add_left 2 _) ?_; rw [Tryd.ntmps118]
  refine qm ?_
  refine hk_region fun K hK => runs_eval tab_ok ?_
  simp only [ev0, evA, evB, evP, fl, gp, tab, simprocAttr, reduceCtorEq, reduceIte]
  refine fin_run ?_ (hK _ ?_) <;> clear hK <;> clear K
  · (first | exact trivial | omega | (simp only [In64] at *; omega) | (simp [In64] at *; omega) | (simp_all; done) | skip)
  refine qa (qm ?_)
  refine hk_region fun K hK => runs_eval tab_ok ?_
  simp only [ev0, evA, evB, evP, fl, gp, tab, simprocAttr, reduceCtorEq, reduceIte]
  refine fin_run ?_ (hK _ ?_) <;> clear hK <;> clear K
  · (first | exact trivial | omega | (simp only [In64] at *; omega) | (simp [In64] at *; omega) | (simp_all; done) | skip)
  refine qa (qk ?_)
  simp only [Tryd.results118, enA, ev0, evA, evB, evP, fl, gp, tab, simprocAttr, reduceCtorEq, reduceIte]
  all_goals (rfl)

/-- The group that acts on a group makes. -/
def sg (n n' : Nat) (m m' : List Int) (ls : List (List Int)) : List Int := tbl (fun a b => (smi n' (op m n) (op m' n') (alp ls) a b : Nat)) (n * n')
def hits (l : List Int) (k i : Nat) : Bool := decide (((i : Nat) : Int) ∈ l.take k)
def sgm (n n' : Nat) (m m' : List Int) (ls : List (List Int)) (a b : Nat) : Int := (smi n' (op m n) (op m' n') (alp ls) a b : Nat)

theorem hbl_new (n : Nat) : List.replicate n (AV.p (.bool false)) = opl (hbl n fun _ => false) := by
  refine List.ext_getElem (by simp [opl, hbl]) fun i h1 h2 => ?_
  simp [opl, hbl]
theorem hbl_set (n : Nat) (g : Nat → Bool) (v : Nat) : (opl (hbl n g)).set v (AV.p (.bool true)) = opl (hbl n fun i => decide (i = v) || g i) := by
  refine List.ext_getElem (by simp [opl, hbl]) fun i h1 h2 => ?_
  simp only [opl, hbl, List.getElem_set, List.getElem_map, List.getElem_range]
  by_cases h : v = i
  · subst h; simp
  · rw [if_neg h]; simp [Ne.symm h]
theorem hits_zero (l : List Int) (i : Nat) : hits l 0 i = false := by simp [hits]
theorem hits_succ {l : List Int} {k v : Nat} (hk : k < l.length) (hv : l.getD k 0 = ((v : Nat) : Int)) (i : Nat) : hits l (k + 1) i = (decide (i = v) || hits l k i) := by
  unfold hits
  have e : l[k] = ((v : Nat) : Int) := by rw [← hv]; simp [List.getD, List.getElem?_eq_getElem hk]
  rw [List.take_succ_eq_append_getElem hk, e, Bool.eq_iff_iff]
  simp only [List.mem_append, List.mem_singleton, Bool.or_eq_true, decide_eq_true_eq]
  constructor
  · rintro (h | h)
    · exact .inr h
    · exact .inl (by omega)
  · rintro (h | h)
    · exact .inr (by omega)
    · exact .inl h
theorem hbl_congr {n : Nat} {g g' : Nat → Bool} (h : ∀ i, i < n → g i = g' i) : hbl n g = hbl n g' := by
  unfold hbl
  exact List.map_congr_left fun i hi => by rw [h i (List.mem_range.1 hi)]

end Go.Proofs.YtboadfahlflmhaaDoor

/-
  Walks: all automorphisms of a group. Conditions: none.
-/
set_option linter.all false
namespace Go.Proofs.YtboadfahlflmhaaDoor
open Go.Pv
section
variable {n e N d : Nat} {m M : List Int} {σ : Type}
def fA (n : Nat) : PV → Bool
  | .list l => decide (onto1 (l.map pvi) n)
  | _ => false
def oA (n : Nat) (v : List Int) : Prop := v.length = n ∧ ∀ k, k < n → ∃ y : Nat, y < n ∧ v.getD k 0 = ((y : Nat) : Int)
theorem fA_il (n : Nat) (v : List Int) : fA n (.list (il v)) = decide (onto1 v n) := by
  show decide (onto1 ((il v).map pvi) n) = _
  rw [pvi_il]
end
end Go.Proofs.YtboadfahlflmhaaDoor

/-
  Walks: inner automorphisms. Conditions: none.
-/
set_option linter.all false
namespace Go.Proofs.YtboadfahlflmhaaDoor
open Go.Pv

section
variable {n e : Nat} {m : List Int}
/-- What a thing does to all. -/
def inr (n : Nat) (f : Nat → Nat → Nat) (e b : Nat) : List Int := tbm n fun x => cjr n f e x b
end
end Go.Proofs.YtboadfahlflmhaaDoor

/-
  All homomorphisms are what the search hands out; the laws of maps have begun. Conditions: none.
-/
set_option linter.all false
namespace Go.Proofs.YtboadfahlflmhaaDoor
open Go.Pv

section
variable {n e N d : Nat} {f g : Nat → Nat → Nat}
theorem Hmo.pw (G : Grp n f e) (K : Grp N g d) {φ : Nat → Nat} (h : Hmo n f N g φ) {a : Nat} (ha : a < n) : ∀ k, φ (pw f e a k) = pw g d (φ a) k
  | 0 => h.one G K
  | k + 1 => by
    show φ (f (Go.Proofs.YtboadfahlflmhaaDoor.pw f e a k) a) = g _ _
    rw [h.mul _ _ (G.pw_lt ha k) ha, Hmo.pw G K h ha k]
theorem Hmo.ord (G : Grp n f e) (K : Grp N g d) {φ : Nat → Nat} (h : Hmo n f N g φ) {a : Nat} (ha : a < n) : ord N g d (φ a) ∣ ord n f e a := by
  rw [← K.pw_eq_one (h.lt a ha), ← h.pw G K ha, G.pw_ord ha, h.one G K]
theorem Hmo.same (G : Grp n f e) (K : Grp N g d) {L : List Nat} (hgen : ∀ a, a < n → Gen n f e (fun x => decide (x ∈ L)) a) {φ ψ : Nat → Nat} (h : Hmo n f N g φ) (h' : Hmo n f N g ψ) (heq : ∀ x ∈ L, φ x = ψ x) : ∀ a, a < n → φ a = ψ a := fun a ha => by
  have key : a < n ∧ φ a = ψ a := Gen.least (H := fun a => a < n ∧ φ a = ψ a) ⟨G.el, by rw [h.one G K, h'.one G K]⟩ (fun c b hc hb hp ih => ⟨G.cl _ _ ih.1 hb, by
    rw [h.mul _ _ ih.1 hb, h'.mul _ _ ih.1 hb, ih.2, heq b (by simpa using hp)]⟩) (hgen a ha)
  exact key.2
theorem tbm_congr {φ ψ : Nat → Nat} (h : ∀ a, a < n → φ a = ψ a) : tbm n φ = tbm n ψ := List.map_congr_left fun a ha => by rw [h a (List.mem_range.1 ha)]
theorem tbm_inj {φ ψ : Nat → Nat} (h : tbm n φ = tbm n ψ) : ∀ a, a < n → φ a = ψ a := fun a ha => by
  have h1 := tbm_get (φ := φ) ha
  rw [h, tbm_get ha] at h1
  omega
theorem Hmo.congr (G : Grp n f e) {φ ψ : Nat → Nat} (h : Hmo n f N g φ) (he : ∀ a, a < n → φ a = ψ a) : Hmo n f N g ψ :=
  ⟨fun a ha => by rw [← he a ha]; exact h.lt a ha, fun a b ha hb => by rw [← he _ (G.cl _ _ ha hb), ← he a ha, ← he b hb]; exact h.mul a b ha hb⟩

/-- What the search hands out: the maps that start so. -/
theorem hsq_iff (G : Grp n f e) (K : Grp N g d) {L : List Nat} (hL : ∀ x ∈ L, x < n) (hgen : ∀ a, a < n → Gen n f e (fun x => decide (x ∈ L)) a) (w : List Int) : ∀ (r t : List Nat), t.length ≤ L.length → L.drop t.length = r →
    (w ∈ hsq n f e N g d L r t ↔ ∃ φ, Hmo n f N g φ ∧ w = tbm n φ ∧ ∀ i, i < t.length → φ (L.getD i 0) = t.getD i 0)
  | [], t, h1, h2 => by
    have htl : t.length = L.length := by
      have := congrArg List.length h2
      simp at this; omega
    unfold hsq hlf
    constructor
    · intro h
      split at h
      · rename_i hex
        have hs := Classical.choose_spec hex
        exact ⟨_, hs.1, by simpa using h, fun i hi => hs.2 i (by omega)⟩
      · simp at h
    · rintro ⟨φ, k1, rfl, k2⟩
      have hex : ∃ φ, Ext n f N g L t φ := ⟨φ, k1, fun i hi => k2 i (by omega)⟩
      rw [dif_pos hex]
      have hs := Classical.choose_spec hex
      rw [List.mem_singleton]
      refine tbm_congr (Hmo.same G K hgen k1 hs.1 fun x hx => ?_)
      obtain ⟨i, hi, rfl⟩ := List.getElem_of_mem hx
      have e1 : L.getD i 0 = L[i] := by simp [List.getD, List.getElem?_eq_getElem hi]
      rw [← e1, k2 i (by omega), hs.2 i hi]
  | x :: r, t, h1, h2 => by
    have htl : t.length < L.length := by
      have := congrArg List.length h2
      simp at this; omega
    have hd : L.drop t.length = L[t.length] :: L.drop (t.length + 1) := List.drop_eq_getElem_cons htl
    rw [h2] at hd
    obtain ⟨e1, e2⟩ := List.cons.inj hd
    have ex : L.getD t.length 0 = x := by simp [List.getD, List.getElem?_eq_getElem htl, e1]
    have hxn : x < n := by rw [e1]; exact hL _ (List.getElem_mem htl)
    unfold hsq
    rw [List.mem_flatMap]
    constructor
    · rintro ⟨y, hy, hw⟩
      obtain ⟨φ, k1, k2, k3⟩ := (hsq_iff G K hL hgen w r (t ++ [y]) (by simp; omega) (by rw [List.length_append]; exact e2.symm)).1 hw
      refine ⟨φ, k1, k2, fun i hi => ?_⟩
      have := k3 i (by simp; omega)
      rw [this]
      simp [List.getD, List.getElem?_append_left hi]
    · rintro ⟨φ, k1, k2, k3⟩
      refine ⟨φ x, List.mem_filter.2 ⟨List.mem_range.2 (k1.lt x hxn), by simpa using Nat.mod_eq_zero_of_dvd (k1.ord G K hxn)⟩, ?_⟩
      refine (hsq_iff G K hL hgen w r (t ++ [φ x]) (by simp; omega) (by rw [List.length_append]; exact e2.symm)).2 ⟨φ, k1, k2, fun i hi => ?_⟩
      by_cases hit : i < t.length
      · rw [k3 i hit]; simp [List.getD, List.getElem?_append_left hit]
      · obtain rfl : i = t.length := by simp at hi; omega
        rw [ex]; simp [List.getD]
end

section
variable {n e N d : Nat} {m M : List Int}
/-- All homomorphisms, in some order. -/
noncomputable def hmW (n : Nat) (m : List Int) (e N : Nat) (M : List Int) (d : Nat) : List (List Int) := hsq n (op m n) e N (op M N) d (gl n (op m n) e n) (gl n (op m n) e n) []
theorem hmW_mem (h : GT n m n e) (h' : GT N M N d) (w : List Int) : w ∈ hmW n m e N M d ↔ ∃ φ, Hmo n (op m n) N (op M N) φ ∧ w = tbm n φ := by
  unfold hmW
  refine (hsq_iff h.2.2 h'.2.2 (fun x hx => gl_lt n (op m n) e n x hx) (gl_gen n (op m n) e h.2.2) w _ [] (Nat.zero_le _) rfl).trans ?_
  exact ⟨fun ⟨φ, a, b, _⟩ => ⟨φ, a, b⟩, fun ⟨φ, a, b⟩ => ⟨φ, a, b, fun i hi => absurd hi (Nat.not_lt_zero _)⟩⟩
end

/-! ### The laws of maps have begun -/

end Go.Proofs.YtboadfahlflmhaaDoor

/-
  Walks: the law SeriesComposes. Conditions: none.
-/
set_option linter.all false

namespace Go.Proofs.YtboadfahlflmhaaDoor
open Go.Pv

section
variable {n e : Nat} {m : List Int}

end
end Go.Proofs.YtboadfahlflmhaaDoor

/-
  The library's sort of numbers, over a row of the caller's own: what it leaves. Conditions: none; a library text.
-/
set_option linter.all false
namespace Go.Pv
open Go.RowKit

section
variable {P : Program} {ρ : Go.Shelf.Ren}
end
end Go.Pv

/-
  Plain: what the factors of a list of sets are; sorted lists. Conditions: none.
-/
set_option linter.all false
namespace Go.Proofs.YtboadfahlflmhaaDoor

open Go.Pv
section
variable {n e : Nat} {f : Nat → Nat → Nat}
noncomputable def okR (n : Nat) (f : Nat → Nat → Nat) (e : Nat) (l : List Int) : Bool := @decide (∃ p, l = thl n p ∧ Sub n f e p) (Classical.propDecidable _)
variable {l : List (List Int)}
/-- As many sets as can be. -/
structure Fw (n : Nat) (l : List (List Int)) : Prop where
  lo : 1 ≤ l.length
  hi : l.length ≤ 10
structure Fz (n : Nat) (l : List (List Int)) : Prop extends Fw n l where
  first : (l.getD 0 []).length = n
  last : (l.getD (l.length - 1) []).length = 1
/-- All in their form. -/
structure Fo (n : Nat) (f : Nat → Nat → Nat) (e : Nat) (l : List (List Int)) : Prop extends Fz n l where
  ok : ∀ i, i < l.length → okR n f e (l.getD i []) = true
end
end Go.Proofs.YtboadfahlflmhaaDoor

/-
  Walks: the law QuotMakes. Conditions: none.
-/
set_option linter.all false
namespace Go.Proofs.YtboadfahlflmhaaDoor
open Go.Pv

theorem qtb_GT {n e : Nat} {m : List Int} (h : GT n m n e) {p : Nat → Bool} (hs : Sub n (op m n) e p) (hN : Nml n (op m n) e p) : GT (cst n (dco n (op m n) p (onp e))).length (qtb n (op m n) (dco n (op m n) p (onp e))) (cst n (dco n (op m n) p (onp e))).length (clq n (dco n (op m n) p (onp e)) e) := by
  have G := h.2.2
  have E := G.dco_eqv hs G.onp_sub
  have Q := cst_qm G E fun a b c d ha hb' hc hd h1 h2 => G.rco_cong hs hN ha hb' hc hd h1 h2
  have hcl : (cst n (dco n (op m n) p (onp e))).length ≤ n := cstp_len _ _ _
  have hb := h.2.1.big
  exact tbl_GT' (by omega) (Q.grp G)
theorem qtb_op {n : Nat} {f : Nat → Nat → Nat} {r : Nat → Nat → Bool} {i j : Nat} (hi : i < (cst n r).length) (hj : j < (cst n r).length) : op (qtb n f r) (cst n r).length i j = qop f (clq n r) (rpq n r) i j := tbl_op' _ hi hj

end Go.Proofs.YtboadfahlflmhaaDoor

/-
  Walks: the law QuotSimple. Conditions: none.
-/
set_option linter.all false
namespace Go.Proofs.YtboadfahlflmhaaDoor
open Go.Pv

end Go.Proofs.YtboadfahlflmhaaDoor

/-
  Contracts of the library, laid at this dump: numbers, and that each body is the same. Conditions: none; written by a program of this repo out of the kit's own tool.
-/
set_option linter.all false
namespace Go.Proofs
open Go.Shelf
end Go.Proofs

/-
  The program's Factors. Conditions: none.
-/
set_option linter.all false
namespace Go.Proofs.YtboadfahlflmhaaDoor
open Go.Pv

section
variable {n e k d : Nat} {f g : Nat → Nat → Nat} {p q : Nat → Bool}
end

section
variable {n e : Nat} {m : List Int} {p q : Nat → Bool}
end
end Go.Proofs.YtboadfahlflmhaaDoor

/-
  Rows of equations modulo a prime, reduced as they come: what is reckoned. Conditions: none.
-/
set_option linter.all false
namespace Go.Proofs.YtboadfahlflmhaaDoor
open Go.Pv

/-- The primes that are let in. -/
def pr (p : Nat) : Prop := p = 2 ∨ p = 3 ∨ p = 5 ∨ p = 7
instance (p : Nat) : Decidable (pr p) := by unfold pr; infer_instance
theorem pr.le {p : Nat} (h : pr p) : 2 ≤ p ∧ p ≤ 7 := by unfold pr at h; omega

/-- All that is in a row is between 0 and p. -/
def rng (p : Nat) (u : List Int) : Prop := ∀ t, t < u.length → 0 ≤ u.getD t 0 ∧ u.getD t 0 < p

/-- The least number that makes 1 of another. -/
def inv (p : Nat) (x : Int) : Nat := ((List.range p).find? fun k => decide ((k * x.toNat) % p = 1)).getD 0

/-- Rows that are as they should be. -/
structure Ech (p n : Nat) (L : List (Nat × List Int)) : Prop where
  keys : (L.map (·.1)).Nodup
  lt : ∀ e ∈ L, e.1 < n
  len : ∀ e ∈ L, e.2.length = n
  rg : ∀ e ∈ L, rng p e.2
  one : ∀ e ∈ L, e.2.getD e.1 0 = 1
  zero : ∀ e ∈ L, ∀ j, j < e.1 → e.2.getD j 0 = 0

end Go.Proofs.YtboadfahlflmhaaDoor

/-
  Walks: rows of equations: a new one; a row is added. Conditions: none.
-/
set_option linter.all false
namespace Go.Proofs.YtboadfahlflmhaaDoor
open Go.Pv

end Go.Proofs.YtboadfahlflmhaaDoor

/-
  Walks: kernels and images. Conditions: none.
-/
set_option linter.all false
namespace Go.Proofs.YtboadfahlflmhaaDoor
open Go.Pv

section
variable {α : Type} [DecidableEq α]
end
section
variable {n e n' e' : Nat} {m m' l : List Int}
end
end Go.Proofs.YtboadfahlflmhaaDoor

/-
  The law HomComposes. Conditions: none.
-/
set_option linter.all false
namespace Go.Proofs.YtboadfahlflmhaaDoor
open Go.Pv

section
variable {n e n' e' : Nat} {m m' l k : List Int}
theorem Hom.hmo (hH : Hom m m' l n n') : Hmo n (op m n) n' (op m' n') (hv l) := ⟨fun a ha => (hH.2.1 a ha).2, fun a b ha hb => (hH.2.2 a ha b hb).symm⟩
theorem Hom.rng (hH : Hom m m' l n n') : ∀ x ∈ l, 0 ≤ x ∧ x < (n' : Int) := fun x hx => by
  obtain ⟨i, hi, rfl⟩ := List.getElem_of_mem hx
  obtain ⟨h1, h2⟩ := hH.2.1 i (by rw [← hH.1]; exact hi)
  rw [show l.getD i 0 = l[i] by simp [List.getD, List.getElem?_eq_getElem hi]] at h1
  rw [h1]; omega
end
end Go.Proofs.YtboadfahlflmhaaDoor

/-
  The law HomTheorem. Conditions: none.
-/
set_option linter.all false
namespace Go.Proofs.YtboadfahlflmhaaDoor
open Go.Pv

section
variable {n e N d : Nat} {f g : Nat → Nat → Nat} {φ : Nat → Nat}
theorem Hmo.iv (G : Grp n f e) (K : Grp N g d) (h : Hmo n f N g φ) {a : Nat} (ha : a < n) : φ (iv n f e a) = iv N g d (φ a) := by
  have h1 := h.lt a ha
  have h2 := h.lt _ (G.iv_lt ha)
  have h3 := h.mul a _ ha (G.iv_lt ha)
  rw [G.mul_iv ha, h.one G K] at h3
  refine K.cancel_l h1 h2 (K.iv_lt h1) ?_
  rw [← h3, K.mul_iv h1]
theorem ker_sub (G : Grp n f e) (K : Grp N g d) (h : Hmo n f N g φ) : Sub n f e fun a => decide (φ a = d) := by
  refine sub_of G (by simpa using h.one G K) fun a b ha hb h1 h2 => ?_
  simp only [decide_eq_true_eq] at h1 h2 ⊢
  rw [h.mul a b ha hb, h1, h2, K.one_l _ K.el]
theorem ker_nml (G : Grp n f e) (K : Grp N g d) (h : Hmo n f N g φ) : Nml n f e fun a => decide (φ a = d) := fun a ha x hx h1 => by
  simp only [decide_eq_true_eq] at h1 ⊢
  unfold cjr
  have hi := G.iv_lt ha
  rw [h.mul _ _ (G.cl _ _ hi hx) ha, h.mul _ _ hi hx, h1, K.one_r _ (h.lt _ hi), h.iv G K ha, K.iv_mul (h.lt a ha)]
theorem ker_co (G : Grp n f e) (K : Grp N g d) (h : Hmo n f N g φ) {a b : Nat} (ha : a < n) (hb : b < n) : dco n f (fun a => decide (φ a = d)) (onp e) a b = true ↔ φ a = φ b := by
  rw [G.rco_iff ha hb, decide_eq_true_eq, h.mul _ _ hb (G.iv_lt ha), h.iv G K ha]
  have h1 := h.lt a ha
  have h2 := h.lt b hb
  have hi := K.iv_lt h1
  constructor
  · intro hh
    have : g (g (φ b) (iv N g d (φ a))) (φ a) = g d (φ a) := by rw [hh]
    rw [K.assoc _ _ _ h2 hi h1, K.iv_mul h1, K.one_r _ h2, K.one_l _ h1] at this
    exact this.symm
  · intro hh
    rw [hh, K.mul_iv h2]
end
end Go.Proofs.YtboadfahlflmhaaDoor

/-
  Isomorphisms; Noether's first theorem. Conditions: none.
-/
set_option linter.all false
namespace Go.Proofs.YtboadfahlflmhaaDoor
open Go.Pv

/-- An isomorphism. -/
def Isom (n : Nat) (f : Nat → Nat → Nat) (N : Nat) (g : Nat → Nat → Nat) (φ : Nat → Nat) : Prop := Hmo n f N g φ ∧ onto1 (tbm n φ) N
theorem isom_iff {n N : Nat} {f g : Nat → Nat → Nat} {φ : Nat → Nat} : Isom n f N g φ ↔ Hmo n f N g φ ∧ n = N ∧ ∀ y, y < N → ∃ x, x < n ∧ φ x = y := by
  unfold Isom onto1
  rw [tbm_len]
  constructor
  · rintro ⟨h1, h2, h3⟩
    refine ⟨h1, h3, fun y hy => ?_⟩
    obtain ⟨x, hx, e⟩ := List.mem_map.1 (h2 y hy)
    exact ⟨x, List.mem_range.1 hx, by omega⟩
  · rintro ⟨h1, h2, h3⟩
    refine ⟨h1, fun y hy => ?_, h2⟩
    obtain ⟨x, hx, rfl⟩ := h3 y hy
    exact List.mem_map.2 ⟨x, List.mem_range.2 hx, rfl⟩
section
variable {n e N d : Nat} {m M : List Int} {φ : Nat → Nat}
/-- A map onto a group: the quotient by its kernel is that group. -/
theorem surj_iso {g : Nat → Nat → Nat} (G : Grp n (op m n) e) (GG : Grp N g d) (h : Hmo n (op m n) N g φ) (hs : ∀ y, y < N → ∃ x, x < n ∧ φ x = y) (ke : Nat → Bool) (hke : ∀ a, a < n → (ke a = true ↔ φ a = d)) (hk : Sub n (op m n) e ke) :
    Isom (cst n (dco n (op m n) ke (onp e))).length (op (qtb n (op m n) (dco n (op m n) ke (onp e))) (cst n (dco n (op m n) ke (onp e))).length) N g (fun c => φ (rpq n (dco n (op m n) ke (onp e)) c)) := by
  have hE := G.dco_eqv hk G.onp_sub
  have hco : ∀ a b, a < n → b < n → (dco n (op m n) ke (onp e) a b = true ↔ φ a = φ b) := fun a b ha hb => by
    rw [← ker_co G GG h ha hb, G.rco_iff ha hb, G.rco_iff ha hb, hke _ (G.cl _ _ hb (G.iv_lt ha)), decide_eq_true_eq]
  generalize dco n (op m n) ke (onp e) = r at *
  have hrep : ∀ a, a < n → φ (rpq n r (clq n r a)) = φ a := fun a ha => by
    have h1 := clq_at hE ha
    obtain ⟨r1, r2, _, _⟩ := rpq_at hE h1.1
    exact (hco _ _ r1 ha).1 ((clq_iff hE r1 ha).1 r2)
  have hmul : ∀ a b, a < (cst n r).length → b < (cst n r).length → φ (rpq n r (op (qtb n (op m n) r) (cst n r).length a b)) = g (φ (rpq n r a)) (φ (rpq n r b)) := fun a b ha hb => by
    have r1 := (rpq_at hE ha).1
    have r2 := (rpq_at hE hb).1
    rw [qtb_op ha hb]
    unfold qop
    rw [hrep _ (G.cl _ _ r1 r2), h.mul _ _ r1 r2]
  rw [isom_iff]
  refine ⟨⟨fun c hc => h.lt _ (rpq_at hE hc).1, hmul⟩, ?_, fun y hy => ?_⟩
  · -- as many classes as things
    have hp : ((List.range (cst n r).length).map fun c => φ (rpq n r c)).Perm (List.range N) := by
      refine (List.perm_ext_iff_of_nodup (nodup_map List.nodup_range fun a ha b hb hab => ?_) List.nodup_range).2 fun y => ?_
      · have ha := List.mem_range.1 ha
        have hb := List.mem_range.1 hb
        obtain ⟨a1, a2, _, _⟩ := rpq_at hE ha
        obtain ⟨b1, b2, _, _⟩ := rpq_at hE hb
        have := (clq_iff hE a1 b1).2 ((hco _ _ a1 b1).2 hab)
        rw [a2, b2] at this; exact this
      · rw [List.mem_map, List.mem_range]
        constructor
        · rintro ⟨c, hc, rfl⟩
          exact h.lt _ (rpq_at hE (List.mem_range.1 hc)).1
        · intro hy
          obtain ⟨x, hx, rfl⟩ := hs y hy
          exact ⟨clq n r x, List.mem_range.2 (clq_at hE hx).1, hrep x hx⟩
    have := hp.length_eq
    simpa using this
  · obtain ⟨x, hx, rfl⟩ := hs y hy
    exact ⟨clq n r x, (clq_at hE hx).1, hrep x hx⟩
end
section
variable {n e N d : Nat} {f g : Nat → Nat → Nat} {φ : Nat → Nat}
theorem Isom.inj (h : Isom n f N g φ) {a b : Nat} (ha : a < n) (hb : b < n) (hab : φ a = φ b) : a = b := by
  obtain ⟨h1, h2, h3⟩ := isom_iff.1 h
  subst h2
  have hc : ∀ y, ∃ x, y < n → x < n ∧ φ x = y := fun y => by
    by_cases hy : y < n
    · obtain ⟨x, hx⟩ := h3 y hy
      exact ⟨x, fun _ => hx⟩
    · exact ⟨0, fun h => absurd h hy⟩
  obtain ⟨ψ, hψ⟩ : ∃ ψ : Nat → Nat, ∀ y, y < n → ψ y < n ∧ φ (ψ y) = y := ⟨fun y => Classical.choose (hc y), fun y hy => Classical.choose_spec (hc y) hy⟩
  have hnd : ((List.range n).map ψ).Nodup := nodup_map List.nodup_range fun y hy z hz hyz => by
    rw [← (hψ y (List.mem_range.1 hy)).2, ← (hψ z (List.mem_range.1 hz)).2, hyz]
  have hall : ∀ a, a < n → ∃ y, y < n ∧ ψ y = a := fun a ha => Classical.byContradiction fun hne => by
    have hn2 : (a :: (List.range n).map ψ).Nodup := List.nodup_cons.2 ⟨fun hm => by
      obtain ⟨y, hy, e⟩ := List.mem_map.1 hm
      exact hne ⟨y, List.mem_range.1 hy, e⟩, hnd⟩
    have := nodup_lt (n := n) hn2 fun x hx => by
      rcases List.mem_cons.1 hx with rfl | hx
      · exact ha
      · obtain ⟨y, hy, rfl⟩ := List.mem_map.1 hx
        exact (hψ y (List.mem_range.1 hy)).1
    simp at this
    omega
  obtain ⟨y, hy, rfl⟩ := hall a ha
  obtain ⟨z, hz, rfl⟩ := hall b hb
  rw [(hψ y hy).2, (hψ z hz).2] at hab
  rw [hab]
open Classical in
theorem Isom.symm (G : Grp n f e) (h : Isom n f N g φ) : ∃ ψ, Isom N g n f ψ := by
  obtain ⟨h1, h2, h3⟩ := isom_iff.1 h
  have hc : ∀ y, ∃ x, y < N → x < n ∧ φ x = y := fun y => by
    by_cases hy : y < N
    · obtain ⟨x, hx⟩ := h3 y hy
      exact ⟨x, fun _ => hx⟩
    · exact ⟨0, fun h => absurd h hy⟩
  refine ⟨fun y => Classical.choose (hc y), isom_iff.2 ⟨⟨fun y hy => (Classical.choose_spec (hc y) hy).1, fun y z hy hz => ?_⟩, h2.symm, fun x hx => ?_⟩⟩
  · obtain ⟨a1, a2⟩ := Classical.choose_spec (hc y) hy
    obtain ⟨b1, b2⟩ := Classical.choose_spec (hc z) hz
    have hgl : g y z < N := by
      have := h1.lt _ (G.cl _ _ a1 b1)
      rwa [h1.mul _ _ a1 b1, a2, b2] at this
    obtain ⟨c1, c2⟩ := Classical.choose_spec (hc (g y z)) hgl
    refine h.inj c1 (G.cl _ _ a1 b1) ?_
    rw [c2, h1.mul _ _ a1 b1, a2, b2]
  · obtain ⟨c1, c2⟩ := Classical.choose_spec (hc (φ x)) (h1.lt x hx)
    exact ⟨φ x, h1.lt x hx, h.inj c1 hx c2⟩
end
end Go.Proofs.YtboadfahlflmhaaDoor

/-
  Walks: prod.Semi where there is no fault. Conditions: none.
-/
set_option linter.all false
namespace Go.Proofs.YtboadfahlflmhaaDoor
open Go.Pv

set_option maxRecDepth 20000 in
set_option maxHeartbeats 8000000 in
theorem semi_ok {n n' e e' : Nat} {m m' : List Int} {ls : List (List Int)} (h : GT n m n e) (h' : GT n' m' n' e') (hl : ls.length = n') (hr : ∀ j, j < n' → rwc n m (ls.getD j []) = 0) (hmg : ∀ j, j < n' → mgd m' n' ls j) (hle : n * n' ≤ 60) :
    FnC Tryd.prog 61 [gp n m, gp n' m', .list (ll ls)] (.tup [gp (n * n' : Nat) (sg n n' m m' ls), fl (0, 0)]) := by
  have T := h.2.1
  have T' := h'.2.1
  have G := h.2.2
  have G' := h'.2.2
  have hs1 := T.big
  have hs2 := T'.big
  have hm := T.len
  have hm' := T'.len
  have hq1 := sq_le hs1
  have hq2 := sq_le hs2
  have hK := sq_le hle
  have hmul : (n : Int) * (n' : Int) = ((n * n' : Nat) : Int) := (Int.natCast_mul _ _).symm
  have A := acts_of hl hr hmg T
  have hrow : ∀ y, y < n' → (ls.getD y []).length = n ∧ ∀ i, i < n → (ls.getD y []).getD i 0 = ((alp ls y i : Nat) : Int) := fun y hy =>
    ⟨(rwc_ok (hr y hy)).1.1, fun i hi => ((rwc_ok (hr y hy)).1.2.1 i hi).1⟩
  have hho : ∀ y, y < n' → homf n m n m (ls.getD y []) = (0, 0) := fun y hy => by
    have h1 := hr y hy
    unfold rwc at h1
    by_cases h2 : (homf n m n m (ls.getD y [])).1 = 0
    · obtain ⟨_, _, _, _, _, _, _, h3⟩ := homf_ok h2
      exact h3
    · rw [if_pos h2] at h1; exact absurd h1 h2
  have hlen := tbr_len (sgm n n' m m' ls) (n * n')
  refine fnc_of tab_ok Tryd.func61 rfl (by kernel_rfl) (by rw [Tryd.ntmps61]; exact Nat.le_add_left 3 _) ?_; rw [Tryd.ntmps61]
  refine qm ?_
  refine hk_region fun K hK => runs_eval tab_ok ?_
  simp only [ev0, evA, evB, evP, fl, gp, tab, simprocAttr, reduceCtorEq, reduceIte]
  refine fin_run ?_ (hK _ ?_) <;> clear hK <;> clear K
  · (first | exact trivial | omega | (simp only [In64] at *; omega) | (simp [In64] at *; omega) | (simp_all; done) | skip)
  refine qa (qm (qm ?_))
  refine hk_region fun K hK => runs_eval tab_ok ?_
  simp only [ev0, evA, evB, evP, fl, gp, tab, simprocAttr, reduceCtorEq, reduceIte]
  refine fin_run ?_ (hK _ ?_) <;> clear hK <;> clear K
  · (first | exact trivial | omega | (simp only [In64] at *; omega) | (simp [In64] at *; omega) | (simp_all; done) | skip)
  refine qa (ql ?_)
  refine hk_loop (ι := Nat) (fun i => ⟨200, [(2, .p (.list (ll ls))), (3, .ptr 0 0), (4, .ptr 1 0), (6, .ptr 2 0), (7, .ptr 3 0), (29, .p (.nn [gp n m, gp n' m'])), (30, .p (.int .i64 2)), (31, .p (.int .i64 i))], [.own [.p (.int .i64 n), .p (.list (il m))], .own [.p (.int .i64 n'), .p (.list (il m'))], .own [.p (.int .i64 0), .p .nil], .own [.p (.int .i64 0), .p (.int .i64 0)]]⟩) (fun i => i ≤ 2) (fun i => 2 - i) 0 (by omega) [0, 1, 2, 3] (by simp only [leq, leA, ev0, evA, evB, evP, fl, gp, tab, simprocAttr, reduceCtorEq, reduceIte] <;> trivial) fun i hi => ?_
  refine qm ?_
  refine hk_region fun K hK => runs_eval tab_ok ?_
  simp only [ev0, evA, evB, evP, fl, gp, tab, simprocAttr, reduceCtorEq, reduceIte]
  refine fin_run trivial (hK _ ?_) <;> clear hK <;> clear K
  refine qa (qm ?_)
  refine hk_cond rfl (fun hC1 => ?_) (fun hC1 => ?_)
  · (try simp only [nhs] at hC1)
    refine qh (qa (qm (ql (qm ?_))))
    rcases (show i = 0 ∨ i = 1 by omega) with rfl | rfl
    · refine hk_region fun K hK => runs_eval tab_ok ?_
      simp only [ev0, evA, evB, evP, fl, gp, tab, simprocAttr, reduceCtorEq, reduceIte, List.getD_cons_zero, List.getD_cons_succ]
      refine fin_run ?_ (hK _ ?_) <;> clear hK <;> clear K
      · (first | exact trivial | omega | (simp only [In64] at *; omega) | (simp [In64] at *; omega) | (simp_all; done) | skip)
      refine qa (qm ?_)
      refine hk_region fun K hK => runs_eval tab_ok ?_
      simp only [ev0, evA, evB, evP, fl, gp, tab, simprocAttr, reduceCtorEq, reduceIte]
      refine fin_stop trivial (runs_call (check_c n m (by omega)) rfl rfl rfl (by simp only [dstOk, Nat.reduceLT]) (by repeat (first | exact trivial | constructor)) (runs_eval tab_ok ?_))
      simp only [ev0, evA, evB, evP, fl, gp, tab, simprocAttr, reduceCtorEq, reduceIte, gf_of h]
      refine fin_run ?_ (hK _ ?_) <;> clear hK <;> clear K
      · (first | exact trivial | omega | (simp only [In64] at *; omega) | (simp [In64] at *; omega) | (simp_all; done) | skip)
      refine qa (qm ?_)
      refine hk_region fun K hK => runs_eval tab_ok ?_
      simp only [ev0, evA, evB, evP, fl, gp, tab, simprocAttr, reduceCtorEq, reduceIte]
      refine fin_run ?_ (hK _ ?_) <;> clear hK <;> clear K
      · (first | exact trivial | omega | (simp only [In64] at *; omega) | (simp [In64] at *; omega) | (simp_all; done) | skip)
      refine qa ?_
      refine hk_cond rfl (fun hC2 => ?_) (fun hC2 => ?_)
      · cases hC2
      · (try simp only [nhs] at hC2)
        refine qh (qd (qa ?_))
        refine hk_region fun K hK => runs_eval tab_ok ?_
        simp only [ev0, evA, evB, evP, fl, gp, tab, simprocAttr, reduceCtorEq, reduceIte]
        refine fin_run ?_ (hK _ ?_) <;> clear hK <;> clear K
        · (first | exact trivial | omega | (simp only [In64] at *; omega) | (simp [In64] at *; omega) | (simp_all; done) | skip)
        refine qa ?_
        refine ⟨1, [0, 1, 2, 3], by omega, by omega, ?_⟩
        simp only [leq, leA, ev0, evA, evB, evP, fl, gp, tab, simprocAttr, reduceCtorEq, reduceIte] <;> first | trivial | omega
    · refine hk_region fun K hK => runs_eval tab_ok ?_
      simp only [ev0, evA, evB, evP, fl, gp, tab, simprocAttr, reduceCtorEq, reduceIte, List.getD_cons_zero, List.getD_cons_succ]
      refine fin_run ?_ (hK _ ?_) <;> clear hK <;> clear K
      · (first | exact trivial | omega | (simp only [In64] at *; omega) | (simp [In64] at *; omega) | (simp_all; done) | skip)
      refine qa (qm ?_)
      refine hk_region fun K hK => runs_eval tab_ok ?_
      simp only [ev0, evA, evB, evP, fl, gp, tab, simprocAttr, reduceCtorEq, reduceIte]
      refine fin_stop trivial (runs_call (check_c n' m' (by omega)) rfl rfl rfl (by simp only [dstOk, Nat.reduceLT]) (by repeat (first | exact trivial | constructor)) (runs_eval tab_ok ?_))
      simp only [ev0, evA, evB, evP, fl, gp, tab, simprocAttr, reduceCtorEq, reduceIte, gf_of h']
      refine fin_run ?_ (hK _ ?_) <;> clear hK <;> clear K
      · (first | exact trivial | omega | (simp only [In64] at *; omega) | (simp [In64] at *; omega) | (simp_all; done) | skip)
      refine qa (qm ?_)
      refine hk_region fun K hK => runs_eval tab_ok ?_
      simp only [ev0, evA, evB, evP, fl, gp, tab, simprocAttr, reduceCtorEq, reduceIte]
      refine fin_run ?_ (hK _ ?_) <;> clear hK <;> clear K
      · (first | exact trivial | omega | (simp only [In64] at *; omega) | (simp [In64] at *; omega) | (simp_all; done) | skip)
      refine qa ?_
      refine hk_cond rfl (fun hC2 => ?_) (fun hC2 => ?_)
      · cases hC2
      · (try simp only [nhs] at hC2)
        refine qh (qd (qa ?_))
        refine hk_region fun K hK => runs_eval tab_ok ?_
        simp only [ev0, evA, evB, evP, fl, gp, tab, simprocAttr, reduceCtorEq, reduceIte]
        refine fin_run ?_ (hK _ ?_) <;> clear hK <;> clear K
        · (first | exact trivial | omega | (simp only [In64] at *; omega) | (simp [In64] at *; omega) | (simp_all; done) | skip)
        refine qa ?_
        refine ⟨2, [0, 1, 2, 3], by omega, by omega, ?_⟩
        simp only [leq, leA, ev0, evA, evB, evP, fl, gp, tab, simprocAttr, reduceCtorEq, reduceIte] <;> first | trivial | omega
  · (try simp only [nhs] at hC1)
    refine qj (qc (qc (qf (qa (qm (qm ?_))))))
    refine hk_region fun K hK => runs_eval tab_ok ?_
    simp only [ev0, evA, evB, evP, fl, gp, tab, simprocAttr, reduceCtorEq, reduceIte, ll_length, hl]
    refine fin_run ?_ (hK _ ?_) <;> clear hK <;> clear K
    · (first | exact trivial | omega | (simp only [In64] at *; omega) | (simp [In64] at *; omega) | (simp_all; done) | skip)
    refine qa ?_
    refine hk_cond rfl (fun hC3 => ?_) (fun hC3 => ?_)
    · cases hC3
    · (try simp only [nhs] at hC3)
      refine qh (qa (qm (qm ?_)))
      refine hk_region fun K hK => runs_eval tab_ok ?_
      simp only [ev0, evA, evB, evP, fl, gp, tab, simprocAttr, reduceCtorEq, reduceIte, ll_length, hl]
      refine fin_run trivial (hK _ ?_) <;> clear hK <;> clear K
      refine qa (ql ?_)
      refine hk_loop (ι := Nat) (fun i => ⟨200, [(2, .p (.list (ll ls))), (3, .ptr 0 0), (4, .ptr 1 0), (6, .ptr 2 0), (7, .ptr 3 0), (50, .p (.list (ll ls))), (51, .p (.int .i64 n')), (52, .p (.int .i64 i))], [.own [.p (.int .i64 n), .p (.list (il m))], .own [.p (.int .i64 n'), .p (.list (il m'))], .own [.p (.int .i64 0), .p .nil], .own [.p (.int .i64 0), .p (.int .i64 0)]]⟩) (fun i => i ≤ n') (fun i => n' - i) 0 (Nat.zero_le _) [0, 1, 2, 3] (by simp only [leq, leA, ev0, evA, evB, evP, fl, gp, tab, simprocAttr, reduceCtorEq, reduceIte] <;> trivial) fun i hi => ?_
      refine qm ?_
      refine hk_region fun K hK => runs_eval tab_ok ?_
      simp only [ev0, evA, evB, evP, fl, gp, tab, simprocAttr, reduceCtorEq, reduceIte]
      refine fin_run trivial (hK _ ?_) <;> clear hK <;> clear K
      refine qa (qm ?_)
      refine hk_cond rfl (fun hC4 => ?_) (fun hC4 => ?_)
      · (try simp only [nhs] at hC4)
        have hlt : i < n' := by omega
        obtain ⟨hln, hval⟩ := hrow i hlt
        have hh := hho i hlt
        obtain ⟨hH, hon⟩ := rwc_ok (hr i hlt)
        refine qh (qa (qm (ql (qm ?_))))
        refine hk_region fun K hK => runs_eval tab_ok ?_
        simp only [ev0, evA, evB, evP, fl, gp, tab, simprocAttr, reduceCtorEq, reduceIte, ll_length, ll_get (show i < ls.length by omega)]
        refine fin_run ?_ (hK _ ?_) <;> clear hK <;> clear K
        · (first | exact trivial | omega | (simp only [In64] at *; omega) | (simp [In64] at *; omega) | (simp_all; done) | skip)
        refine qa (qm (qm ?_))
        refine hk_region fun K hK => runs_eval tab_ok ?_
        simp only [ev0, evA, evB, evP, fl, gp, tab, simprocAttr, reduceCtorEq, reduceIte]
        refine fin_stop trivial (runs_call (homCheck_c n m n m (ls.getD i []) (by omega) (by omega)) rfl rfl rfl (by simp only [dstOk, Nat.reduceLT]) (by repeat (first | exact trivial | constructor)) (runs_eval tab_ok ?_))
        simp only [ev0, evA, evB, evP, fl, gp, tab, simprocAttr, reduceCtorEq, reduceIte, hh]
        refine fin_run ?_ (hK _ ?_) <;> clear hK <;> clear K
        · (first | exact trivial | omega | (simp only [In64] at *; omega) | (simp [In64] at *; omega) | (simp_all; done) | skip)
        refine qa (qm ?_)
        refine hk_region fun K hK => runs_eval tab_ok ?_
        simp only [ev0, evA, evB, evP, fl, gp, tab, simprocAttr, reduceCtorEq, reduceIte]
        refine fin_run ?_ (hK _ ?_) <;> clear hK <;> clear K
        · (first | exact trivial | omega | (simp only [In64] at *; omega) | (simp [In64] at *; omega) | (simp_all; done) | skip)
        refine qa ?_
        refine hk_cond rfl (fun hC5 => ?_) (fun hC5 => ?_)
        · cases hC5
        · (try simp only [nhs] at hC5)
          refine qh (qa (qm ?_))
          refine hk_region fun K hK => runs_eval tab_ok ?_
          simp only [ev0, evA, evB, evP, fl, gp, tab, simprocAttr, reduceCtorEq, reduceIte, makeSliceA.eq_def, hbl_new]
          refine fin_run ?_ (hK _ ?_) <;> clear hK <;> clear K
          · omega
          refine qa (qm (qm ?_))
          refine hk_region fun K hK => runs_eval tab_ok ?_
          simp only [ev0, evA, evB, evP, fl, gp, tab, simprocAttr, reduceCtorEq, reduceIte, il_length, hln]
          refine fin_run trivial (hK _ ?_) <;> clear hK <;> clear K
          refine qa (ql ?_)
          refine hk_loop (ι := Nat) (fun k => ⟨200, [(2, .p (.list (ll ls))), (3, .ptr 0 0), (4, .ptr 1 0), (6, .ptr 2 0), (7, .ptr 3 0), (11, .p (.int .i64 i)), (14, .sl 4 0 n), (50, .p (.list (ll ls))), (51, .p (.int .i64 n')), (52, .p (.int .i64 i)), (72, .p (.list (il (ls.getD i [])))), (73, .p (.int .i64 n)), (74, .p (.int .i64 k))], [.own [.p (.int .i64 n), .p (.list (il m))], .own [.p (.int .i64 n'), .p (.list (il m'))], .own [.p (.int .i64 0), .p .nil], .own [.p (.int .i64 0), .p (.int .i64 0)], .own (opl (hbl n (hits (ls.getD i []) k)))]⟩) (fun k => k ≤ n) (fun k => n - k) 0 (Nat.zero_le _) [0, 1, 2, 3, 5] (by simp only [show hits (ls.getD i []) 0 = fun _ => false from funext (hits_zero _)]; simp only [leq, leA, ev0, evA, evB, evP, fl, gp, tab, simprocAttr, reduceCtorEq, reduceIte] <;> trivial) fun k hk => ?_
          refine qm ?_
          refine hk_region fun K hK => runs_eval tab_ok ?_
          simp only [ev0, evA, evB, evP, fl, gp, tab, simprocAttr, reduceCtorEq, reduceIte]
          refine fin_run trivial (hK _ ?_) <;> clear hK <;> clear K
          refine qa (qm ?_)
          refine hk_cond rfl (fun hC6 => ?_) (fun hC6 => ?_)
          · (try simp only [nhs] at hC6)
            have hkl : k < n := by omega
            have ev := hval k hkl
            have lv := A.lt i k hlt hkl
            refine qh (qa (qm (ql (qm ?_))))
            refine hk_region fun K hK => runs_eval tab_ok ?_
            simp only [ev0, evA, evB, evP, fl, gp, tab, simprocAttr, reduceCtorEq, reduceIte, il_get (show k < (ls.getD i []).length by omega), ev]
            refine fin_run ?_ (hK _ ?_) <;> clear hK <;> clear K
            · (first | exact trivial | omega | (simp only [In64] at *; omega) | (simp [In64] at *; omega) | (simp_all; done) | skip)
            refine qa ?_
            refine hk_region fun K hK => runs_eval tab_ok ?_
            simp only [ev0, evA, evB, evP, fl, gp, tab, simprocAttr, reduceCtorEq, reduceIte]
            refine fin_run ?_ (hK _ ?_) <;> clear hK <;> clear K
            · rw [hbl_len]; omega
            refine qd (qa ?_)
            rw [hbl_set]
            refine hk_region fun K hK => runs_eval tab_ok ?_
            simp only [ev0, evA, evB, evP, fl, gp, tab, simprocAttr, reduceCtorEq, reduceIte]
            refine fin_run ?_ (hK _ ?_) <;> clear hK <;> clear K
            · (first | exact trivial | omega | (simp only [In64] at *; omega) | (simp [In64] at *; omega) | (simp_all; done) | skip)
            refine qa ?_
            refine ⟨k + 1, [0, 1, 2, 3, 4], by omega, by omega, ?_⟩
            rw [hbl_congr (fun i' _ => hits_succ (l := ls.getD i []) (by omega) ev i')]
            simp only [leq, leA, ev0, evA, evB, evP, fl, gp, tab, simprocAttr, reduceCtorEq, reduceIte] <;> first | trivial | omega
          · (try simp only [nhs] at hC6)
            have hkn : k = n := by omega
            subst hkn
            have hno : decide (ixb k (hits (ls.getD i []) k) ≥ 0) = false := decide_eq_false fun hc => by
              obtain ⟨v, v1, v2⟩ := (ixb_iff k (hits (ls.getD i []) k)).1 hc
              unfold hits at v2
              rw [List.take_of_length_le (by omega)] at v2
              exact (of_decide_eq_false v2) (hon.1 v v1)
            refine hk_sealp 14 4 (hbl_all k (hits (ls.getD i []) k)) (by show AV.sl 4 0 k = AV.sl 4 0 _; rw [hbl_len]) rfl ?_
            refine qj (qc (qc (qf (qa (qm ?_)))))
            refine hk_region fun K hK => runs_eval tab_ok ?_
            simp only [ev0, evA, evB, evP, fl, gp, tab, simprocAttr, reduceCtorEq, reduceIte]
            refine fin_stop trivial (runs_call (containsB_c k (hits (ls.getD i []) k) (by omega)) rfl rfl rfl (by simp only [dstOk, Nat.reduceLT]) (by repeat (first | exact trivial | constructor)) (runs_eval tab_ok ?_))
            simp only [ev0, evA, evB, evP, fl, gp, tab, simprocAttr, reduceCtorEq, reduceIte, hno]
            refine fin_run trivial (hK _ ?_) <;> clear hK <;> clear K
            refine qa ?_
            refine hk_cond rfl (fun hC7 => ?_) (fun hC7 => ?_)
            · cases hC7
            · (try simp only [nhs] at hC7)
              refine qh (qd (qa ?_))
              refine hk_region fun K hK => runs_eval tab_ok ?_
              simp only [ev0, evA, evB, evP, fl, gp, tab, simprocAttr, reduceCtorEq, reduceIte]
              refine fin_run ?_ (hK _ ?_) <;> clear hK <;> clear K
              · (first | exact trivial | omega | (simp only [In64] at *; omega) | (simp [In64] at *; omega) | (simp_all; done) | skip)
              refine qa ?_
              refine ⟨i + 1, [0, 1, 2, 3], by omega, by omega, ?_⟩
              simp only [leq, leA, ev0, evA, evB, evP, fl, gp, tab, simprocAttr, reduceCtorEq, reduceIte] <;> first | trivial | omega
      · (try simp only [nhs] at hC4)
        refine qj (qc (qc (qf (qa (qm (qm ?_))))))
        refine hk_region fun K hK => runs_eval tab_ok ?_
        simp only [ev0, evA, evB, evP, fl, gp, tab, simprocAttr, reduceCtorEq, reduceIte]
        refine fin_run ?_ (hK _ ?_) <;> clear hK <;> clear K
        · (first | exact trivial | omega | (simp only [In64] at *; omega) | (simp [In64] at *; omega) | (simp_all; done) | skip)
        refine qa (ql ?_)
        refine hk_loop (ι := Nat) (fun a => ⟨200, [(2, .p (.list (ll ls))), (3, .ptr 0 0), (4, .ptr 1 0), (6, .ptr 2 0), (7, .ptr 3 0), (89, .p (.int .i64 n')), (90, .p (.int .i64 a))], [.own [.p (.int .i64 n), .p (.list (il m))], .own [.p (.int .i64 n'), .p (.list (il m'))], .own [.p (.int .i64 0), .p .nil], .own [.p (.int .i64 0), .p (.int .i64 0)]]⟩) (fun a => a ≤ n') (fun a => n' - a) 0 (Nat.zero_le _) [0, 1, 2, 3] (by simp only [leq, leA, ev0, evA, evB, evP, fl, gp, tab, simprocAttr, reduceCtorEq, reduceIte] <;> trivial) fun a ha => ?_
        refine qm ?_
        refine hk_region fun K hK => runs_eval tab_ok ?_
        simp only [ev0, evA, evB, evP, fl, gp, tab, simprocAttr, reduceCtorEq, reduceIte]
        refine fin_run trivial (hK _ ?_) <;> clear hK <;> clear K
        refine qa (qm ?_)
        refine hk_cond rfl (fun hC8 => ?_) (fun hC8 => ?_)
        · (try simp only [nhs] at hC8)
          have hal : a < n' := by omega
          refine qh (qa (qm (ql (qm ?_))))
          refine hk_region fun K hK => runs_eval tab_ok ?_
          simp only [ev0, evA, evB, evP, fl, gp, tab, simprocAttr, reduceCtorEq, reduceIte]
          refine fin_run trivial (hK _ ?_) <;> clear hK <;> clear K
          refine qa (qm ?_)
          refine hk_region fun K hK => runs_eval tab_ok ?_
          simp only [ev0, evA, evB, evP, fl, gp, tab, simprocAttr, reduceCtorEq, reduceIte]
          refine fin_run ?_ (hK _ ?_) <;> clear hK <;> clear K
          · (first | exact trivial | omega | (simp only [In64] at *; omega) | (simp [In64] at *; omega) | (simp_all; done) | skip)
          refine qa (ql ?_)
          refine hk_loop (ι := Nat) (fun b => ⟨200, [(2, .p (.list (ll ls))), (3, .ptr 0 0), (4, .ptr 1 0), (6, .ptr 2 0), (7, .ptr 3 0), (17, .p (.int .i64 a)), (89, .p (.int .i64 n')), (90, .p (.int .i64 a)), (94, .p (.int .i64 n')), (95, .p (.int .i64 b))], [.own [.p (.int .i64 n), .p (.list (il m))], .own [.p (.int .i64 n'), .p (.list (il m'))], .own [.p (.int .i64 0), .p .nil], .own [.p (.int .i64 0), .p (.int .i64 0)]]⟩) (fun b => b ≤ n') (fun b => n' - b) 0 (Nat.zero_le _) [0, 1, 2, 3] (by simp only [leq, leA, ev0, evA, evB, evP, fl, gp, tab, simprocAttr, reduceCtorEq, reduceIte] <;> trivial) fun b hb => ?_
          refine qm ?_
          refine hk_region fun K hK => runs_eval tab_ok ?_
          simp only [ev0, evA, evB, evP, fl, gp, tab, simprocAttr, reduceCtorEq, reduceIte]
          refine fin_run trivial (hK _ ?_) <;> clear hK <;> clear K
          refine qa (qm ?_)
          refine hk_cond rfl (fun hC9 => ?_) (fun hC9 => ?_)
          · (try simp only [nhs] at hC9)
            have hbl' : b < n' := by omega
            refine qh (qa (qm (ql (qm ?_))))
            refine hk_region fun K hK => runs_eval tab_ok ?_
            simp only [ev0, evA, evB, evP, fl, gp, tab, simprocAttr, reduceCtorEq, reduceIte]
            refine fin_run trivial (hK _ ?_) <;> clear hK <;> clear K
            refine qa (qm ?_)
            refine hk_region fun K hK => runs_eval tab_ok ?_
            simp only [ev0, evA, evB, evP, fl, gp, tab, simprocAttr, reduceCtorEq, reduceIte]
            refine fin_run ?_ (hK _ ?_) <;> clear hK <;> clear K
            · (first | exact trivial | omega | (simp only [In64] at *; omega) | (simp [In64] at *; omega) | (simp_all; done) | skip)
            refine qa (ql ?_)
            refine hk_loop (ι := Nat) (fun x => ⟨200, [(2, .p (.list (ll ls))), (3, .ptr 0 0), (4, .ptr 1 0), (6, .ptr 2 0), (7, .ptr 3 0), (17, .p (.int .i64 a)), (18, .p (.int .i64 b)), (89, .p (.int .i64 n')), (90, .p (.int .i64 a)), (94, .p (.int .i64 n')), (95, .p (.int .i64 b)), (99, .p (.int .i64 n)), (100, .p (.int .i64 x))], [.own [.p (.int .i64 n), .p (.list (il m))], .own [.p (.int .i64 n'), .p (.list (il m'))], .own [.p (.int .i64 0), .p .nil], .own [.p (.int .i64 0), .p (.int .i64 0)]]⟩) (fun x => x ≤ n) (fun x => n - x) 0 (Nat.zero_le _) [0, 1, 2, 3] (by simp only [leq, leA, ev0, evA, evB, evP, fl, gp, tab, simprocAttr, reduceCtorEq, reduceIte] <;> trivial) fun x hx => ?_
            refine qm ?_
            refine hk_region fun K hK => runs_eval tab_ok ?_
            simp only [ev0, evA, evB, evP, fl, gp, tab, simprocAttr, reduceCtorEq, reduceIte]
            refine fin_run trivial (hK _ ?_) <;> clear hK <;> clear K
            refine qa (qm ?_)
            refine hk_cond rfl (fun hC10 => ?_) (fun hC10 => ?_)
            · (try simp only [nhs] at hC10)
              have hxl : x < n := by omega
              have hab := G'.cl a b hal hbl'
              have r1 := hrow _ hab
              have r2 := hrow a hal
              have r3 := hrow b hbl'
              have v1 := r1.2 x hxl
              have v3 := r3.2 x hxl
              have l3 := A.lt b x hbl' hxl
              have v2 := r2.2 _ l3
              have hmu := A.mul a b x hal hbl' hxl
              rw [hmu] at v1
              refine qh (qa (qm (ql (qm ?_))))
              refine hk_region fun K hK => runs_eval tab_ok ?_
              simp only [ev0, evA, evB, evP, fl, gp, tab, simprocAttr, reduceCtorEq, reduceIte]
              refine fin_run trivial (hK _ ?_) <;> clear hK <;> clear K
              refine qa (qm ?_)
              refine hk_draw mixed (by kernel_rfl) fun K hK => runs_eval tab_ok ?_
              simp only [ev0, evA, evB, evP, fl, gp, tab, simprocAttr, reduceCtorEq, reduceIte, ll_length, ll_get (show op m' n' a b < ls.length by omega), ll_get (show a < ls.length by omega), ll_get (show b < ls.length by omega), il_length, il_get (show x < (ls.getD (op m' n' a b) []).length by omega), v1, il_get (show x < (ls.getD b []).length by omega), v3, il_get (show alp ls b x < (ls.getD a []).length by omega), v2]
              refine fin_stop ?_ (runs_call (of_c T' hal hbl') rfl rfl rfl (by simp only [dstOk, Nat.reduceLT]) (by repeat (first | exact trivial | constructor)) (runs_eval tab_ok ?_))
              · (first | exact trivial | omega | (simp only [In64] at *; omega) | (simp [In64] at *; omega) | (simp_all; done) | skip)
              simp only [ev0, evA, evB, evP, fl, gp, tab, simprocAttr, reduceCtorEq, reduceIte, ll_length, ll_get (show op m' n' a b < ls.length by omega), ll_get (show a < ls.length by omega), ll_get (show b < ls.length by omega), il_length, il_get (show x < (ls.getD (op m' n' a b) []).length by omega), v1, il_get (show x < (ls.getD b []).length by omega), v3, il_get (show alp ls b x < (ls.getD a []).length by omega), v2]
              refine fin_run ?_ (hK _ ?_) <;> clear hK <;> clear K
              · (first | exact trivial | omega | (simp only [In64] at *; omega) | (simp [In64] at *; omega) | (simp_all; done) | skip)
              refine qa ?_
              refine hk_cond rfl (fun hC11 => ?_) (fun hC11 => ?_)
              · cases hC11
              · (try simp only [nhs] at hC11)
                refine qh (qd (qa ?_))
                refine hk_region fun K hK => runs_eval tab_ok ?_
                simp only [ev0, evA, evB, evP, fl, gp, tab, simprocAttr, reduceCtorEq, reduceIte]
                refine fin_run ?_ (hK _ ?_) <;> clear hK <;> clear K
                · (first | exact trivial | omega | (simp only [In64] at *; omega) | (simp [In64] at *; omega) | (simp_all; done) | skip)
                refine qa ?_
                refine ⟨x + 1, [0, 1, 2, 3], by omega, by omega, ?_⟩
                simp only [leq, leA, ev0, evA, evB, evP, fl, gp, tab, simprocAttr, reduceCtorEq, reduceIte] <;> first | trivial | omega
            · (try simp only [nhs] at hC10)
              refine qj (qc (qc (qf (qd (qa ?_)))))
              refine hk_region fun K hK => runs_eval tab_ok ?_
              simp only [ev0, evA, evB, evP, fl, gp, tab, simprocAttr, reduceCtorEq, reduceIte]
              refine fin_run ?_ (hK _ ?_) <;> clear hK <;> clear K
              · (first | exact trivial | omega | (simp only [In64] at *; omega) | (simp [In64] at *; omega) | (simp_all; done) | skip)
              refine qa ?_
              refine ⟨b + 1, [0, 1, 2, 3], by omega, by omega, ?_⟩
              simp only [leq, leA, ev0, evA, evB, evP, fl, gp, tab, simprocAttr, reduceCtorEq, reduceIte] <;> first | trivial | omega
          · (try simp only [nhs] at hC9)
            refine qj (qc (qc (qf (qd (qa ?_)))))
            refine hk_region fun K hK => runs_eval tab_ok ?_
            simp only [ev0, evA, evB, evP, fl, gp, tab, simprocAttr, reduceCtorEq, reduceIte]
            refine fin_run ?_ (hK _ ?_) <;> clear hK <;> clear K
            · (first | exact trivial | omega | (simp only [In64] at *; omega) | (simp [In64] at *; omega) | (simp_all; done) | skip)
            refine qa ?_
            refine ⟨a + 1, [0, 1, 2, 3], by omega, by omega, ?_⟩
            simp only [leq, leA, ev0, evA, evB, evP, fl, gp, tab, simprocAttr, reduceCtorEq, reduceIte] <;> first | trivial | omega
        · (try simp only [nhs] at hC8)
          refine qj (qc (qc (qf (qa (qm (qm ?_))))))
          refine hk_region fun K hK => runs_eval tab_ok ?_
          simp only [ev0, evA, evB, evP, fl, gp, tab, simprocAttr, reduceCtorEq, reduceIte, hmul]
          refine fin_run ?_ (hK _ ?_) <;> clear hK <;> clear K
          · (first | exact trivial | omega | (simp only [In64] at *; omega) | (simp [In64] at *; omega) | (simp_all; done) | skip)
          refine qa ?_
          refine hk_cond rfl (fun hC12 => ?_) (fun hC12 => ?_)
          · (try simp only [nhs] at hC12)
            omega
          · (try simp only [nhs] at hC12)
            refine qh (qa (qm ?_))
            refine hk_region fun K hK => runs_eval tab_ok ?_
            simp only [ev0, evA, evB, evP, fl, gp, tab, simprocAttr, reduceCtorEq, reduceIte, hmul]
            refine fin_run ?_ (hK _ ?_) <;> clear hK <;> clear K
            · (first | exact trivial | omega | (simp only [In64] at *; omega) | (simp [In64] at *; omega) | (simp_all; done) | skip)
            refine qa (qm (qm ?_))
            refine hk_own0c 4 1 rfl rfl ?_
            simp only [hset, List.cons_append, List.nil_append, List.set, List.length_cons, List.length_nil]
            refine hk_region fun K hK => runs_eval tab_ok ?_
            simp only [ev0, evA, evB, evP, fl, gp, tab, simprocAttr, reduceCtorEq, reduceIte]
            refine fin_run ?_ (hK _ ?_) <;> clear hK <;> clear K
            · (first | exact trivial | omega | (simp only [In64] at *; omega) | (simp [In64] at *; omega) | (simp_all; done) | skip)
            refine qa (ql ?_)
            refine hk_loop (ι := Nat) (fun i => ⟨200, [(2, .p (.list (ll ls))), (3, .ptr 0 0), (4, .ptr 1 0), (6, .ptr 2 0), (7, .ptr 3 0), (20, .ptr 4 0), (148, .p (.int .i64 (n * n' : Nat))), (149, .p (.int .i64 i))], [.own [.p (.int .i64 n), .p (.list (il m))], .own [.p (.int .i64 n'), .p (.list (il m'))], .own [.p (.int .i64 0), .p .nil], .own [.p (.int .i64 0), .p (.int .i64 0)], .own [.p (.int .i64 (n * n' : Nat)), .sl 5 0 (tbr (sgm n n' m m' ls) (n * n') (i * (n * n'))).length], .own (ol (tbr (sgm n n' m m' ls) (n * n') (i * (n * n'))))]⟩) (fun i => i ≤ n * n') (fun i => n * n' - i) 0 (Nat.zero_le _) [0, 1, 2, 3, 4, 5] (by rw [Nat.zero_mul]; simp only [leq, leA, ev0, evA, evB, evP, fl, gp, tab, simprocAttr, reduceCtorEq, reduceIte] <;> first | trivial | simp [tbr, rg, ol_nil]) fun i hi => ?_
            refine qm ?_
            refine hk_region fun K hK => runs_eval tab_ok ?_
            simp only [ev0, evA, evB, evP, fl, gp, tab, simprocAttr, reduceCtorEq, reduceIte]
            refine fin_run trivial (hK _ ?_) <;> clear hK <;> clear K
            refine qa (qm ?_)
            refine hk_cond rfl (fun hC13 => ?_) (fun hC13 => ?_)
            · (try simp only [nhs] at hC13)
              have hil : i < n * n' := by omega
              refine qh (qa (qm (ql (qm ?_))))
              refine hk_region fun K hK => runs_eval tab_ok ?_
              simp only [ev0, evA, evB, evP, fl, gp, tab, simprocAttr, reduceCtorEq, reduceIte]
              refine fin_run trivial (hK _ ?_) <;> clear hK <;> clear K
              refine qa (qm ?_)
              refine hk_region fun K hK => runs_eval tab_ok ?_
              simp only [ev0, evA, evB, evP, fl, gp, tab, simprocAttr, reduceCtorEq, reduceIte]
              refine fin_run ?_ (hK _ ?_) <;> clear hK <;> clear K
              · (first | exact trivial | omega | (simp only [In64] at *; omega) | (simp [In64] at *; omega) | (simp_all; done) | skip)
              refine qa (ql ?_)
              refine hk_loop (ι := Nat) (fun k => ⟨200, [(2, .p (.list (ll ls))), (3, .ptr 0 0), (4, .ptr 1 0), (6, .ptr 2 0), (7, .ptr 3 0), (20, .ptr 4 0), (21, .p (.int .i64 i)), (148, .p (.int .i64 (n * n' : Nat))), (149, .p (.int .i64 i)), (153, .p (.int .i64 (n * n' : Nat))), (154, .p (.int .i64 k))], [.own [.p (.int .i64 n), .p (.list (il m))], .own [.p (.int .i64 n'), .p (.list (il m'))], .own [.p (.int .i64 0), .p .nil], .own [.p (.int .i64 0), .p (.int .i64 0)], .own [.p (.int .i64 (n * n' : Nat)), .sl 5 0 (tbr (sgm n n' m m' ls) (n * n') (i * (n * n') + k)).length], .own (ol (tbr (sgm n n' m m' ls) (n * n') (i * (n * n') + k)))]⟩) (fun k => k ≤ n * n') (fun k => n * n' - k) 0 (Nat.zero_le _) [0, 1, 2, 3, 4, 5] (by rw [Nat.add_zero]; simp only [leq, leA, ev0, evA, evB, evP, fl, gp, tab, simprocAttr, reduceCtorEq, reduceIte] <;> trivial) fun k hk => ?_
              refine qm ?_
              refine hk_region fun K hK => runs_eval tab_ok ?_
              simp only [ev0, evA, evB, evP, fl, gp, tab, simprocAttr, reduceCtorEq, reduceIte]
              refine fin_run trivial (hK _ ?_) <;> clear hK <;> clear K
              refine qa (qm ?_)
              refine hk_cond rfl (fun hC14 => ?_) (fun hC14 => ?_)
              · (try simp only [nhs] at hC14)
                have hkl : k < n * n' := by omega
                have hat := at_lt hil hkl
                have hl' := hlen (i * (n * n') + k)
                obtain ⟨i1, i2, _⟩ := pr_split G'.pos hil
                obtain ⟨k1, k2, _⟩ := pr_split G'.pos hkl
                have hpos := G'.pos
                have ra := hrow _ i2
                have va := ra.2 _ k1
                have la := A.lt _ _ i2 k1
                have o1 := G.cl _ _ i1 la
                have o2 := G'.cl _ _ i2 k2
                have p1 : op m n (i / n') (alp ls (i % n') (k / n')) * n' ≤ 60 * 60 := Nat.mul_le_mul (by omega) hs2
                have p2 : ((op m n (i / n') (alp ls (i % n') (k / n')) : Nat) : Int) * (n' : Int) = ((op m n (i / n') (alp ls (i % n') (k / n')) * n' : Nat) : Int) := (Int.natCast_mul _ _).symm
                have p3 : ((op m n (i / n') (alp ls (i % n') (k / n')) * n' : Nat) : Int) + ((op m' n' (i % n') (k % n') : Nat) : Int) = sgm n n' m m' ls i k := rfl
                refine qh (qa (qm (ql (qm ?_))))
                refine hk_region fun K hK => runs_eval tab_ok ?_
                simp only [ev0, evA, evB, evP, fl, gp, tab, simprocAttr, reduceCtorEq, reduceIte]
                refine fin_run trivial (hK _ ?_) <;> clear hK <;> clear K
                refine qa (qm ?_)
                refine hk_draw mixed (by kernel_rfl) fun K hK => runs_eval tab_ok ?_
                simp only [ev0, evA, evB, evP, fl, gp, tab, simprocAttr, reduceCtorEq, reduceIte, tm_nat, td_nat]
                refine fin_run ?_ (hK _ ?_) <;> clear hK <;> clear K
                · generalize i / n' = s at *; generalize k / n' = t at *; generalize i % n' = u at *; generalize k % n' = v at *; simp only [In64]; omega
                refine qa ?_
                refine hk_draw2 mixed fun K hK => runs2_eval tab_ok ?_
                simp only [evD, ev0, evA, evB, evP, fl, gp, tab, simprocAttr, reduceCtorEq, reduceIte, ll_length, ll_get (show i % n' < ls.length by omega), il_length, il_get (show k / n' < (ls.getD (i % n') []).length by omega), va, p2, p3]
                refine fin2_stop ?_ (runs2_call (of_c T i1 la) rfl rfl rfl rfl (by simp only [dstOk, Nat.reduceLT]) (by repeat (first | exact trivial | constructor)) (runs2_eval tab_ok ?_))
                · generalize i / n' = s at *; generalize k / n' = t at *; generalize i % n' = u at *; generalize k % n' = v at *; omega
                simp only [evD, ev0, evA, evB, evP, fl, gp, tab, simprocAttr, reduceCtorEq, reduceIte, ll_length, ll_get (show i % n' < ls.length by omega), il_length, il_get (show k / n' < (ls.getD (i % n') []).length by omega), va, p2, p3]
                refine fin2_stop ?_ (runs2_call (of_c T' i2 k2) rfl rfl rfl rfl (by simp only [dstOk, Nat.reduceLT]) (by repeat (first | exact trivial | constructor)) (runs2_eval tab_ok ?_))
                · (first | exact trivial | omega | (simp only [In64] at *; omega) | (simp [In64] at *; omega) | (simp_all; done) | skip)
                simp only [evD, ev0, evA, evB, evP, fl, gp, tab, simprocAttr, reduceCtorEq, reduceIte, ll_length, ll_get (show i % n' < ls.length by omega), il_length, il_get (show k / n' < (ls.getD (i % n') []).length by omega), va, p2, p3]
                refine fin2_run ?_ (hK _ _ (by first | kernel_rfl | rfl) ?_) <;> clear hK <;> clear K
                · (first | exact trivial | omega | (simp only [In64] at *; omega) | (simp [In64] at *; omega) | (simp_all; done) | skip)
                refine qd (qa ?_)
                refine hk_region fun K hK => runs_eval tab_ok ?_
                simp only [ev0, evA, evB, evP, fl, gp, tab, simprocAttr, reduceCtorEq, reduceIte]
                refine fin_run ?_ (hK _ ?_) <;> clear hK <;> clear K
                · (first | exact trivial | omega | (simp only [In64] at *; omega) | (simp [In64] at *; omega) | (simp_all; done) | skip)
                refine qa ?_
                refine ⟨k + 1, [0, 1, 2, 3, 4, 6], by omega, by omega, ?_⟩
                rw [tbr_succ (sgm n n' m m' ls) hkl]
                simp only [leq, leA, ev0, evA, evB, evP, fl, gp, tab, simprocAttr, reduceCtorEq, reduceIte] <;> first | trivial | omega
              · (try simp only [nhs] at hC14)
                have hkn : k = n * n' := by omega
                refine qj (qc (qc (qf (qd (qa ?_)))))
                refine hk_region fun K hK => runs_eval tab_ok ?_
                simp only [ev0, evA, evB, evP, fl, gp, tab, simprocAttr, reduceCtorEq, reduceIte]
                refine fin_run ?_ (hK _ ?_) <;> clear hK <;> clear K
                · (first | exact trivial | omega | (simp only [In64] at *; omega) | (simp [In64] at *; omega) | (simp_all; done) | skip)
                refine qa ?_
                refine ⟨i + 1, [0, 1, 2, 3, 4, 5], by omega, by omega, ?_⟩
                rw [hkn, show (i + 1) * (n * n') = i * (n * n') + n * n' by rw [Nat.add_mul, Nat.one_mul]]
                simp only [leq, leA, ev0, evA, evB, evP, fl, gp, tab, simprocAttr, reduceCtorEq, reduceIte] <;> first | trivial | omega
            · (try simp only [nhs] at hC13)
              have hin : i = n * n' := by omega
              refine qj (qc (qc (qf (qa (qm ?_)))))
              refine hk_region fun K hK => runs_eval tab_ok ?_
              simp only [ev0, evA, evB, evP, fl, gp, tab, simprocAttr, reduceCtorEq, reduceIte]
              refine fin_run ?_ (hK _ ?_) <;> clear hK <;> clear K
              · (first | exact trivial | omega | (simp only [In64] at *; omega) | (simp [In64] at *; omega) | (simp_all; done) | skip)
              refine qa (qk ?_)
              simp only [Tryd.results61, enA, ev0, evA, evB, evP, fl, gp, tab, simprocAttr, reduceCtorEq, reduceIte]
              simp [hin, tbl, sg]
              rfl
end Go.Proofs.YtboadfahlflmhaaDoor

/-
  The law HomOrders. Conditions: none.
-/
set_option linter.all false
namespace Go.Proofs.YtboadfahlflmhaaDoor
open Go.Pv

section
variable {n e N d n' e' : Nat} {f g : Nat → Nat → Nat} {φ : Nat → Nat} {m m' l : List Int}
theorem pre_sub (G : Grp n f e) (K : Grp N g d) (h : Hmo n f N g φ) {r : Nat → Bool} (hr : Sub N g d r) : Sub n f e fun x => r (φ x) := by
  refine sub_of G (by simp only [h.one G K]; exact hr.one) fun a b ha hb h1 h2 => ?_
  show r (φ (f a b)) = true
  rw [h.mul a b ha hb]
  exact hr.mul _ _ (h.lt a ha) (h.lt b hb) h1 h2
end
end Go.Proofs.YtboadfahlflmhaaDoor

/-
  The parts of a semidirect product. Conditions: none.
-/
set_option linter.all false
namespace Go.Proofs.YtboadfahlflmhaaDoor
open Go.Pv

section
variable {n n' e e' : Nat} {f f' al : Nat → Nat → Nat}
def smA (n' e' x : Nat) : Bool := decide (x % n' = e')
def smB (n' e x : Nat) : Bool := decide (x / n' = e)
theorem smA_iff {x : Nat} : smA n' e' x = true ↔ x % n' = e' := by unfold smA; exact decide_eq_true_iff
theorem smB_iff {x : Nat} : smB n' e x = true ↔ x / n' = e := by unfold smB; exact decide_eq_true_iff
theorem smi_hmo (G : Grp n f e) (G' : Grp n' f' e') (A : Acts n n' f f' al) : Hmo (n * n') (smi n' f f' al) n' f' fun x => x % n' :=
  ⟨fun x hx => Nat.mod_lt _ G'.pos, fun a b ha hb => smi_mod G'⟩
theorem smB_sub (G : Grp n f e) (G' : Grp n' f' e') (A : Acts n n' f f' al) : Sub (n * n') (smi n' f f' al) (e * n' + e') (smB n' e) :=
  sub_of (smi_grp G G' A) (smB_iff.2 (pr_div G'.el)) fun a b ha hb h1 h2 => by
    rw [smB_iff] at *
    rw [smi_div G', h1, h2, A.el G (pr_split G'.pos ha).2.1, G.one_l _ G.el]
theorem smA_sub (G : Grp n f e) (G' : Grp n' f' e') (A : Acts n n' f f' al) : Sub (n * n') (smi n' f f' al) (e * n' + e') (smA n' e') :=
  ker_sub (smi_grp G G' A) G' (smi_hmo G G' A)
/-- It is direct just where nothing is moved. -/
theorem sm_cmm (G : Grp n f e) (G' : Grp n' f' e') (A : Acts n n' f f' al) : Cmm (n * n') (smi n' f f' al) (smA n' e') (smB n' e) ↔ ∀ x i, x < n' → i < n → al x i = i := by
  constructor
  · intro h x i hx hi
    have u1 : i * n' + e' < n * n' := pr_lt hi G'.el
    have u2 : e * n' + x < n * n' := pr_lt G.el hx
    have h1 := h _ _ u1 u2 (smA_iff.2 (pr_mod G'.el)) (smB_iff.2 (pr_div hx))
    have h2 := congrArg (· / n') h1
    simp only [smi_div G', pr_div G'.el, pr_mod G'.el, pr_div hx, pr_mod hx] at h2
    rw [A.el G G'.el, G.one_r _ hi, G.one_l _ (A.lt _ _ hx hi)] at h2
    exact h2.symm
  · intro h a b ha hb h1 h2
    rw [smA_iff] at h1
    rw [smB_iff] at h2
    obtain ⟨a1, a2, _⟩ := pr_split G'.pos ha
    obtain ⟨b1, b2, _⟩ := pr_split G'.pos hb
    unfold smi
    rw [h1, h2, A.el G G'.el, G.one_r _ a1, h _ _ b2 a1, G.one_l _ a1, G'.one_l _ b2, G'.one_r _ b2]
theorem sm_len (G : Grp n f e) (G' : Grp n' f' e') (A : Acts n n' f f' al) : (mem (n * n') (smA n' e')).length * (mem (n * n') (smB n' e)).length = n * n' ∧ (mem (n * n') fun x => smA n' e' x && smB n' e x).length = 1 := by
  have K := smi_grp G G' A
  have sA := smA_sub G G' A
  have sB := smB_sub G G' A
  have hm := (K.meet_len sA sB).2 fun a ha h1 h2 => by
    obtain ⟨_, _, a3⟩ := pr_split G'.pos ha
    rw [smA_iff] at h1
    rw [smB_iff] at h2
    rw [← a3, h1, h2]
  refine ⟨?_, hm⟩
  have hc := K.prod_count sA sB
  rw [hm, Nat.mul_one] at hc
  rw [← hc, mem_all]
  intro x hx
  obtain ⟨x1, x2, x3⟩ := pr_split G'.pos hx
  have u1 : x / n' * n' + e' < n * n' := pr_lt x1 G'.el
  have u2 : e * n' + x % n' < n * n' := pr_lt G.el x2
  have := K.pr2_mk (p := smA n' e') (q := smB n' e) u1 u2 (smA_iff.2 (pr_mod G'.el)) (smB_iff.2 (pr_div x2))
  have e1 : smi n' f f' al (x / n' * n' + e') (e * n' + x % n') = x := by
    unfold smi
    rw [pr_div G'.el, pr_div x2, pr_mod G'.el, pr_mod x2, A.el G G'.el, G.one_r _ x1, G'.one_l _ x2, x3]
  rwa [e1] at this
end
/-- The same with the table. -/
theorem sg_facts {n n' e e' : Nat} {m m' : List Int} {ls : List (List Int)} (h : GT n m n e) (h' : GT n' m' n' e') (hl : ls.length = n') (hr : ∀ j, j < n' → rwc n m (ls.getD j []) = 0) (hmg : ∀ j, j < n' → mgd m' n' ls j) (hle : n * n' ≤ 60) :
    ∃ E, GT (n * n' : Nat) (sg n n' m m' ls) (n * n') E ∧ Sub (n * n') (op (sg n n' m m' ls) (n * n')) E (smA n' e') ∧ Nml (n * n') (op (sg n n' m m' ls) (n * n')) E (smA n' e') ∧ Sub (n * n') (op (sg n n' m m' ls) (n * n')) E (smB n' e) ∧
      ((mem (n * n') (smA n' e')).length * (mem (n * n') (smB n' e)).length = n * n' ∧ (mem (n * n') fun x => smA n' e' x && smB n' e x).length = 1) ∧ (Cmm (n * n') (op (sg n n' m m' ls) (n * n')) (smA n' e') (smB n' e) ↔ ∀ x i, x < n' → i < n → alp ls x i = i) ∧
      ∃ φ, Isom (cst (n * n') (dco (n * n') (op (sg n n' m m' ls) (n * n')) (smA n' e') (onp E))).length (op (qtb (n * n') (op (sg n n' m m' ls) (n * n')) (dco (n * n') (op (sg n n' m m' ls) (n * n')) (smA n' e') (onp E))) (cst (n * n') (dco (n * n') (op (sg n n' m m' ls) (n * n')) (smA n' e') (onp E))).length) n' (op m' n') φ := by
  have G := h.2.2
  have G' := h'.2.2
  have A := acts_of hl hr hmg h.2.1
  have K := smi_grp G G' A
  have hK : GT (n * n' : Nat) (sg n n' m m' ls) (n * n') (e * n' + e') := tbl_GT' hle K
  have hop : ∀ a b, a < n * n' → b < n * n' → op (sg n n' m m' ls) (n * n') a b = smi n' (op m n) (op m' n') (alp ls) a b := fun a b ha hb => tbl_op' _ ha hb
  have hH : Hmo (n * n') (op (sg n n' m m' ls) (n * n')) n' (op m' n') fun x => x % n' := ⟨(smi_hmo G G' A).lt, fun a b ha hb => by rw [hop a b ha hb]; exact (smi_hmo G G' A).mul a b ha hb⟩
  have sB := smB_sub G G' A
  refine ⟨e * n' + e', hK, ker_sub hK.2.2 G' hH, ker_nml hK.2.2 G' hH, sub_of hK.2.2 sB.one fun a b ha hb h1 h2 => by rw [hop a b ha hb]; exact sB.mul a b ha hb h1 h2, sm_len G G' A, ?_, _, surj_iso hK.2.2 G' hH (fun y hy => ⟨e * n' + y, pr_lt G.el hy, pr_mod hy⟩) (smA n' e') (fun a _ => smA_iff) (ker_sub hK.2.2 G' hH)⟩
  rw [← sm_cmm G G' A]
  exact ⟨fun h3 a b ha hb h1 h2 => by rw [← hop a b ha hb, ← hop b a hb ha]; exact h3 a b ha hb h1 h2, fun h3 a b ha hb h1 h2 => by rw [hop a b ha hb, hop b a hb ha]; exact h3 a b ha hb h1 h2⟩
end Go.Proofs.YtboadfahlflmhaaDoor

/-
  Walks: all homomorphisms, handed out one by one to who keeps no list. Conditions: none.
-/
set_option linter.all false
namespace Go.Pv
open Go.RowKit
variable {σ : Type}
/-- The blocks of who loops and keeps no list. -/
def HV (p : Prot σ) (i : σ) (b : Blk) : Heap := [.own [.p (p.c4 i)], .own [.p (p.c51 i), .p (p.c52 i)], b]
def RoundsV (P : Program) (p : Prot σ) (rec : Loop) (l : List AV) : Prop := ∀ i x, p.ok i → p.okx x → YldQ P 3 2 rec l x (HV p i (.lp rec)) (.p (.bool (p.go i x))) (HV p (p.nx i x) (.lp (recB (p.go i x) rec)))
theorem fixV1 {x : AV} {π : List Nat} (h : sc1 3 x = true) (hπ : π.take 6 = [0, 1, 2, 3, 4, 5]) : sc1 6 (ren1 [3, 4, 5] x) = true ∧ ren1 π (ren1 [3, 4, 5] x) = ren1 [3, 4, 5] x := by
  have hg : ∀ k, k < 3 → [3, 4, 5].getD k 0 < 6 ∧ π.getD ([3, 4, 5].getD k 0) 0 = [3, 4, 5].getD k 0 := fun k hk => by
    have e : ∀ j, j < 6 → π.getD j 0 = j := fun j hj => by
      have := congrArg (fun l => l.getD j 0) hπ
      simp only [List.getD_eq_getElem?_getD, List.getElem?_take, hj, if_true] at this ⊢
      rw [this]
      exact (show ∀ j, j < 6 → ([0, 1, 2, 3, 4, 5] : List Nat)[j]?.getD 0 = j by decide) j hj
    have : ∀ k, k < 3 → [3, 4, 5].getD k 0 < 6 := by decide
    exact ⟨this k hk, e _ (this k hk)⟩
  cases x <;> simp only [sc1, decide_eq_true_eq] at h <;> first | (cases h; done) | (simp only [ren1, sc1, decide_eq_true_eq, (hg _ h).2]; exact ⟨(hg _ h).1, trivial⟩) | exact ⟨rfl, rfl⟩
theorem fixV {l lN : List AV} (hl : l.all (sc1 3) = true) (hlN : l.map (ren1 [3, 4, 5]) = lN) : lN.all (sc1 6) = true ∧ ∀ π : List Nat, π.take 6 = [0, 1, 2, 3, 4, 5] → lN.map (ren1 π) = lN := by
  rw [List.all_eq_true] at hl
  subst hlN
  refine ⟨?_, fun π hπ => ?_⟩
  · rw [List.all_eq_true]
    intro y hy
    obtain ⟨x, hx, rfl⟩ := List.mem_map.1 hy
    exact (fixV1 (π := [0, 1, 2, 3, 4, 5]) (hl x hx) rfl).1
  · rw [List.map_map]
    exact List.map_congr_left fun x hx => (fixV1 (hl x hx) hπ).2
theorem backV {ks : List Nat} (h0 : ks.getD 3 0 = 0) (h1 : ks.getD 4 0 = 1) (h2 : ks.getD 5 0 = 2) {l : List AV} (h : l.all (sc1 3) = true) : (l.map (ren1 [3, 4, 5])).map (ren1 ks) = l := by
  have hg : ∀ k, k < 3 → ks.getD ([3, 4, 5].getD k 0) 0 = k := fun k hk => by
    match k, hk with
    | 0, _ => exact h0
    | 1, _ => exact h1
    | 2, _ => exact h2
  have h1 : ∀ x, sc1 3 x = true → ren1 ks (ren1 [3, 4, 5] x) = x := fun x h => by
    cases x <;> simp only [sc1, decide_eq_true_eq] at h <;> first | (cases h; done) | (simp only [ren1, hg _ h]; done) | rfl
  rw [List.all_eq_true] at h
  rw [List.map_map]
  exact (List.map_congr_left fun x hx => h1 x (h x hx)).trans (List.map_id _)
end Go.Pv
namespace Go.Proofs.YtboadfahlflmhaaDoor
open Go.Pv
section
variable {n e N d : Nat} {m M : List Int} {σ : Type}
/-- The blocks of who searches. -/
def HNV (p : Prot σ) (n : Nat) (m : List Int) (N : Nat) (M : List Int) (L : List Nat) (lN : List AV) (vs : Array Value) (t : List Nat) (i : σ) (b : Blk) : Heap :=
  [.own [.sl 6 0 L.length], .own [.yv 5 lN vs], .own [.cl 129 [.p (.ptr [.list (il (nl L))]), .p (.ptr [.int .i64 n, .list (il m)]), .p (.ptr [.int .i64 N, .list (il M)]), .ptr 0 0, .ptr 1 0, .ptr 2 0]],
   .own [.p (p.c4 i)], .own [.p (p.c51 i), .p (p.c52 i)], b, .own (rwd t L.length)]

def NextV (p : Prot σ) (n : Nat) (m : List Int) (e N : Nat) (M : List Int) (d : Nat) (L : List Nat) (rec : Loop) (lN : List AV) (r t : List Nat) (i : σ) : Prop :=
  FnQ Tryd.prog 7 129 [.p (.int .i64 t.length), .p (.ptr [.list (il (nl L))]), .p (.ptr [.int .i64 n, .list (il m)]), .p (.ptr [.int .i64 N, .list (il M)]), .ptr 0 0, .ptr 1 0, .ptr 2 0]
    (HNV p n m N M L lN rec.tmps t i (.lp rec)) (.p (.bool (foldS p i (pls (hsq n (op m n) e N (op M N) d L r t))).2)) (HNV p n m N M L lN rec.tmps t (foldS p i (pls (hsq n (op m n) e N (op M N) d L r t))).1 (.lp (recB (foldS p i (pls (hsq n (op m n) e N (op M N) d L r t))).2 rec)))

set_option maxHeartbeats 8000000 in
set_option maxRecDepth 20000 in
theorem vleaf1 (p : Prot σ) (h : GT n m n e) (h' : GT N M N d) (L : List Nat) (hL : L = gl n (op m n) e n) {rec : Loop} (hrp : rec.params.size = 1) {l lN : List AV} (hY : RoundsV Tryd.prog p rec l) (hokx : ∀ φ, Hmo n (op m n) N (op M N) φ → p.okx (.list (il (tbm n φ))))
    (hl : l.all (sc1 3) = true) (hlN : l.map (ren1 [3, 4, 5]) = lN) (t : List Nat) (i : σ) (htl : t.length = L.length) (hty : ∀ y ∈ t, y < N) (hi : p.ok i) (hex : ∃ φ, Ext n (op m n) N (op M N) L t φ) : NextV p n m e N M d L rec lN [] t i := by
  have hn := h.2.1.big
  have hpos : 0 < n := h.2.1.pos
  have hll := gl_len n (op m n) e n
  rw [← hL] at hll
  have hLlt := gl_lt n (op m n) e n
  have hLg := gl_gen n (op m n) e h.2.2
  rw [← hL] at hLlt hLg
  have hF : ∀ i, i < L.length → L.getD i 0 < n := fun i hi => hLlt _ (by simp [List.getD, List.getElem?_eq_getElem hi])
  have hT : ∀ i, i < L.length → t.getD i 0 < N := fun i hi => hty _ (by simp [List.getD, List.getElem?_eq_getElem (show i < t.length by omega)])
  have hnt := nl_len t
  have hnL := nl_len L
  have hone := p.ones i hi
  have hnn : (nl L).length = (nl t).length := by omega
  have hlS := fixV hl hlN
  unfold NextV
  have hs : hsq n (op m n) e N (op M N) d L [] t = [tbm n (Classical.choose hex)] := by unfold hsq hlf; rw [dif_pos hex]
  have hφ := Classical.choose_spec hex
  generalize Classical.choose hex = φ at hs hφ
  have hsp := spread_yes h h' L t htl.symm (by omega) hF hT hLg hφ
  have hpl : pls (hsq n (op m n) e N (op M N) d L [] t) = [.list (il (tbm n φ))] := by rw [hs]; rfl
  have hY1 := hY i _ hi (hokx φ hφ.1)
  have htb := tbm_len n φ
  have hne : il (tbm n φ) ≠ [] := by intro hh; have := congrArg List.length hh; rw [il_length, htb] at this; simp at this; omega
  rw [hpl]
  have hf1 : foldS p i [PV.list (il (tbm n φ))] = (p.nx i (.list (il (tbm n φ))), p.go i (.list (il (tbm n φ)))) := by
    simp only [foldS]
    split <;> simp_all
  rw [hf1]
  unfold HV at hY1
  simp only
  refine fnq_of (q := 7) tab_ok Tryd.func129 rfl (by kernel_rfl) (by rw [Tryd.ntmps129]; exact Nat.le_add_left 7 _) ?_; rw [Tryd.ntmps129]; simp only [ancs, entA, List.length_cons, List.length_nil, List.cons_append, List.nil_append, Nat.reduceAdd, Nat.zero_add]
  simp only [HNV, rwd_full htl, List.append_nil, List.cons_append, List.nil_append]
  rw [show L.length = (nl t).length by omega]
  refine qm ?_
  refine hk_region fun K hK => runs_eval tab_ok ?_
  simp only [ev0, evA, evB, evP, fl, gp, tab, simprocAttr, reduceCtorEq, reduceIte]
  refine fin_run trivial (hK _ ?_) <;> clear hK <;> clear K
  refine qa (qm (qm ?_))
  refine hk_region fun K hK => runs_eval tab_ok ?_
  simp only [ev0, evA, evB, evP, fl, gp, tab, simprocAttr, reduceCtorEq, reduceIte, il_length, hnn]
  refine fin_run ?_ (hK _ ?_) <;> clear hK <;> clear K
  · (first | exact trivial | omega | (simp only [In64] at *; omega) | (simp [In64] at *; omega) | (simp_all; done) | skip)
  refine qa ?_
  refine hk_cond rfl (fun hC1 => ?_) (fun hC1 => ?_)
  · (try simp only [nhs] at hC1)
    refine qm ?_
    refine hk_region fun K hK => runs_eval tab_ok ?_
    simp only [ev0, evA, evB, evP, fl, gp, tab, simprocAttr, reduceCtorEq, reduceIte]
    refine fin_stop ?_ (runs_callF (FnG_fnf hsp (by simp [il, PV.sc])) rfl (by simp only [callA, peekList, peekG, peekS, List.map_cons, List.map_nil, List.append_nil, enA, ev0, evA, evB, evP, fl, gp, tab, simprocAttr, reduceCtorEq, reduceIte, List.drop_zero, ol_drop, ol_take, take_len, ol_allP, il_all, il_length]; rfl) (by simp only [dstOk, Nat.reduceLT]) ?_ (runs_eval tab_ok ?_))
    · (first | exact trivial | omega | (simp only [In64] at *; omega) | (simp [In64] at *; omega) | (simp_all; done) | skip)
    · (first | exact trivial | omega | (simp only [In64] at *; omega) | (simp [In64] at *; omega) | (simp_all; done) | skip)
    simp only [ev0, evA, evB, evP, fl, gp, tab, simprocAttr, reduceCtorEq, reduceIte]
    refine fin_run ?_ (hK _ ?_) <;> clear hK <;> clear K
    · (first | exact trivial | omega | (simp only [In64] at *; omega) | (simp [In64] at *; omega) | (simp_all; done) | skip)
    refine qa (qm ?_)
    refine hk_region fun K hK => runs_eval tab_ok ?_
    simp only [ev0, evA, evB, evP, fl, gp, tab, simprocAttr, reduceCtorEq, reduceIte, binA.eq_def, Option.map_some]
    refine fin_stop ?_ (runs_yield [3, 4, 5] (hY1) hrp rfl rfl rfl ?_ (by simp only [leA, ev0, evA, evB, evP, fl, gp, tab, simprocAttr, reduceCtorEq, reduceIte]; first | trivial | (simp only [ll_takeL]; first | trivial | (repeat constructor; done)) | (repeat constructor)) (by decide) (by first | rfl | (simp only [List.length_cons, List.length_nil, List.length_append]; decide)) (by first | rfl | (simp [scQ, scA, sc1, mpKeep, notAnc, Blk.spc, opl_sc]; done)) (by simp only [dstOk, Nat.reduceLT]) (runs_eval tab_ok ?_))
    · (first | exact trivial | omega | (simp only [In64] at *; omega) | (simp [In64] at *; omega) | (simp_all; done) | skip)
    · (simp only [argsM, argM1, peekG, peekS, scA, sc1, ren, ren1, List.map_cons, List.map_nil, List.append_nil, List.cons_append, List.nil_append, enA, ev0, evA, evB, evP, fl, gp, tab, simprocAttr, reduceCtorEq, reduceIte]; try trivial)
      exact ⟨by rw [hlN], all_up (by decide) hl⟩
    simp only [putM, kills, hset, List.take_succ_cons, List.take_zero, List.drop_succ_cons, List.drop_zero, List.range', Blk.ren, ren, ren1, List.map_cons, List.map_nil, List.cons_append, List.nil_append, List.append_nil, List.length_cons, List.length_nil, ev0, evA, evB, evP, fl, gp, tab, simprocAttr, reduceCtorEq, reduceIte, binA.eq_def, Option.map_some]
    refine fin_run ?_ (hK _ ?_) <;> clear hK <;> clear K
    · (first | exact trivial | omega | (simp only [In64] at *; omega) | (simp [In64] at *; omega) | (simp_all; done) | skip)
    refine qa (qk (qb ?_))
    simp only [Tryd.results129, PostG, endG, rvsA, rvA, mkTup, ev0, evA, evB, evP, fl, gp, tab, simprocAttr, reduceCtorEq, reduceIte]
    all_goals (exact ⟨[0, 1, 2, 3, 4, 5, 6, 7, 8, 9, 10, 11, 12, 13], rfl, rfl, by simp only [leq, leA, ev0, evA, evB, evP, fl, gp, tab, simprocAttr, reduceCtorEq, reduceIte] <;> first | trivial | exact ⟨by rw [hlS.2 _ rfl], all_up (by decide) hlS.1⟩ | trace_state⟩)
  · (try simp only [nhs] at hC1)
    omega
set_option maxHeartbeats 8000000 in
set_option maxRecDepth 20000 in
theorem vleaf2 (p : Prot σ) (h : GT n m n e) (h' : GT N M N d) (L : List Nat) (hL : L = gl n (op m n) e n) {rec : Loop} (hrp : rec.params.size = 1) {l lN : List AV} (hY : RoundsV Tryd.prog p rec l) (hokx : ∀ φ, Hmo n (op m n) N (op M N) φ → p.okx (.list (il (tbm n φ))))
    (hl : l.all (sc1 3) = true) (hlN : l.map (ren1 [3, 4, 5]) = lN) (t : List Nat) (i : σ) (htl : t.length = L.length) (hty : ∀ y ∈ t, y < N) (hi : p.ok i) (hex : ¬ ∃ φ, Ext n (op m n) N (op M N) L t φ) : NextV p n m e N M d L rec lN [] t i := by
  have hn := h.2.1.big
  have hpos : 0 < n := h.2.1.pos
  have hll := gl_len n (op m n) e n
  rw [← hL] at hll
  have hLlt := gl_lt n (op m n) e n
  have hLg := gl_gen n (op m n) e h.2.2
  rw [← hL] at hLlt hLg
  have hF : ∀ i, i < L.length → L.getD i 0 < n := fun i hi => hLlt _ (by simp [List.getD, List.getElem?_eq_getElem hi])
  have hT : ∀ i, i < L.length → t.getD i 0 < N := fun i hi => hty _ (by simp [List.getD, List.getElem?_eq_getElem (show i < t.length by omega)])
  have hnt := nl_len t
  have hnL := nl_len L
  have hone := p.ones i hi
  have hnn : (nl L).length = (nl t).length := by omega
  have hlS := fixV hl hlN
  unfold NextV
  have hs : hsq n (op m n) e N (op M N) d L [] t = [] := by unfold hsq hlf; rw [dif_neg hex]
  have hsp := fnc_of_p (spread_no h h' L t htl.symm (by omega) hF hT hLg fun φ hφ => hex ⟨φ, hφ⟩) rfl
  have hpl : pls (hsq n (op m n) e N (op M N) d L [] t) = [] := by rw [hs]; rfl
  rw [hpl]
  simp only [foldS]
  refine fnq_of (q := 7) tab_ok Tryd.func129 rfl (by kernel_rfl) (by rw [Tryd.ntmps129]; exact Nat.le_add_left 7 _) ?_; rw [Tryd.ntmps129]; simp only [ancs, entA, List.length_cons, List.length_nil, List.cons_append, List.nil_append, Nat.reduceAdd, Nat.zero_add]
  simp only [HNV, rwd_full htl, List.append_nil, List.cons_append, List.nil_append]
  rw [show L.length = (nl t).length by omega]
  refine qm ?_
  refine hk_region fun K hK => runs_eval tab_ok ?_
  simp only [ev0, evA, evB, evP, fl, gp, tab, simprocAttr, reduceCtorEq, reduceIte]
  refine fin_run trivial (hK _ ?_) <;> clear hK <;> clear K
  refine qa (qm (qm ?_))
  refine hk_region fun K hK => runs_eval tab_ok ?_
  simp only [ev0, evA, evB, evP, fl, gp, tab, simprocAttr, reduceCtorEq, reduceIte, il_length, hnn]
  refine fin_run ?_ (hK _ ?_) <;> clear hK <;> clear K
  · (first | exact trivial | omega | (simp only [In64] at *; omega) | (simp [In64] at *; omega) | (simp_all; done) | skip)
  refine qa ?_
  refine hk_cond rfl (fun hC1 => ?_) (fun hC1 => ?_)
  · (try simp only [nhs] at hC1)
    refine qm ?_
    refine hk_region fun K hK => runs_eval tab_ok ?_
    simp only [ev0, evA, evB, evP, fl, gp, tab, simprocAttr, reduceCtorEq, reduceIte]
    refine fin_stop ?_ (runs_call (b := false) (hsp) rfl (by simp only [callA, peekList, peekG, peekS, List.map_cons, List.map_nil, List.append_nil, enA, ev0, evA, evB, evP, fl, gp, tab, simprocAttr, reduceCtorEq, reduceIte, List.drop_zero, ol_drop, ol_take, take_len, ol_allP, il_all, il_length, List.length_replicate, List.take_replicate, Nat.min_self]; rfl) rfl (by simp only [dstOk, Nat.reduceLT]) ?_ (runs_eval tab_ok ?_))
    · (first | exact trivial | omega | (simp only [In64] at *; omega) | (simp [In64] at *; omega) | (simp_all; done) | skip)
    · (first | exact trivial | omega | (simp only [In64] at *; omega) | (simp [In64] at *; omega) | (simp_all; done) | skip)
    simp only [ev0, evA, evB, evP, fl, gp, tab, simprocAttr, reduceCtorEq, reduceIte]
    refine fin_run ?_ (hK _ ?_) <;> clear hK <;> clear K
    · (first | exact trivial | omega | (simp only [In64] at *; omega) | (simp [In64] at *; omega) | (simp_all; done) | skip)
    refine qa (qm ?_)
    refine hk_region fun K hK => runs_eval tab_ok ?_
    simp only [ev0, evA, evB, evP, fl, gp, tab, simprocAttr, reduceCtorEq, reduceIte, binA.eq_def, Option.map_some]
    refine fin_run trivial (hK _ ?_) <;> clear hK <;> clear K
    refine qa (qk (qb ?_))
    simp only [Tryd.results129, PostG, endG, rvsA, rvA, mkTup, ev0, evA, evB, evP, fl, gp, tab, simprocAttr, reduceCtorEq, reduceIte]
    all_goals (exact ⟨[0, 1, 2, 3, 4, 5, 6, 7, 8, 9, 10, 11, 12, 13], rfl, rfl, by simp only [leq, leA, ev0, evA, evB, evP, fl, gp, tab, simprocAttr, reduceCtorEq, reduceIte] <;> first | trivial | exact ⟨⟨by rw [hlS.2 _ rfl], all_up (by decide) hlS.1⟩, rfl⟩ | trace_state⟩)
  · (try simp only [nhs] at hC1)
    omega
set_option maxHeartbeats 8000000 in
set_option maxRecDepth 20000 in
theorem vstep (p : Prot σ) (h : GT n m n e) (h' : GT N M N d) (L : List Nat) (hL : L = gl n (op m n) e n) {rec : Loop} {lN : List AV} (hlS : lN.all (sc1 6) = true ∧ ∀ π : List Nat, π.take 6 = [0, 1, 2, 3, 4, 5] → lN.map (ren1 π) = lN) (hokx : ∀ φ, Hmo n (op m n) N (op M N) φ → p.okx (.list (il (tbm n φ))))
    (x : Nat) (r t : List Nat) (i : σ) (hx : L.getD t.length 0 = x) (htl : t.length < L.length) (hi : p.ok i)
    (IH : ∀ y, y < N → ∀ i, p.ok i → NextV p n m e N M d L rec lN r (t ++ [y]) i) : NextV p n m e N M d L rec lN (x :: r) t i := by
  have hn := h.2.1.big
  have hN := h'.2.1.big
  have hpos : 0 < n := h.2.1.pos
  have hll := gl_len n (op m n) e n
  rw [← hL] at hll
  have hLlt := gl_lt n (op m n) e n
  rw [← hL] at hLlt
  have hxn : x < n := by rw [← hx]; exact hLlt _ (by simp [List.getD, List.getElem?_eq_getElem htl])
  have hnt := nl_len t
  have hnL := nl_len L
  have hone := p.ones i hi
  have hox : ∀ y, ∀ v ∈ pls (hsu n (op m n) e N (op M N) d L r t x y), p.okx v := fun y v hv => by
    obtain ⟨w, hw, rfl⟩ := List.mem_map.1 hv
    obtain ⟨φ, hφ, rfl⟩ := hsu_mem w hw
    exact hokx φ hφ
  have hrl := rwd_len (Nat.le_of_lt htl)
  have h00 : foldS p i (pls (hsu n (op m n) e N (op M N) d L r t x 0)) = (i, true) := rfl
  have hL17 := hlS.2 [0, 1, 2, 3, 4, 5, 6, 7, 8, 9, 10, 11, 12, 13] rfl
  have hlS17 : lN.all (sc1 14) = true := all_up (by decide) hlS.1
  have hL9 := hlS.2 [0, 1, 2, 3, 4, 5, 6] rfl
  have hL9' := hlS.2 [0, 1, 2, 3, 4, 5, 6] rfl
  have hL17' := hlS.2 [0, 1, 2, 3, 4, 5, 6, 7, 8, 9, 10, 11, 12, 13] rfl
  have hlS9 : lN.all (sc1 7) = true := all_up (by decide) hlS.1
  unfold NextV
  refine fnq_of (q := 7) tab_ok Tryd.func129 rfl (by kernel_rfl) (by rw [Tryd.ntmps129]; exact Nat.le_add_left 7 _) ?_; rw [Tryd.ntmps129]; simp only [ancs, entA, List.length_cons, List.length_nil, List.cons_append, List.nil_append, Nat.reduceAdd, Nat.zero_add]
  simp only [HNV, List.append_nil, List.cons_append, List.nil_append]
  refine qm ?_
  refine hk_region fun K hK => runs_eval tab_ok ?_
  simp only [ev0, evA, evB, evP, fl, gp, tab, simprocAttr, reduceCtorEq, reduceIte]
  refine fin_run trivial (hK _ ?_) <;> clear hK <;> clear K
  refine qa (qm (qm ?_))
  refine hk_region fun K hK => runs_eval tab_ok ?_
  simp only [ev0, evA, evB, evP, fl, gp, tab, simprocAttr, reduceCtorEq, reduceIte, il_length, hnL]
  refine fin_run ?_ (hK _ ?_) <;> clear hK <;> clear K
  · (first | exact trivial | omega | (simp only [In64] at *; omega) | (simp [In64] at *; omega) | (simp_all; done) | skip)
  refine qa ?_
  refine hk_cond rfl (fun hC1 => ?_) (fun hC1 => ?_)
  · (try simp only [nhs] at hC1)
    omega
  · (try simp only [nhs] at hC1)
    refine qh (qa (qm ?_))
    refine hk_draw mixed (by kernel_rfl) fun K hK => runs_eval tab_ok ?_
    simp only [ev0, evA, evB, evP, fl, gp, tab, simprocAttr, reduceCtorEq, reduceIte, il_get (show t.length < (nl L).length by omega), nl_get htl, hx]
    refine fin_stop ?_ (runs_call (orderOf_c h hxn) rfl rfl rfl (by simp only [dstOk, Nat.reduceLT]) (by repeat (first | exact trivial | constructor)) (runs_eval tab_ok ?_))
    · exact ⟨by omega, by omega⟩
    simp only [ev0, evA, evB, evP, fl, gp, tab, simprocAttr, reduceCtorEq, reduceIte, il_get (show t.length < (nl L).length by omega), nl_get htl, hx]
    refine fin_run ?_ (hK _ ?_) <;> clear hK <;> clear K
    · (first | exact trivial | omega | (simp only [In64] at *; omega) | (simp [In64] at *; omega) | (simp_all; done) | skip)
    refine qa (qm (qm ?_))
    refine hk_region fun K hK => runs_eval tab_ok ?_
    simp only [ev0, evA, evB, evP, fl, gp, tab, simprocAttr, reduceCtorEq, reduceIte]
    refine fin_run ?_ (hK _ ?_) <;> clear hK <;> clear K
    · (first | exact trivial | omega | (simp only [In64] at *; omega) | (simp [In64] at *; omega) | (simp_all; done) | skip)
    refine qa (ql ?_)
    refine hk_loop (ι := Nat) (fun y => ⟨55, [(0, .p (.int .i64 t.length)), (3, .p (.ptr [.int .i64 N, .list (il M)])), (4, .ptr 0 0), (6, .ptr 2 0), (10, .p (.int .i64 (ord n (op m n) e x : Nat))), (35, .p (.int .i64 N)), (36, .p (.int .i64 y))], [.own [.sl 6 0 L.length], .own [.yv 5 lN rec.tmps], .own [.cl 129 [.p (.ptr [.list (il (nl L))]), .p (.ptr [.int .i64 n, .list (il m)]), .p (.ptr [.int .i64 N, .list (il M)]), .ptr 0 0, .ptr 1 0, .ptr 2 0]], .own [.p (p.c4 (foldS p i (pls (hsu n (op m n) e N (op M N) d L r t x y))).1)], .own [.p (p.c51 (foldS p i (pls (hsu n (op m n) e N (op M N) d L r t x y))).1), .p (p.c52 (foldS p i (pls (hsu n (op m n) e N (op M N) d L r t x y))).1)], .lp rec, .own (rwd t L.length), .anc 0 0, .anc 1 1, .anc 2 2, .anc 3 3, .anc 4 4, .anc 5 5, .anc 6 6]⟩) (fun y => y ≤ N ∧ (foldS p i (pls (hsu n (op m n) e N (op M N) d L r t x y))).2 = true) (fun y => N - y) 0 ⟨Nat.zero_le _, rfl⟩ [0, 1, 2, 3, 4, 5, 6, 7, 8, 9, 10, 11, 12, 13] (by simp only [leq, leA, ev0, evA, evB, evP, fl, gp, tab, simprocAttr, reduceCtorEq, reduceIte, h00, hL17, rwd_ren, rwd_sc, hlS17] <;> first | trivial | trace_state) fun y hy => ?_
    obtain ⟨hy1, hy2⟩ := hy
    have hok := foldS_ok p i _ hi (hox y) hy2
    have hsc := @hsu_succ n e N d (op m n) (op M N) L r t x y
    obtain ⟨j, hj⟩ : ∃ j, (foldS p i (pls (hsu n (op m n) e N (op M N) d L r t x y))).1 = j := ⟨_, rfl⟩
    rw [hj] at hok ⊢
    refine qm ?_
    refine hk_region fun K hK => runs_eval tab_ok ?_
    simp only [ev0, evA, evB, evP, fl, gp, tab, simprocAttr, reduceCtorEq, reduceIte]
    refine fin_run trivial (hK _ ?_) <;> clear hK <;> clear K
    refine qa (qm ?_)
    refine hk_cond rfl (fun hC2 => ?_) (fun hC2 => ?_)
    · (try simp only [nhs] at hC2)
      have hyN : y < N := by omega
      have hoy := h'.2.2.ord_pos hyN
      refine qh (qa (qm (ql (qm ?_))))
      refine hk_region fun K hK => runs_eval tab_ok ?_
      simp only [ev0, evA, evB, evP, fl, gp, tab, simprocAttr, reduceCtorEq, reduceIte]
      refine fin_run trivial (hK _ ?_) <;> clear hK <;> clear K
      refine qa (qm ?_)
      refine hk_region fun K hK => runs_eval tab_ok ?_
      simp only [ev0, evA, evB, evP, fl, gp, tab, simprocAttr, reduceCtorEq, reduceIte]
      refine fin_stop trivial (runs_call (orderOf_c h' hyN) rfl rfl rfl (by simp only [dstOk, Nat.reduceLT]) (by repeat (first | exact trivial | constructor)) (runs_eval tab_ok ?_))
      simp only [ev0, evA, evB, evP, fl, gp, tab, simprocAttr, reduceCtorEq, reduceIte]
      refine fin_run ?_ (hK _ ?_) <;> clear hK <;> clear K
      · (first | exact trivial | omega | (simp only [In64] at *; omega) | (simp [In64] at *; omega) | (simp_all; done) | skip)
      refine qa ?_
      refine hk_cond rfl (fun hC3 => ?_) (fun hC3 => ?_)
      · (try simp only [nhs] at hC3)
        have hIH := IH y hyN j hok
        have hto := foldS_on p (b := pls (hsq n (op m n) e N (op M N) d L r (t ++ [y]))) hy2
        rw [hj] at hto
        unfold NextV at hIH
        obtain ⟨B, hB⟩ : ∃ B, (foldS p j (pls (hsq n (op m n) e N (op M N) d L r (t ++ [y])))).2 = B := ⟨_, rfl⟩
        obtain ⟨j2, hj2⟩ : ∃ j2, (foldS p j (pls (hsq n (op m n) e N (op M N) d L r (t ++ [y])))).1 = j2 := ⟨_, rfl⟩
        rw [hB, hj2] at hIH
        have hcn : ((t ++ [y]).length : Int) = (t.length : Int) + 1 := by simp
        rw [hcn] at hIH
        simp only [HNV] at hIH
        refine qm ?_
        refine hk_region fun K hK => runs_eval tab_ok ?_
        simp only [ev0, evA, evB, evP, fl, gp, tab, simprocAttr, reduceCtorEq, reduceIte, rwd_set htl, hrl]
        refine fin_run ?_ (hK _ ?_) <;> clear hK <;> clear K
        · (first | exact trivial | omega | (simp only [In64] at *; omega) | (simp [In64] at *; omega) | (simp_all; done) | skip)
        refine qa (qm ?_)
        refine hk_region fun K hK => runs_eval tab_ok ?_
        simp only [ev0, evA, evB, evP, fl, gp, tab, simprocAttr, reduceCtorEq, reduceIte]
        refine fin_stop ?_ (runs_callQ [0, 1, 2, 3, 4, 5, 6] (hIH) rfl rfl ?_ (by simp only [leA, ev0, evA, evB, evP, fl, gp, tab, simprocAttr, reduceCtorEq, reduceIte, hL9, hL9', rwd_ren, rwd_sc, hlS9]; first | trivial | (simp only [ll_takeL]; first | trivial | (repeat constructor; done)) | (repeat constructor)) (by decide) (by first | rfl | (simp only [List.length_cons, List.length_nil, List.length_append]; decide)) (by first | rfl | (simp [scQ, scA, sc1, mpKeep, notAnc, Blk.spc, opl_sc, hL9, hL9', rwd_ren, rwd_sc, hlS9]; done)) (by simp only [dstOk, Nat.reduceLT]) (runs_eval tab_ok ?_))
        · (first | exact trivial | omega | (simp only [In64] at *; omega) | (simp [In64] at *; omega) | (simp_all; done) | skip)
        · (simp only [argsM, argM1, peekG, peekS, scA, sc1, ren, ren1, List.map_cons, List.map_nil, List.append_nil, List.cons_append, List.nil_append, enA, ev0, evA, evB, evP, fl, gp, tab, simprocAttr, reduceCtorEq, reduceIte]; try trivial)
        simp only [putM, kills, hset, List.take_succ_cons, List.take_zero, List.drop_succ_cons, List.drop_zero, List.range', Blk.ren, ren, ren1, List.map_cons, List.map_nil, List.cons_append, List.nil_append, List.append_nil, List.length_cons, List.length_nil, ev0, evA, evB, evP, fl, gp, tab, simprocAttr, reduceCtorEq, reduceIte, recB_true, hL9, hL9', rwd_ren, rwd_sc, hlS9]
        refine fin_run ?_ (hK _ ?_) <;> clear hK <;> clear K
        · (first | exact trivial | omega | (simp only [In64] at *; omega) | (simp [In64] at *; omega) | (simp_all; done) | skip)
        refine qa ?_
        refine hk_back 6 rfl htl ?_
        refine hk_cond rfl (fun hC4 => ?_) (fun hC4 => ?_)
        · (try simp only [nhs] at hC4)
          subst hC4
          have hm : ord n (op m n) e x % ord N (op M N) d y = 0 := by omega
          rw [if_pos hm] at hsc
          obtain ⟨z, hz⟩ := @hsu_pre n e N d (op m n) (op M N) L r t x (y + 1) (by omega)
          have hfin : foldS p i (pls (hsq n (op m n) e N (op M N) d L (x :: r) t)) = (j2, false) := by
            have e1 : foldS p i (pls (hsu n (op m n) e N (op M N) d L r t x (y + 1))) = (j2, false) := by
              rw [hsc, pls_app, hto, ← hj2, ← hB]
            rw [hz, pls_app, foldS_pre p (by rw [e1]), e1]
          rw [hfin]
          refine qm ?_
          refine hk_region fun K hK => runs_eval tab_ok ?_
          simp only [ev0, evA, evB, evP, fl, gp, tab, simprocAttr, reduceCtorEq, reduceIte]
          refine fin_run trivial (hK _ ?_) <;> clear hK <;> clear K
          refine qa (qk (qe (qb (qb (qe (qb ?_))))))
          simp only [Tryd.results129, PostG, endG, rvsA, rvA, mkTup, ev0, evA, evB, evP, fl, gp, tab, simprocAttr, reduceCtorEq, reduceIte]
          all_goals (exact ⟨[0, 1, 2, 3, 4, 5, 6, 7, 8, 9, 10, 11, 12, 13], rfl, rfl, by simp only [leq, leA, ev0, evA, evB, evP, fl, gp, tab, simprocAttr, reduceCtorEq, reduceIte, hL17, hL17', rwd_ren, rwd_sc, hlS17] <;> first | trivial | trace_state⟩)
        · (try simp only [nhs] at hC4)
          obtain rfl : B = true := by simpa using hC4
          rw [recB_true]
          have hm : ord n (op m n) e x % ord N (op M N) d y = 0 := by omega
          rw [if_pos hm] at hsc
          have e1 : foldS p i (pls (hsu n (op m n) e N (op M N) d L r t x (y + 1))) = (j2, true) := by
            rw [hsc, pls_app, hto, ← hj2, ← hB]
          refine qh (qd (qa ?_))
          refine hk_region fun K hK => runs_eval tab_ok ?_
          simp only [ev0, evA, evB, evP, fl, gp, tab, simprocAttr, reduceCtorEq, reduceIte]
          refine fin_run ?_ (hK _ ?_) <;> clear hK <;> clear K
          · (first | exact trivial | omega | (simp only [In64] at *; omega) | (simp [In64] at *; omega) | (simp_all; done) | skip)
          refine qa ?_
          refine ⟨y + 1, [0, 1, 2, 3, 4, 5, 6, 7, 8, 9, 10, 11, 12, 13], ⟨by omega, by rw [e1]⟩, by omega, ?_⟩
          simp only [leq, leA, ev0, evA, evB, evP, fl, gp, tab, simprocAttr, reduceCtorEq, reduceIte, e1, hL17, hL17', rwd_ren, rwd_sc, hlS17] <;> first | trivial | omega | trace_state
      · (try simp only [nhs] at hC3)
        have hm : ¬ ord n (op m n) e x % ord N (op M N) d y = 0 := by omega
        rw [if_neg hm] at hsc
        have e1 : foldS p i (pls (hsu n (op m n) e N (op M N) d L r t x (y + 1))) = (j, true) := by
          rw [hsc, ← hj, ← hy2]
        refine qh (qd (qa ?_))
        refine hk_region fun K hK => runs_eval tab_ok ?_
        simp only [ev0, evA, evB, evP, fl, gp, tab, simprocAttr, reduceCtorEq, reduceIte]
        refine fin_run ?_ (hK _ ?_) <;> clear hK <;> clear K
        · (first | exact trivial | omega | (simp only [In64] at *; omega) | (simp [In64] at *; omega) | (simp_all; done) | skip)
        refine qa ?_
        refine ⟨y + 1, [0, 1, 2, 3, 4, 5, 6, 7, 8, 9, 10, 11, 12, 13], ⟨by omega, by rw [e1]⟩, by omega, ?_⟩
        simp only [leq, leA, ev0, evA, evB, evP, fl, gp, tab, simprocAttr, reduceCtorEq, reduceIte, e1, hL17, hL17', rwd_ren, rwd_sc, hlS17] <;> first | trivial | omega | trace_state
    · (try simp only [nhs] at hC2)
      obtain rfl : y = N := by omega
      have hfin : foldS p i (pls (hsq n (op m n) e y (op M y) d L (x :: r) t)) = (j, true) := by
        rw [hsu_end, ← hj, ← hy2]
      rw [hfin]
      refine qj (qc (qc (qf (qa (qm ?_)))))
      refine hk_region fun K hK => runs_eval tab_ok ?_
      simp only [ev0, evA, evB, evP, fl, gp, tab, simprocAttr, reduceCtorEq, reduceIte]
      refine fin_run trivial (hK _ ?_) <;> clear hK <;> clear K
      refine qa (qk ?_)
      simp only [Tryd.results129, PostG, endG, rvsA, rvA, mkTup, ev0, evA, evB, evP, fl, gp, tab, simprocAttr, reduceCtorEq, reduceIte]
      all_goals (exact ⟨[0, 1, 2, 3, 4, 5, 6, 7, 8, 9, 10, 11, 12, 13], rfl, rfl, by simp only [leq, leA, ev0, evA, evB, evP, fl, gp, tab, simprocAttr, reduceCtorEq, reduceIte, hL17, hL17', rwd_ren, rwd_sc, hlS17] <;> first | trivial | trace_state⟩)
theorem vnext_c (p : Prot σ) (h : GT n m n e) (h' : GT N M N d) (L : List Nat) (hL : L = gl n (op m n) e n) {rec : Loop} (hrp : rec.params.size = 1) {l lN : List AV} (hY : RoundsV Tryd.prog p rec l) (hokx : ∀ φ, Hmo n (op m n) N (op M N) φ → p.okx (.list (il (tbm n φ))))
    (hl : l.all (sc1 3) = true) (hlN : l.map (ren1 [3, 4, 5]) = lN) : ∀ (r t : List Nat) (i : σ), t.length ≤ L.length → L.drop t.length = r → (∀ y ∈ t, y < N) → p.ok i → NextV p n m e N M d L rec lN r t i
  | [], t, i, h1, h2, h3, hi => by
    have htl : t.length = L.length := by
      have := congrArg List.length h2
      simp at this; omega
    by_cases hex : ∃ φ, Ext n (op m n) N (op M N) L t φ
    · exact vleaf1 p h h' L hL hrp hY hokx hl hlN t i htl h3 hi hex
    · exact vleaf2 p h h' L hL hrp hY hokx hl hlN t i htl h3 hi hex
  | x :: r, t, i, h1, h2, h3, hi => by
    have htl : t.length < L.length := by
      have := congrArg List.length h2
      simp at this; omega
    have hd : L.drop t.length = L[t.length] :: L.drop (t.length + 1) := List.drop_eq_getElem_cons htl
    rw [h2] at hd
    obtain ⟨e1, e2⟩ := List.cons.inj hd
    refine vstep p h h' L hL (fixV hl hlN) hokx x r t i (by simp [List.getD, List.getElem?_eq_getElem htl, e1]) htl hi fun y hy j hj => ?_
    exact vnext_c p h h' L hL hrp hY hokx hl hlN r (t ++ [y]) j (by simp; omega) (by rw [List.length_append]; exact e2.symm) (fun z hz => by
      rcases List.mem_append.1 hz with hz | hz
      · exact h3 z hz
      · have : z = y := by simpa using hz
        omega) hj

set_option maxHeartbeats 8000000 in
set_option maxRecDepth 20000 in
theorem veach_c (p : Prot σ) (h : GT n m n e) (h' : GT N M N d) (L : List Nat) (hL : L = gl n (op m n) e n) {rec : Loop} (hrp : rec.params.size = 1) {l : List AV} (hY : RoundsV Tryd.prog p rec l) (hokx : ∀ φ, Hmo n (op m n) N (op M N) φ → p.okx (.list (il (tbm n φ))))
    (hl : l.all (sc1 3) = true) (i : σ) (hi : p.ok i) {j : σ} {b : Bool} (hf : foldS p i (pls (hsq n (op m n) e N (op M N) d L L [])) = (j, b)) :
    FnQ Tryd.prog 3 79 [.p (gp n m), .p (gp N M), .yv 2 l rec.tmps] (HV p i (.lp rec)) (.p (.tup [])) (HV p j (.lp (recB b rec))) := by
  have hlN : l.map (ren1 [3, 4, 5]) = l.map (ren1 [3, 4, 5]) := rfl
  have hNx := vnext_c p h h' L hL hrp hY hokx hl hlN L [] i (Nat.zero_le _) rfl (fun y hy => by simp at hy) hi
  unfold NextV at hNx
  rw [hf] at hNx
  have hc0 : ((([] : List Nat).length : Nat) : Int) = 0 := rfl
  rw [hc0] at hNx
  have hbk : ∀ ks : List Nat, ks.getD 3 0 = 0 → ks.getD 4 0 = 1 → ks.getD 5 0 = 2 → (l.map (ren1 [3, 4, 5])).map (ren1 ks) = l := fun ks h0 h1 h2 => backV h0 h1 h2 hl
  have hlS := fixV hl hlN
  generalize l.map (ren1 [3, 4, 5]) = lN at hNx hbk hlS
  simp only [HNV] at hNx
  have hL9 := hbk [11, 8, 12, 0, 1, 2, 10] rfl rfl rfl
  have hlS9 : lN.all (sc1 7) = true := all_up (by decide) hlS.1
  have hll := gl_len n (op m n) e n
  have hn := h.2.1.big
  rw [← hL] at hll
  have hrw : List.replicate (List.replicate L.length (AV.p (.int .i64 0))).length AV.dead = rwd [] L.length := by simp [rwd, nl, il, opl]
  have hnL := nl_len L
  have hgn := gens_c h
  rw [← hL] at hgn
  have hone := p.ones i hi
  refine fnq_of (q := 3) tab_ok Tryd.func79 rfl (by kernel_rfl) (by rw [Tryd.ntmps79]; exact Nat.le_add_left 3 _) ?_; rw [Tryd.ntmps79]; simp only [ancs, entA, List.length_cons, List.length_nil, List.cons_append, List.nil_append, Nat.reduceAdd, Nat.zero_add]
  simp only [HV, List.append_nil, List.cons_append, List.nil_append]
  refine qm ?_
  refine hk_region fun K hK => runs_eval tab_ok ?_
  simp only [ev0, evA, evB, evP, fl, gp, tab, simprocAttr, reduceCtorEq, reduceIte]
  refine fin_run ?_ (hK _ ?_) <;> clear hK <;> clear K
  · (first | exact trivial | omega | (simp only [In64] at *; omega) | (simp [In64] at *; omega) | (simp_all; done) | skip)
  refine qa (qm ?_)
  refine hk_region fun K hK => runs_eval tab_ok ?_
  simp only [ev0, evA, evB, evP, fl, gp, tab, simprocAttr, reduceCtorEq, reduceIte]
  refine fin_stop trivial (runs_call (hgn) rfl rfl rfl (by simp only [dstOk, Nat.reduceLT]) (by repeat (first | exact trivial | constructor)) (runs_eval tab_ok ?_))
  simp only [ev0, evA, evB, evP, fl, gp, tab, simprocAttr, reduceCtorEq, reduceIte]
  refine fin_run ?_ (hK _ ?_) <;> clear hK <;> clear K
  · (first | exact trivial | omega | (simp only [In64] at *; omega) | (simp [In64] at *; omega) | (simp_all; done) | skip)
  refine qa (qm ?_)
  refine hk_region fun K hK => runs_eval tab_ok ?_
  simp only [ev0, evA, evB, evP, fl, gp, tab, simprocAttr, reduceCtorEq, reduceIte]
  refine fin_run ?_ (hK _ ?_) <;> clear hK <;> clear K
  · rw [hnL]; exact ⟨by omega, by omega, by omega, by omega⟩
  refine qa (qm ?_)
  refine hk_region fun K hK => runs_eval tab_ok ?_
  simp only [ev0, evA, evB, evP, fl, gp, tab, simprocAttr, reduceCtorEq, reduceIte]
  refine fin_run ?_ (hK _ ?_) <;> clear hK <;> clear K
  · (first | exact trivial | omega | (simp only [In64] at *; omega) | (simp [In64] at *; omega) | (simp_all; done) | skip)
  refine qa (qm ?_)
  refine hk_freeze 9 rfl rfl ?_
  refine hk_freeze 6 rfl rfl ?_
  refine hk_freeze 7 rfl rfl ?_
  refine hk_forget 10 rfl ?_
  simp only [hset, hrw, hnL]
  refine hk_pure 6 rfl (Nat.zero_le _) ?_
  refine hk_pure 3 rfl (Nat.zero_le _) ?_
  refine hk_pure 4 rfl (Nat.zero_le _) ?_
  refine hk_region fun K hK => runs_eval tab_ok ?_
  simp only [ev0, evA, evB, evP, fl, gp, tab, simprocAttr, reduceCtorEq, reduceIte]
  refine fin_stop ?_ (runs_op (makeCl_does rfl rfl) rfl (by simp only [dstOk, Nat.reduceLT]) (runs_eval tab_ok ?_))
  · (first | exact trivial | omega | (simp only [In64] at *; omega) | (simp [In64] at *; omega) | (simp_all; done) | skip)
  simp only [ev0, evA, evB, evP, fl, gp, tab, simprocAttr, reduceCtorEq, reduceIte]
  refine fin_run ?_ (hK _ ?_) <;> clear hK <;> clear K
  · (first | exact trivial | omega | (simp only [In64] at *; omega) | (simp [In64] at *; omega) | (simp_all; done) | skip)
  refine qa ?_
  refine hk_region fun K hK => runs_eval tab_ok ?_
  simp only [ev0, evA, evB, evP, fl, gp, tab, simprocAttr, reduceCtorEq, reduceIte]
  refine fin_stop ?_ (runs_callQ [11, 8, 12, 0, 1, 2, 10] (hNx) rfl rfl ?_ (by simp only [leA, ev0, evA, evB, evP, fl, gp, tab, simprocAttr, reduceCtorEq, reduceIte, hL9, rwd_ren, rwd_sc, hlS9]; first | trivial | (simp only [ll_takeL]; first | trivial | (repeat constructor; done)) | (repeat constructor)) (by decide) (by first | rfl | (simp only [List.length_cons, List.length_nil, List.length_append]; decide)) (by first | rfl | (simp [scQ, scA, sc1, mpKeep, notAnc, Blk.spc, opl_sc, hL9, rwd_ren, rwd_sc, hlS9]; done)) (by simp only [dstOk, Nat.reduceLT]) (runs_eval tab_ok ?_))
  · (first | exact trivial | omega | (simp only [In64] at *; omega) | (simp [In64] at *; omega) | (simp_all; done) | skip)
  · (simp only [argsM, argM1, peekG, peekS, scA, sc1, ren, ren1, List.map_cons, List.map_nil, List.append_nil, List.cons_append, List.nil_append, enA, ev0, evA, evB, evP, fl, gp, tab, simprocAttr, reduceCtorEq, reduceIte]; try trivial)
  simp only [putM, kills, hset, List.take_succ_cons, List.take_zero, List.drop_succ_cons, List.drop_zero, List.range', Blk.ren, ren, ren1, List.map_cons, List.map_nil, List.cons_append, List.nil_append, List.append_nil, List.length_cons, List.length_nil, ev0, evA, evB, evP, fl, gp, tab, simprocAttr, reduceCtorEq, reduceIte, hL9, rwd_ren, rwd_sc, hlS9]
  refine fin_run ?_ (hK _ ?_) <;> clear hK <;> clear K
  · (first | exact trivial | omega | (simp only [In64] at *; omega) | (simp [In64] at *; omega) | (simp_all; done) | skip)
  simp only [Tryd.results79, PostG, endG, rvsA, rvA, mkTup, ev0, evA, evB, evP, fl, gp, tab, simprocAttr, reduceCtorEq, reduceIte]
  all_goals (exact ⟨[0, 1, 2, 3, 4, 5], rfl, rfl, by simp only [leq, leA, ev0, evA, evB, evP, fl, gp, tab, simprocAttr, reduceCtorEq, reduceIte] <;> first | trivial | trace_state⟩)
end
end Go.Proofs.YtboadfahlflmhaaDoor

/-
  Walks: the search for an isomorphism. Conditions: none.
-/
set_option linter.all false
namespace Go.Pv
open Go.RowKit
/-- The first that is asked. -/
def prI (f : PV → Bool) (ox : List Int → Prop) : Prot (Option (List Int)) where
  c4 i := match i with
    | none => .nil
    | some v => .list (il v)
  c51 _ := .int .i64 0
  c52 _ := .int .i64 0
  R _ := []
  go _ x := !f x
  nx i x := if f x then (match x with | .list l => some (l.map Go.Proofs.YtboadfahlflmhaaDoor.pvi) | _ => none) else i
  ok i := i = none
  okx x := ∃ v, x = .list (il v) ∧ ox v
  ok_nx i x h _ hg := by
    have hf : f x = false := by simpa using hg
    simp only [hf]; exact h
  ones _ _ := rfl
end Go.Pv
namespace Go.Proofs.YtboadfahlflmhaaDoor
open Go.Pv

section
variable {n e N d : Nat} {m M : List Int} {σ : Type}
theorem prI_nx {f : PV → Bool} {ox : List Int → Prop} {v : List Int} (h : f (.list (il v)) = true) (i : Option (List Int)) : (prI f ox).nx i (.list (il v)) = some v := by
  show (if f (.list (il v)) = true then _ else _) = _
  rw [if_pos h]
  show some ((il v).map pvi) = _
  rw [pvi_il]
theorem prI_nn {f : PV → Bool} {ox : List Int → Prop} {x : PV} (h : f x = false) (i : Option (List Int)) : (prI f ox).nx i x = i := by
  show (if f x = true then _ else _) = _
  rw [h]; rfl
theorem foldI_yes (n : Nat) (ox : List Int → Prop) : ∀ W : List (List Int), (∃ w ∈ W, onto1 w n) → ∃ w ∈ W, onto1 w n ∧ foldS (prI (fA n) ox) none (pls W) = (some w, false)
  | [], h => by obtain ⟨w, hw, _⟩ := h; cases hw
  | w :: W, h => by
    by_cases ho : onto1 w n
    · refine ⟨w, List.mem_cons_self .., ho, ?_⟩
      have hw : fA n (.list (il w)) = true := by rw [fA_il]; exact decide_eq_true ho
      show foldS _ _ (.list (il w) :: pls W) = _
      unfold foldS
      have hg : (prI (fA n) ox).go none (.list (il w)) = false := by show (!fA n _) = false; rw [hw]; rfl
      rw [hg, prI_nx hw]; rfl
    · obtain ⟨w', hw', ho'⟩ := h
      have hm : w' ∈ W := by
        rcases List.mem_cons.1 hw' with rfl | h
        · exact absurd ho' ho
        · exact h
      obtain ⟨u, hu, hu2, hu3⟩ := foldI_yes n ox W ⟨w', hm, ho'⟩
      refine ⟨u, List.mem_cons_of_mem _ hu, hu2, ?_⟩
      have hw : fA n (.list (il w)) = false := by rw [fA_il]; exact decide_eq_false ho
      show foldS _ _ (.list (il w) :: pls W) = _
      unfold foldS
      have hg : (prI (fA n) ox).go none (.list (il w)) = true := by show (!fA n _) = true; rw [hw]; rfl
      rw [hg, if_pos rfl, prI_nn hw]
      exact hu3

/-- How many things have each order. -/
def cnt1 (n : Nat) (f : Nat → Nat → Nat) (e j k : Nat) : Int := ((mem j fun b => decide (ord n f e b = k)).length : Nat)
theorem cnt1_succ (f : Nat → Nat → Nat) (j k : Nat) : cnt1 n f e (j + 1) k = if k = ord n f e j then cnt1 n f e j (ord n f e j) + 1 else cnt1 n f e j k := by
  unfold cnt1 mem
  rw [List.range_succ, List.filter_append]
  by_cases hk : k = ord n f e j
  · subst hk
    simp
  · have : ¬ ord n f e j = k := fun h => hk h.symm
    simp [hk, this]
theorem Isom.cnt {f g : Nat → Nat → Nat} {φ : Nat → Nat} (G : Grp n f e) (K : Grp N g d) (h : Isom n f N g φ) (k : Nat) : cnt1 n f e n k = cnt1 N g d N k := by
  obtain ⟨h1, h2, h3⟩ := isom_iff.1 h
  subst h2
  unfold cnt1
  have ho : ∀ a, a < n → ord n g d (φ a) = ord n f e a := fun a ha => by
    refine Nat.dvd_antisymm (h1.ord G K ha) ?_
    -- the order of a divides that of its image
    rw [← G.pw_eq_one ha]
    refine h.inj (G.pw_lt ha _) G.el ?_
    rw [h1.pw G K ha, K.pw_ord (h1.lt a ha), h1.one G K]
  refine congrArg _ (mem_bij φ (fun x hx hp => ⟨h1.lt x hx, ?_⟩) (fun x y hx hy _ _ e => h.inj hx hy e) fun y hy hp => ?_)
  · simp only [decide_eq_true_eq] at hp ⊢
    rw [ho x hx, hp]
  · obtain ⟨x, hx, rfl⟩ := h3 y hy
    simp only [decide_eq_true_eq] at hp ⊢
    exact ⟨x, hx, by rw [← ho x hx, hp], rfl⟩
theorem isoc_c (h : GT n m n e) : FnC Tryd.prog 93 [gp n m] (.list (il (rgz (n + 1) (cnt1 n (op m n) e n)))) := by
  have hn := h.2.1.big
  have h0 : (rgz (n + 1) fun _ => (0 : Int)) = rgz (n + 1) (cnt1 n (op m n) e 0) := rfl
  have hc : ((n : Nat) : Int) + 1 = ((n + 1 : Nat) : Int) := rfl
  refine fnc_of tab_ok Tryd.func93 rfl (by kernel_rfl) (by rw [Tryd.ntmps93]; exact Nat.le_add_left 1 _) ?_; rw [Tryd.ntmps93]
  refine qm ?_
  refine hk_region fun K hK => runs_eval tab_ok ?_
  simp only [ev0, evA, evB, evP, fl, gp, tab, simprocAttr, reduceCtorEq, reduceIte]
  refine fin_run ?_ (hK _ ?_) <;> clear hK <;> clear K
  · (first | exact trivial | omega | (simp only [In64] at *; omega) | (simp [In64] at *; omega) | (simp_all; done) | skip)
  refine qa (qm ?_)
  refine hk_region fun K hK => runs_eval tab_ok ?_
  simp only [ev0, evA, evB, evP, fl, gp, tab, simprocAttr, reduceCtorEq, reduceIte, hc, makeSliceA.eq_def, rgz_new]
  refine fin_run ?_ (hK _ ?_) <;> clear hK <;> clear K
  · skip
    exact ⟨⟨by omega, by omega⟩, by omega, by omega, by omega, by omega⟩
  refine qa (qm (qm ?_))
  refine hk_region fun K hK => runs_eval tab_ok ?_
  simp only [ev0, evA, evB, evP, fl, gp, tab, simprocAttr, reduceCtorEq, reduceIte]
  refine fin_run ?_ (hK _ ?_) <;> clear hK <;> clear K
  · (first | exact trivial | omega | (simp only [In64] at *; omega) | (simp [In64] at *; omega) | (simp_all; done) | skip)
  refine qa (ql ?_)
  refine hk_loop (ι := Nat) (fun a => ⟨24, [(1, .ptr 0 0), (3, .sl 1 0 (n + 1)), (10, .p (.int .i64 n)), (11, .p (.int .i64 a))], [.own [.p (.int .i64 n), .p (.list (il m))], .own (ol (rgz (n + 1) (cnt1 n (op m n) e a)))]⟩) (fun a => a ≤ n) (fun a => n - a) 0 (Nat.zero_le _) [0, 1] (by simp only [leq, leA, ev0, evA, evB, evP, fl, gp, tab, simprocAttr, reduceCtorEq, reduceIte] <;> first | trivial | exact ⟨rfl, rfl⟩ | (rw [h0, List.take_length]; done) | trace_state) fun a ha => ?_
  have hrl := rgz_len (n + 1) (cnt1 n (op m n) e a)
  refine qm ?_
  refine hk_region fun K hK => runs_eval tab_ok ?_
  simp only [ev0, evA, evB, evP, fl, gp, tab, simprocAttr, reduceCtorEq, reduceIte]
  refine fin_run trivial (hK _ ?_) <;> clear hK <;> clear K
  refine qa (qm ?_)
  refine hk_cond rfl (fun hC1 => ?_) (fun hC1 => ?_)
  · (try simp only [nhs] at hC1)
    have hal : a < n := by omega
    have hol : ord n (op m n) e a < n + 1 := by have := (h.2.2.ord_spec hal).2.1; omega
    have hg := rgz_get (g := cnt1 n (op m n) e a) hol
    have hse : (rgz (n + 1) (cnt1 n (op m n) e a)).set (ord n (op m n) e a) (cnt1 n (op m n) e a (ord n (op m n) e a) + 1) = rgz (n + 1) (cnt1 n (op m n) e (a + 1)) := by
      rw [rgz_set]
      exact rgz_congr fun k hk => (cnt1_succ (op m n) a k).symm
    have hcb : cnt1 n (op m n) e a (ord n (op m n) e a) ≤ n := by
      unfold cnt1 mem
      have h1 := List.length_filter_le (fun b => decide (ord n (op m n) e b = ord n (op m n) e a)) (List.range a)
      rw [List.length_range] at h1
      omega
    have hc0 : 0 ≤ cnt1 n (op m n) e a (ord n (op m n) e a) := Int.natCast_nonneg _
    refine qh (qa (qm (ql (qm ?_))))
    refine hk_region fun K hK => runs_eval tab_ok ?_
    simp only [ev0, evA, evB, evP, fl, gp, tab, simprocAttr, reduceCtorEq, reduceIte]
    refine fin_run trivial (hK _ ?_) <;> clear hK <;> clear K
    refine qa ?_
    refine hk_region fun K hK => runs_eval tab_ok ?_
    simp only [ev0, evA, evB, evP, fl, gp, tab, simprocAttr, reduceCtorEq, reduceIte, ol_length, hrl, ol_get (show ord n (op m n) e a < (rgz (n + 1) (cnt1 n (op m n) e a)).length by omega), hg, ol_set, hse]
    refine fin_stop ?_ (runs_call (orderOf_c h hal) rfl rfl rfl (by simp only [dstOk, Nat.reduceLT]) (by repeat (first | exact trivial | constructor)) (runs_eval tab_ok ?_))
    · (first | exact trivial | omega | (simp only [In64] at *; omega) | (simp [In64] at *; omega) | (simp_all; done) | skip)
    simp only [ev0, evA, evB, evP, fl, gp, tab, simprocAttr, reduceCtorEq, reduceIte, ol_length, hrl, ol_get (show ord n (op m n) e a < (rgz (n + 1) (cnt1 n (op m n) e a)).length by omega), hg, ol_set, hse]
    refine fin_run ?_ (hK _ ?_) <;> clear hK <;> clear K
    · (first | exact trivial | omega | (simp only [In64] at *; omega) | (simp [In64] at *; omega) | (simp_all; done) | skip)
    refine qd (qa ?_)
    refine hk_region fun K hK => runs_eval tab_ok ?_
    simp only [ev0, evA, evB, evP, fl, gp, tab, simprocAttr, reduceCtorEq, reduceIte]
    refine fin_run ?_ (hK _ ?_) <;> clear hK <;> clear K
    · (first | exact trivial | omega | (simp only [In64] at *; omega) | (simp [In64] at *; omega) | (simp_all; done) | skip)
    refine qa ?_
    refine ⟨a + 1, [0, 1], by omega, by omega, ?_⟩
    simp only [leq, leA, ev0, evA, evB, evP, fl, gp, tab, simprocAttr, reduceCtorEq, reduceIte] <;> first | trivial | omega | trace_state
  · (try simp only [nhs] at hC1)
    obtain rfl : a = n := by omega
    refine hk_seal 3 1 (w := rgz (a + 1) (cnt1 a (op m a) e a)) (by rw [hrl]; rfl) rfl ?_
    refine qj (qc (qc (qf (qa (qm ?_)))))
    refine hk_region fun K hK => runs_eval tab_ok ?_
    simp only [ev0, evA, evB, evP, fl, gp, tab, simprocAttr, reduceCtorEq, reduceIte]
    refine fin_run trivial (hK _ ?_) <;> clear hK <;> clear K
    refine qa (qk ?_)
    simp only [Tryd.results93, enA, ev0, evA, evB, evP, fl, gp, tab, simprocAttr, reduceCtorEq, reduceIte]
    all_goals (rfl)

set_option maxHeartbeats 8000000 in
set_option maxRecDepth 20000 in
theorem iso2_c (p : Prot σ) (h : GT n m n e) (h' : GT N M N d) (L : List Nat) (hL : L = gl n (op m n) e n) {rec : Loop} (hrp : rec.params.size = 1) {l : List AV} (hY : RoundsV Tryd.prog p rec l) (hokx : ∀ φ, Hmo n (op m n) N (op M N) φ → p.okx (.list (il (tbm n φ))))
    (hl : l.all (sc1 3) = true) (i : σ) (hi : p.ok i) {j : σ} {b : Bool} (hf : foldS p i (pls (hsq n (op m n) e N (op M N) d L L [])) = (j, b)) :
    FnQ Tryd.prog 3 95 [.yv 2 l rec.tmps, .p (.ptr [.int .i64 n, .list (il m)]), .p (.ptr [.int .i64 N, .list (il M)])] (HV p i (.lp rec)) (.p (.tup [])) (HV p j (.lp (recB b rec))) := by
  have hE := veach_c p h h' L hL hrp hY hokx hl i hi hf
  have hl3 : l.map (ren1 [0, 1, 2]) = l := (List.map_congr_left fun x hx => ren1_range (n := 3) (List.all_eq_true.1 hl x hx)).trans (List.map_id _)
  unfold HV at hE ⊢
  refine fnq_of (q := 3) tab_ok Tryd.func95 rfl (by kernel_rfl) (by rw [Tryd.ntmps95]; exact Nat.le_add_left 3 _) ?_; rw [Tryd.ntmps95]; simp only [ancs, entA, List.length_cons, List.length_nil, List.cons_append, List.nil_append, Nat.reduceAdd, Nat.zero_add]
  refine hk_region fun K hK => runs_eval tab_ok ?_
  simp only [ev0, evA, evB, evP, fl, gp, tab, simprocAttr, reduceCtorEq, reduceIte]
  refine fin_stop ?_ (runs_callQ [0, 1, 2] (hE) rfl rfl ?_ (by simp only [leA, ev0, evA, evB, evP, fl, gp, tab, simprocAttr, reduceCtorEq, reduceIte]; first | trivial | (simp only [ll_takeL]; first | trivial | (repeat constructor; done)) | (repeat constructor)) (by decide) (by first | rfl | (simp only [List.length_cons, List.length_nil, List.length_append]; decide)) (by first | rfl | (simp [scQ, scA, sc1, mpKeep, notAnc, Blk.spc, opl_sc]; done)) (by simp only [dstOk, Nat.reduceLT]) (runs_eval tab_ok ?_))
  · (first | exact trivial | omega | (simp only [In64] at *; omega) | (simp [In64] at *; omega) | (simp_all; done) | skip)
  · (simp only [argsM, argM1, peekG, peekS, scA, sc1, ren, ren1, List.map_cons, List.map_nil, List.append_nil, List.cons_append, List.nil_append, enA, ev0, evA, evB, evP, fl, gp, tab, simprocAttr, reduceCtorEq, reduceIte]; try trivial)
    exact ⟨by rw [hl3], all_up (by decide) hl⟩
  simp only [putM, kills, hset, List.take_succ_cons, List.take_zero, List.drop_succ_cons, List.drop_zero, List.range', Blk.ren, ren, ren1, List.map_cons, List.map_nil, List.cons_append, List.nil_append, List.append_nil, List.length_cons, List.length_nil, ev0, evA, evB, evP, fl, gp, tab, simprocAttr, reduceCtorEq, reduceIte]
  refine fin_run ?_ (hK _ ?_) <;> clear hK <;> clear K
  · (first | exact trivial | omega | (simp only [In64] at *; omega) | (simp [In64] at *; omega) | (simp_all; done) | skip)
  simp only [Tryd.results95, PostG, endG, rvsA, rvA, mkTup, ev0, evA, evB, evP, fl, gp, tab, simprocAttr, reduceCtorEq, reduceIte]
  all_goals (exact ⟨[0, 1, 2, 3, 4, 5], rfl, rfl, by simp only [leq, leA, ev0, evA, evB, evP, fl, gp, tab, simprocAttr, reduceCtorEq, reduceIte] <;> first | trivial | trace_state⟩)
end
end Go.Proofs.YtboadfahlflmhaaDoor
