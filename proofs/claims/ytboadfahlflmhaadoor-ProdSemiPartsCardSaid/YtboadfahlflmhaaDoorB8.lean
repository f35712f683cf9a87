/-
  Texts of this proof, one behind the other: what each says stands at its head. Conditions: none.
-/
import Derived.Test.YtboadfahlflmhaaDoorB7
import Derived.Test.YtboadfahlflmhaaDoorB6
import Derived.Test.YtboadfahlflmhaaDoorB4
import Derived.Test.YtboadfahlflmhaaDoorRows
import Derived.ProofKit
import Derived.LaidMore
import Derived.OpenShut
import Derived.Stop.Joined

/-
  Walks: an isomorphism is found just where there is one. Conditions: none.
-/
set_option linter.all false
namespace Go.Proofs.YtboadfahlflmhaaDoor
open Go.Pv

section
variable {n e N d : Nat} {m M : List Int}
set_option maxHeartbeats 8000000 in
set_option maxRecDepth 20000 in
theorem iso_run (h : GT n m n e) (h' : GT n M n d) (hm : m.length ≤ 1000000000000000) (hM : M.length ≤ 1000000000000000) (hcn : rgz (n + 1) (cnt1 n (op m n) e n) = rgz (n + 1) (cnt1 n (op M n) d n)) {j : Option (List Int)} {b : Bool}
    (hf : foldS (prI (fA n) (oA n)) none (pls (hmW n m e n M d)) = (j, b)) (hj : (j = none ∧ b = true) ∨ (∃ v, j = some v ∧ b = false)) :
    FnC Tryd.prog 29 [gp n m, gp n M] (.tup [.list (il (j.getD [])), fl (if b then 6 else 0, 0)]) := by
  have hb := homBoth_c n m n M hm hM
  rw [tg_ok h h'] at hb
  have hn := h.2.1.big
  have hl1 := rgz_len (n + 1) (cnt1 n (op m n) e n)
  have hl2 := rgz_len (n + 1) (cnt1 n (op M n) d n)
  refine fnc_ofR tab_ok Tryd.func29 rfl (by kernel_rfl) (by rw [Tryd.ntmps29]; exact Nat.le_add_left 2 _) ?_; rw [Tryd.ntmps29]
  refine hr_seqH ?_
  refine hk_region fun K hK => runs_eval tab_ok ?_
  simp only [ev0, evA, evB, evP, fl, gp, tab, simprocAttr, reduceCtorEq, reduceIte]
  refine fin_run ?_ (hK _ ?_) <;> clear hK <;> clear K
  · (first | exact trivial | omega | (simp only [In64] at *; omega) | (simp [In64] at *; omega) | (simp_all; done) | skip)
  refine qa (hr_seqH (qm ?_))
  refine hk_region fun K hK => runs_eval tab_ok ?_
  simp only [ev0, evA, evB, evP, fl, gp, tab, simprocAttr, reduceCtorEq, reduceIte]
  refine fin_stop trivial (runs_call (hb) rfl rfl rfl (by simp only [dstOk, Nat.reduceLT]) (by repeat (first | exact trivial | constructor)) (runs_eval tab_ok ?_))
  simp only [ev0, evA, evB, evP, fl, gp, tab, simprocAttr, reduceCtorEq, reduceIte]
  refine fin_run ?_ (hK _ ?_) <;> clear hK <;> clear K
  · (first | exact trivial | omega | (simp only [In64] at *; omega) | (simp [In64] at *; omega) | (simp_all; done) | skip)
  refine qa (qm ?_)
  refine hk_region fun K hK => runs_eval tab_ok ?_
  simp only [ev0, evA, evB, evP, fl, gp, tab, simprocAttr, reduceCtorEq, reduceIte]
  refine fin_run ?_ (hK _ ?_) <;> clear hK <;> clear K
  · (first | exact trivial | omega | (simp only [In64] at *; omega) | (simp [In64] at *; omega) | (simp_all; done) | skip)
  refine qa ?_
  refine hk_cond rfl (fun hC1 => ?_) (fun hC1 => ?_)
  · (try simp only [nhs] at hC1)
    simp at hC1
  · (try simp only [nhs] at hC1)
    refine qh (qa (hr_seq (hr_seqH ?_)))
    refine hk_region fun K hK => runs_eval tab_ok ?_
    simp only [ev0, evA, evB, evP, fl, gp, tab, simprocAttr, reduceCtorEq, reduceIte]
    refine fin_run ?_ (hK _ ?_) <;> clear hK <;> clear K
    · (first | exact trivial | omega | (simp only [In64] at *; omega) | (simp [In64] at *; omega) | (simp_all; done) | skip)
    refine qa ?_
    refine hr_cond rfl (fun hC2 => ?_) (fun hC2 => ?_)
    · (try simp only [nhs] at hC2)
      refine hr_seqH ?_
      refine hk_region fun K hK => runs_eval tab_ok ?_
      simp only [ev0, evA, evB, evP, fl, gp, tab, simprocAttr, reduceCtorEq, reduceIte]
      refine fin_run trivial (hK _ ?_) <;> clear hK <;> clear K
      refine qa (hr_seqH ?_)
      refine hk_draw2 mixed fun K hK => runs2_eval tab_ok ?_
      simp only [evD, ev0, evA, evB, evP, fl, gp, tab, simprocAttr, reduceCtorEq, reduceIte]
      refine fin2_stop trivial (runs2_call (isoc_c h) rfl rfl rfl rfl (by simp only [dstOk, Nat.reduceLT]) (by repeat (first | exact trivial | constructor)) (runs2_eval tab_ok ?_))
      simp only [evD, ev0, evA, evB, evP, fl, gp, tab, simprocAttr, reduceCtorEq, reduceIte]
      refine fin2_stop trivial (runs2_call (isoc_c h') rfl rfl rfl rfl (by simp only [dstOk, Nat.reduceLT]) (by repeat (first | exact trivial | constructor)) (runs2_eval tab_ok ?_))
      simp only [evD, ev0, evA, evB, evP, fl, gp, tab, simprocAttr, reduceCtorEq, reduceIte]
      refine fin2_stop trivial (runs2_call (equal_c (rgz (n + 1) (cnt1 n (op m n) e n)) (rgz (n + 1) (cnt1 n (op M n) d n)) (by omega) (by omega)) rfl rfl rfl rfl (by simp only [dstOk, Nat.reduceLT]) (by repeat (first | exact trivial | constructor)) (runs2_eval tab_ok ?_))
      simp only [evD, ev0, evA, evB, evP, fl, gp, tab, simprocAttr, reduceCtorEq, reduceIte]
      refine fin2_run ?_ (hK _ _ (by first | kernel_rfl | rfl) ?_) <;> clear hK <;> clear K
      · (first | exact trivial | omega | (simp only [In64] at *; omega) | (simp [In64] at *; omega) | (simp_all; done) | skip)
      refine qa ?_
      refine hr_cond rfl (fun hC3 => ?_) (fun hC3 => ?_)
      · (try simp only [nhs] at hC3)
        refine hr_seqH ?_
        refine hk_freeze 0 rfl rfl ?_
        refine hk_freeze 1 rfl rfl ?_
        refine hk_pure 2 rfl (Nat.zero_le _) ?_
        refine hk_pure 3 rfl (Nat.zero_le _) ?_
        simp only [hset, List.drop_zero]
        refine hk_region fun K hK => runs_eval tab_ok ?_
        simp only [ev0, evA, evB, evP, fl, gp, tab, simprocAttr, reduceCtorEq, reduceIte]
        refine fin_run ?_ (hK _ ?_) <;> clear hK <;> clear K
        · (first | exact trivial | omega | (simp only [In64] at *; omega) | (simp [In64] at *; omega) | (simp_all; done) | skip)
        refine qa (hr_block ?_)
        refine hr_cl 31 rfl ?_
        refine hr_range (gs := 31) (pp := 32) (κ := 2) (q := 3) (n := 52) (sl := [(2, .p (.ptr [.int .i64 n, .list (il m)])), (3, .p (.ptr [.int .i64 n, .list (il M)])), (4, .ptr 0 0), (5, .ptr 1 0)]) (Hs0 := HV (prI (fA n) (oA n)) none) (Hf := HV (prI (fA n) (oA n)) j) (b := b) (gf := 95) (cap := [.p (.ptr [.int .i64 n, .list (il m)]), .p (.ptr [.int .i64 n, .list (il M)])]) (rv := .p (.tup [])) [2, 3, 5] rfl rfl
          (fun r0 => by simp only [HV, prI]; simp only [leq, leA, ev0, evA, evB, evP, fl, gp, tab, simprocAttr, reduceCtorEq, reduceIte] <;> first | trivial | trace_state) rfl (by decide) ⟨fun _ => rfl, fun _ _ => rfl⟩ ⟨fun _ => rfl, fun _ _ => rfl⟩ (fun r0 => rfl) rfl rfl (fun r0 r1 => by rcases hj with ⟨rfl, rfl⟩ | ⟨v, rfl, rfl⟩ <;> (simp only [HV, prI]; exact (by first | rfl | (simp [scQ, scA, sc1, mpKeep, notAnc, Blk.spc, opl_sc]; done))))
          (fun rec hr => iso2_c (prI (fA n) (oA n)) h h' _ rfl (by rw [hr.params]; rfl) (fun i x hi hx => yld_of hr (by decide) rfl (by decide) (sl1 := (8, .p x) :: [(2, .p (.ptr [.int .i64 n, .list (il m)])), (3, .p (.ptr [.int .i64 n, .list (il M)])), (4, .ptr 0 0), (5, .ptr 1 0)]) (H0 := HV (prI (fA n) (oA n)) i) (H1 := HV (prI (fA n) (oA n)) (Prot.nx (prI (fA n) (oA n)) i x)) ⟨fun _ => rfl, fun _ _ => rfl⟩ ⟨fun _ => rfl, fun _ _ => rfl⟩ (fun r0 => ?_) (fun r0 => ?_)) (fun φ hφ => ⟨_, rfl, tbm_len n φ, fun k hk => ⟨φ k, hφ.lt k hk, tbm_get hk⟩⟩) rfl none rfl hf) ?_ ?_
        · simp only [HV, prI, ancs, List.cons_append, List.nil_append, Nat.reduceAdd, Nat.zero_add]
          refine hk_region fun K hK => runs_eval tab_ok ?_
          simp only [ev0, evA, evB, evP, fl, gp, tab, simprocAttr, reduceCtorEq, reduceIte]
          refine fin_run trivial (hK _ ?_) <;> clear hK <;> clear K
          refine ⟨rfl, [0, 1, 2, 3, 4, 5], ?_⟩
          simp only [leq, leA, ev0, evA, evB, evP, fl, gp, tab, simprocAttr, reduceCtorEq, reduceIte] <;> first | trivial | trace_state
        · obtain ⟨v, rfl, hvl, hvn⟩ := hx
          have hi : i = none := hi
          subst hi
          have hfv : fA n (.list (il v)) = decide (onto1 v n) := fA_il n v
          have hgo : (prI (fA n) (oA n)).go none (.list (il v)) = !decide (onto1 v n) := by show (!fA n _) = _; rw [hfv]
          rw [hgo]
          have hnx : (prI (fA n) (oA n)).nx none (.list (il v)) = if onto1 v n then some v else none := by
            by_cases ho : onto1 v n
            · rw [if_pos ho]; exact prI_nx (by rw [hfv]; exact decide_eq_true ho) none
            · rw [if_neg ho]; exact prI_nn (by rw [hfv]; exact decide_eq_false ho) none
          rw [hnx]
          simp only [HV, prI, ancs, List.cons_append, List.nil_append, Nat.reduceAdd, Nat.zero_add]
          refine ql (qm ?_)
          refine hk_region fun K hK => runs_eval tab_ok ?_
          simp only [ev0, evA, evB, evP, fl, gp, tab, simprocAttr, reduceCtorEq, reduceIte, makeSliceA.eq_def, hbl_new]
          refine fin_run ?_ (hK _ ?_) <;> clear hK <;> clear K
          · omega
          refine qa (qm (qm ?_))
          refine hk_region fun K hK => runs_eval tab_ok ?_
          simp only [ev0, evA, evB, evP, fl, gp, tab, simprocAttr, reduceCtorEq, reduceIte, il_length, hvl]
          refine fin_run trivial (hK _ ?_) <;> clear hK <;> clear K
          refine qa (ql ?_)
          refine hk_loop (ι := Nat) (fun k => ⟨52, [(4, .ptr 0 0), (5, .ptr 1 0), (8, .p (.list (il v))), (9, .sl 6 0 n), (36, .p (.list (il v))), (37, .p (.int .i64 n)), (38, .p (.int .i64 k))], [.own [.p .nil], .own [.p (.int .i64 0), .p (.int .i64 0)], .lp r0, .anc 0 0, .anc 1 1, .anc 2 2, .own (opl (hbl n (hits v k)))]⟩) (fun k => k ≤ n) (fun k => n - k) 0 (Nat.zero_le _) [0, 1, 2, 3, 4, 5, 6] (by simp only [show hits v 0 = fun _ => false from funext (hits_zero _)]; simp only [leq, leA, ev0, evA, evB, evP, fl, gp, tab, simprocAttr, reduceCtorEq, reduceIte] <;> first | trivial | trace_state) fun k hk => ?_
          refine qm ?_
          refine hk_region fun K hK => runs_eval tab_ok ?_
          simp only [ev0, evA, evB, evP, fl, gp, tab, simprocAttr, reduceCtorEq, reduceIte]
          refine fin_run trivial (hK _ ?_) <;> clear hK <;> clear K
          refine qa (qm ?_)
          refine hk_cond rfl (fun hC4 => ?_) (fun hC4 => ?_)
          · (try simp only [nhs] at hC4)
            have hkl : k < n := by omega
            obtain ⟨y, lv, ev⟩ := hvn k hkl
            refine qh (qa (qm (ql (qm ?_))))
            refine hk_region fun K hK => runs_eval tab_ok ?_
            simp only [ev0, evA, evB, evP, fl, gp, tab, simprocAttr, reduceCtorEq, reduceIte, il_get (show k < v.length by omega), ev]
            refine fin_run ?_ (hK _ ?_) <;> clear hK <;> clear K
            · (first | exact trivial | omega | (simp only [In64] at *; omega) | (simp [In64] at *; omega) | (simp_all; done) | skip)
            refine qa ?_
            refine hk_region fun K hK => runs_eval tab_ok ?_
            simp only [ev0, evA, evB, evP, fl, gp, tab, simprocAttr, reduceCtorEq, reduceIte]
            refine fin_run ?_ (hK _ ?_) <;> clear hK <;> clear K
            · rw [hbl_len]; omega
            refine qd (qa ?_)
            rw [hbl_set]
            refine hk_region fun K hK => runs_eval tab_ok ?_
            simp only [ev0, evA, evB, evP, fl, gp, tab, simprocAttr, reduceCtorEq, reduceIte]
            refine fin_run ?_ (hK _ ?_) <;> clear hK <;> clear K
            · (first | exact trivial | omega | (simp only [In64] at *; omega) | (simp [In64] at *; omega) | (simp_all; done) | skip)
            refine qa ?_
            refine ⟨k + 1, [0, 1, 2, 3, 4, 5, 6], by omega, by omega, ?_⟩
            rw [hbl_congr (fun i' _ => hits_succ (l := v) (by omega) ev i')]
            simp only [leq, leA, ev0, evA, evB, evP, fl, gp, tab, simprocAttr, reduceCtorEq, reduceIte] <;> first | trivial | omega
          · (try simp only [nhs] at hC4)
            have hkn : k = n := by omega
            rw [hkn]
            have hon : decide (ixb n (hits v n) ≥ 0) = decide (¬ onto1 v n) := decide_eq_decide.2 (by
              rw [ixb_iff]
              unfold hits onto1
              rw [List.take_of_length_le (by omega)]
              constructor
              · rintro ⟨z, v1, v2⟩ ho
                exact (of_decide_eq_false v2) (ho.1 z v1)
              · intro ho
                by_cases hh : ∃ z, z < n ∧ ¬ ((z : Nat) : Int) ∈ v
                · obtain ⟨z, v1, v2⟩ := hh
                  exact ⟨z, v1, decide_eq_false v2⟩
                · exact absurd ⟨fun z hz => Classical.byContradiction fun h' => hh ⟨z, hz, h'⟩, hvl⟩ ho)
            refine hk_sealp 9 6 (hbl_all n (hits v n)) (by show AV.sl 6 0 n = AV.sl 6 0 _; rw [hbl_len]) rfl ?_
            refine qj (qc (qc (qf (qa (qm ?_)))))
            refine hk_region fun K hK => runs_eval tab_ok ?_
            simp only [ev0, evA, evB, evP, fl, gp, tab, simprocAttr, reduceCtorEq, reduceIte]
            refine fin_stop trivial (runs_call (containsB_c n (hits v n) (by omega)) rfl rfl rfl (by simp only [dstOk, Nat.reduceLT]) (by repeat (first | exact trivial | constructor)) (runs_eval tab_ok ?_))
            simp only [ev0, evA, evB, evP, fl, gp, tab, simprocAttr, reduceCtorEq, reduceIte, hon]
            refine fin_run trivial (hK _ ?_) <;> clear hK <;> clear K
            refine qa ?_
            refine hk_cond rfl (fun hC5 => ?_) (fun hC5 => ?_)
            · (try simp only [nhs] at hC5)
              have ho : onto1 v n := by simpa using hC5
              simp only [ho, decide_true, Bool.not_true, if_true, Bool.false_eq_true, if_false]
              refine qm ?_
              refine hk_region fun K hK => runs_eval tab_ok ?_
              simp only [ev0, evA, evB, evP, fl, gp, tab, simprocAttr, reduceCtorEq, reduceIte]
              refine fin_run ?_ (hK _ ?_) <;> clear hK <;> clear K
              · (first | exact trivial | omega | (simp only [In64] at *; omega) | (simp [In64] at *; omega) | (simp_all; done) | skip)
              refine qa (qk (qe ?_))
              refine ⟨rfl, [0, 1, 2, 3, 4, 5], ?_⟩
              simp only [leq, leA, ev0, evA, evB, evP, fl, gp, tab, simprocAttr, reduceCtorEq, reduceIte] <;> first | trivial | (simp; done) | trace_state
            · (try simp only [nhs] at hC5)
              have ho : ¬ onto1 v n := by simpa using hC5
              simp only [ho, decide_false, Bool.not_false, if_true, Bool.false_eq_true, if_false]
              refine qh (qd ?_)
              refine ⟨rfl, [0, 1, 2, 3, 4, 5], ?_⟩
              simp only [leq, leA, ev0, evA, evB, evP, fl, gp, tab, simprocAttr, reduceCtorEq, reduceIte] <;> first | trivial | (simp; done) | trace_state
        · intro hbt
          obtain ⟨rfl, _⟩ : j = none ∧ b = true := by
            rcases hj with h1 | ⟨v, _, h2⟩
            · exact h1
            · rw [h2] at hbt; cases hbt
          subst hbt
          simp only [HV, prI, ancs, List.cons_append, List.nil_append, Nat.reduceAdd, Nat.zero_add]
          refine qd (qa (hr_seqH ?_))
          refine hk_region fun K hK => runs_eval tab_ok ?_
          simp only [ev0, evA, evB, evP, fl, gp, tab, simprocAttr, reduceCtorEq, reduceIte]
          refine fin_stop trivial (runs_call (homFlt_c 6 0) rfl rfl rfl (by simp only [dstOk, Nat.reduceLT]) (by repeat (first | exact trivial | constructor)) (runs_eval tab_ok ?_))
          simp only [ev0, evA, evB, evP, fl, gp, tab, simprocAttr, reduceCtorEq, reduceIte]
          refine fin_run ?_ (hK _ ?_) <;> clear hK <;> clear K
          · (first | exact trivial | omega | (simp only [In64] at *; omega) | (simp [In64] at *; omega) | (simp_all; done) | skip)
          refine qa (hr_of_hk (qk ?_))
          simp only [Tryd.results29, enA, ev0, evA, evB, evP, fl, gp, tab, simprocAttr, reduceCtorEq, reduceIte]
          all_goals (rfl)
        · intro hbf
          obtain ⟨v, rfl, _⟩ : ∃ v, j = some v ∧ b = false := by
            rcases hj with ⟨_, h1⟩ | h2
            · rw [h1] at hbf; cases hbf
            · exact h2
          subst hbf
          simp only [HV, prI, ancs, List.cons_append, List.nil_append, Nat.reduceAdd, Nat.zero_add]
          refine qe (qb ?_)
          simp only [Tryd.results29, enA, ev0, evA, evB, evP, fl, gp, tab, simprocAttr, reduceCtorEq, reduceIte]
          all_goals (rfl)
      · (try simp only [nhs] at hC3)
        exact absurd hcn (by simpa using hC3)
    · (try simp only [nhs] at hC2)
      simp at hC2

/-- There is one just where groups are alike. -/
theorem iso_yes (h : GT n m n e) (h' : GT N M N d) (hm : m.length ≤ 1000000000000000) (hM : M.length ≤ 1000000000000000) (hex : ∃ φ, Isom n (op m n) N (op M N) φ) : ∃ φ, Isom n (op m n) N (op M N) φ ∧ FnC Tryd.prog 29 [gp n m, gp N M] (.tup [.list (il (tbm n φ)), fl (0, 0)]) := by
  obtain ⟨χ, hχ⟩ := hex
  obtain ⟨_, h2, _⟩ := isom_iff.1 hχ
  subst h2
  have hcn : rgz (n + 1) (cnt1 n (op m n) e n) = rgz (n + 1) (cnt1 n (op M n) d n) := rgz_congr fun k _ => hχ.cnt h.2.2 h'.2.2 k
  obtain ⟨w, hw, ho, hf⟩ := foldI_yes n (oA n) (hmW n m e n M d) ⟨tbm n χ, (hmW_mem h h' _).2 ⟨χ, hχ.1, rfl⟩, hχ.2⟩
  obtain ⟨φ, hφ, rfl⟩ := (hmW_mem h h' w).1 hw
  exact ⟨φ, ⟨hφ, ho⟩, iso_run h h' hm hM hcn hf (.inr ⟨_, rfl, rfl⟩)⟩
end
end Go.Proofs.YtboadfahlflmhaaDoor

/-
  Walks: prod.Semi where there is a fault. Conditions: none.
-/
set_option linter.all false
namespace Go.Proofs.YtboadfahlflmhaaDoor
open Go.Pv

theorem cmpl_ext {p q r : List Int} {n : Nat} (hp : p.length = n) (hq : q.length = n) (h : ∀ x, x < n → p.getD x 0 = r.getD (hv q x) 0) : p = cmpl q r := by
  apply List.ext_getElem
  · unfold cmpl; rw [List.length_map, hp, hq]
  · intro x h1 h2
    have h3 := h x (by omega)
    unfold hv at h3
    have e1 : p.getD x 0 = p[x] := by simp [List.getD, List.getElem?_eq_getElem h1]
    have e2 : q.getD x 0 = q[x]'(by omega) := by simp [List.getD, List.getElem?_eq_getElem (show x < q.length by omega)]
    rw [e1, e2] at h3
    simp only [cmpl, List.getElem_map]
    exact h3
theorem cmpl_get {q r : List Int} {n x : Nat} (hq : q.length = n) (hx : x < n) : (cmpl q r).getD x 0 = r.getD (hv q x) 0 := by
  unfold cmpl hv
  simp [List.getD, List.getElem?_map, List.getElem?_eq_getElem (show x < q.length by omega)]

set_option maxRecDepth 20000 in
set_option maxHeartbeats 4000000 in
theorem semi_no (N : Int) (m : List Int) (N' : Int) (m' : List Int) (ls : List (List Int)) (hm : m.length ≤ 1000000000000000) (hm' : m'.length ≤ 1000000000000000) (hf : ¬ (psf N m N' m' ls).1 = 0) : FnC Tryd.prog 61 [gp N m, gp N' m', .list (ll ls)] (.tup [gp 0 [], fl (psf N m N' m' ls)]) := by
  refine fnc_of tab_ok Tryd.func61 rfl (by kernel_rfl) (by rw [Tryd.ntmps61]; exact Nat.le_add_left 3 _) ?_; rw [Tryd.ntmps61]
  refine qm ?_
  refine hk_region fun K hK => runs_eval tab_ok ?_
  simp only [ev0, evA, evB, evP, fl, gp, tab, simprocAttr, reduceCtorEq, reduceIte]
  refine fin_run ?_ (hK _ ?_) <;> clear hK <;> clear K
  · (first | exact trivial | omega | (simp only [In64] at *; omega) | (simp [In64] at *; omega) | (simp_all; done) | skip)
  refine qa (qm (qm ?_))
  refine hk_region fun K hK => runs_eval tab_ok ?_
  simp only [ev0, evA, evB, evP, fl, gp, tab, simprocAttr, reduceCtorEq, reduceIte]
  refine fin_run ?_ (hK _ ?_) <;> clear hK <;> clear K
  · (first | exact trivial | omega | (simp only [In64] at *; omega) | (simp [In64] at *; omega) | (simp_all; done) | skip)
  refine qa (ql ?_)
  refine hk_loop (ι := Nat) (fun i => ⟨200, [(2, .p (.list (ll ls))), (3, .ptr 0 0), (4, .ptr 1 0), (6, .ptr 2 0), (7, .ptr 3 0), (29, .p (.nn [gp N m, gp N' m'])), (30, .p (.int .i64 2)), (31, .p (.int .i64 i))], [.own [.p (.int .i64 N), .p (.list (il m))], .own [.p (.int .i64 N'), .p (.list (il m'))], .own [.p (.int .i64 0), .p .nil], .own [.p (.int .i64 0), .p (.int .i64 0)]]⟩) (fun i => i ≤ 2 ∧ (i ≥ 1 → (gf N m).1 = 0) ∧ (i ≥ 2 → (gf N' m').1 = 0)) (fun i => 2 - i) 0 ⟨by omega, by omega, by omega⟩ [0, 1, 2, 3] (by simp only [leq, leA, ev0, evA, evB, evP, fl, gp, tab, simprocAttr, reduceCtorEq, reduceIte] <;> trivial) fun i hi => ?_
  obtain ⟨hi1, hi2, hi3⟩ := hi
  refine qm ?_
  refine hk_region fun K hK => runs_eval tab_ok ?_
  simp only [ev0, evA, evB, evP, fl, gp, tab, simprocAttr, reduceCtorEq, reduceIte]
  refine fin_run trivial (hK _ ?_) <;> clear hK <;> clear K
  refine qa (qm ?_)
  refine hk_cond rfl (fun hC1 => ?_) (fun hC1 => ?_)
  · (try simp only [nhs] at hC1)
    refine qh (qa (qm (ql (qm ?_))))
    rcases (show i = 0 ∨ i = 1 by omega) with rfl | rfl
    · refine hk_region fun K hK => runs_eval tab_ok ?_
      simp only [ev0, evA, evB, evP, fl, gp, tab, simprocAttr, reduceCtorEq, reduceIte, List.getD_cons_zero, List.getD_cons_succ]
      refine fin_run ?_ (hK _ ?_) <;> clear hK <;> clear K
      · (first | exact trivial | omega | (simp only [In64] at *; omega) | (simp [In64] at *; omega) | (simp_all; done) | skip)
      refine qa (qm ?_)
      refine hk_region fun K hK => runs_eval tab_ok ?_
      simp only [ev0, evA, evB, evP, fl, gp, tab, simprocAttr, reduceCtorEq, reduceIte]
      refine fin_stop trivial (runs_call (check_c N m hm) rfl rfl rfl (by simp only [dstOk, Nat.reduceLT]) (by repeat (first | exact trivial | constructor)) (runs_eval tab_ok ?_))
      simp only [ev0, evA, evB, evP, fl, gp, tab, simprocAttr, reduceCtorEq, reduceIte]
      refine fin_run ?_ (hK _ ?_) <;> clear hK <;> clear K
      · (first | exact trivial | omega | (simp only [In64] at *; omega) | (simp [In64] at *; omega) | (simp_all; done) | skip)
      refine qa (qm ?_)
      refine hk_region fun K hK => runs_eval tab_ok ?_
      simp only [ev0, evA, evB, evP, fl, gp, tab, simprocAttr, reduceCtorEq, reduceIte]
      refine fin_run ?_ (hK _ ?_) <;> clear hK <;> clear K
      · (first | exact trivial | omega | (simp only [In64] at *; omega) | (simp [In64] at *; omega) | (simp_all; done) | skip)
      refine qa ?_
      refine hk_cond rfl (fun hC2 => ?_) (fun hC2 => ?_)
      · (try simp only [nhs] at hC2)
        refine qm ?_
        refine hk_draw2 mixed fun K hK => runs2_eval tab_ok ?_
        simp only [evD, ev0, evA, evB, evP, fl, gp, tab, simprocAttr, reduceCtorEq, reduceIte]
        refine fin2_run ?_ (hK _ _ (by first | kernel_rfl | rfl) ?_) <;> clear hK <;> clear K
        · (first | exact trivial | omega | (simp only [In64] at *; omega) | (simp [In64] at *; omega) | (simp_all; done) | skip)
        refine qa (qk (qe (qb (qb (qe (qb ?_))))))
        simp only [Tryd.results61, enA, ev0, evA, evB, evP, fl, gp, tab, simprocAttr, reduceCtorEq, reduceIte]
        have ht : tg N m N' m' = gf N m := by (unfold tg; rw [if_neg (by simpa using hC2)])
        rw [psf_tg (by rw [ht]; simpa using hC2), ht]; simp [il]
      · (try simp only [nhs] at hC2)
        refine qh (qd (qa ?_))
        refine hk_region fun K hK => runs_eval tab_ok ?_
        simp only [ev0, evA, evB, evP, fl, gp, tab, simprocAttr, reduceCtorEq, reduceIte]
        refine fin_run ?_ (hK _ ?_) <;> clear hK <;> clear K
        · (first | exact trivial | omega | (simp only [In64] at *; omega) | (simp [In64] at *; omega) | (simp_all; done) | skip)
        refine qa ?_
        refine ⟨1, [0, 1, 2, 3], ⟨by omega, fun _ => hC2, by omega⟩, by omega, ?_⟩
        simp only [leq, leA, ev0, evA, evB, evP, fl, gp, tab, simprocAttr, reduceCtorEq, reduceIte] <;> first | trivial | omega
    · refine hk_region fun K hK => runs_eval tab_ok ?_
      simp only [ev0, evA, evB, evP, fl, gp, tab, simprocAttr, reduceCtorEq, reduceIte, List.getD_cons_zero, List.getD_cons_succ]
      refine fin_run ?_ (hK _ ?_) <;> clear hK <;> clear K
      · (first | exact trivial | omega | (simp only [In64] at *; omega) | (simp [In64] at *; omega) | (simp_all; done) | skip)
      refine qa (qm ?_)
      refine hk_region fun K hK => runs_eval tab_ok ?_
      simp only [ev0, evA, evB, evP, fl, gp, tab, simprocAttr, reduceCtorEq, reduceIte]
      refine fin_stop trivial (runs_call (check_c N' m' hm') rfl rfl rfl (by simp only [dstOk, Nat.reduceLT]) (by repeat (first | exact trivial | constructor)) (runs_eval tab_ok ?_))
      simp only [ev0, evA, evB, evP, fl, gp, tab, simprocAttr, reduceCtorEq, reduceIte]
      refine fin_run ?_ (hK _ ?_) <;> clear hK <;> clear K
      · (first | exact trivial | omega | (simp only [In64] at *; omega) | (simp [In64] at *; omega) | (simp_all; done) | skip)
      refine qa (qm ?_)
      refine hk_region fun K hK => runs_eval tab_ok ?_
      simp only [ev0, evA, evB, evP, fl, gp, tab, simprocAttr, reduceCtorEq, reduceIte]
      refine fin_run ?_ (hK _ ?_) <;> clear hK <;> clear K
      · (first | exact trivial | omega | (simp only [In64] at *; omega) | (simp [In64] at *; omega) | (simp_all; done) | skip)
      refine qa ?_
      refine hk_cond rfl (fun hC2 => ?_) (fun hC2 => ?_)
      · (try simp only [nhs] at hC2)
        refine qm ?_
        refine hk_draw2 mixed fun K hK => runs2_eval tab_ok ?_
        simp only [evD, ev0, evA, evB, evP, fl, gp, tab, simprocAttr, reduceCtorEq, reduceIte]
        refine fin2_run ?_ (hK _ _ (by first | kernel_rfl | rfl) ?_) <;> clear hK <;> clear K
        · (first | exact trivial | omega | (simp only [In64] at *; omega) | (simp [In64] at *; omega) | (simp_all; done) | skip)
        refine qa (qk (qe (qb (qb (qe (qb ?_))))))
        simp only [Tryd.results61, enA, ev0, evA, evB, evP, fl, gp, tab, simprocAttr, reduceCtorEq, reduceIte]
        have z1 := hi2 (by omega)
        have ht : tg N m N' m' = gf N' m' := by (unfold tg; rw [if_pos z1])
        rw [psf_tg (by rw [ht]; simpa using hC2), ht]; simp [il]
      · (try simp only [nhs] at hC2)
        refine qh (qd (qa ?_))
        refine hk_region fun K hK => runs_eval tab_ok ?_
        simp only [ev0, evA, evB, evP, fl, gp, tab, simprocAttr, reduceCtorEq, reduceIte]
        refine fin_run ?_ (hK _ ?_) <;> clear hK <;> clear K
        · (first | exact trivial | omega | (simp only [In64] at *; omega) | (simp [In64] at *; omega) | (simp_all; done) | skip)
        refine qa ?_
        refine ⟨2, [0, 1, 2, 3], ⟨by omega, fun _ => hi2 (by omega), fun _ => hC2⟩, by omega, ?_⟩
        simp only [leq, leA, ev0, evA, evB, evP, fl, gp, tab, simprocAttr, reduceCtorEq, reduceIte] <;> first | trivial | omega
  · (try simp only [nhs] at hC1)
    have z1 := hi2 (by omega)
    have z2 := hi3 (by omega)
    have z : (tg N m N' m').1 = 0 := by unfold tg; rw [if_pos z1]; exact z2
    obtain ⟨n, e, ⟨rfl, T, G⟩, _⟩ := gf_ok z1
    obtain ⟨n', e', ⟨rfl, T', G'⟩, _⟩ := gf_ok z2
    have hs1 := T.big
    have hs2 := T'.big
    have hmul : (n : Int) * (n' : Int) = ((n * n' : Nat) : Int) := (Int.natCast_mul _ _).symm
    have hle : n * n' ≤ 60 * 60 := Nat.mul_le_mul hs1 hs2
    refine qj (qc (qc (qf (qa (qm (qm ?_))))))
    refine hk_region fun K hK => runs_eval tab_ok ?_
    simp only [ev0, evA, evB, evP, fl, gp, tab, simprocAttr, reduceCtorEq, reduceIte, ll_length]
    refine fin_run ?_ (hK _ ?_) <;> clear hK <;> clear K
    · (first | exact trivial | omega | (simp only [In64] at *; omega) | (simp [In64] at *; omega) | (simp_all; done) | skip)
    refine qa ?_
    refine hk_cond rfl (fun hC3 => ?_) (fun hC3 => ?_)
    · (try simp only [nhs] at hC3)
      refine qm ?_
      refine hk_region fun K hK => runs_eval tab_ok ?_
      simp only [ev0, evA, evB, evP, fl, gp, tab, simprocAttr, reduceCtorEq, reduceIte]
      refine fin_stop trivial (runs_call (prodFlt_c 8 0) rfl rfl rfl (by simp only [dstOk, Nat.reduceLT]) (by repeat (first | exact trivial | constructor)) (runs_eval tab_ok ?_))
      simp only [ev0, evA, evB, evP, fl, gp, tab, simprocAttr, reduceCtorEq, reduceIte]
      refine fin_run ?_ (hK _ ?_) <;> clear hK <;> clear K
      · (first | exact trivial | omega | (simp only [In64] at *; omega) | (simp [In64] at *; omega) | (simp_all; done) | skip)
      refine qa (qk (qb ?_))
      simp only [Tryd.results61, enA, ev0, evA, evB, evP, fl, gp, tab, simprocAttr, reduceCtorEq, reduceIte]
      all_goals (rw [psf_8 z (by simpa using hC3)]; simp [il])
    · (try simp only [nhs] at hC3)
      refine qh (qa (qm (qm ?_)))
      refine hk_region fun K hK => runs_eval tab_ok ?_
      simp only [ev0, evA, evB, evP, fl, gp, tab, simprocAttr, reduceCtorEq, reduceIte, ll_length]
      refine fin_run trivial (hK _ ?_) <;> clear hK <;> clear K
      refine qa (ql ?_)
      refine hk_loop (ι := Nat) (fun i => ⟨200, [(2, .p (.list (ll ls))), (3, .ptr 0 0), (4, .ptr 1 0), (6, .ptr 2 0), (7, .ptr 3 0), (50, .p (.list (ll ls))), (51, .p (.int .i64 n')), (52, .p (.int .i64 i))], [.own [.p (.int .i64 n), .p (.list (il m))], .own [.p (.int .i64 n'), .p (.list (il m'))], .own [.p (.int .i64 0), .p .nil], .own [.p (.int .i64 0), .p (.int .i64 0)]]⟩) (fun i => i ≤ n' ∧ ∀ j, j < i → rwc n m (ls.getD j []) = 0) (fun i => n' - i) 0 ⟨Nat.zero_le _, fun j hj => by omega⟩ [0, 1, 2, 3] (by rw [← hC3]; simp only [leq, leA, ev0, evA, evB, evP, fl, gp, tab, simprocAttr, reduceCtorEq, reduceIte, ll_length] <;> trivial) fun i hi => ?_
      obtain ⟨hi1, hi2⟩ := hi
      have hC3' : (ls.length : Int) = (n' : Int) := hC3
      refine qm ?_
      refine hk_region fun K hK => runs_eval tab_ok ?_
      simp only [ev0, evA, evB, evP, fl, gp, tab, simprocAttr, reduceCtorEq, reduceIte]
      refine fin_run trivial (hK _ ?_) <;> clear hK <;> clear K
      refine qa (qm ?_)
      refine hk_cond rfl (fun hC4 => ?_) (fun hC4 => ?_)
      · (try simp only [nhs] at hC4)
        have hlt : i < n' := by omega
        have hlt' : i < ls.length := by omega
        refine qh (qa (qm (ql (qm ?_))))
        refine hk_region fun K hK => runs_eval tab_ok ?_
        simp only [ev0, evA, evB, evP, fl, gp, tab, simprocAttr, reduceCtorEq, reduceIte, ll_length, ll_get hlt']
        refine fin_run ?_ (hK _ ?_) <;> clear hK <;> clear K
        · (first | exact trivial | omega | (simp only [In64] at *; omega) | (simp [In64] at *; omega) | (simp_all; done) | skip)
        refine qa (qm (qm ?_))
        refine hk_region fun K hK => runs_eval tab_ok ?_
        simp only [ev0, evA, evB, evP, fl, gp, tab, simprocAttr, reduceCtorEq, reduceIte]
        refine fin_stop trivial (runs_call (homCheck_c n m n m (ls.getD i []) hm hm) rfl rfl rfl (by simp only [dstOk, Nat.reduceLT]) (by repeat (first | exact trivial | constructor)) (runs_eval tab_ok ?_))
        simp only [ev0, evA, evB, evP, fl, gp, tab, simprocAttr, reduceCtorEq, reduceIte]
        refine fin_run ?_ (hK _ ?_) <;> clear hK <;> clear K
        · (first | exact trivial | omega | (simp only [In64] at *; omega) | (simp [In64] at *; omega) | (simp_all; done) | skip)
        refine qa (qm ?_)
        refine hk_region fun K hK => runs_eval tab_ok ?_
        simp only [ev0, evA, evB, evP, fl, gp, tab, simprocAttr, reduceCtorEq, reduceIte]
        refine fin_run ?_ (hK _ ?_) <;> clear hK <;> clear K
        · (first | exact trivial | omega | (simp only [In64] at *; omega) | (simp [In64] at *; omega) | (simp_all; done) | skip)
        refine qa ?_
        refine hk_cond rfl (fun hC5 => ?_) (fun hC5 => ?_)
        · (try simp only [nhs] at hC5)
          refine qm ?_
          refine hk_region fun K hK => runs_eval tab_ok ?_
          simp only [ev0, evA, evB, evP, fl, gp, tab, simprocAttr, reduceCtorEq, reduceIte]
          refine fin_stop trivial (runs_call (prodFlt_c (homf n m n m (ls.getD i [])).1 i) rfl rfl rfl (by simp only [dstOk, Nat.reduceLT]) (by repeat (first | exact trivial | constructor)) (runs_eval tab_ok ?_))
          simp only [ev0, evA, evB, evP, fl, gp, tab, simprocAttr, reduceCtorEq, reduceIte]
          refine fin_run ?_ (hK _ ?_) <;> clear hK <;> clear K
          · (first | exact trivial | omega | (simp only [In64] at *; omega) | (simp [In64] at *; omega) | (simp_all; done) | skip)
          refine qa (qk (qb (qe (qb (qb (qe (qb ?_)))))))
          simp only [Tryd.results61, enA, ev0, evA, evB, evP, fl, gp, tab, simprocAttr, reduceCtorEq, reduceIte]
          have hC5' : ¬ (homf n m n m (ls.getD i [])).1 = 0 := by simpa using hC5
          have hrw : rwc n m (ls.getD i []) = (homf n m n m (ls.getD i [])).1 := by (unfold rwc; rw [if_pos hC5'])
          rw [psf_row z hC3' hlt' (by rw [hrw]; exact hC5') hi2, hrw]; simp [il]
        · (try simp only [nhs] at hC5)
          have hC5' : (homf n m n m (ls.getD i [])).1 = 0 := by (by_cases hh : (homf n m n m (ls.getD i [])).1 = 0) <;> simp_all
          obtain ⟨n1, e1, n2, e2, hg1, hg2, hH, _⟩ := homf_ok hC5'
          have q1 := hg1.1
          have q2 := hg2.1
          obtain rfl : n = n1 := by omega
          obtain rfl : n = n2 := by omega
          have hln : (ls.getD i []).length = n := hH.1
          refine qh (qa (qm ?_))
          refine hk_region fun K hK => runs_eval tab_ok ?_
          simp only [ev0, evA, evB, evP, fl, gp, tab, simprocAttr, reduceCtorEq, reduceIte, makeSliceA.eq_def, hbl_new]
          refine fin_run ?_ (hK _ ?_) <;> clear hK <;> clear K
          · omega
          refine qa (qm (qm ?_))
          refine hk_region fun K hK => runs_eval tab_ok ?_
          simp only [ev0, evA, evB, evP, fl, gp, tab, simprocAttr, reduceCtorEq, reduceIte, il_length, hln]
          refine fin_run trivial (hK _ ?_) <;> clear hK <;> clear K
          refine qa (ql ?_)
          refine hk_loop (ι := Nat) (fun k => ⟨200, [(2, .p (.list (ll ls))), (3, .ptr 0 0), (4, .ptr 1 0), (6, .ptr 2 0), (7, .ptr 3 0), (11, .p (.int .i64 i)), (14, .sl 4 0 n), (50, .p (.list (ll ls))), (51, .p (.int .i64 n')), (52, .p (.int .i64 i)), (72, .p (.list (il (ls.getD i [])))), (73, .p (.int .i64 n)), (74, .p (.int .i64 k))], [.own [.p (.int .i64 n), .p (.list (il m))], .own [.p (.int .i64 n'), .p (.list (il m'))], .own [.p (.int .i64 0), .p .nil], .own [.p (.int .i64 0), .p (.int .i64 0)], .own (opl (hbl n (hits (ls.getD i []) k)))]⟩) (fun k => k ≤ n) (fun k => n - k) 0 (Nat.zero_le _) [0, 1, 2, 3, 5] (by simp only [show hits (ls.getD i []) 0 = fun _ => false from funext (hits_zero _)]; simp only [leq, leA, ev0, evA, evB, evP, fl, gp, tab, simprocAttr, reduceCtorEq, reduceIte] <;> trivial) fun k hk => ?_
          refine qm ?_
          refine hk_region fun K hK => runs_eval tab_ok ?_
          simp only [ev0, evA, evB, evP, fl, gp, tab, simprocAttr, reduceCtorEq, reduceIte]
          refine fin_run trivial (hK _ ?_) <;> clear hK <;> clear K
          refine qa (qm ?_)
          refine hk_cond rfl (fun hC6 => ?_) (fun hC6 => ?_)
          · (try simp only [nhs] at hC6)
            have hkl : k < n := by omega
            obtain ⟨ev, lv⟩ := hH.2.1 k hkl
            refine qh (qa (qm (ql (qm ?_))))
            refine hk_region fun K hK => runs_eval tab_ok ?_
            simp only [ev0, evA, evB, evP, fl, gp, tab, simprocAttr, reduceCtorEq, reduceIte, il_get (show k < (ls.getD i []).length by omega), ev]
            refine fin_run ?_ (hK _ ?_) <;> clear hK <;> clear K
            · (first | exact trivial | omega | (simp only [In64] at *; omega) | (simp [In64] at *; omega) | (simp_all; done) | skip)
            refine qa ?_
            refine hk_region fun K hK => runs_eval tab_ok ?_
            simp only [ev0, evA, evB, evP, fl, gp, tab, simprocAttr, reduceCtorEq, reduceIte]
            refine fin_run ?_ (hK _ ?_) <;> clear hK <;> clear K
            · rw [hbl_len]; omega
            refine qd (qa ?_)
            rw [hbl_set]
            refine hk_region fun K hK => runs_eval tab_ok ?_
            simp only [ev0, evA, evB, evP, fl, gp, tab, simprocAttr, reduceCtorEq, reduceIte]
            refine fin_run ?_ (hK _ ?_) <;> clear hK <;> clear K
            · (first | exact trivial | omega | (simp only [In64] at *; omega) | (simp [In64] at *; omega) | (simp_all; done) | skip)
            refine qa ?_
            refine ⟨k + 1, [0, 1, 2, 3, 4], by omega, by omega, ?_⟩
            rw [hbl_congr (fun i' _ => hits_succ (l := ls.getD i []) (by omega) ev i')]
            simp only [leq, leA, ev0, evA, evB, evP, fl, gp, tab, simprocAttr, reduceCtorEq, reduceIte] <;> first | trivial | omega
          · (try simp only [nhs] at hC6)
            have hkn : k = n := by omega
            rw [hkn]
            have hrw : rwc n m (ls.getD i []) = if ¬ onto1 (ls.getD i []) n then 10 else 0 := by
              unfold rwc
              rw [if_neg (by simpa using hC5')]
              rfl
            have hon : decide (ixb n (hits (ls.getD i []) n) ≥ 0) = decide (¬ onto1 (ls.getD i []) n) := decide_eq_decide.2 (by
              rw [ixb_iff]
              unfold hits onto1
              rw [List.take_of_length_le (by omega)]
              constructor
              · rintro ⟨v, v1, v2⟩ ho
                exact (of_decide_eq_false v2) (ho.1 v v1)
              · intro ho
                by_cases hh : ∃ v, v < n ∧ ¬ ((v : Nat) : Int) ∈ ls.getD i []
                · obtain ⟨v, v1, v2⟩ := hh
                  exact ⟨v, v1, decide_eq_false v2⟩
                · exact absurd ⟨fun v hv => Classical.byContradiction fun h' => hh ⟨v, hv, h'⟩, hln⟩ ho)
            refine hk_sealp 14 4 (hbl_all n (hits (ls.getD i []) n)) (by show AV.sl 4 0 n = AV.sl 4 0 _; rw [hbl_len]) rfl ?_
            refine qj (qc (qc (qf (qa (qm ?_)))))
            refine hk_region fun K hK => runs_eval tab_ok ?_
            simp only [ev0, evA, evB, evP, fl, gp, tab, simprocAttr, reduceCtorEq, reduceIte]
            refine fin_stop trivial (runs_call (containsB_c n (hits (ls.getD i []) n) (by omega)) rfl rfl rfl (by simp only [dstOk, Nat.reduceLT]) (by repeat (first | exact trivial | constructor)) (runs_eval tab_ok ?_))
            simp only [ev0, evA, evB, evP, fl, gp, tab, simprocAttr, reduceCtorEq, reduceIte, hon]
            refine fin_run trivial (hK _ ?_) <;> clear hK <;> clear K
            refine qa ?_
            refine hk_cond rfl (fun hC7 => ?_) (fun hC7 => ?_)
            · (try simp only [nhs] at hC7)
              refine qm ?_
              refine hk_region fun K hK => runs_eval tab_ok ?_
              simp only [ev0, evA, evB, evP, fl, gp, tab, simprocAttr, reduceCtorEq, reduceIte]
              refine fin_stop trivial (runs_call (prodFlt_c 10 i) rfl rfl rfl (by simp only [dstOk, Nat.reduceLT]) (by repeat (first | exact trivial | constructor)) (runs_eval tab_ok ?_))
              simp only [ev0, evA, evB, evP, fl, gp, tab, simprocAttr, reduceCtorEq, reduceIte]
              refine fin_run ?_ (hK _ ?_) <;> clear hK <;> clear K
              · (first | exact trivial | omega | (simp only [In64] at *; omega) | (simp [In64] at *; omega) | (simp_all; done) | skip)
              refine qa (qk (qe (qb (qb (qe (qb ?_))))))
              simp only [Tryd.results61, enA, ev0, evA, evB, evP, fl, gp, tab, simprocAttr, reduceCtorEq, reduceIte]
              have ho : ¬ onto1 (ls.getD i []) n := by simpa using hC7
              rw [if_pos ho] at hrw
              rw [psf_row z hC3' hlt' (by rw [hrw]; simp) hi2, hrw]; simp [il]
            · (try simp only [nhs] at hC7)
              have ho : onto1 (ls.getD i []) n := by (by_cases hh : onto1 (ls.getD i []) n) <;> simp_all
              refine qh (qd (qa ?_))
              refine hk_region fun K hK => runs_eval tab_ok ?_
              simp only [ev0, evA, evB, evP, fl, gp, tab, simprocAttr, reduceCtorEq, reduceIte]
              refine fin_run ?_ (hK _ ?_) <;> clear hK <;> clear K
              · (first | exact trivial | omega | (simp only [In64] at *; omega) | (simp [In64] at *; omega) | (simp_all; done) | skip)
              refine qa ?_
              refine ⟨i + 1, [0, 1, 2, 3], ⟨by omega, fun j hj => ?_⟩, by omega, ?_⟩
              · by_cases hji : j = i
                · rw [hji, hrw, if_neg (by simpa using ho)]
                · exact hi2 j (by omega)
              · simp only [leq, leA, ev0, evA, evB, evP, fl, gp, tab, simprocAttr, reduceCtorEq, reduceIte] <;> first | trivial | omega
      · (try simp only [nhs] at hC4)
        have hin : i = n' := by omega
        subst hin
        have hll : ls.length = i := by omega
        have hrow : ∀ y, y < i → (ls.getD y []).length = n ∧ ∀ x, x < n → (ls.getD y []).getD x 0 = ((hv (ls.getD y []) x : Nat) : Int) ∧ hv (ls.getD y []) x < n := fun y hy => ⟨(rwc_ok (hi2 y hy)).1.1, (rwc_ok (hi2 y hy)).1.2.1⟩
        have hsf := psf_2 (m := m) (m' := m') z hC3' (fun j hj => hi2 j (by omega))
        refine qj (qc (qc (qf (qa (qm (qm ?_))))))
        refine hk_region fun K hK => runs_eval tab_ok ?_
        simp only [ev0, evA, evB, evP, fl, gp, tab, simprocAttr, reduceCtorEq, reduceIte]
        refine fin_run ?_ (hK _ ?_) <;> clear hK <;> clear K
        · (first | exact trivial | omega | (simp only [In64] at *; omega) | (simp [In64] at *; omega) | (simp_all; done) | skip)
        refine qa (ql ?_)
        refine hk_loop (ι := Nat) (fun a => ⟨200, [(2, .p (.list (ll ls))), (3, .ptr 0 0), (4, .ptr 1 0), (6, .ptr 2 0), (7, .ptr 3 0), (89, .p (.int .i64 i)), (90, .p (.int .i64 a))], [.own [.p (.int .i64 n), .p (.list (il m))], .own [.p (.int .i64 i), .p (.list (il m'))], .own [.p (.int .i64 0), .p .nil], .own [.p (.int .i64 0), .p (.int .i64 0)]]⟩) (fun a => a ≤ i ∧ ∀ x, x < a → mgd m' i ls x) (fun a => i - a) 0 ⟨Nat.zero_le _, fun x hx => by omega⟩ [0, 1, 2, 3] (by simp only [leq, leA, ev0, evA, evB, evP, fl, gp, tab, simprocAttr, reduceCtorEq, reduceIte] <;> trivial) fun a ha => ?_
        obtain ⟨ha1, ha2⟩ := ha
        refine qm ?_
        refine hk_region fun K hK => runs_eval tab_ok ?_
        simp only [ev0, evA, evB, evP, fl, gp, tab, simprocAttr, reduceCtorEq, reduceIte]
        refine fin_run trivial (hK _ ?_) <;> clear hK <;> clear K
        refine qa (qm ?_)
        refine hk_cond rfl (fun hC8 => ?_) (fun hC8 => ?_)
        · (try simp only [nhs] at hC8)
          have hal : a < i := by omega
          refine qh (qa (qm (ql (qm ?_))))
          refine hk_region fun K hK => runs_eval tab_ok ?_
          simp only [ev0, evA, evB, evP, fl, gp, tab, simprocAttr, reduceCtorEq, reduceIte]
          refine fin_run trivial (hK _ ?_) <;> clear hK <;> clear K
          refine qa (qm ?_)
          refine hk_region fun K hK => runs_eval tab_ok ?_
          simp only [ev0, evA, evB, evP, fl, gp, tab, simprocAttr, reduceCtorEq, reduceIte]
          refine fin_run ?_ (hK _ ?_) <;> clear hK <;> clear K
          · (first | exact trivial | omega | (simp only [In64] at *; omega) | (simp [In64] at *; omega) | (simp_all; done) | skip)
          refine qa (ql ?_)
          refine hk_loop (ι := Nat) (fun b => ⟨200, [(2, .p (.list (ll ls))), (3, .ptr 0 0), (4, .ptr 1 0), (6, .ptr 2 0), (7, .ptr 3 0), (17, .p (.int .i64 a)), (89, .p (.int .i64 i)), (90, .p (.int .i64 a)), (94, .p (.int .i64 i)), (95, .p (.int .i64 b))], [.own [.p (.int .i64 n), .p (.list (il m))], .own [.p (.int .i64 i), .p (.list (il m'))], .own [.p (.int .i64 0), .p .nil], .own [.p (.int .i64 0), .p (.int .i64 0)]]⟩) (fun b => b ≤ i ∧ ∀ y, y < b → ls.getD (op m' i a y) [] = cmpl (ls.getD y []) (ls.getD a [])) (fun b => i - b) 0 ⟨Nat.zero_le _, fun x hx => by omega⟩ [0, 1, 2, 3] (by simp only [leq, leA, ev0, evA, evB, evP, fl, gp, tab, simprocAttr, reduceCtorEq, reduceIte] <;> trivial) fun b hb => ?_
          obtain ⟨hb1, hb2⟩ := hb
          refine qm ?_
          refine hk_region fun K hK => runs_eval tab_ok ?_
          simp only [ev0, evA, evB, evP, fl, gp, tab, simprocAttr, reduceCtorEq, reduceIte]
          refine fin_run trivial (hK _ ?_) <;> clear hK <;> clear K
          refine qa (qm ?_)
          refine hk_cond rfl (fun hC9 => ?_) (fun hC9 => ?_)
          · (try simp only [nhs] at hC9)
            have hbl' : b < i := by omega
            have hab := G'.cl a b hal hbl'
            refine qh (qa (qm (ql (qm ?_))))
            refine hk_region fun K hK => runs_eval tab_ok ?_
            simp only [ev0, evA, evB, evP, fl, gp, tab, simprocAttr, reduceCtorEq, reduceIte]
            refine fin_run trivial (hK _ ?_) <;> clear hK <;> clear K
            refine qa (qm ?_)
            refine hk_region fun K hK => runs_eval tab_ok ?_
            simp only [ev0, evA, evB, evP, fl, gp, tab, simprocAttr, reduceCtorEq, reduceIte]
            refine fin_run ?_ (hK _ ?_) <;> clear hK <;> clear K
            · (first | exact trivial | omega | (simp only [In64] at *; omega) | (simp [In64] at *; omega) | (simp_all; done) | skip)
            refine qa (ql ?_)
            refine hk_loop (ι := Nat) (fun x => ⟨200, [(2, .p (.list (ll ls))), (3, .ptr 0 0), (4, .ptr 1 0), (6, .ptr 2 0), (7, .ptr 3 0), (17, .p (.int .i64 a)), (18, .p (.int .i64 b)), (89, .p (.int .i64 i)), (90, .p (.int .i64 a)), (94, .p (.int .i64 i)), (95, .p (.int .i64 b)), (99, .p (.int .i64 n)), (100, .p (.int .i64 x))], [.own [.p (.int .i64 n), .p (.list (il m))], .own [.p (.int .i64 i), .p (.list (il m'))], .own [.p (.int .i64 0), .p .nil], .own [.p (.int .i64 0), .p (.int .i64 0)]]⟩) (fun x => x ≤ n ∧ ∀ y, y < x → (ls.getD (op m' i a b) []).getD y 0 = (ls.getD a []).getD (hv (ls.getD b []) y) 0) (fun x => n - x) 0 ⟨Nat.zero_le _, fun x hx => by omega⟩ [0, 1, 2, 3] (by simp only [leq, leA, ev0, evA, evB, evP, fl, gp, tab, simprocAttr, reduceCtorEq, reduceIte] <;> trivial) fun x hx => ?_
            obtain ⟨hx1, hx2⟩ := hx
            refine qm ?_
            refine hk_region fun K hK => runs_eval tab_ok ?_
            simp only [ev0, evA, evB, evP, fl, gp, tab, simprocAttr, reduceCtorEq, reduceIte]
            refine fin_run trivial (hK _ ?_) <;> clear hK <;> clear K
            refine qa (qm ?_)
            refine hk_cond rfl (fun hC10 => ?_) (fun hC10 => ?_)
            · (try simp only [nhs] at hC10)
              have hxl : x < n := by omega
              have r1 := (hrow _ hab).1
              have r2 := (hrow a hal).1
              have r3 := (hrow b hbl').1
              obtain ⟨v3, l3⟩ := (hrow b hbl').2 x hxl
              refine qh (qa (qm (ql (qm ?_))))
              refine hk_region fun K hK => runs_eval tab_ok ?_
              simp only [ev0, evA, evB, evP, fl, gp, tab, simprocAttr, reduceCtorEq, reduceIte]
              refine fin_run trivial (hK _ ?_) <;> clear hK <;> clear K
              refine qa (qm ?_)
              refine hk_draw mixed (by kernel_rfl) fun K hK => runs_eval tab_ok ?_
              simp only [ev0, evA, evB, evP, fl, gp, tab, simprocAttr, reduceCtorEq, reduceIte, ll_length, ll_get (show op m' i a b < ls.length by omega), ll_get (show a < ls.length by omega), ll_get (show b < ls.length by omega), il_length, il_get (show x < (ls.getD (op m' i a b) []).length by omega), il_get (show x < (ls.getD b []).length by omega), v3, il_get (show hv (ls.getD b []) x < (ls.getD a []).length by omega)]
              refine fin_stop ?_ (runs_call (of_c T' hal hbl') rfl rfl rfl (by simp only [dstOk, Nat.reduceLT]) (by repeat (first | exact trivial | constructor)) (runs_eval tab_ok ?_))
              · (first | exact trivial | omega | (simp only [In64] at *; omega) | (simp [In64] at *; omega) | (simp_all; done) | skip)
              simp only [ev0, evA, evB, evP, fl, gp, tab, simprocAttr, reduceCtorEq, reduceIte, ll_length, ll_get (show op m' i a b < ls.length by omega), ll_get (show a < ls.length by omega), ll_get (show b < ls.length by omega), il_length, il_get (show x < (ls.getD (op m' i a b) []).length by omega), il_get (show x < (ls.getD b []).length by omega), v3, il_get (show hv (ls.getD b []) x < (ls.getD a []).length by omega)]
              refine fin_run ?_ (hK _ ?_) <;> clear hK <;> clear K
              · (first | exact trivial | omega | (simp only [In64] at *; omega) | (simp [In64] at *; omega) | (simp_all; done) | skip)
              refine qa ?_
              refine hk_cond rfl (fun hC11 => ?_) (fun hC11 => ?_)
              · (try simp only [nhs] at hC11)
                refine qm ?_
                refine hk_region fun K hK => runs_eval tab_ok ?_
                simp only [ev0, evA, evB, evP, fl, gp, tab, simprocAttr, reduceCtorEq, reduceIte]
                refine fin_stop trivial (runs_call (prodFlt_c 7 a) rfl rfl rfl (by simp only [dstOk, Nat.reduceLT]) (by repeat (first | exact trivial | constructor)) (runs_eval tab_ok ?_))
                simp only [ev0, evA, evB, evP, fl, gp, tab, simprocAttr, reduceCtorEq, reduceIte]
                refine fin_run ?_ (hK _ ?_) <;> clear hK <;> clear K
                · (first | exact trivial | omega | (simp only [In64] at *; omega) | (simp [In64] at *; omega) | (simp_all; done) | skip)
                refine qa (qk (qe (qb (qb (qe (qe (qb (qb (qe (qe (qb (qb (qe (qb ?_))))))))))))))
                simp only [Tryd.results61, enA, ev0, evA, evB, evP, fl, gp, tab, simprocAttr, reduceCtorEq, reduceIte]
                have hC11' : ¬ (ls.getD (op m' i a b) []).getD x 0 = (ls.getD a []).getD (hv (ls.getD b []) x) 0 := by simpa using hC11
                have hnm : ¬ mgd m' i ls a := fun hh => hC11' (by rw [hh b hbl', cmpl_get r3 hxl])
                rw [hsf, psf2_7 hal hnm ha2]; simp [il]
              · (try simp only [nhs] at hC11)
                have hC11' : (ls.getD (op m' i a b) []).getD x 0 = (ls.getD a []).getD (hv (ls.getD b []) x) 0 := by (by_cases hh : (ls.getD (op m' i a b) []).getD x 0 = (ls.getD a []).getD (hv (ls.getD b []) x) 0) <;> simp_all
                refine qh (qd (qa ?_))
                refine hk_region fun K hK => runs_eval tab_ok ?_
                simp only [ev0, evA, evB, evP, fl, gp, tab, simprocAttr, reduceCtorEq, reduceIte]
                refine fin_run ?_ (hK _ ?_) <;> clear hK <;> clear K
                · (first | exact trivial | omega | (simp only [In64] at *; omega) | (simp [In64] at *; omega) | (simp_all; done) | skip)
                refine qa ?_
                refine ⟨x + 1, [0, 1, 2, 3], ⟨by omega, fun y hy => ?_⟩, by omega, ?_⟩
                · by_cases hyx : y = x
                  · rw [hyx]; exact hC11'
                  · exact hx2 y (by omega)
                · simp only [leq, leA, ev0, evA, evB, evP, fl, gp, tab, simprocAttr, reduceCtorEq, reduceIte] <;> first | trivial | omega
            · (try simp only [nhs] at hC10)
              refine qj (qc (qc (qf (qd (qa ?_)))))
              refine hk_region fun K hK => runs_eval tab_ok ?_
              simp only [ev0, evA, evB, evP, fl, gp, tab, simprocAttr, reduceCtorEq, reduceIte]
              refine fin_run ?_ (hK _ ?_) <;> clear hK <;> clear K
              · (first | exact trivial | omega | (simp only [In64] at *; omega) | (simp [In64] at *; omega) | (simp_all; done) | skip)
              refine qa ?_
              refine ⟨b + 1, [0, 1, 2, 3], ⟨by omega, fun y hy => ?_⟩, by omega, ?_⟩
              · by_cases hyb : y = b
                · rw [hyb]; exact cmpl_ext (hrow _ hab).1 (hrow b hbl').1 (fun z hz => hx2 z (by omega))
                · exact hb2 y (by omega)
              · simp only [leq, leA, ev0, evA, evB, evP, fl, gp, tab, simprocAttr, reduceCtorEq, reduceIte] <;> first | trivial | omega
          · (try simp only [nhs] at hC9)
            refine qj (qc (qc (qf (qd (qa ?_)))))
            refine hk_region fun K hK => runs_eval tab_ok ?_
            simp only [ev0, evA, evB, evP, fl, gp, tab, simprocAttr, reduceCtorEq, reduceIte]
            refine fin_run ?_ (hK _ ?_) <;> clear hK <;> clear K
            · (first | exact trivial | omega | (simp only [In64] at *; omega) | (simp [In64] at *; omega) | (simp_all; done) | skip)
            refine qa ?_
            refine ⟨a + 1, [0, 1, 2, 3], ⟨by omega, fun y hy => ?_⟩, by omega, ?_⟩
            · by_cases hya : y = a
              · rw [hya]; intro z hz; exact hb2 z (by omega)
              · exact ha2 y (by omega)
            · simp only [leq, leA, ev0, evA, evB, evP, fl, gp, tab, simprocAttr, reduceCtorEq, reduceIte] <;> first | trivial | omega
        · (try simp only [nhs] at hC8)
          have hai : a = i := by omega
          have hsf2 := psf2_n (m' := m') (ls := ls) (n := n) (n' := i) (fun j hj => ha2 j (by omega))
          refine qj (qc (qc (qf (qa (qm (qm ?_))))))
          refine hk_region fun K hK => runs_eval tab_ok ?_
          simp only [ev0, evA, evB, evP, fl, gp, tab, simprocAttr, reduceCtorEq, reduceIte, hmul]
          refine fin_run ?_ (hK _ ?_) <;> clear hK <;> clear K
          · (first | exact trivial | omega | (simp only [In64] at *; omega) | (simp [In64] at *; omega) | (simp_all; done) | skip)
          refine qa ?_
          refine hk_cond rfl (fun hC12 => ?_) (fun hC12 => ?_)
          · (try simp only [nhs] at hC12)
            refine qm ?_
            refine hk_region fun K hK => runs_eval tab_ok ?_
            simp only [ev0, evA, evB, evP, fl, gp, tab, simprocAttr, reduceCtorEq, reduceIte]
            refine fin_stop trivial (runs_call (prodFlt_c 9 0) rfl rfl rfl (by simp only [dstOk, Nat.reduceLT]) (by repeat (first | exact trivial | constructor)) (runs_eval tab_ok ?_))
            simp only [ev0, evA, evB, evP, fl, gp, tab, simprocAttr, reduceCtorEq, reduceIte]
            refine fin_run ?_ (hK _ ?_) <;> clear hK <;> clear K
            · (first | exact trivial | omega | (simp only [In64] at *; omega) | (simp [In64] at *; omega) | (simp_all; done) | skip)
            refine qa (qk (qb ?_))
            simp only [Tryd.results61, enA, ev0, evA, evB, evP, fl, gp, tab, simprocAttr, reduceCtorEq, reduceIte]
            have hbig : n * i > 60 := by omega
            rw [hsf, hsf2, if_pos hbig]; simp [il]
          · (try simp only [nhs] at hC12)
            exfalso
            rw [hsf, hsf2] at hf
            by_cases hh : n * i > 60
            · exact hC12 (by omega)
            · rw [if_neg hh] at hf; exact hf rfl
end Go.Proofs.YtboadfahlflmhaaDoor

/-
  Walks: the document's example of a semidirect product. Conditions: none.
-/
set_option linter.all false
namespace Go.Proofs.YtboadfahlflmhaaDoor
open Go.Pv

def cyt (n : Nat) : List Int := tbl (fun a b => (((a + b) % n : Nat) : Int)) n
theorem cyt3 : ∃ e, GT (3 : Nat) (cyt 3) 3 e := by
  have hg : (gf 3 (cyt 3)).1 = 0 := by decide +kernel
  obtain ⟨n, e, h, _⟩ := gf_ok hg
  obtain rfl : n = 3 := by have := h.1; omega
  exact ⟨e, h⟩
theorem cyt2 : ∃ e, GT (2 : Nat) (cyt 2) 2 e := by
  have hg : (gf 2 (cyt 2)).1 = 0 := by decide +kernel
  obtain ⟨n, e, h, _⟩ := gf_ok hg
  obtain rfl : n = 2 := by have := h.1; omega
  exact ⟨e, h⟩
def s3t : List Int := sg 3 2 (cyt 3) (cyt 2) [[0, 1, 2], [0, 2, 1]]
theorem s3_tab : Tab 6 s3t := by
  have hg : (gf 6 s3t).1 = 0 := by decide +kernel
  obtain ⟨n, e, h, _⟩ := gf_ok hg
  obtain rfl : n = 6 := by have := h.1; omega
  exact h.2.1
theorem prodBegun_c : FnC Tryd.prog 60 [] (.bool true) := by
  obtain ⟨e, h⟩ := cyt3
  obtain ⟨e', h'⟩ := cyt2
  have hr : ∀ j, j < 2 → rwc (3 : Nat) (cyt 3) (List.getD [[0, 1, 2], [0, 2, 1]] j []) = 0 := by decide +kernel
  have hmg : ∀ j, j < 2 → mgd (cyt 2) 2 [[0, 1, 2], [0, 2, 1]] j := by decide +kernel
  have hsemi : FnC Tryd.prog 61 [gp 3 (cyt 3), gp 2 (cyt 2), .list (ll [[0, 1, 2], [0, 2, 1]])] (.tup [gp 6 s3t, fl (0, 0)]) := semi_ok h h' rfl hr hmg (by decide)
  have hr3 := ringOf_c 3 (by decide) (by decide)
  have hr2 := ringOf_c 2 (by decide) (by decide)
  have hab : decide (abel s3t 6) = false := by decide +kernel
  have hco := commutes_c s3_tab
  rw [hab] at hco
  refine fnc_of tab_ok Tryd.func60 rfl (by kernel_rfl) (by rw [Tryd.ntmps60]; exact Nat.le_add_left 0 _) ?_; rw [Tryd.ntmps60]
  refine qm ?_
  refine hk_region fun K hK => runs_eval tab_ok ?_
  simp only [ev0, evA, evB, evP, fl, gp, tab, simprocAttr, reduceCtorEq, reduceIte]
  refine fin_run trivial (hK _ ?_) <;> clear hK <;> clear K
  refine qa (qm ?_)
  refine hk_region fun K hK => runs_eval tab_ok ?_
  simp only [ev0, evA, evB, evP, fl, gp, tab, simprocAttr, reduceCtorEq, reduceIte]
  refine fin_stop trivial (runs_call (hr3) rfl rfl rfl (by simp only [dstOk, Nat.reduceLT]) (by repeat (first | exact trivial | constructor)) (runs_eval tab_ok ?_))
  simp only [ev0, evA, evB, evP, fl, gp, tab, simprocAttr, reduceCtorEq, reduceIte]
  refine fin_stop trivial (runs_call (hr2) rfl rfl rfl (by simp only [dstOk, Nat.reduceLT]) (by repeat (first | exact trivial | constructor)) (runs_eval tab_ok ?_))
  simp only [ev0, evA, evB, evP, fl, gp, tab, simprocAttr, reduceCtorEq, reduceIte]
  refine fin_stop ?_ (runs_call (FnC.weak (args' := [gp 3 (cyt 3), gp 2 (cyt 2), .nn [.nn (il [0, 1, 2]), .nn (il [0, 2, 1])]]) hsemi ⟨.rfl, .rfl, .nn2, trivial⟩) rfl rfl rfl (by simp only [dstOk, Nat.reduceLT]) (by repeat (first | exact trivial | constructor)) (runs_eval tab_ok ?_))
  · (first | exact trivial | omega | (simp only [In64] at *; omega) | (simp [In64] at *; omega) | (simp_all; done) | skip)
  simp only [ev0, evA, evB, evP, fl, gp, tab, simprocAttr, reduceCtorEq, reduceIte]
  refine fin_run ?_ (hK _ ?_) <;> clear hK <;> clear K
  · (first | exact trivial | omega | (simp only [In64] at *; omega) | (simp [In64] at *; omega) | (simp_all; done) | skip)
  refine qa (qm ?_)
  refine hk_region fun K hK => runs_eval tab_ok ?_
  simp only [ev0, evA, evB, evP, fl, gp, tab, simprocAttr, reduceCtorEq, reduceIte]
  refine fin_stop trivial (runs_call (hco) rfl rfl rfl (by simp only [dstOk, Nat.reduceLT]) (by repeat (first | exact trivial | constructor)) (runs_eval tab_ok ?_))
  simp only [ev0, evA, evB, evP, fl, gp, tab, simprocAttr, reduceCtorEq, reduceIte]
  refine fin_run ?_ (hK _ ?_) <;> clear hK <;> clear K
  · (first | exact trivial | omega | (simp only [In64] at *; omega) | (simp [In64] at *; omega) | (simp_all; done) | skip)
  refine qa (qk ?_)
  simp only [Tryd.results60, enA, ev0, evA, evB, evP, fl, gp, tab, simprocAttr, reduceCtorEq, reduceIte]
  all_goals (rfl)
end Go.Proofs.YtboadfahlflmhaaDoor

/-
  Walks: prod.Direct; the document's word for it. Conditions: none.
-/
set_option linter.all false
namespace Go.Proofs.YtboadfahlflmhaaDoor
open Go.Pv

theorem dufb_t : ufb true = (0, 0) := rfl
theorem em3p (P Q : Prop) : ¬ P ∨ (P ∧ Q) ∨ (P ∧ ¬ Q) := by
  by_cases h1 : P <;> by_cases h2 : Q <;> simp [h1, h2]

set_option maxHeartbeats 4000000 in
theorem direct_ok {n e : Nat} {m : List Int} (h : GT n m n e) {p q : Nat → Bool} (hp : Sub n (op m n) e p) (hq : Sub n (op m n) e q) (b : Bool) (hbs : b = true ↔ (mem n p).length * (mem n q).length = n ∧ (mem n fun x => p x && q x).length = 1 ∧ Cmm n (op m n) p q) : FnC Tryd.prog 67 [gp n m, .list (il (thl n p)), .list (il (thl n q))] (.tup [.bool b, fl (0, 0)]) := by
  have G := h.2.2
  have hb := h.2.1.big
  have lp := thl_le n p
  have lq := thl_le n q
  have ep : (mem n p).length = (thl n p).length := (thl_len n p).symm
  have eq' : (mem n q).length = (thl n q).length := (thl_len n q).symm
  rw [ep, eq'] at hbs
  have hmi : ((thl n p).length : Int) * ((thl n q).length : Int) = (((thl n p).length * (thl n q).length : Nat) : Int) := (Int.natCast_mul _ _).symm
  have hml : (thl n p).length * (thl n q).length ≤ 60 * 60 := Nat.mul_le_mul (by omega) (by omega)
  have hgr := grow_c h 0 (Nat.two_pow_pos n) (onp e) (fun a ha => G.gen_none (fun b _ => Nat.zero_testBit b) ha)
  have ho1 := of_s (thl n p) (by omega) (thl_rng hb p)
  have ho2 := of_s (thl n q) (by omega) (thl_rng hb q)
  rw [msk_thl] at ho1 ho2
  have hband := bv_and (bo_lt64 hb p) (bo_lt64 hb q)
  rw [bo_and] at hband
  have hmeet : (mem n fun x => p x && q x).length = 1 ↔ bo n (fun x => p x && q x) = bo n (onp e) := by
    rw [G.meet_len hp hq]
    constructor
    · intro h1
      refine bo_congr fun a ha => ?_
      rw [Bool.eq_iff_iff, Bool.and_eq_true, onp_iff]
      exact ⟨fun h2 => h1 a ha h2.1 h2.2, fun h2 => by rw [h2]; exact ⟨hp.one, hq.one⟩⟩
    · intro h1 a ha h2 h3
      have := bo_inj h1 ha
      simp only [h2, h3, Bool.and_self] at this
      exact onp_iff.1 this.symm
  refine fnc_of tab_ok Tryd.func67 rfl (by kernel_rfl) (by rw [Tryd.ntmps67]; exact Nat.le_add_left 3 _) ?_; rw [Tryd.ntmps67]
  refine qm ?_
  refine hk_region fun K hK => runs_eval tab_ok ?_
  simp only [ev0, evA, evB, evP, fl, gp, tab, simprocAttr, reduceCtorEq, reduceIte]
  refine fin_run ?_ (hK _ ?_) <;> clear hK <;> clear K
  · (first | exact trivial | omega | (simp only [In64] at *; omega) | (simp [In64] at *; omega) | (simp_all; done) | skip)
  refine qa (qm (qm ?_))
  refine hk_region fun K hK => runs_eval tab_ok ?_
  simp only [ev0, evA, evB, evP, fl, gp, tab, simprocAttr, reduceCtorEq, reduceIte]
  refine fin_run ?_ (hK _ ?_) <;> clear hK <;> clear K
  · (first | exact trivial | omega | (simp only [In64] at *; omega) | (simp [In64] at *; omega) | (simp_all; done) | skip)
  refine qa (ql ?_)
  refine hk_loop (ι := Nat) (fun i => ⟨75, [(1, .p (.list (il (thl n p)))), (2, .p (.list (il (thl n q)))), (3, .ptr 0 0), (7, .ptr 1 0), (17, .p (.nn [.list (il (thl n p)), .list (il (thl n q))])), (18, .p (.int .i64 2)), (19, .p (.int .i64 i))], [.own [.p (.int .i64 n), .p (.list (il m))], .own [.p (.int .i64 0), .p (.int .i64 0)]]⟩) (fun i => i ≤ 2) (fun i => 2 - i) 0 (by omega) [0, 1] (by simp only [leq, leA, ev0, evA, evB, evP, fl, gp, tab, simprocAttr, reduceCtorEq, reduceIte] <;> trivial) fun i hi => ?_
  refine qm ?_
  refine hk_region fun K hK => runs_eval tab_ok ?_
  simp only [ev0, evA, evB, evP, fl, gp, tab, simprocAttr, reduceCtorEq, reduceIte]
  refine fin_run trivial (hK _ ?_) <;> clear hK <;> clear K
  refine qa (qm ?_)
  refine hk_cond rfl (fun hC1 => ?_) (fun hC1 => ?_)
  · (try simp only [nhs] at hC1)
    refine qh (qa (qm (ql (qm ?_))))
    rcases (show i = 0 ∨ i = 1 by omega) with rfl | rfl
    · refine hk_region fun K hK => runs_eval tab_ok ?_
      simp only [ev0, evA, evB, evP, fl, gp, tab, simprocAttr, reduceCtorEq, reduceIte, List.getD_cons_zero, List.getD_cons_succ]
      refine fin_run ?_ (hK _ ?_) <;> clear hK <;> clear K
      · (first | exact trivial | omega | (simp only [In64] at *; omega) | (simp [In64] at *; omega) | (simp_all; done) | skip)
      refine qa (qm ?_)
      refine hk_region fun K hK => runs_eval tab_ok ?_
      simp only [ev0, evA, evB, evP, fl, gp, tab, simprocAttr, reduceCtorEq, reduceIte]
      refine fin_stop trivial (runs_call (group_ok h p true (by simp [hp])) rfl rfl rfl (by simp only [dstOk, Nat.reduceLT]) (by repeat (first | exact trivial | constructor)) (runs_eval tab_ok ?_))
      simp only [ev0, evA, evB, evP, fl, gp, tab, simprocAttr, reduceCtorEq, reduceIte, dufb_t]
      refine fin_run ?_ (hK _ ?_) <;> clear hK <;> clear K
      · (first | exact trivial | omega | (simp only [In64] at *; omega) | (simp [In64] at *; omega) | (simp_all; done) | skip)
      refine qa (qm ?_)
      refine hk_region fun K hK => runs_eval tab_ok ?_
      simp only [ev0, evA, evB, evP, fl, gp, tab, simprocAttr, reduceCtorEq, reduceIte]
      refine fin_run ?_ (hK _ ?_) <;> clear hK <;> clear K
      · (first | exact trivial | omega | (simp only [In64] at *; omega) | (simp [In64] at *; omega) | (simp_all; done) | skip)
      refine qa ?_
      refine hk_cond rfl (fun hC2 => ?_) (fun hC2 => ?_)
      · cases hC2
      · (try simp only [nhs] at hC2)
        refine qh (qd (qa ?_))
        refine hk_region fun K hK => runs_eval tab_ok ?_
        simp only [ev0, evA, evB, evP, fl, gp, tab, simprocAttr, reduceCtorEq, reduceIte]
        refine fin_run ?_ (hK _ ?_) <;> clear hK <;> clear K
        · (first | exact trivial | omega | (simp only [In64] at *; omega) | (simp [In64] at *; omega) | (simp_all; done) | skip)
        refine qa ?_
        refine ⟨1, [0, 1], by omega, by omega, ?_⟩
        simp only [leq, leA, ev0, evA, evB, evP, fl, gp, tab, simprocAttr, reduceCtorEq, reduceIte] <;> first | trivial | omega
    · refine hk_region fun K hK => runs_eval tab_ok ?_
      simp only [ev0, evA, evB, evP, fl, gp, tab, simprocAttr, reduceCtorEq, reduceIte, List.getD_cons_zero, List.getD_cons_succ]
      refine fin_run ?_ (hK _ ?_) <;> clear hK <;> clear K
      · (first | exact trivial | omega | (simp only [In64] at *; omega) | (simp [In64] at *; omega) | (simp_all; done) | skip)
      refine qa (qm ?_)
      refine hk_region fun K hK => runs_eval tab_ok ?_
      simp only [ev0, evA, evB, evP, fl, gp, tab, simprocAttr, reduceCtorEq, reduceIte]
      refine fin_stop trivial (runs_call (group_ok h q true (by simp [hq])) rfl rfl rfl (by simp only [dstOk, Nat.reduceLT]) (by repeat (first | exact trivial | constructor)) (runs_eval tab_ok ?_))
      simp only [ev0, evA, evB, evP, fl, gp, tab, simprocAttr, reduceCtorEq, reduceIte, dufb_t]
      refine fin_run ?_ (hK _ ?_) <;> clear hK <;> clear K
      · (first | exact trivial | omega | (simp only [In64] at *; omega) | (simp [In64] at *; omega) | (simp_all; done) | skip)
      refine qa (qm ?_)
      refine hk_region fun K hK => runs_eval tab_ok ?_
      simp only [ev0, evA, evB, evP, fl, gp, tab, simprocAttr, reduceCtorEq, reduceIte]
      refine fin_run ?_ (hK _ ?_) <;> clear hK <;> clear K
      · (first | exact trivial | omega | (simp only [In64] at *; omega) | (simp [In64] at *; omega) | (simp_all; done) | skip)
      refine qa ?_
      refine hk_cond rfl (fun hC2 => ?_) (fun hC2 => ?_)
      · cases hC2
      · (try simp only [nhs] at hC2)
        refine qh (qd (qa ?_))
        refine hk_region fun K hK => runs_eval tab_ok ?_
        simp only [ev0, evA, evB, evP, fl, gp, tab, simprocAttr, reduceCtorEq, reduceIte]
        refine fin_run ?_ (hK _ ?_) <;> clear hK <;> clear K
        · (first | exact trivial | omega | (simp only [In64] at *; omega) | (simp [In64] at *; omega) | (simp_all; done) | skip)
        refine qa ?_
        refine ⟨2, [0, 1], by omega, by omega, ?_⟩
        simp only [leq, leA, ev0, evA, evB, evP, fl, gp, tab, simprocAttr, reduceCtorEq, reduceIte] <;> first | trivial | omega
  · (try simp only [nhs] at hC1)
    refine qj (qc (qc (qf (qa (qm (qm ?_))))))
    rcases em3p ((thl n p).length * (thl n q).length = n) (bo n (fun x => p x && q x) = bo n (onp e)) with k1 | ⟨k1, k2⟩ | ⟨k1, k2⟩
    · refine hk_draw mixed (by kernel_rfl) fun K hK => runs_eval tab_ok ?_
      simp only [ev0, evA, evB, evP, fl, gp, tab, simprocAttr, reduceCtorEq, reduceIte, il_length, hmi, decide_eq_false (show ¬ (((thl n p).length * (thl n q).length : Nat) : Int) = (n : Int) by omega)]
      refine fin_run ?_ (hK _ ?_) <;> clear hK <;> clear K
      · (first | exact trivial | omega | (simp only [In64] at *; omega) | (simp [In64] at *; omega) | (simp_all; done) | skip)
      refine qa ?_
      refine hk_cond rfl (fun hC3 => ?_) (fun hC3 => ?_)
      · refine qm ?_
        refine hk_region fun K hK => runs_eval tab_ok ?_
        simp only [ev0, evA, evB, evP, fl, gp, tab, simprocAttr, reduceCtorEq, reduceIte]
        refine fin_run ?_ (hK _ ?_) <;> clear hK <;> clear K
        · (first | exact trivial | omega | (simp only [In64] at *; omega) | (simp [In64] at *; omega) | (simp_all; done) | skip)
        refine qa (qk (qb ?_))
        simp only [Tryd.results67, enA, ev0, evA, evB, evP, fl, gp, tab, simprocAttr, reduceCtorEq, reduceIte]
        have hbf : b = false := by
          cases b with
          | false => rfl
          | true => exact absurd (hbs.1 rfl).1 k1
        rw [hbf]
      · cases hC3
    · refine hk_draw mixed (by kernel_rfl) fun K hK => runs_eval tab_ok ?_
      simp only [ev0, evA, evB, evP, fl, gp, tab, simprocAttr, reduceCtorEq, reduceIte, il_length, hmi, decide_eq_true (show (((thl n p).length * (thl n q).length : Nat) : Int) = (n : Int) by omega)]
      refine fin_stop ?_ (runs_call (ho1) rfl rfl rfl (by simp only [dstOk, Nat.reduceLT]) (by repeat (first | exact trivial | constructor)) (runs_eval tab_ok ?_))
      · simp only [In64]; omega
      simp only [ev0, evA, evB, evP, fl, gp, tab, simprocAttr, reduceCtorEq, reduceIte, il_length, hmi, decide_eq_true (show (((thl n p).length * (thl n q).length : Nat) : Int) = (n : Int) by omega)]
      refine fin_stop trivial (runs_call (ho2) rfl rfl rfl (by simp only [dstOk, Nat.reduceLT]) (by repeat (first | exact trivial | constructor)) (runs_eval tab_ok ?_))
      simp only [ev0, evA, evB, evP, fl, gp, tab, simprocAttr, reduceCtorEq, reduceIte, hband, il_length, hmi, decide_eq_true (show (((thl n p).length * (thl n q).length : Nat) : Int) = (n : Int) by omega)]
      refine fin_stop trivial (runs_call (hgr) rfl rfl rfl (by simp only [dstOk, Nat.reduceLT]) (by repeat (first | exact trivial | constructor)) (runs_eval tab_ok ?_))
      simp only [ev0, evA, evB, evP, fl, gp, tab, simprocAttr, reduceCtorEq, reduceIte, decide_eq_true (show ((bo n (fun x => p x && q x) : Nat) : Int) = ((bo n (onp e) : Nat) : Int) by rw [k2]), il_length, hmi, decide_eq_true (show (((thl n p).length * (thl n q).length : Nat) : Int) = (n : Int) by omega)]
      refine fin_run ?_ (hK _ ?_) <;> clear hK <;> clear K
      · (first | exact trivial | omega | (simp only [In64] at *; omega) | (simp [In64] at *; omega) | (simp_all; done) | skip)
      refine qa ?_
      refine hk_cond rfl (fun hC3 => ?_) (fun hC3 => ?_)
      · cases hC3
      · (try simp only [nhs] at hC3)
        refine qh (qa (qm (qm ?_)))
        refine hk_region fun K hK => runs_eval tab_ok ?_
        simp only [ev0, evA, evB, evP, fl, gp, tab, simprocAttr, reduceCtorEq, reduceIte, il_length]
        refine fin_run trivial (hK _ ?_) <;> clear hK <;> clear K
        refine qa (ql ?_)
        refine hk_loop (ι := Nat) (fun i => ⟨75, [(2, .p (.list (il (thl n q)))), (3, .ptr 0 0), (7, .ptr 1 0), (50, .p (.list (il (thl n p)))), (51, .p (.int .i64 (thl n p).length)), (52, .p (.int .i64 i))], [.own [.p (.int .i64 n), .p (.list (il m))], .own [.p (.int .i64 0), .p (.int .i64 0)]]⟩) (fun i => i ≤ (thl n p).length ∧ ∀ a b k, a < n → b < n → k < i → (thl n p).getD k 0 = (a : Int) → q b = true → op m n a b = op m n b a) (fun i => (thl n p).length - i) 0 ⟨Nat.zero_le _, fun a b k _ _ hk => by omega⟩ [0, 1] (by simp only [leq, leA, ev0, evA, evB, evP, fl, gp, tab, simprocAttr, reduceCtorEq, reduceIte] <;> trivial) fun i hi => ?_
        obtain ⟨hi1, hi2⟩ := hi
        refine qm ?_
        refine hk_region fun K hK => runs_eval tab_ok ?_
        simp only [ev0, evA, evB, evP, fl, gp, tab, simprocAttr, reduceCtorEq, reduceIte]
        refine fin_run trivial (hK _ ?_) <;> clear hK <;> clear K
        refine qa (qm ?_)
        refine hk_cond rfl (fun hC4 => ?_) (fun hC4 => ?_)
        · (try simp only [nhs] at hC4)
          have hlt : i < (thl n p).length := by omega
          obtain ⟨x, x1, x2, x3⟩ := thl_get hlt
          refine qh (qa (qm (ql (qm ?_))))
          refine hk_region fun K hK => runs_eval tab_ok ?_
          simp only [ev0, evA, evB, evP, fl, gp, tab, simprocAttr, reduceCtorEq, reduceIte, il_get hlt, x3]
          refine fin_run ?_ (hK _ ?_) <;> clear hK <;> clear K
          · (first | exact trivial | omega | (simp only [In64] at *; omega) | (simp [In64] at *; omega) | (simp_all; done) | skip)
          refine qa (qm ?_)
          refine hk_region fun K hK => runs_eval tab_ok ?_
          simp only [ev0, evA, evB, evP, fl, gp, tab, simprocAttr, reduceCtorEq, reduceIte, il_length]
          refine fin_run trivial (hK _ ?_) <;> clear hK <;> clear K
          refine qa (ql ?_)
          refine hk_loop (ι := Nat) (fun j => ⟨75, [(2, .p (.list (il (thl n q)))), (3, .ptr 0 0), (7, .ptr 1 0), (12, .p (.int .i64 x)), (50, .p (.list (il (thl n p)))), (51, .p (.int .i64 (thl n p).length)), (52, .p (.int .i64 i)), (56, .p (.list (il (thl n q)))), (57, .p (.int .i64 (thl n q).length)), (58, .p (.int .i64 j))], [.own [.p (.int .i64 n), .p (.list (il m))], .own [.p (.int .i64 0), .p (.int .i64 0)]]⟩) (fun j => j ≤ (thl n q).length ∧ ∀ b k, b < n → k < j → (thl n q).getD k 0 = (b : Int) → op m n x b = op m n b x) (fun j => (thl n q).length - j) 0 ⟨Nat.zero_le _, fun b k _ hk => by omega⟩ [0, 1] (by simp only [leq, leA, ev0, evA, evB, evP, fl, gp, tab, simprocAttr, reduceCtorEq, reduceIte] <;> trivial) fun j hj => ?_
          obtain ⟨hj1, hj2⟩ := hj
          refine qm ?_
          refine hk_region fun K hK => runs_eval tab_ok ?_
          simp only [ev0, evA, evB, evP, fl, gp, tab, simprocAttr, reduceCtorEq, reduceIte]
          refine fin_run trivial (hK _ ?_) <;> clear hK <;> clear K
          refine qa (qm ?_)
          refine hk_cond rfl (fun hC5 => ?_) (fun hC5 => ?_)
          · (try simp only [nhs] at hC5)
            have hjl : j < (thl n q).length := by omega
            obtain ⟨y, y1, y2, y3⟩ := thl_get hjl
            refine qh (qa (qm (ql (qm ?_))))
            refine hk_region fun K hK => runs_eval tab_ok ?_
            simp only [ev0, evA, evB, evP, fl, gp, tab, simprocAttr, reduceCtorEq, reduceIte, il_get hjl, y3]
            refine fin_run ?_ (hK _ ?_) <;> clear hK <;> clear K
            · (first | exact trivial | omega | (simp only [In64] at *; omega) | (simp [In64] at *; omega) | (simp_all; done) | skip)
            refine qa (qm ?_)
            refine hk_draw mixed (by kernel_rfl) fun K hK => runs_eval tab_ok ?_
            simp only [ev0, evA, evB, evP, fl, gp, tab, simprocAttr, reduceCtorEq, reduceIte]
            refine fin_stop trivial (runs_call (of_c h.2.1 x1 y1) rfl rfl rfl (by simp only [dstOk, Nat.reduceLT]) (by repeat (first | exact trivial | constructor)) (runs_eval tab_ok ?_))
            simp only [ev0, evA, evB, evP, fl, gp, tab, simprocAttr, reduceCtorEq, reduceIte]
            refine fin_stop trivial (runs_call (of_c h.2.1 y1 x1) rfl rfl rfl (by simp only [dstOk, Nat.reduceLT]) (by repeat (first | exact trivial | constructor)) (runs_eval tab_ok ?_))
            simp only [ev0, evA, evB, evP, fl, gp, tab, simprocAttr, reduceCtorEq, reduceIte]
            refine fin_run ?_ (hK _ ?_) <;> clear hK <;> clear K
            · (first | exact trivial | omega | (simp only [In64] at *; omega) | (simp [In64] at *; omega) | (simp_all; done) | skip)
            refine qa ?_
            refine hk_cond rfl (fun hC6 => ?_) (fun hC6 => ?_)
            · (try simp only [nhs] at hC6)
              refine qm ?_
              refine hk_region fun K hK => runs_eval tab_ok ?_
              simp only [ev0, evA, evB, evP, fl, gp, tab, simprocAttr, reduceCtorEq, reduceIte]
              refine fin_run ?_ (hK _ ?_) <;> clear hK <;> clear K
              · (first | exact trivial | omega | (simp only [In64] at *; omega) | (simp [In64] at *; omega) | (simp_all; done) | skip)
              refine qa (qk (qe (qb (qb (qe (qe (qb (qb (qe (qb ?_))))))))))
              simp only [Tryd.results67, enA, ev0, evA, evB, evP, fl, gp, tab, simprocAttr, reduceCtorEq, reduceIte]
              have hbf : b = false := by
                cases b with
                | false => rfl
                | true =>
                  have := (hbs.1 rfl).2.2 x y x1 y1 x2 y2
                  omega
              rw [hbf]
            · (try simp only [nhs] at hC6)
              refine qh (qd (qa ?_))
              refine hk_region fun K hK => runs_eval tab_ok ?_
              simp only [ev0, evA, evB, evP, fl, gp, tab, simprocAttr, reduceCtorEq, reduceIte]
              refine fin_run ?_ (hK _ ?_) <;> clear hK <;> clear K
              · (first | exact trivial | omega | (simp only [In64] at *; omega) | (simp [In64] at *; omega) | (simp_all; done) | skip)
              refine qa ?_
              refine ⟨j + 1, [0, 1], ⟨by omega, fun b k hb' hk hg => ?_⟩, by omega, ?_⟩
              · by_cases hkj : k = j
                · rw [hkj, y3] at hg
                  obtain rfl : y = b := by omega
                  omega
                · exact hj2 b k hb' (by omega) hg
              · simp only [leq, leA, ev0, evA, evB, evP, fl, gp, tab, simprocAttr, reduceCtorEq, reduceIte] <;> first | trivial | omega
          · (try simp only [nhs] at hC5)
            refine qj (qc (qc (qf (qd (qa ?_)))))
            refine hk_region fun K hK => runs_eval tab_ok ?_
            simp only [ev0, evA, evB, evP, fl, gp, tab, simprocAttr, reduceCtorEq, reduceIte]
            refine fin_run ?_ (hK _ ?_) <;> clear hK <;> clear K
            · (first | exact trivial | omega | (simp only [In64] at *; omega) | (simp [In64] at *; omega) | (simp_all; done) | skip)
            refine qa ?_
            refine ⟨i + 1, [0, 1], ⟨by omega, fun a b k ha hb' hk hg hqb => ?_⟩, by omega, ?_⟩
            · by_cases hki : k = i
              · rw [hki, x3] at hg
                obtain rfl : x = a := by omega
                obtain ⟨j', j1, j2⟩ := thl_at hb' hqb
                exact hj2 b j' hb' (by omega) j2
              · exact hi2 a b k ha hb' (by omega) hg hqb
            · simp only [leq, leA, ev0, evA, evB, evP, fl, gp, tab, simprocAttr, reduceCtorEq, reduceIte] <;> first | trivial | omega
        · (try simp only [nhs] at hC4)
          refine qj (qc (qc (qf (qa (qm ?_)))))
          refine hk_region fun K hK => runs_eval tab_ok ?_
          simp only [ev0, evA, evB, evP, fl, gp, tab, simprocAttr, reduceCtorEq, reduceIte]
          refine fin_run ?_ (hK _ ?_) <;> clear hK <;> clear K
          · (first | exact trivial | omega | (simp only [In64] at *; omega) | (simp [In64] at *; omega) | (simp_all; done) | skip)
          refine qa (qk ?_)
          simp only [Tryd.results67, enA, ev0, evA, evB, evP, fl, gp, tab, simprocAttr, reduceCtorEq, reduceIte]
          have hbt : b = true := hbs.2 ⟨k1, hmeet.2 k2, fun a c ha hc h1 h2 => by
            obtain ⟨i', i1, i2⟩ := thl_at ha h1
            exact hi2 a c i' ha hc (by omega) i2 h2⟩
          rw [hbt]
    · refine hk_draw mixed (by kernel_rfl) fun K hK => runs_eval tab_ok ?_
      simp only [ev0, evA, evB, evP, fl, gp, tab, simprocAttr, reduceCtorEq, reduceIte, il_length, hmi, decide_eq_true (show (((thl n p).length * (thl n q).length : Nat) : Int) = (n : Int) by omega)]
      refine fin_stop ?_ (runs_call (ho1) rfl rfl rfl (by simp only [dstOk, Nat.reduceLT]) (by repeat (first | exact trivial | constructor)) (runs_eval tab_ok ?_))
      · simp only [In64]; omega
      simp only [ev0, evA, evB, evP, fl, gp, tab, simprocAttr, reduceCtorEq, reduceIte, il_length, hmi, decide_eq_true (show (((thl n p).length * (thl n q).length : Nat) : Int) = (n : Int) by omega)]
      refine fin_stop trivial (runs_call (ho2) rfl rfl rfl (by simp only [dstOk, Nat.reduceLT]) (by repeat (first | exact trivial | constructor)) (runs_eval tab_ok ?_))
      simp only [ev0, evA, evB, evP, fl, gp, tab, simprocAttr, reduceCtorEq, reduceIte, hband, il_length, hmi, decide_eq_true (show (((thl n p).length * (thl n q).length : Nat) : Int) = (n : Int) by omega)]
      refine fin_stop trivial (runs_call (hgr) rfl rfl rfl (by simp only [dstOk, Nat.reduceLT]) (by repeat (first | exact trivial | constructor)) (runs_eval tab_ok ?_))
      simp only [ev0, evA, evB, evP, fl, gp, tab, simprocAttr, reduceCtorEq, reduceIte, decide_eq_false (show ¬ ((bo n (fun x => p x && q x) : Nat) : Int) = ((bo n (onp e) : Nat) : Int) by omega), il_length, hmi, decide_eq_true (show (((thl n p).length * (thl n q).length : Nat) : Int) = (n : Int) by omega)]
      refine fin_run ?_ (hK _ ?_) <;> clear hK <;> clear K
      · (first | exact trivial | omega | (simp only [In64] at *; omega) | (simp [In64] at *; omega) | (simp_all; done) | skip)
      refine qa ?_
      refine hk_cond rfl (fun hC3 => ?_) (fun hC3 => ?_)
      · (try simp only [nhs] at hC3)
        refine qm ?_
        refine hk_region fun K hK => runs_eval tab_ok ?_
        simp only [ev0, evA, evB, evP, fl, gp, tab, simprocAttr, reduceCtorEq, reduceIte]
        refine fin_run ?_ (hK _ ?_) <;> clear hK <;> clear K
        · (first | exact trivial | omega | (simp only [In64] at *; omega) | (simp [In64] at *; omega) | (simp_all; done) | skip)
        refine qa (qk (qb ?_))
        simp only [Tryd.results67, enA, ev0, evA, evB, evP, fl, gp, tab, simprocAttr, reduceCtorEq, reduceIte]
        have hbf : b = false := by
          cases b with
          | false => rfl
          | true => exact absurd (hmeet.1 (hbs.1 rfl).2.1) k2
        rw [hbf]
      · cases hC3
end Go.Proofs.YtboadfahlflmhaaDoor

/-
  Arguments of a law, opened: rows of rows of numbers. Conditions: none; a library text.
-/
set_option linter.all false
namespace Go.Pv
open Go.RowKit Go.ChangeShapes Go.WideShapes Go.ChangeAt

section
variable {H : Type} {enc : TypeId × Value → H} {P : Program}
theorem weightsAll_mem {e : TypeId} {f : Nat → Bool} : ∀ {l : List (DataW H)}, (DataW.weightsAll P e l).all f = true → ∀ d ∈ l, (d.weights P e).all f = true
  | [], _, d, hd => by simp at hd
  | x :: r, h, d, hd => by
    simp only [DataW.weightsAll, List.all_append, Bool.and_eq_true] at h
    rcases List.mem_cons.1 hd with rfl | hd
    · exact h.1
    · exact weightsAll_mem h.2 d hd

theorem wcells_one {W : World} {base : Nat} {a : Addr} {u : Value} (h : W.cells? base a 1 = some [u]) : W.cell? a = some u := by
  unfold World.cells? at h
  split at h
  · simp only [List.range_succ, List.range_zero, List.nil_append, List.mapM_cons, List.mapM_nil, Option.bind_eq_bind, Option.pure_def, Option.bind_eq_some_iff] at h
    obtain ⟨v, hv, l, hl, e⟩ := h
    simp only [Option.some.injEq] at hl e
    subst hl
    simp only [List.cons.injEq, and_true] at e
    subst e
    have : a.add 0 = a := by cases a; simp [Addr.add]
    rwa [this] at hv
  · cases h

theorem open_ll {t e ti : TypeId} {W : World} {base : Nat} {v : Value} {d : DataW H} {p : List MemPlace} (ht : P.underlying t = some (.slice e)) (he : P.underlying e = some (.slice ti)) (hti : P.underlying ti = some (.int .i64)) (hce : P.cellsOf e = 1) (hc : P.cellsOf ti = 1)
    (hbe : P.bytesOf e = 24) (hby : P.bytesOf ti = 8) (hval : Value.okWide P W .any base t v) (h : DataW.Trod enc P W 0 (fun _ => true) true t v d p) (hw : (d.weights P t).all (· ≤ reachBytes) = true) :
    ∃ ls : List (List Int), (∀ w ∈ ls, w.length ≤ 17592186043904) ∧ ls.length ≤ 17592186043904 ∧ Reads (fun b => b < W.heap.size) W (.list (ll ls)) v := by
  obtain ⟨a0, len0, cap0, rfl⟩ := okWide_slice ht hval
  obtain ⟨fuel, hf⟩ := h
  rcases DataW.trod_slice ht hf with ⟨hcs, hx⟩ | ⟨a, len, cap, elems, rest, n, _, hcs, hx, hb, hle, hmax, hlen, hel, _, _⟩
  · simp [Value.cells] at hcs
    obtain ⟨rfl, rfl, rfl⟩ := hcs
    exact ⟨[], fun x hx => by simp at hx, Nat.zero_le _, .list0 none 0 fun _ => rfl⟩
  · simp [Value.cells] at hcs
    obtain ⟨rfl, rfl, rfl⟩ := hcs
    simp only [Prod.mk.injEq] at hx
    obtain ⟨rfl, rfl⟩ := hx
    simp only [DataW.weights, ht, hbe, List.all_cons, List.all_append, Bool.and_eq_true, decide_eq_true_eq, List.length_map] at hw
    obtain ⟨hw1, hw2, _⟩ := hw
    unfold reachBytes at hw1
    have each : ∀ i, ∃ xs : List Int, ∃ u : Value, i < len0 → W.cell? (a.add i) = some u ∧ xs.length ≤ 17592186043904 ∧ Reads (fun b => b < W.heap.size) W (.list (il xs)) u := by
      intro i
      by_cases hi : i < len0
      · have h1 := hel i hi
        rw [hce, Nat.mul_one, List.getElem?_eq_getElem (show i < elems.length by omega)] at h1
        obtain ⟨cs, hcs, htr⟩ := Option.bind_eq_some_iff.1 h1
        have hwi := weightsAll_mem hw2 (elems[i]'(by omega)).1 (List.mem_map.2 ⟨_, List.getElem_mem _, rfl⟩)
        obtain ⟨xs, u, rfl, _, g2, g3⟩ := il_of_trod he hti hc hby htr hwi
        exact ⟨xs, u, fun _ => ⟨wcells_one hcs, g2, g3⟩⟩
      · exact ⟨[], undef, fun h => absurd h hi⟩
    obtain ⟨fx, hfx⟩ := Classical.skolem.1 each
    obtain ⟨fu, hfu⟩ := Classical.skolem.1 hfx
    refine ⟨(List.range len0).map fx, fun w hw => ?_, by rw [List.length_map, List.length_range]; omega, ?_⟩
    · obtain ⟨i, hi, rfl⟩ := List.mem_map.1 hw
      exact (hfu i (List.mem_range.1 hi)).2.1
    · have hlen' : (ll ((List.range len0).map fx)).length = len0 := by rw [ll_length, List.length_map, List.length_range]
      by_cases h0 : len0 = 0
      · subst h0
        exact .list0 _ _ fun h => by cases h
      · obtain ⟨b, off, spot⟩ := a
        have hspot : spot = none := by simpa [Addr.add] using World.cell?_spot (hfu 0 (by omega)).1
        subst hspot
        have hone : ∀ x ∈ ll ((List.range len0).map fx), x.cells.length = 1 := by
          intro x hx
          obtain ⟨y, _, rfl⟩ := List.mem_map.1 hx
          rfl
        have hfl : flat (ll ((List.range len0).map fx)) = ll ((List.range len0).map fx) := flat_all_one (ll_all _)
        have hcell' : ∀ c, c < len0 → W.cell? ⟨b, off + c, none⟩ = some (fu c) := fun c hc => by rw [← Go.WideShapes.add_plain]; exact (hfu c hc).1
        have := Reads.list (ok := fun b => b < W.heap.size) (w := W) (ll ((List.range len0).map fx)) b off cap0 1 fu ?_ hone (by rw [hlen']; exact hle) (fun c hcl => ?_) (fun c hcl => ?_)
        · rwa [hlen'] at this
        · have := hcell' 0 (by omega)
          simp only [World.cell?] at this
          by_cases hb : b < W.heap.size
          · exact hb
          · rw [Array.getElem?_eq_none (by omega)] at this
            simp at this
        · rw [hfl, hlen'] at hcl
          exact hcell' c hcl
        · simp only [hfl]
          have hcl2 : c < len0 := by rw [hfl, hlen'] at hcl; exact hcl
          have e : (ll ((List.range len0).map fx))[c]'(by rw [hlen']; exact hcl2) = .list (il (fx c)) := by
            simp [ll]
          rw [e]
          exact (hfu c hcl2).2.2
end
end Go.Pv

/-
  Walks: the law ProdSemi. Conditions: none.
-/
set_option linter.all false
namespace Go.Proofs.YtboadfahlflmhaaDoor
open Go.Pv

theorem psf_key (N : Int) (m : List Int) (N' : Int) (m' : List Int) (ls : List (List Int)) :
    (∃ n n' e e' : Nat, GT N m n e ∧ GT N' m' n' e' ∧ ls.length = n' ∧ (∀ j, j < n' → rwc n m (ls.getD j []) = 0) ∧ (∀ j, j < n' → mgd m' n' ls j) ∧ n * n' ≤ 60 ∧ tg N m N' m' = (0, 0)) ∨ (∃ w : Int × Int, ¬ w.1 = 0 ∧ tg N m N' m' = w ∧ psf N m N' m' ls = w) ∨ (tg N m N' m' = (0, 0) ∧ ¬ (ls.length : Int) = N' ∧ psf N m N' m' ls = (8, 0)) ∨
    (∃ n n' e e' : Nat, GT N m n e ∧ GT N' m' n' e' ∧ ls.length = n' ∧ tg N m N' m' = (0, 0) ∧ ¬ (psf N m N' m' ls).1 = 0) := by
  by_cases z : (tg N m N' m').1 = 0
  · obtain ⟨z1, z2⟩ := tg_zero z
    obtain ⟨n, e, h, _⟩ := gf_ok z1
    obtain ⟨n', e', h', _⟩ := gf_ok z2
    have ht : tg N m N' m' = (0, 0) := by
      unfold tg; rw [if_pos z1]
      obtain rfl := h'.1
      exact gf_of h'
    by_cases hl : (ls.length : Int) = N'
    · have hl' : ls.length = n' := by have := h'.1; omega
      by_cases hp : (psf N m N' m' ls).1 = 0
      · obtain rfl := h.1
        obtain rfl := h'.1
        left
        have hr : ∀ j, j < n' → rwc n m (ls.getD j []) = 0 := by
          intro j
          induction j using Nat.strongRecOn with
          | _ j ih =>
            intro hj
            by_cases hh : rwc n m (ls.getD j []) = 0
            · exact hh
            · rw [psf_row z hl (by omega) hh (fun k hk => ih k hk (by omega))] at hp
              exact absurd hp hh
        have h2 := psf_2 (m := m) (m' := m') z hl (fun j hj => hr j (by omega))
        rw [h2] at hp
        have hm : ∀ j, j < n' → mgd m' n' ls j := by
          intro j
          induction j using Nat.strongRecOn with
          | _ j ih =>
            intro hj
            by_cases hh : mgd m' n' ls j
            · exact hh
            · rw [psf2_7 hj hh (fun k hk => ih k hk (by omega))] at hp
              simp at hp
        rw [psf2_n hm] at hp
        by_cases hb : n * n' > 60
        · rw [if_pos hb] at hp; simp at hp
        · exact ⟨n, n', e, e', h, h', hl', hr, hm, by omega, ht⟩
      · exact .inr (.inr (.inr ⟨n, n', e, e', h, h', hl', ht, hp⟩))
    · exact .inr (.inr (.inl ⟨ht, hl, psf_8 z hl⟩))
  · exact .inr (.inl ⟨_, z, rfl, psf_tg z⟩)

end Go.Proofs.YtboadfahlflmhaaDoor

/-
  The law ProdSemiParts. Conditions: none.
-/
set_option linter.all false
namespace Go.Proofs.YtboadfahlflmhaaDoor
open Go.Pv

theorem sm1_c (n' e' a : Nat) (m' : List Int) (h' : 0 < n') (hb : n' ≤ 60) (ha : a ≤ 3600) : FnC Tryd.prog 63 [.int .i64 a, .ptr [.int .i64 n', .list (il m')], .ptr [.int .i64 e']] (.bool (smA n' e' a)) := by
  refine fnc_of tab_ok Tryd.func63 rfl (by kernel_rfl) (by rw [Tryd.ntmps63]; exact Nat.le_add_left 3 _) ?_; rw [Tryd.ntmps63]
  refine qm ?_
  refine hk_region fun K hK => runs_eval tab_ok ?_
  simp only [ev0, evA, evB, evP, fl, gp, tab, simprocAttr, reduceCtorEq, reduceIte]
  refine fin_run trivial (hK _ ?_) <;> clear hK <;> clear K
  refine qa (qm ?_)
  refine hk_draw mixed (by kernel_rfl) fun K hK => runs_eval tab_ok ?_
  simp only [ev0, evA, evB, evP, fl, gp, tab, simprocAttr, reduceCtorEq, reduceIte, tm_nat]
  refine fin_run ?_ (hK _ ?_) <;> clear hK <;> clear K
  · (first | exact trivial | omega | (simp only [In64] at *; omega) | (simp [In64] at *; omega) | (simp_all; done) | skip)
  refine qa (qk ?_)
  simp only [Tryd.results63, enA, ev0, evA, evB, evP, fl, gp, tab, simprocAttr, reduceCtorEq, reduceIte]
  all_goals (exact decide_eq_decide.2 Int.ofNat_inj)
theorem sm2_c (n' e a : Nat) (m' : List Int) (h' : 0 < n') (hb : n' ≤ 60) (ha : a ≤ 3600) : FnC Tryd.prog 64 [.int .i64 a, .ptr [.int .i64 n', .list (il m')], .ptr [.int .i64 e]] (.bool (smB n' e a)) := by
  refine fnc_of tab_ok Tryd.func64 rfl (by kernel_rfl) (by rw [Tryd.ntmps64]; exact Nat.le_add_left 3 _) ?_; rw [Tryd.ntmps64]
  refine qm ?_
  refine hk_region fun K hK => runs_eval tab_ok ?_
  simp only [ev0, evA, evB, evP, fl, gp, tab, simprocAttr, reduceCtorEq, reduceIte]
  refine fin_run trivial (hK _ ?_) <;> clear hK <;> clear K
  refine qa (qm ?_)
  refine hk_draw mixed (by kernel_rfl) fun K hK => runs_eval tab_ok ?_
  simp only [ev0, evA, evB, evP, fl, gp, tab, simprocAttr, reduceCtorEq, reduceIte, td_nat]
  refine fin_run ?_ (hK _ ?_) <;> clear hK <;> clear K
  · have := Nat.div_le_self a n'; generalize a / n' = z at *; simp only [In64]; omega
  refine qa (qk ?_)
  simp only [Tryd.results64, enA, ev0, evA, evB, evP, fl, gp, tab, simprocAttr, reduceCtorEq, reduceIte]
  all_goals (exact decide_eq_decide.2 Int.ofNat_inj)
def stl1 (n : Nat) (ls : List (List Int)) (i : Nat) : Bool := decide (∀ x, x < i → ls.getD x [] = thl n fun _ => true)
theorem stl1_succ (n : Nat) (ls : List (List Int)) (i : Nat) : stl1 n ls (i + 1) = (stl1 n ls i && decide (ls.getD i [] = thl n fun _ => true)) := by
  unfold stl1
  rw [Bool.eq_iff_iff, Bool.and_eq_true, decide_eq_true_eq, decide_eq_true_eq, decide_eq_true_eq]
  constructor
  · intro h; exact ⟨fun x hx => h x (by omega), h i (by omega)⟩
  · rintro ⟨h1, h2⟩ x hx
    by_cases e : x = i
    · rw [e]; exact h2
    · exact h1 x (by omega)
theorem row_stays {n : Nat} {l : List Int} {φ : Nat → Nat} (hl : l.length = n) (hv : ∀ i, i < n → l.getD i 0 = ((φ i : Nat) : Int)) : l = (thl n fun _ => true) ↔ ∀ i, i < n → φ i = i := by
  have e1 : (thl n fun _ => true) = tbm n fun i => i := by
    show (thn' n fun _ => true).map _ = _
    unfold thn' tbm
    rw [List.filter_eq_self.2 fun _ _ => rfl]
  have e2 : l = tbm n φ := by
    refine List.ext_getElem (by rw [hl, tbm_len]) fun i h1 h2 => ?_
    have := hv i (by omega)
    rw [show l.getD i 0 = l[i] by simp [List.getD, List.getElem?_eq_getElem h1]] at this
    rw [this]; simp [tbm]
  rw [e1, e2]
  exact ⟨fun h i hi => tbm_inj h i hi, fun h => tbm_congr h⟩

set_option maxRecDepth 20000 in
set_option maxHeartbeats 8000000 in
theorem prodSemiParts_c (N : Int) (m : List Int) (N' : Int) (m' : List Int) (ls : List (List Int)) (hm : m.length ≤ 17592186043904) (hm' : m'.length ≤ 17592186043904) (hls : ls.length ≤ 17592186043904) : FnC Tryd.prog 10 [gp N m, gp N' m', .list (ll ls)] (.bool true) := by
  have key : (∃ n n' e e' : Nat, GT N m n e ∧ GT N' m' n' e' ∧ ls.length = n' ∧ (∀ j, j < n' → rwc n m (ls.getD j []) = 0) ∧ (∀ j, j < n' → mgd m' n' ls j) ∧ n * n' ≤ 60) ∨ ¬ (psf N m N' m' ls).1 = 0 := by
    rcases psf_key N m N' m' ls with ⟨n, n', e, e', h, h', hl, hr, hmg, hle, ht⟩ | ⟨w, hw, ht, hps⟩ | ⟨ht, hl, hps⟩ | ⟨n, n', e, e', h, h', hl, ht, hps⟩
    · exact .inl ⟨n, n', e, e', h, h', hl, hr, hmg, hle⟩
    · right; rw [hps]; exact hw
    · right; rw [hps]; decide
    · exact .inr hps
  refine fnc_of tab_ok Tryd.func10 rfl (by kernel_rfl) (by rw [Tryd.ntmps10]; exact Nat.le_add_left 3 _) ?_; rw [Tryd.ntmps10]
  refine qm ?_
  refine hk_region fun K hK => runs_eval tab_ok ?_
  simp only [ev0, evA, evB, evP, fl, gp, tab, simprocAttr, reduceCtorEq, reduceIte]
  refine fin_run ?_ (hK _ ?_) <;> clear hK <;> clear K
  · (first | exact trivial | omega | (simp only [In64] at *; omega) | (simp [In64] at *; omega) | (simp_all; done) | skip)
  refine qa (qm (qm ?_))
  refine hk_region fun K hK => runs_eval tab_ok ?_
  simp only [ev0, evA, evB, evP, fl, gp, tab, simprocAttr, reduceCtorEq, reduceIte]
  refine fin_stop trivial (runs_call (prodBegun_c) rfl rfl rfl (by simp only [dstOk, Nat.reduceLT]) (by repeat (first | exact trivial | constructor)) (runs_eval tab_ok ?_))
  simp only [ev0, evA, evB, evP, fl, gp, tab, simprocAttr, reduceCtorEq, reduceIte]
  refine fin_run trivial (hK _ ?_) <;> clear hK <;> clear K
  refine qa ?_
  refine hk_cond rfl (fun hC1 => ?_) (fun hC1 => ?_)
  · cases hC1
  · (try simp only [nhs] at hC1)
    refine qh (qa (qm (qm ?_)))
    refine hk_region fun K hK => runs_eval tab_ok ?_
    simp only [ev0, evA, evB, evP, fl, gp, tab, simprocAttr, reduceCtorEq, reduceIte, ll_length]
    refine fin_run trivial (hK _ ?_) <;> clear hK <;> clear K
    refine qa ?_
    refine hk_cond rfl (fun hC2 => ?_) (fun hC2 => ?_)
    · (try simp only [nhs] at hC2)
      refine qm ?_
      refine hk_region fun K hK => runs_eval tab_ok ?_
      simp only [ev0, evA, evB, evP, fl, gp, tab, simprocAttr, reduceCtorEq, reduceIte]
      refine fin_run trivial (hK _ ?_) <;> clear hK <;> clear K
      refine qa (qk (qb ?_))
      simp only [Tryd.results10, enA, ev0, evA, evB, evP, fl, gp, tab, simprocAttr, reduceCtorEq, reduceIte]
      all_goals (first | rfl | (simp; done) | trace_state)
    · (try simp only [nhs] at hC2)
      have hlen : ls.length ≤ 100 := by omega
      refine qh (qa (qm ?_))
      rcases key with ⟨n, n', e, e', h, h', hl, hr, hmg, hle⟩ | hf
      · obtain rfl := h.1
        obtain rfl := h'.1
        have hb := h.2.1.big
        have hb' := h'.2.1.big
        have hpos := h'.2.2.pos
        have hmul : (n : Int) * (n' : Int) = ((n * n' : Nat) : Int) := (Int.natCast_mul _ _).symm
        have cS := semi_ok h h' hl hr hmg hle
        obtain ⟨E, hK, sA, nA, sB, hlen2, hcm, hI⟩ := sg_facts h h' hl hr hmg hle
        have hrow : ∀ y, y < n' → (ls.getD y []).length = n ∧ ∀ i, i < n → (ls.getD y []).getD i 0 = ((alp ls y i : Nat) : Int) := fun y hy => ⟨(rwc_ok (hr y hy)).1.1, fun i hi => ((rwc_ok (hr y hy)).1.2.1 i hi).1⟩
        have hst : stl1 n ls n' = true ↔ ∀ x i, x < n' → i < n → alp ls x i = i := by
          unfold stl1
          rw [decide_eq_true_eq]
          exact ⟨fun h x i hx hi => (row_stays (hrow x hx).1 (hrow x hx).2).1 (h x hx) i hi, fun h x hx => (row_stays (hrow x hx).1 (hrow x hx).2).2 fun i hi => h x i hx hi⟩
        have cN := normal_ok hK (smA n' e') sA true ⟨fun _ => nA, fun _ => rfl⟩
        have cI := is_ok hK (smB n' e) true ⟨fun _ => sB, fun _ => rfl⟩
        have cD := direct_ok hK sA sB (stl1 n ls n') (by rw [hst, ← hcm]; exact ⟨fun h => ⟨hlen2.1, hlen2.2, h⟩, fun h => h.2.2⟩)
        have cQ := quotient_ok hK (smA n' e') sA nA
        have hQ := qtb_GT hK sA nA
        have cG := gf_c (n * n' : Nat) (sg n n' m m' ls) (by unfold sg; rw [tbl_len]; have := sq_le hle; omega)
        rw [gf_of hK] at cG
        obtain ⟨φ, _, cIso⟩ := iso_yes hQ h' (by unfold qtb; rw [tbl_len]; have := sq_le hQ.2.1.big; omega) (by omega) hI
        clear hI hlen2 hcm hst
        refine hk_region fun K hK => runs_eval tab_ok ?_
        simp only [ev0, evA, evB, evP, fl, gp, tab, simprocAttr, reduceCtorEq, reduceIte]
        refine fin_stop trivial (runs_call (cS) rfl rfl rfl (by simp only [dstOk, Nat.reduceLT]) (by repeat (first | exact trivial | constructor)) (runs_eval tab_ok ?_))
        simp only [ev0, evA, evB, evP, fl, gp, tab, simprocAttr, reduceCtorEq, reduceIte]
        refine fin_run ?_ (hK _ ?_) <;> clear hK <;> clear K
        · (first | exact trivial | omega | (simp only [In64] at *; omega) | (simp [In64] at *; omega) | (simp_all; done) | skip)
        refine qa (qm (qm ?_))
        refine hk_region fun K hK => runs_eval tab_ok ?_
        simp only [ev0, evA, evB, evP, fl, gp, tab, simprocAttr, reduceCtorEq, reduceIte, hmul]
        refine fin_stop ?_ (runs_call (cG) rfl rfl rfl (by simp only [dstOk, Nat.reduceLT]) (by repeat (first | exact trivial | constructor)) (runs_eval tab_ok ?_))
        · simp only [In64]; omega
        simp only [ev0, evA, evB, evP, fl, gp, tab, simprocAttr, reduceCtorEq, reduceIte, hmul]
        refine fin_run ?_ (hK _ ?_) <;> clear hK <;> clear K
        · (first | exact trivial | omega | (simp only [In64] at *; omega) | (simp [In64] at *; omega) | (simp_all; done) | skip)
        refine qa ?_
        refine hk_cond rfl (fun hC3 => ?_) (fun hC3 => ?_)
        · cases hC3
        · (try simp only [nhs] at hC3)
          refine qh (qa (qm ?_))
          refine hk_draw2 mixed fun K hK => runs2_eval tab_ok ?_
          simp only [evD, ev0, evA, evB, evP, fl, gp, tab, simprocAttr, reduceCtorEq, reduceIte]
          refine fin2_stop trivial (runs2_call (e_c h.2.1) rfl rfl rfl rfl (by simp only [dstOk, Nat.reduceLT]) (by repeat (first | exact trivial | constructor)) (runs2_eval tab_ok ?_))
          simp only [evD, ev0, evA, evB, evP, fl, gp, tab, simprocAttr, reduceCtorEq, reduceIte, h.eI]
          refine fin2_stop trivial (runs2_call (e_c h'.2.1) rfl rfl rfl rfl (by simp only [dstOk, Nat.reduceLT]) (by repeat (first | exact trivial | constructor)) (runs2_eval tab_ok ?_))
          simp only [evD, ev0, evA, evB, evP, fl, gp, tab, simprocAttr, reduceCtorEq, reduceIte, h'.eI]
          refine fin2_run ?_ (hK _ _ (by first | kernel_rfl | rfl) ?_) <;> clear hK <;> clear K
          · (first | exact trivial | omega | (simp only [In64] at *; omega) | (simp [In64] at *; omega) | (simp_all; done) | skip)
          refine qa (qm ?_)
          refine hk_freeze 1 rfl rfl ?_
          refine hk_freeze 4 rfl rfl ?_
          refine hk_freeze 5 rfl rfl ?_
          refine hk_pure 4 rfl (Nat.zero_le _) ?_
          refine hk_pure 9 rfl (Nat.zero_le _) ?_
          refine hk_pure 10 rfl (Nat.zero_le _) ?_
          simp only [hset, List.drop_zero]
          refine hk_region fun K hK => runs_eval tab_ok ?_
          simp only [ev0, evA, evB, evP, fl, gp, tab, simprocAttr, reduceCtorEq, reduceIte]
          refine fin_stop trivial (runs_call (those_c (n * n') (sg n n' m m' ls) _ _ (smA n' e') (by omega) (fun a ha => sm1_c n' e' a m' hpos hb' (by omega))) rfl rfl rfl (by simp only [dstOk, Nat.reduceLT]) (by repeat (first | exact trivial | constructor)) (runs_eval tab_ok ?_))
          simp only [ev0, evA, evB, evP, fl, gp, tab, simprocAttr, reduceCtorEq, reduceIte]
          refine fin_run ?_ (hK _ ?_) <;> clear hK <;> clear K
          · (first | exact trivial | omega | (simp only [In64] at *; omega) | (simp [In64] at *; omega) | (simp_all; done) | skip)
          refine qa (qm ?_)
          refine hk_region fun K hK => runs_eval tab_ok ?_
          simp only [ev0, evA, evB, evP, fl, gp, tab, simprocAttr, reduceCtorEq, reduceIte]
          refine fin_stop trivial (runs_call (those_c (n * n') (sg n n' m m' ls) _ _ (smB n' e) (by omega) (fun a ha => sm2_c n' e a m' hpos hb' (by omega))) rfl rfl rfl (by simp only [dstOk, Nat.reduceLT]) (by repeat (first | exact trivial | constructor)) (runs_eval tab_ok ?_))
          simp only [ev0, evA, evB, evP, fl, gp, tab, simprocAttr, reduceCtorEq, reduceIte]
          refine fin_run ?_ (hK _ ?_) <;> clear hK <;> clear K
          · (first | exact trivial | omega | (simp only [In64] at *; omega) | (simp [In64] at *; omega) | (simp_all; done) | skip)
          refine qa (qm ?_)
          refine hk_region fun K hK => runs_eval tab_ok ?_
          simp only [ev0, evA, evB, evP, fl, gp, tab, simprocAttr, reduceCtorEq, reduceIte]
          refine fin_stop trivial (runs_call (cN) rfl rfl rfl (by simp only [dstOk, Nat.reduceLT]) (by repeat (first | exact trivial | constructor)) (runs_eval tab_ok ?_))
          simp only [ev0, evA, evB, evP, fl, gp, tab, simprocAttr, reduceCtorEq, reduceIte]
          refine fin_run ?_ (hK _ ?_) <;> clear hK <;> clear K
          · (first | exact trivial | omega | (simp only [In64] at *; omega) | (simp [In64] at *; omega) | (simp_all; done) | skip)
          refine qa (qm ?_)
          refine hk_region fun K hK => runs_eval tab_ok ?_
          simp only [ev0, evA, evB, evP, fl, gp, tab, simprocAttr, reduceCtorEq, reduceIte]
          refine fin_stop trivial (runs_call (cI) rfl rfl rfl (by simp only [dstOk, Nat.reduceLT]) (by repeat (first | exact trivial | constructor)) (runs_eval tab_ok ?_))
          simp only [ev0, evA, evB, evP, fl, gp, tab, simprocAttr, reduceCtorEq, reduceIte]
          refine fin_run ?_ (hK _ ?_) <;> clear hK <;> clear K
          · (first | exact trivial | omega | (simp only [In64] at *; omega) | (simp [In64] at *; omega) | (simp_all; done) | skip)
          refine qa (qm ?_)
          refine hk_region fun K hK => runs_eval tab_ok ?_
          simp only [ev0, evA, evB, evP, fl, gp, tab, simprocAttr, reduceCtorEq, reduceIte]
          refine fin_stop trivial (runs_call (cD) rfl rfl rfl (by simp only [dstOk, Nat.reduceLT]) (by repeat (first | exact trivial | constructor)) (runs_eval tab_ok ?_))
          simp only [ev0, evA, evB, evP, fl, gp, tab, simprocAttr, reduceCtorEq, reduceIte]
          refine fin_run ?_ (hK _ ?_) <;> clear hK <;> clear K
          · (first | exact trivial | omega | (simp only [In64] at *; omega) | (simp [In64] at *; omega) | (simp_all; done) | skip)
          refine qa (qm ?_)
          refine hk_region fun K hK => runs_eval tab_ok ?_
          simp only [ev0, evA, evB, evP, fl, gp, tab, simprocAttr, reduceCtorEq, reduceIte]
          refine fin_stop trivial (runs_call (cQ) rfl rfl rfl (by simp only [dstOk, Nat.reduceLT]) (by repeat (first | exact trivial | constructor)) (runs_eval tab_ok ?_))
          simp only [ev0, evA, evB, evP, fl, gp, tab, simprocAttr, reduceCtorEq, reduceIte]
          refine fin_run ?_ (hK _ ?_) <;> clear hK <;> clear K
          · (first | exact trivial | omega | (simp only [In64] at *; omega) | (simp [In64] at *; omega) | (simp_all; done) | skip)
          refine qa (qm (qm ?_))
          refine hk_region fun K hK => runs_eval tab_ok ?_
          simp only [ev0, evA, evB, evP, fl, gp, tab, simprocAttr, reduceCtorEq, reduceIte]
          refine fin_run ?_ (hK _ ?_) <;> clear hK <;> clear K
          · (first | exact trivial | omega | (simp only [In64] at *; omega) | (simp [In64] at *; omega) | (simp_all; done) | skip)
          refine qa ?_
          refine hk_cond rfl (fun hC4 => ?_) (fun hC4 => ?_)
          · cases hC4
          · (try simp only [nhs] at hC4)
            refine qh (qa (qm ?_))
            refine hk_region fun K hK => runs_eval tab_ok ?_
            simp only [ev0, evA, evB, evP, fl, gp, tab, simprocAttr, reduceCtorEq, reduceIte]
            refine fin_run trivial (hK _ ?_) <;> clear hK <;> clear K
            refine qa (qm (qm ?_))
            refine hk_region fun K hK => runs_eval tab_ok ?_
            simp only [ev0, evA, evB, evP, fl, gp, tab, simprocAttr, reduceCtorEq, reduceIte]
            refine fin_run trivial (hK _ ?_) <;> clear hK <;> clear K
            refine qa (ql ?_)
            refine hk_loop (ι := Nat) (fun i => ⟨151, [(2, .p (.list (ll ls))), (3, .ptr 0 0), (4, .p (.ptr [.int .i64 n', .list (il m')])), (8, .ptr 1 0), (17, .p (.bool (stl1 n ls n'))), (19, .ptr 2 0), (22, .p (.bool (stl1 n ls i))), (23, .p (.int .i64 i))], [.own [.p (.int .i64 n), .p (.list (il m))], .own [.p (.int .i64 0), .p (.int .i64 0)], .own [.p (.int .i64 ((cst (n * n') (dco (n * n') (op (sg n n' m m' ls) (n * n')) (smA n' e') (onp E))).length : Nat)), .p (.list (il (qtb (n * n') (op (sg n n' m m' ls) (n * n')) (dco (n * n') (op (sg n n' m m' ls) (n * n')) (smA n' e') (onp E)))))]]⟩) (fun i => i ≤ ls.length) (fun i => ls.length - i) 0 (Nat.zero_le _) [0, 3, 9] (by simp only [leq, leA, ev0, evA, evB, evP, fl, gp, tab, simprocAttr, reduceCtorEq, reduceIte] <;> first | trivial | exact ⟨rfl, rfl⟩ | trace_state) fun i hi => ?_
            refine qm (qm ?_)
            refine hk_region fun K hK => runs_eval tab_ok ?_
            simp only [ev0, evA, evB, evP, fl, gp, tab, simprocAttr, reduceCtorEq, reduceIte, ll_length]
            refine fin_run trivial (hK _ ?_) <;> clear hK <;> clear K
            refine qa ?_
            refine hk_cond rfl (fun hC5 => ?_) (fun hC5 => ?_)
            · (try simp only [nhs] at hC5)
              have hil' : i < ls.length := by omega
              have hgi := ll_get (ls := ls) (i := i) hil'
              have hsu := stl1_succ n ls i
              refine qh (qa (qm (ql ?_)))
              cases hst1 : stl1 n ls i
              · refine hk_draw2 mixed fun K hK => runs2_eval tab_ok ?_
                simp only [evD, ev0, evA, evB, evP, fl, gp, tab, simprocAttr, reduceCtorEq, reduceIte, hgi, ll_length, hst1]
                refine fin2_run ?_ (hK _ _ (by first | kernel_rfl | rfl) ?_) <;> clear hK <;> clear K
                · (first | exact trivial | omega | (simp only [In64] at *; omega) | (simp [In64] at *; omega) | (simp_all; done) | skip)
                refine qd (qa ?_)
                refine hk_region fun K hK => runs_eval tab_ok ?_
                simp only [ev0, evA, evB, evP, fl, gp, tab, simprocAttr, reduceCtorEq, reduceIte]
                refine fin_run ?_ (hK _ ?_) <;> clear hK <;> clear K
                · (first | exact trivial | omega | (simp only [In64] at *; omega) | (simp [In64] at *; omega) | (simp_all; done) | skip)
                refine qa ?_
                refine ⟨i + 1, [0, 1, 2], by omega, by omega, ?_⟩
                rw [hsu, hst1]
                simp only [leq, leA, ev0, evA, evB, evP, fl, gp, tab, simprocAttr, reduceCtorEq, reduceIte] <;> first | trivial | omega | (simp_all; done) | trace_state
              · refine hk_draw2 mixed fun K hK => runs2_eval tab_ok ?_
                simp only [evD, ev0, evA, evB, evP, fl, gp, tab, simprocAttr, reduceCtorEq, reduceIte, hgi, ll_length, hst1]
                refine fin2_stop ?_ (runs2_call (stays_r n (by omega)) rfl rfl rfl rfl (by simp only [dstOk, Nat.reduceLT]) (by repeat (first | exact trivial | constructor)) (runs2_eval tab_ok ?_))
                · exact ⟨by omega, by omega⟩
                simp only [evD, ev0, evA, evB, evP, fl, gp, tab, simprocAttr, reduceCtorEq, reduceIte, hgi, ll_length, hst1]
                refine fin2_stop ?_ (runs2_call (ints_c (ls.getD i []) (thl n fun _ => true) (by rw [(hrow i (by omega)).1]; omega)) rfl rfl rfl rfl (by simp only [dstOk, Nat.reduceLT]) (by repeat (first | exact trivial | constructor)) (runs2_eval tab_ok ?_))
                · (first | exact trivial | omega | (simp only [In64] at *; omega) | (simp [In64] at *; omega) | (simp_all; done) | skip)
                simp only [evD, ev0, evA, evB, evP, fl, gp, tab, simprocAttr, reduceCtorEq, reduceIte, hgi, ll_length, hst1]
                refine fin2_run ?_ (hK _ _ (by first | kernel_rfl | rfl) ?_) <;> clear hK <;> clear K
                · (first | exact trivial | omega | (simp only [In64] at *; omega) | (simp [In64] at *; omega) | (simp_all; done) | skip)
                refine qd (qa ?_)
                refine hk_region fun K hK => runs_eval tab_ok ?_
                simp only [ev0, evA, evB, evP, fl, gp, tab, simprocAttr, reduceCtorEq, reduceIte]
                refine fin_run ?_ (hK _ ?_) <;> clear hK <;> clear K
                · (first | exact trivial | omega | (simp only [In64] at *; omega) | (simp [In64] at *; omega) | (simp_all; done) | skip)
                refine qa ?_
                refine ⟨i + 1, [0, 1, 2], by omega, by omega, ?_⟩
                rw [hsu, hst1]
                simp only [leq, leA, ev0, evA, evB, evP, fl, gp, tab, simprocAttr, reduceCtorEq, reduceIte] <;> first | trivial | omega | (simp_all; done) | trace_state
            · (try simp only [nhs] at hC5)
              have hie : i = n' := by omega
              rw [hie]
              refine qj (qc (qc (qf (qa (qm ?_)))))
              refine hk_region fun K hK => runs_eval tab_ok ?_
              simp only [ev0, evA, evB, evP, fl, gp, tab, simprocAttr, reduceCtorEq, reduceIte]
              refine fin_stop trivial (runs_call (cIso) rfl rfl rfl (by simp only [dstOk, Nat.reduceLT]) (by repeat (first | exact trivial | constructor)) (runs_eval tab_ok ?_))
              simp only [ev0, evA, evB, evP, fl, gp, tab, simprocAttr, reduceCtorEq, reduceIte]
              refine fin_run ?_ (hK _ ?_) <;> clear hK <;> clear K
              · (first | exact trivial | omega | (simp only [In64] at *; omega) | (simp [In64] at *; omega) | (simp_all; done) | skip)
              refine qa (qm ?_)
              refine hk_region fun K hK => runs_eval tab_ok ?_
              simp only [ev0, evA, evB, evP, fl, gp, tab, simprocAttr, reduceCtorEq, reduceIte]
              refine fin_run ?_ (hK _ ?_) <;> clear hK <;> clear K
              · (first | exact trivial | omega | (simp only [In64] at *; omega) | (simp [In64] at *; omega) | (simp_all; done) | skip)
              refine qa (qk ?_)
              simp only [Tryd.results10, enA, ev0, evA, evB, evP, fl, gp, tab, simprocAttr, reduceCtorEq, reduceIte]
              all_goals (first | rfl | (simp; done) | trace_state)
      · refine hk_region fun K hK => runs_eval tab_ok ?_
        simp only [ev0, evA, evB, evP, fl, gp, tab, simprocAttr, reduceCtorEq, reduceIte]
        refine fin_stop trivial (runs_call (semi_no N m N' m' ls (by omega) (by omega) hf) rfl rfl rfl (by simp only [dstOk, Nat.reduceLT]) (by repeat (first | exact trivial | constructor)) (runs_eval tab_ok ?_))
        simp only [ev0, evA, evB, evP, fl, gp, tab, simprocAttr, reduceCtorEq, reduceIte]
        refine fin_run ?_ (hK _ ?_) <;> clear hK <;> clear K
        · (first | exact trivial | omega | (simp only [In64] at *; omega) | (simp [In64] at *; omega) | (simp_all; done) | skip)
        refine qa (qm (qm ?_))
        refine hk_region fun K hK => runs_eval tab_ok ?_
        simp only [ev0, evA, evB, evP, fl, gp, tab, simprocAttr, reduceCtorEq, reduceIte, decide_eq_false hf]
        refine fin_run ?_ (hK _ ?_) <;> clear hK <;> clear K
        · (first | exact trivial | omega | (simp only [In64] at *; omega) | (simp [In64] at *; omega) | (simp_all; done) | skip)
        refine qa ?_
        refine hk_cond rfl (fun hC3 => ?_) (fun hC3 => ?_)
        · refine qm ?_
          refine hk_region fun K hK => runs_eval tab_ok ?_
          simp only [ev0, evA, evB, evP, fl, gp, tab, simprocAttr, reduceCtorEq, reduceIte, decide_eq_false hf]
          refine fin_run ?_ (hK _ ?_) <;> clear hK <;> clear K
          · (first | exact trivial | omega | (simp only [In64] at *; omega) | (simp [In64] at *; omega) | (simp_all; done) | skip)
          refine qa (qk (qb ?_))
          simp only [Tryd.results10, enA, ev0, evA, evB, evP, fl, gp, tab, simprocAttr, reduceCtorEq, reduceIte]
          all_goals (first | rfl | (simp; done) | trace_state)
        · cases hC3
end Go.Proofs.YtboadfahlflmhaaDoor

/-
  What the listed package-level variable gives a walk: a table of numbers. Conditions: none; written by a program of this repo.
-/
set_option linter.all false
namespace Go.Proofs.YtboadfahlflmhaaDoor
open Go.Pv Go.ChangeShapes Go.WideShapes Go.ChangeAt Go.WideElems Go.RowKit

theorem own : ownKnob Tryd.prog.godebug = none := by kernel_rfl
theorem laidOut : laidOutB Tryd.prog = true := by kernel_rfl
theorem gG : Tryd.prog.globalNamed "math/bits.deBruijn64tab" = some 0 := by kernel_rfl
theorem tG : (Tryd.prog.globals[0]?).map (·.type) = some 135 := by kernel_rfl
theorem cG : Tryd.prog.cellsOf 5 = 1 := by kernel_rfl
/-- The door's own heap meets the condition. -/
theorem door_met (os : Os) (args : Array Value) : laidMetH Tryd.prog [("math/bits.deBruijn64tab", Rows.laid_math_bits_deBruijn64tab)] ((World.doorLaid Tryd.prog 4000 os).forCall (fun _ _ => 0) ⟨#[], args, []⟩).memory :=
  laidMetH_of_parts3 (fuel := 8) (laidMet_of_run' 8 (by kernel_rfl) (by kernel_rfl)) (by kernel_rfl) (by kernel_rfl)

def convD : DataW Unit → PV
  | .lit (.int k n) => .int k n
  | _ => .nil
def datum : List (DataW Unit) → List PV := List.map convD
theorem glob_datum : (match (Rows.laid_math_bits_deBruijn64tab : DataW Unit) with | .agg l => datum l | _ => []) = glob0 := rfl

theorem laid_ok {W : World} (h : laidMetH Tryd.prog [("math/bits.deBruijn64tab", Rows.laid_math_bits_deBruijn64tab)] W) : LaidW (fun b => b < W.heap.size) W := by
  refine ⟨fun b h => h, fun g l hg => ?_⟩
  have hg2 : g = 0 ∧ l = glob0 := by
    unfold gv at hg
    by_cases e : g = 0
    · subst e; exact ⟨rfl, (Option.some.inj hg).symm⟩
    · have : (g == 0) = false := by simpa using e
      rw [this] at hg; simp at hg
  obtain ⟨rfl, rfl⟩ := hg2
  rw [MakeChecks.laidMetH_plain _ _ _ (by kernel_rfl)] at h
  obtain ⟨ps, ⟨g0, t0, cs0, f0, p0, q0, hg0, ht0, hv0, hd0, _, _⟩, _, _⟩ := h
  obtain rfl := Option.some.inj (gG.symm.trans hg0)
  obtain rfl := Option.some.inj (tG.symm.trans ht0)
  obtain ⟨xs, m1, rfl, hx1, hlen, hn3, hel⟩ := DataW.trod_array Tryd.underlying135 hd0
  have hd1 : Rows.laid_math_bits_deBruijn64tab = DataW.agg (xs.map (·.1)) := congrArg Prod.fst hx1
  have hgl : glob0 = datum (xs.map (·.1)) := by
    rw [← glob_datum, hd1]
  have key : ∀ c (h : c < glob0.length), W.cell? ⟨0, 0 + c, none⟩ = some ((cs0[c]?).getD undef) ∧ Reads (fun b => b < W.heap.size) W glob0[c] ((cs0[c]?).getD undef) := by
    intro c hc
    have hc2 : c < 64 := Nat.lt_of_lt_of_le hc (by decide)
    have hcx : c < xs.length := by omega
    have h1 := hel c hc2
    rw [List.getElem?_eq_getElem hcx] at h1
    obtain ⟨k, e1, e2, _⟩ := DataW.trod_int Tryd.underlying5 h1
    rw [cG] at e1
    have e3 : cs0.toList[c]? = some (.int .u8 k) := by
      have := congrArg (fun l => l[0]?) e1
      simpa [List.getElem?_take, List.getElem?_drop] using this
    have e4 : cs0[c]? = some (.int .u8 k) := by simpa using e3
    have e5 : glob0[c] = .int .u8 k := by
      have : glob0[c]? = (datum (xs.map (·.1)))[c]? := by rw [hgl]
      rw [List.getElem?_eq_getElem hc] at this
      simp only [datum, List.getElem?_map, List.getElem?_eq_getElem hcx, Option.map_some, Option.some.injEq] at this
      exact this.trans (by rw [e2]; rfl)
    refine ⟨?_, ?_⟩
    · rw [e4, Nat.zero_add, World.var?_cell gG hv0 c, e4]; rfl
    · rw [e4]
      exact e5 ▸ (Reads.int .u8 k)
  refine .ptr _ _ _ (fun c => (cs0[c]?).getD undef) ?_ (fun c hc => (key c hc).1) fun c hc => (key c hc).2
  have := (key 0 (by decide)).1
  unfold World.cell? at this
  rcases Nat.lt_or_ge 0 W.heap.size with h | h
  · exact h
  · exfalso
    rw [Array.getElem?_eq_none h] at this
    simp at this
end Go.Proofs.YtboadfahlflmhaaDoor
