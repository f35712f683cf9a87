/-
  Texts of this proof, one behind the other: what each says stands at its head. Conditions: none.
-/
import Derived.Test.YtjbfkdaodfdpcaaDoorB7
import Derived.Test.YtjbfkdaodfdpcaaDoorB5
import Derived.Test.YtjbfkdaodfdpcaaDoorB6
import Derived.Shelf.Sort.Plain
import Derived.Shelf.Slices.In.SortNone
import Derived.Test.YtjbfkdaodfdpcaaDoorProg
import Derived.Shelf.Lays
import Derived.Test.YtjbfkdaodfdpcaaDoorRows
import Derived.Test.YtjbfkdaodfdpcaaDoorB4
import Derived.ProofKit
import Derived.LaidMore
import Derived.OpenShut
import Derived.Stop.Joined

/-
  Walks: all automorphisms of a group. Conditions: none.
-/
set_option linter.all false
namespace Go.Proofs.YtjbfkdaodfdpcaaDoor
open Go.Pv
section
variable {n e N d : Nat} {m M : List Int} {σ : Type}
theorem autos1_c (p : Prot σ) (h : GT n m n e) (L : List Nat) (hL : L = gl n (op m n) e n) {rec : Loop} (hrp : rec.params.size = 1) {l : List AV} (hY : Rounds Tryd.prog p rec l) (hokx : ∀ φ, Hmo n (op m n) n (op m n) φ → p.okx (.list (il (tbm n φ))))
    (hl : l.all (sc1 4) = true) (i : σ) (hi : p.ok i) {j : σ} {b : Bool} (hf : foldS p i (pls (hsq n (op m n) e n (op m n) e L L [])) = (j, b)) :
    FnQ Tryd.prog 4 152 [.yv 3 l rec.tmps, .p (.ptr [.int .i64 n, .list (il m)])] (HU p i (.lp rec)) (.p (.tup [])) (HU p j (.lp (recB b rec))) := by
  have hE := each_c p h h L hL hrp hY hokx hl i hi hf
  have hl4 : l.map (ren1 [0, 1, 2, 3, 4]) = l := (List.map_congr_left fun x hx => ren1_range (n := 5) (List.all_eq_true.1 (all_up (by decide) hl) x hx)).trans (List.map_id _)
  unfold HU at hE ⊢
  refine fnq_of (q := 4) tab_ok Tryd.func152 rfl (by kernel_rfl) (by rw [Tryd.ntmps152]; exact Nat.le_add_left 2 _) ?_; rw [Tryd.ntmps152]; simp only [ancs, entA, List.length_cons, List.length_nil, List.cons_append, List.nil_append, Nat.reduceAdd, Nat.zero_add]
  refine hk_region fun K hK => runs_eval tab_ok ?_
  simp only [ev0, evA, evB, evP, fl, gp, tab, simprocAttr, reduceCtorEq, reduceIte]
  refine fin_stop ?_ (runs_callQ [0, 1, 2, 3, 4] (hE) rfl rfl ?_ (by simp only [leA, ev0, evA, evB, evP, fl, gp, tab, simprocAttr, reduceCtorEq, reduceIte]; first | trivial | (simp only [ll_takeL]; first | trivial | (repeat constructor; done)) | (repeat constructor)) (by decide) (by first | rfl | (simp only [List.length_cons, List.length_nil, List.length_append]; decide)) (by first | rfl | (simp [scQ, scA, sc1, mpKeep, notAnc, Blk.spc, opl_sc]; done)) (by simp only [dstOk, Nat.reduceLT]) (runs_eval tab_ok ?_))
  · (first | exact trivial | omega | (simp only [In64] at *; omega) | (simp [In64] at *; omega) | (simp_all; done) | skip)
  · (simp only [argsM, argM1, peekG, peekS, scA, sc1, ren, ren1, List.map_cons, List.map_nil, List.append_nil, List.cons_append, List.nil_append, enA, ev0, evA, evB, evP, fl, gp, tab, simprocAttr, reduceCtorEq, reduceIte]; try trivial)
    exact ⟨by rw [hl4], all_up (by decide) hl⟩
  simp only [putM, kills, hset, List.take_succ_cons, List.take_zero, List.drop_succ_cons, List.drop_zero, List.range', Blk.ren, ren, ren1, List.map_cons, List.map_nil, List.cons_append, List.nil_append, List.append_nil, List.length_cons, List.length_nil, ev0, evA, evB, evP, fl, gp, tab, simprocAttr, reduceCtorEq, reduceIte]
  refine fin_run ?_ (hK _ ?_) <;> clear hK <;> clear K
  · (first | exact trivial | omega | (simp only [In64] at *; omega) | (simp [In64] at *; omega) | (simp_all; done) | skip)
  simp only [Tryd.results152, PostG, endG, rvsA, rvA, mkTup, ev0, evA, evB, evP, fl, gp, tab, simprocAttr, reduceCtorEq, reduceIte]
  all_goals (exact ⟨[0, 1, 2, 3, 9, 5, 6, 7, 8], rfl, rfl, by simp only [leq, leA, ev0, evA, evB, evP, fl, gp, tab, simprocAttr, reduceCtorEq, reduceIte] <;> first | trivial | trace_state⟩)

def fA (n : Nat) : PV → Bool
  | .list l => decide (onto1 (l.map pvi) n)
  | _ => false
def oA (n : Nat) (v : List Int) : Prop := v.length = n ∧ ∀ k, k < n → ∃ y : Nat, y < n ∧ v.getD k 0 = ((y : Nat) : Int)
theorem fA_il (n : Nat) (v : List Int) : fA n (.list (il v)) = decide (onto1 v n) := by
  show decide (onto1 ((il v).map pvi) n) = _
  rw [pvi_il]
theorem fA_ll (n : Nat) (W : List (List Int)) : (pls W).filter (fA n) = ll (W.filter fun v => decide (onto1 v n)) := by
  unfold pls ll
  rw [List.filter_map]
  congr 1
  exact List.filter_congr fun v _ => fA_il n v

set_option maxHeartbeats 8000000 in
set_option maxRecDepth 20000 in
theorem autos_c (h : GT n m n e) (hn : n ≤ 24) (hm : m.length ≤ 1000000000000000) (W X : List (List Int)) (hW : W = hsq n (op m n) e n (op m n) e (gl n (op m n) e n) (gl n (op m n) e n) []) (hX : X = W.filter fun v => decide (onto1 v n)) (hne : X ≠ [])
    (ys : List (List Int)) (hperm : X.Perm ys) (hs : ys.Pairwise fun v w => cmpL v w < 0) :
    FnC Tryd.prog 113 [gp n m] (.tup [if X.length ≤ 1000 then .list (ll ys) else .list [], fl (if X.length ≤ 1000 then 0 else 9, 0)]) := by
  have hgf := gf_of h
  have hb := check_c n m hm
  rw [hgf] at hb
  have hyl := hperm.length_eq
  have htk : List.take X.length (ll ys) = ll ys := List.take_of_length_le (by rw [ll_length]; omega)
  have hpX := fA_ll n W
  rw [← hX] at hpX
  have hlX := ll_length X
  obtain ⟨j, b, hf, hj1, hj2⟩ : ∃ j b, foldS (prA (fA n) (oA n)) [] (pls W) = (j, b) ∧ (X.length ≤ 1000 → b = true ∧ j = ll X) ∧ (¬ X.length ≤ 1000 → b = false ∧ ¬ j.length ≤ 1000) := by
    have e1 : ([] ++ (pls W).filter (fA n)) = ll X := by rw [List.nil_append, hpX]
    by_cases hw : X.length ≤ 1000
    · have := foldA (fA n) (oA n) (pls W) [] (by simp) (by rw [e1]; omega)
      rw [e1] at this
      exact ⟨_, _, this, fun _ => ⟨rfl, rfl⟩, fun h => absurd hw h⟩
    · obtain ⟨j, h1, h2⟩ := foldA_no (fA n) (oA n) (pls W) [] (by simp) (by rw [e1]; omega)
      exact ⟨j, false, h1, fun h => absurd h hw, fun _ => ⟨rfl, h2⟩⟩
  refine fnc_ofR tab_ok Tryd.func113 rfl (by kernel_rfl) (by rw [Tryd.ntmps113]; exact Nat.le_add_left 1 _) ?_; rw [Tryd.ntmps113]
  refine hr_seqH ?_
  refine hk_region fun K hK => runs_eval tab_ok ?_
  simp only [ev0, evA, evB, evP, fl, gp, tab, simprocAttr, reduceCtorEq, reduceIte]
  refine fin_run ?_ (hK _ ?_) <;> clear hK <;> clear K
  · (first | exact trivial | omega | (simp only [In64] at *; omega) | (simp [In64] at *; omega) | (simp_all; done) | skip)
  refine qa (hr_seqH (qm ?_))
  refine hk_region fun K hK => runs_eval tab_ok ?_
  simp only [ev0, evA, evB, evP, fl, gp, tab, simprocAttr, reduceCtorEq, reduceIte]
  refine fin_stop trivial (runs_call (hb) rfl rfl rfl (by simp only [dstOk, Nat.reduceLT]) (by repeat (first | exact trivial | constructor)) (runs_eval tab_ok ?_))
  simp only [ev0, evA, evB, evP, fl, gp, tab, simprocAttr, reduceCtorEq, reduceIte]
  refine fin_run ?_ (hK _ ?_) <;> clear hK <;> clear K
  · (first | exact trivial | omega | (simp only [In64] at *; omega) | (simp [In64] at *; omega) | (simp_all; done) | skip)
  refine qa (qm ?_)
  refine hk_region fun K hK => runs_eval tab_ok ?_
  simp only [ev0, evA, evB, evP, fl, gp, tab, simprocAttr, reduceCtorEq, reduceIte]
  refine fin_run ?_ (hK _ ?_) <;> clear hK <;> clear K
  · (first | exact trivial | omega | (simp only [In64] at *; omega) | (simp [In64] at *; omega) | (simp_all; done) | skip)
  refine qa ?_
  refine hk_cond rfl (fun hC1 => ?_) (fun hC1 => ?_)
  · (try simp only [nhs] at hC1)
    simp at hC1
  · (try simp only [nhs] at hC1)
    refine qh (qa (hr_seqH (qm ?_)))
    refine hk_region fun K hK => runs_eval tab_ok ?_
    simp only [ev0, evA, evB, evP, fl, gp, tab, simprocAttr, reduceCtorEq, reduceIte]
    refine fin_run ?_ (hK _ ?_) <;> clear hK <;> clear K
    · (first | exact trivial | omega | (simp only [In64] at *; omega) | (simp [In64] at *; omega) | (simp_all; done) | skip)
    refine qa ?_
    refine hk_cond rfl (fun hC2 => ?_) (fun hC2 => ?_)
    · (try simp only [nhs] at hC2)
      omega
    · (try simp only [nhs] at hC2)
      refine qh (qa (hr_seqH ?_))
      refine hk_region fun K hK => runs_eval tab_ok ?_
      simp only [ev0, evA, evB, evP, fl, gp, tab, simprocAttr, reduceCtorEq, reduceIte]
      refine fin_run ?_ (hK _ ?_) <;> clear hK <;> clear K
      · (first | exact trivial | omega | (simp only [In64] at *; omega) | (simp [In64] at *; omega) | (simp_all; done) | skip)
      refine qa (hr_seq (hr_seqH ?_))
      refine hk_freeze 0 rfl rfl ?_
      refine hk_own0c 4 0 rfl rfl ?_
      simp only [hset, List.cons_append, List.nil_append, List.set_cons_zero, List.length_cons, List.length_nil, Nat.reduceAdd, Nat.zero_add]
      refine hk_pure 1 rfl (Nat.zero_le _) ?_
      refine hk_region fun K hK => runs_eval tab_ok ?_
      simp only [ev0, evA, evB, evP, fl, gp, tab, simprocAttr, reduceCtorEq, reduceIte]
      refine fin_run ?_ (hK _ ?_) <;> clear hK <;> clear K
      · (first | exact trivial | omega | (simp only [In64] at *; omega) | (simp [In64] at *; omega) | (simp_all; done) | skip)
      refine qa (hr_block ?_)
      refine hr_cl 20 rfl ?_
      refine hr_range (gs := 20) (pp := 21) (κ := 3) (q := 4) (n := 49) (sl := [(1, .p (.ptr [.int .i64 n, .list (il m)])), (2, .ptr 0 0), (3, .ptr 1 0), (5, .ptr 2 0)]) (Hs0 := HU (prA (fA n) (oA n)) []) (Hf := HU (prA (fA n) (oA n)) j) (b := b) (gf := 152) (cap := [.p (.ptr [.int .i64 n, .list (il m)])]) (rv := .p (.tup [])) [1, 2, 4, 6, 5] rfl rfl
        (fun r0 => by simp only [HU, prA]; simp only [leq, leA, ev0, evA, evB, evP, fl, gp, tab, simprocAttr, reduceCtorEq, reduceIte] <;> first | trivial | trace_state) rfl (by decide) ⟨fun _ => rfl, fun _ _ => rfl⟩ ⟨fun _ => rfl, fun _ _ => rfl⟩ (fun r0 => rfl) rfl rfl (fun r0 r1 => by simp only [HU, prA]; exact (by first | rfl | (simp [scQ, scA, sc1, mpKeep, notAnc, Blk.spc, opl_sc]; done)))
        (fun rec hr => autos1_c (prA (fA n) (oA n)) h _ rfl (by rw [hr.params]; rfl) (fun i x hi hx => yld_of hr (by decide) rfl (by decide) (sl1 := (6, .p x) :: [(1, .p (.ptr [.int .i64 n, .list (il m)])), (2, .ptr 0 0), (3, .ptr 1 0), (5, .ptr 2 0)]) (H0 := HU (prA (fA n) (oA n)) i) (H1 := HU (prA (fA n) (oA n)) (Prot.nx (prA (fA n) (oA n)) i x)) ⟨fun _ => rfl, fun _ _ => rfl⟩ ⟨fun _ => rfl, fun _ _ => rfl⟩ (fun r0 => ?_) (fun r0 => ?_)) (fun φ hφ => ⟨_, rfl, tbm_len n φ, fun k hk => ⟨φ k, hφ.lt k hk, tbm_get hk⟩⟩) rfl [] ⟨by decide, rfl⟩ (hW ▸ hf)) ?_ ?_
      · simp only [HU, prA, ancs, List.cons_append, List.nil_append, Nat.reduceAdd, Nat.zero_add]
        refine hk_region fun K hK => runs_eval tab_ok ?_
        simp only [ev0, evA, evB, evP, fl, gp, tab, simprocAttr, reduceCtorEq, reduceIte]
        refine fin_run trivial (hK _ ?_) <;> clear hK <;> clear K
        refine ⟨rfl, [0, 1, 2, 3, 4, 5, 6, 7, 8], ?_⟩
        simp only [leq, leA, ev0, evA, evB, evP, fl, gp, tab, simprocAttr, reduceCtorEq, reduceIte] <;> first | trivial | trace_state
      · obtain ⟨v, rfl, hvl, hvn⟩ := hx
        obtain ⟨hi1, hi2⟩ := hi
        have hio := opl_ok hi2
        simp only [HU, prA, ancs, List.cons_append, List.nil_append, Nat.reduceAdd, Nat.zero_add]
        simp only [fA_il]
        have ei : (if i.length ≤ 1000 then (0 : Int) else 9) = 0 := if_pos hi1
        rw [ei]
        refine ql (qm ?_)
        refine hk_region fun K hK => runs_eval tab_ok ?_
        simp only [ev0, evA, evB, evP, fl, gp, tab, simprocAttr, reduceCtorEq, reduceIte, makeSliceA.eq_def, hbl_new]
        refine fin_run ?_ (hK _ ?_) <;> clear hK <;> clear K
        · omega
        refine qa (qm (qm ?_))
        refine hk_region fun K hK => runs_eval tab_ok ?_
        simp only [ev0, evA, evB, evP, fl, gp, tab, simprocAttr, reduceCtorEq, reduceIte, il_length, hvl]
        refine fin_run trivial (hK _ ?_) <;> clear hK <;> clear K
        refine qa (ql ?_)
        refine hk_loop (ι := Nat) (fun k => ⟨49, [(2, .ptr 0 0), (3, .ptr 1 0), (5, .ptr 2 0), (6, .p (.list (il v))), (7, .sl 9 0 n), (25, .p (.list (il v))), (26, .p (.int .i64 n)), (27, .p (.int .i64 k))], [.own [.p .nil], .own [.p (.int .i64 0), .p (.int .i64 0)], .own [.sl 4 0 i.length], .lp r0, .own (opl i), .anc 0 0, .anc 1 1, .anc 2 2, .anc 3 3, .own (opl (hbl n (hits v k)))]⟩) (fun k => k ≤ n) (fun k => n - k) 0 (Nat.zero_le _) [0, 1, 2, 3, 4, 5, 6, 7, 8, 9] (by simp only [show hits v 0 = fun _ => false from funext (hits_zero _)]; simp only [leq, leA, ev0, evA, evB, evP, fl, gp, tab, simprocAttr, reduceCtorEq, reduceIte] <;> trivial) fun k hk => ?_
        refine qm ?_
        refine hk_region fun K hK => runs_eval tab_ok ?_
        simp only [ev0, evA, evB, evP, fl, gp, tab, simprocAttr, reduceCtorEq, reduceIte]
        refine fin_run trivial (hK _ ?_) <;> clear hK <;> clear K
        refine qa (qm ?_)
        refine hk_cond rfl (fun hC3 => ?_) (fun hC3 => ?_)
        · (try simp only [nhs] at hC3)
          have hkl : k < n := by omega
          obtain ⟨y, lv, ev⟩ := hvn k hkl
          refine qh (qa (qm (ql (qm ?_))))
          refine hk_region fun K hK => runs_eval tab_ok ?_
          simp only [ev0, evA, evB, evP, fl, gp, tab, simprocAttr, reduceCtorEq, reduceIte, il_get (show k < v.length by omega), ev]
          refine fin_run ?_ (hK _ ?_) <;> clear hK <;> clear K
          · (first | exact trivial | omega | (simp only [In64] at *; omega) | (simp [In64] at *; omega) | (simp_all; done) | skip)
          refine qa ?_
          refine hk_region fun K hK => runs_eval tab_ok ?_
          simp only [ev0, evA, evB, evP, fl, gp, tab, simprocAttr, reduceCtorEq, reduceIte]
          refine fin_run ?_ (hK _ ?_) <;> clear hK <;> clear K
          · rw [hbl_len]; omega
          refine qd (qa ?_)
          rw [hbl_set]
          refine hk_region fun K hK => runs_eval tab_ok ?_
          simp only [ev0, evA, evB, evP, fl, gp, tab, simprocAttr, reduceCtorEq, reduceIte]
          refine fin_run ?_ (hK _ ?_) <;> clear hK <;> clear K
          · (first | exact trivial | omega | (simp only [In64] at *; omega) | (simp [In64] at *; omega) | (simp_all; done) | skip)
          refine qa ?_
          refine ⟨k + 1, [0, 1, 2, 3, 4, 5, 6, 7, 8, 9], by omega, by omega, ?_⟩
          rw [hbl_congr (fun i' _ => hits_succ (l := v) (by omega) ev i')]
          simp only [leq, leA, ev0, evA, evB, evP, fl, gp, tab, simprocAttr, reduceCtorEq, reduceIte] <;> first | trivial | omega
        · (try simp only [nhs] at hC3)
          have hkn : k = n := by omega
          rw [hkn]
          have hon : decide (ixb n (hits v n) ≥ 0) = decide (¬ onto1 v n) := decide_eq_decide.2 (by
            rw [ixb_iff]
            unfold hits onto1
            rw [List.take_of_length_le (by omega)]
            constructor
            · rintro ⟨z, v1, v2⟩ ho
              exact (of_decide_eq_false v2) (ho.1 z v1)
            · intro ho
              by_cases hh : ∃ z, z < n ∧ ¬ ((z : Nat) : Int) ∈ v
              · obtain ⟨z, v1, v2⟩ := hh
                exact ⟨z, v1, decide_eq_false v2⟩
              · exact absurd ⟨fun z hz => Classical.byContradiction fun h' => hh ⟨z, hz, h'⟩, hvl⟩ ho)
          refine hk_sealp 7 9 (hbl_all n (hits v n)) (by show AV.sl 9 0 n = AV.sl 9 0 _; rw [hbl_len]) rfl ?_
          refine qj (qc (qc (qf (qa (qm (qm ?_))))))
          refine hk_region fun K hK => runs_eval tab_ok ?_
          simp only [ev0, evA, evB, evP, fl, gp, tab, simprocAttr, reduceCtorEq, reduceIte]
          refine fin_stop trivial (runs_call (containsB_c n (hits v n) (by omega)) rfl rfl rfl (by simp only [dstOk, Nat.reduceLT]) (by repeat (first | exact trivial | constructor)) (runs_eval tab_ok ?_))
          simp only [ev0, evA, evB, evP, fl, gp, tab, simprocAttr, reduceCtorEq, reduceIte, hon]
          refine fin_run trivial (hK _ ?_) <;> clear hK <;> clear K
          refine qa ?_
          refine hk_cond rfl (fun hC4 => ?_) (fun hC4 => ?_)
          · (try simp only [nhs] at hC4)
            have ho : ¬ onto1 v n := by simpa using hC4
            simp only [ho, decide_false, Bool.not_false, Bool.true_or, if_true, Bool.false_eq_true, if_false]
            refine qj (qc (qf ?_))
            refine ⟨rfl, [0, 1, 2, 3, 4, 5, 6, 7, 8], ?_⟩
            rw [ei]
            simp only [leq, leA, ev0, evA, evB, evP, fl, gp, tab, simprocAttr, reduceCtorEq, reduceIte] <;> first | trivial | (simp; done) | trace_state
          · (try simp only [nhs] at hC4)
            have ho : onto1 v n := by simpa using hC4
            simp only [ho, decide_true, Bool.not_true, Bool.false_or, if_true]
            refine qh (qa (qm ?_))
            refine hk_region fun K hK => runs_eval tab_ok ?_
            simp only [ev0, evA, evB, evP, fl, gp, tab, simprocAttr, reduceCtorEq, reduceIte]
            refine fin_run ?_ (hK _ ?_) <;> clear hK <;> clear K
            · exact ⟨hio, Nat.le_refl _, by omega, by omega⟩
            refine qa (qm ?_)
            refine hk_region fun K hK => runs_eval tab_ok ?_
            simp only [ev0, evA, evB, evP, fl, gp, tab, simprocAttr, reduceCtorEq, reduceIte]
            refine fin_run ?_ (hK _ ?_) <;> clear hK <;> clear K
            · (first | exact trivial | omega | (simp only [In64] at *; omega) | (simp [In64] at *; omega) | (simp_all; done) | skip)
            refine qa ?_
            refine hk_cond rfl (fun hC5 => ?_) (fun hC5 => ?_)
            · (try simp only [nhs] at hC5)
              refine qm ?_
              refine hk_region fun K hK => runs_eval tab_ok ?_
              simp only [ev0, evA, evB, evP, fl, gp, tab, simprocAttr, reduceCtorEq, reduceIte]
              refine fin_stop trivial (runs_call (homFlt_c 9 0) rfl rfl rfl (by simp only [dstOk, Nat.reduceLT]) (by repeat (first | exact trivial | constructor)) (runs_eval tab_ok ?_))
              simp only [ev0, evA, evB, evP, fl, gp, tab, simprocAttr, reduceCtorEq, reduceIte]
              refine fin_run ?_ (hK _ ?_) <;> clear hK <;> clear K
              · (first | exact trivial | omega | (simp only [In64] at *; omega) | (simp [In64] at *; omega) | (simp_all; done) | skip)
              refine qa (qk (qe ?_))
              have e9 : ¬ (i ++ [PV.list (il v)]).length ≤ 1000 := by simp; omega
              refine ⟨by rw [if_neg (by simp; omega)], [0, 1, 2, 3, 10, 5, 6, 7, 8], ?_⟩
              rw [if_neg e9]
              simp only [leq, leA, ev0, evA, evB, evP, fl, gp, tab, simprocAttr, reduceCtorEq, reduceIte] <;> first | trivial | (simp; done) | trace_state
            · (try simp only [nhs] at hC5)
              refine qh (qd ?_)
              have e9 : (i ++ [PV.list (il v)]).length ≤ 1000 := by simp; omega
              refine ⟨by rw [if_pos (by simp; omega)], [0, 1, 2, 3, 10, 5, 6, 7, 8], ?_⟩
              rw [if_pos e9]
              simp only [leq, leA, ev0, evA, evB, evP, fl, gp, tab, simprocAttr, reduceCtorEq, reduceIte] <;> first | trivial | (simp; done) | trace_state
      · intro hbt
        have hw : X.length ≤ 1000 := Classical.byContradiction fun hw => by rw [(hj2 hw).1] at hbt; cases hbt
        obtain ⟨_, hjW⟩ := hj1 hw
        subst hjW
        simp only [hw, if_true]
        simp only [HU, prA, ancs, List.cons_append, List.nil_append, Nat.reduceAdd, Nat.zero_add]
        refine qd (qa (hr_seqH ?_))
        refine hk_region fun K hK => runs_eval tab_ok ?_
        simp only [ev0, evA, evB, evP, fl, gp, tab, simprocAttr, reduceCtorEq, reduceIte]
        refine fin_stop ?_ (runs_callM [4] (sortL_c hne (by omega) (fun v hv => by
          rw [hX] at hv
          have hv := (List.mem_filter.1 hv).1
          rw [hW] at hv
          obtain ⟨φ, _, rfl⟩ := hsq_mem _ _ v hv
          rw [tbm_len]; omega) hperm hs) rfl rfl ?_ (by simp only [leA, ev0, evA, evB, evP, fl, gp, tab, simprocAttr, reduceCtorEq, reduceIte]; first | trivial | (simp only [ll_takeL]; first | trivial | (repeat constructor; done)) | (repeat constructor)) (by decide) (by first | rfl | (simp only [List.length_cons, List.length_nil, List.length_append]; decide)) (by first | rfl | (simp only [scM, opl_sc, List.all_cons, List.all_nil, List.length_cons, List.length_nil]; first | rfl | decide) | (simp [scM, scA, sc1, mpKeep, notAnc]; done)) (by simp only [dstOk, Nat.reduceLT]) (runs_eval tab_ok ?_))
        · (first | exact trivial | omega | (simp only [In64] at *; omega) | (simp [In64] at *; omega) | (simp_all; done) | skip)
        · (simp only [argsM, argM1, peekG, peekS, scA, sc1, ren, ren1, List.map_cons, List.map_nil, List.append_nil, List.cons_append, List.nil_append, enA, ev0, evA, evB, evP, fl, gp, tab, simprocAttr, reduceCtorEq, reduceIte]; try trivial)
        simp only [putM, hset, List.range', Blk.ren, ren, ren1, List.map_cons, List.map_nil, List.cons_append, List.nil_append, List.append_nil, List.length_cons, List.length_nil, ev0, evA, evB, evP, fl, gp, tab, simprocAttr, reduceCtorEq, reduceIte]
        refine fin_run ?_ (hK _ ?_) <;> clear hK <;> clear K
        · (first | exact trivial | omega | (simp only [In64] at *; omega) | (simp [In64] at *; omega) | (simp_all; done) | skip)
        refine qa (hr_seqH ?_)
        refine hk_region fun K hK => runs_eval tab_ok ?_
        simp only [ev0, evA, evB, evP, fl, gp, tab, simprocAttr, reduceCtorEq, reduceIte]
        refine fin_run ?_ (hK _ ?_) <;> clear hK <;> clear K
        · (first | exact trivial | omega | (simp only [In64] at *; omega) | (simp [In64] at *; omega) | (simp_all; done) | skip)
        refine qa (hr_of_hk (qk ?_))
        simp only [Tryd.results113, enA, ev0, evA, evB, evP, fl, gp, tab, simprocAttr, reduceCtorEq, reduceIte]
        rw [htk]
        exact ⟨⟨by omega, ll_all _⟩, rfl⟩
      · intro hbf
        have hw : ¬ X.length ≤ 1000 := fun hw => by rw [(hj1 hw).1] at hbf; cases hbf
        have hj3 := (hj2 hw).2
        simp only [hw, if_false]
        simp only [HU, prA, ancs, List.cons_append, List.nil_append, Nat.reduceAdd, Nat.zero_add, hj3, if_false]
        refine qe (qb ?_)
        simp only [Tryd.results113, enA, ev0, evA, evB, evP, fl, gp, tab, simprocAttr, reduceCtorEq, reduceIte]
        all_goals (trace_state)
end
end Go.Proofs.YtjbfkdaodfdpcaaDoor

/-
  Walks: inner automorphisms. Conditions: none.
-/
set_option linter.all false
namespace Go.Proofs.YtjbfkdaodfdpcaaDoor
open Go.Pv

theorem sortLw_c {xs ys : List (List Int)} (hne : xs ≠ []) (hl : xs.length ≤ 1000000) (hr : ∀ v ∈ xs, v.length ≤ 1000000) (hperm : xs.Perm ys) (hs : ys.Pairwise fun v w => ¬ cmpL w v < 0) :
    FnM Tryd.prog 123 [.sl 0 0 (ll xs).length, .p (.fn 124 [])] [.own (opl (ll xs))] (.p (.tup [])) [.own (opl (ll ys))] :=
  sort_m Go.Proofs.Tryd.sortL (ll xs) (ll ys) cfL (fun h => hne (by cases xs with
      | nil => rfl
      | cons a r => cases h)) (fun x hx => by obtain ⟨v, _, rfl⟩ := mem_ll hx; rfl)
    (fun x hx => by obtain ⟨v, _, rfl⟩ := mem_ll hx; rw [cfL_il, cmpL_self]; decide)
    (fun x hx y hy z hz h1 h2 => by
      obtain ⟨u, _, rfl⟩ := mem_ll hx; obtain ⟨v, _, rfl⟩ := mem_ll hy; obtain ⟨w, _, rfl⟩ := mem_ll hz
      rw [cfL_il] at *; exact cmpL_trans _ _ _ h1 h2)
    (fun x hx y hy z hz h1 h2 => by
      obtain ⟨u, _, rfl⟩ := mem_ll hx; obtain ⟨v, _, rfl⟩ := mem_ll hy; obtain ⟨w, _, rfl⟩ := mem_ll hz
      rw [cfL_il] at *; exact cmpL_ntrans _ _ _ h1 h2)
    (fun x hx y hy h1 h2 => by
      obtain ⟨u, _, rfl⟩ := mem_ll hx; obtain ⟨v, _, rfl⟩ := mem_ll hy
      rw [cfL_il] at *; rw [cmpL_tot _ _ h1 h2])
    (fun x hx y hy => by
      obtain ⟨u, hu, rfl⟩ := mem_ll hx; obtain ⟨v, hv, rfl⟩ := mem_ll hy
      rw [cfL_il]; have h1 := hr u hu; have h2 := hr v hv; exact compareL_c u v (by omega) (by omega))
    (hperm.map _) (by
      unfold ll
      rw [List.pairwise_map]
      exact hs.imp fun {x y} hxy h2 => hxy (by rwa [cfL_il] at h2)) (by rw [ll_length]; omega)

/-- Rows in order. -/
def srtL (xs : List (List Int)) : List (List Int) := xs.mergeSort fun v w => decide (¬ cmpL w v < 0)
theorem srtL_perm (xs : List (List Int)) : xs.Perm (srtL xs) := (List.mergeSort_perm xs _).symm
theorem srtL_sorted (xs : List (List Int)) : (srtL xs).Pairwise fun v w => ¬ cmpL w v < 0 := by
  have := List.pairwise_mergeSort (le := fun v w : List Int => decide (¬ cmpL w v < 0)) (fun a b c h1 h2 => by
    simp only [decide_eq_true_eq] at *
    exact cmpL_ntrans _ _ _ h2 h1) (fun a b => by
    simp only [Bool.or_eq_true, decide_eq_true_eq]
    by_cases h : cmpL b a < 0
    · right
      intro h2
      have := cmpL_trans _ _ _ h h2
      rw [cmpL_self] at this; exact absurd this (by decide)
    · exact .inl h) xs
  exact this.imp fun h => by simpa using h
theorem srtL_strict {xs : List (List Int)} (h : xs.Nodup) : (srtL xs).Pairwise fun v w => cmpL v w < 0 := by
  have h1 := srtL_sorted xs
  have h2 : (srtL xs).Nodup := (srtL_perm xs).nodup_iff.1 h
  exact (h1.and h2).imp fun {v w} ⟨a, b⟩ => Classical.byContradiction fun hc => b (cmpL_tot _ _ hc a)

section
variable {n e : Nat} {m : List Int}
/-- What a thing does to all. -/
def inr (n : Nat) (f : Nat → Nat → Nat) (e b : Nat) : List Int := tbm n fun x => cjr n f e x b
def inl' (n : Nat) (f : Nat → Nat → Nat) (e k : Nat) : List (List Int) := (List.range k).map (inr n f e)
theorem inl_succ (f : Nat → Nat → Nat) (k : Nat) : inl' n f e (k + 1) = inl' n f e k ++ [inr n f e k] := by
  unfold inl'; rw [List.range_succ, List.map_append]; rfl
theorem inl_len (f : Nat → Nat → Nat) (k : Nat) : (inl' n f e k).length = k := by simp [inl']
theorem tbm_succ (φ : Nat → Nat) (k : Nat) : tbm (k + 1) φ = tbm k φ ++ [((φ k : Nat) : Int)] := by
  unfold tbm; rw [List.range_succ, List.map_append]; rfl

set_option maxHeartbeats 4000000 in
theorem inner_c (h : GT n m n e) (hm : m.length ≤ 1000000000000000) (ys : List (List Int)) (hperm : (inl' n (op m n) e n).Perm ys) (hs : ys.Pairwise fun v w => ¬ cmpL w v < 0) :
    FnC Tryd.prog 114 [gp n m] (.tup [.list (ll (cps [] ys)), fl (0, 0)]) := by
  have hgf := gf_of h
  have hb := check_c n m hm
  rw [hgf] at hb
  have hn := h.2.1.big
  have hpos : 0 < n := h.2.1.pos
  refine fnc_of tab_ok Tryd.func114 rfl (by kernel_rfl) (by rw [Tryd.ntmps114]; exact Nat.le_add_left 1 _) ?_; rw [Tryd.ntmps114]
  refine qm ?_
  refine hk_region fun K hK => runs_eval tab_ok ?_
  simp only [ev0, evA, evB, evP, fl, gp, tab, simprocAttr, reduceCtorEq, reduceIte]
  refine fin_run ?_ (hK _ ?_) <;> clear hK <;> clear K
  · (first | exact trivial | omega | (simp only [In64] at *; omega) | (simp [In64] at *; omega) | (simp_all; done) | skip)
  refine qa (qm (qm ?_))
  refine hk_region fun K hK => runs_eval tab_ok ?_
  simp only [ev0, evA, evB, evP, fl, gp, tab, simprocAttr, reduceCtorEq, reduceIte]
  refine fin_stop trivial (runs_call (hb) rfl rfl rfl (by simp only [dstOk, Nat.reduceLT]) (by repeat (first | exact trivial | constructor)) (runs_eval tab_ok ?_))
  simp only [ev0, evA, evB, evP, fl, gp, tab, simprocAttr, reduceCtorEq, reduceIte]
  refine fin_run ?_ (hK _ ?_) <;> clear hK <;> clear K
  · (first | exact trivial | omega | (simp only [In64] at *; omega) | (simp [In64] at *; omega) | (simp_all; done) | skip)
  refine qa (qm ?_)
  refine hk_region fun K hK => runs_eval tab_ok ?_
  simp only [ev0, evA, evB, evP, fl, gp, tab, simprocAttr, reduceCtorEq, reduceIte]
  refine fin_run ?_ (hK _ ?_) <;> clear hK <;> clear K
  · (first | exact trivial | omega | (simp only [In64] at *; omega) | (simp [In64] at *; omega) | (simp_all; done) | skip)
  refine qa ?_
  refine hk_cond rfl (fun hC1 => ?_) (fun hC1 => ?_)
  · (try simp only [nhs] at hC1)
    simp at hC1
  · (try simp only [nhs] at hC1)
    refine qh (qa (qm ?_))
    refine hk_region fun K hK => runs_eval tab_ok ?_
    simp only [ev0, evA, evB, evP, fl, gp, tab, simprocAttr, reduceCtorEq, reduceIte]
    refine fin_run trivial (hK _ ?_) <;> clear hK <;> clear K
    refine qa (qm (qm ?_))
    refine hk_own0 5 rfl ?_
    refine hk_region fun K hK => runs_eval tab_ok ?_
    simp only [ev0, evA, evB, evP, fl, gp, tab, simprocAttr, reduceCtorEq, reduceIte]
    refine fin_run ?_ (hK _ ?_) <;> clear hK <;> clear K
    · (first | exact trivial | omega | (simp only [In64] at *; omega) | (simp [In64] at *; omega) | (simp_all; done) | skip)
    refine qa (ql ?_)
    refine hk_loop (ι := Nat) (fun k => ⟨43, [(1, .ptr 0 0), (3, .ptr 1 0), (5, .sl 2 0 (inl' n (op m n) e k).length), (16, .p (.int .i64 n)), (17, .p (.int .i64 k))], [.own [.p (.int .i64 n), .p (.list (il m))], .own [.p (.int .i64 0), .p (.int .i64 0)], .own (opl (ll (inl' n (op m n) e k)))]⟩) (fun k => k ≤ n) (fun k => n - k) 0 (Nat.zero_le _) [0, 1, 3] (by simp only [leq, leA, ev0, evA, evB, evP, fl, gp, tab, simprocAttr, reduceCtorEq, reduceIte] <;> first | trivial | exact ⟨rfl, rfl⟩ | trace_state) fun k hk => ?_
    have hil := inl_len (n := n) (e := e) (op m n) k
    have hsu := inl_succ (n := n) (e := e) (op m n) k
    refine qm ?_
    refine hk_region fun K hK => runs_eval tab_ok ?_
    simp only [ev0, evA, evB, evP, fl, gp, tab, simprocAttr, reduceCtorEq, reduceIte]
    refine fin_run trivial (hK _ ?_) <;> clear hK <;> clear K
    refine qa (qm ?_)
    refine hk_cond rfl (fun hC2 => ?_) (fun hC2 => ?_)
    · (try simp only [nhs] at hC2)
      have hkl : k < n := by omega
      refine qh (qa (qm (ql (qm ?_))))
      refine hk_region fun K hK => runs_eval tab_ok ?_
      simp only [ev0, evA, evB, evP, fl, gp, tab, simprocAttr, reduceCtorEq, reduceIte]
      refine fin_run trivial (hK _ ?_) <;> clear hK <;> clear K
      refine qa (qm ?_)
      refine hk_region fun K hK => runs_eval tab_ok ?_
      simp only [ev0, evA, evB, evP, fl, gp, tab, simprocAttr, reduceCtorEq, reduceIte]
      refine fin_run trivial (hK _ ?_) <;> clear hK <;> clear K
      refine qa (qm (qm ?_))
      refine hk_own0 7 rfl ?_
      refine hk_region fun K hK => runs_eval tab_ok ?_
      simp only [ev0, evA, evB, evP, fl, gp, tab, simprocAttr, reduceCtorEq, reduceIte]
      refine fin_run ?_ (hK _ ?_) <;> clear hK <;> clear K
      · (first | exact trivial | omega | (simp only [In64] at *; omega) | (simp [In64] at *; omega) | (simp_all; done) | skip)
      refine qa (ql ?_)
      refine hk_loop (ι := Nat) (fun x => ⟨43, [(1, .ptr 0 0), (3, .ptr 1 0), (5, .sl 2 0 (inl' n (op m n) e k).length), (6, .p (.int .i64 k)), (7, .sl 3 0 (tbm x fun x => cjr n (op m n) e x k).length), (16, .p (.int .i64 n)), (17, .p (.int .i64 k)), (21, .p (.int .i64 n)), (22, .p (.int .i64 x))], [.own [.p (.int .i64 n), .p (.list (il m))], .own [.p (.int .i64 0), .p (.int .i64 0)], .own (opl (ll (inl' n (op m n) e k))), .own (ol (tbm x fun x => cjr n (op m n) e x k))]⟩) (fun x => x ≤ n) (fun x => n - x) 0 (Nat.zero_le _) [0, 1, 2, 3] (by simp only [leq, leA, ev0, evA, evB, evP, fl, gp, tab, simprocAttr, reduceCtorEq, reduceIte, ll_takeL] <;> first | trivial | exact ⟨rfl, rfl⟩ | trace_state) fun x hx => ?_
      have htl := tbm_len x fun x => cjr n (op m n) e x k
      have htk : List.take x (tbm x fun x => cjr n (op m n) e x k) = tbm x fun x => cjr n (op m n) e x k := List.take_of_length_le (by omega)
      refine qm ?_
      refine hk_region fun K hK => runs_eval tab_ok ?_
      simp only [ev0, evA, evB, evP, fl, gp, tab, simprocAttr, reduceCtorEq, reduceIte]
      refine fin_run trivial (hK _ ?_) <;> clear hK <;> clear K
      refine qa (qm ?_)
      refine hk_cond rfl (fun hC3 => ?_) (fun hC3 => ?_)
      · (try simp only [nhs] at hC3)
        have hxl : x < n := by omega
        refine qh (qa (qm (ql (qm ?_))))
        refine hk_region fun K hK => runs_eval tab_ok ?_
        simp only [ev0, evA, evB, evP, fl, gp, tab, simprocAttr, reduceCtorEq, reduceIte]
        refine fin_run trivial (hK _ ?_) <;> clear hK <;> clear K
        refine qa ?_
        refine hk_region fun K hK => runs_eval tab_ok ?_
        simp only [ev0, evA, evB, evP, fl, gp, tab, simprocAttr, reduceCtorEq, reduceIte, List.take_length]
        refine fin_stop trivial (runs_call (conj_s h hxl hkl) rfl rfl rfl (by simp only [dstOk, Nat.reduceLT]) (by repeat (first | exact trivial | constructor)) (runs_eval tab_ok ?_))
        simp only [ev0, evA, evB, evP, fl, gp, tab, simprocAttr, reduceCtorEq, reduceIte, List.take_length]
        refine fin_run ?_ (hK _ ?_) <;> clear hK <;> clear K
        · (first | exact trivial | omega | (simp only [In64] at *; omega) | (simp [In64] at *; omega) | (simp_all; done) | skip)
        refine qd (qa ?_)
        refine hk_region fun K hK => runs_eval tab_ok ?_
        simp only [ev0, evA, evB, evP, fl, gp, tab, simprocAttr, reduceCtorEq, reduceIte]
        refine fin_run ?_ (hK _ ?_) <;> clear hK <;> clear K
        · (first | exact trivial | omega | (simp only [In64] at *; omega) | (simp [In64] at *; omega) | (simp_all; done) | skip)
        refine qa ?_
        refine ⟨x + 1, [0, 1, 2, 4], by omega, by omega, ?_⟩
        rw [tbm_succ]
        simp only [leq, leA, ev0, evA, evB, evP, fl, gp, tab, simprocAttr, reduceCtorEq, reduceIte, ll_takeL] <;> first | trivial | omega | trace_state
      · (try simp only [nhs] at hC3)
        obtain rfl : x = n := by omega
        refine qj (qc (qc (qf (qa ?_))))
        refine hk_seal 7 3 rfl rfl ?_
        refine hk_region fun K hK => runs_eval tab_ok ?_
        simp only [ev0, evA, evB, evP, fl, gp, tab, simprocAttr, reduceCtorEq, reduceIte, ll_takeL, oll_ok, ll_snoc]
        refine fin_run ?_ (hK _ ?_) <;> clear hK <;> clear K
        · (first | exact trivial | omega | (simp only [In64] at *; omega) | (simp [In64] at *; omega) | (simp_all; done) | skip)
        refine qd (qa ?_)
        refine hk_region fun K hK => runs_eval tab_ok ?_
        simp only [ev0, evA, evB, evP, fl, gp, tab, simprocAttr, reduceCtorEq, reduceIte]
        refine fin_run ?_ (hK _ ?_) <;> clear hK <;> clear K
        · (first | exact trivial | omega | (simp only [In64] at *; omega) | (simp [In64] at *; omega) | (simp_all; done) | skip)
        refine qa ?_
        refine ⟨k + 1, [0, 1, 4], by omega, by omega, ?_⟩
        rw [hsu]
        simp only [leq, leA, ev0, evA, evB, evP, fl, gp, tab, simprocAttr, reduceCtorEq, reduceIte, ll_takeL, ll_snoc, ll_takeS] <;> first | trivial | omega | trace_state
    · (try simp only [nhs] at hC2)
      obtain rfl : k = n := by omega
      have hyl := hperm.length_eq
      have hne : inl' k (op m k) e k ≠ [] := fun h => by rw [h] at hil; simp at hil; omega
      have hrw : ∀ v ∈ inl' k (op m k) e k, v.length ≤ 1000000 := fun v hv => by
        obtain ⟨b, _, rfl⟩ := List.mem_map.1 hv
        show (tbm _ _).length ≤ _
        rw [tbm_len]; omega
      refine qj (qc (qc (qf (qa (qm ?_)))))
      refine hk_region fun K hK => runs_eval tab_ok ?_
      simp only [ev0, evA, evB, evP, fl, gp, tab, simprocAttr, reduceCtorEq, reduceIte]
      refine fin_stop ?_ (runs_callM [2] (sortLw_c hne (by rw [hil]; omega) hrw hperm hs) rfl rfl ?_ (by simp only [leA, ev0, evA, evB, evP, fl, gp, tab, simprocAttr, reduceCtorEq, reduceIte]; first | trivial | (simp only [ll_takeL]; first | trivial | (repeat constructor; done)) | (repeat constructor)) (by decide) (by first | rfl | (simp only [List.length_cons, List.length_nil, List.length_append]; decide)) (by first | rfl | (simp only [scM, opl_sc, List.all_cons, List.all_nil, List.length_cons, List.length_nil]; first | rfl | decide) | (simp [scM, scA, sc1, mpKeep, notAnc]; done)) (by simp only [dstOk, Nat.reduceLT]) (runs_eval tab_ok ?_))
      · (first | exact trivial | omega | (simp only [In64] at *; omega) | (simp [In64] at *; omega) | (simp_all; done) | skip)
      · (simp only [argsM, argM1, peekG, peekS, scA, sc1, ren, ren1, List.map_cons, List.map_nil, List.append_nil, List.cons_append, List.nil_append, enA, ev0, evA, evB, evP, fl, gp, tab, simprocAttr, reduceCtorEq, reduceIte]; try trivial)
      simp only [putM, hset, List.range', Blk.ren, ren, ren1, List.map_cons, List.map_nil, List.cons_append, List.nil_append, List.append_nil, List.length_cons, List.length_nil, ev0, evA, evB, evP, fl, gp, tab, simprocAttr, reduceCtorEq, reduceIte]
      refine fin_run trivial (hK _ ?_) <;> clear hK <;> clear K
      refine qa (qm ?_)
      refine hk_region fun K hK => runs_eval tab_ok ?_
      simp only [ev0, evA, evB, evP, fl, gp, tab, simprocAttr, reduceCtorEq, reduceIte]
      refine fin_stop ?_ (runs_callM [2] (compactL_c ys (by omega) (fun v hv => hrw v (hperm.mem_iff.2 hv))) rfl rfl ?_ (by simp only [leA, ev0, evA, evB, evP, fl, gp, tab, simprocAttr, reduceCtorEq, reduceIte]; first | trivial | (simp only [ll_takeL]; first | trivial | (repeat constructor; done)) | (repeat constructor)) (by decide) (by first | rfl | (simp only [List.length_cons, List.length_nil, List.length_append]; decide)) (by first | rfl | (simp only [scM, opl_sc, List.all_cons, List.all_nil, List.length_cons, List.length_nil]; first | rfl | decide) | (simp [scM, scA, sc1, mpKeep, notAnc]; done)) (by simp only [dstOk, Nat.reduceLT]) (runs_eval tab_ok ?_))
      · (first | exact trivial | omega | (simp only [In64] at *; omega) | (simp [In64] at *; omega) | (simp_all; done) | skip)
      · (simp only [argsM, argM1, peekG, peekS, scA, sc1, ren, ren1, List.map_cons, List.map_nil, List.append_nil, List.cons_append, List.nil_append, enA, ev0, evA, evB, evP, fl, gp, tab, simprocAttr, reduceCtorEq, reduceIte]; try trivial)
        rw [hyl]
      simp only [putM, hset, List.range', Blk.ren, ren, ren1, List.map_cons, List.map_nil, List.cons_append, List.nil_append, List.append_nil, List.length_cons, List.length_nil, ev0, evA, evB, evP, fl, gp, tab, simprocAttr, reduceCtorEq, reduceIte]
      refine fin_run ?_ (hK _ ?_) <;> clear hK <;> clear K
      · (first | exact trivial | omega | (simp only [In64] at *; omega) | (simp [In64] at *; omega) | (simp_all; done) | skip)
      refine qa (qk ?_)
      simp only [Tryd.results114, enA, ev0, evA, evB, evP, fl, gp, tab, simprocAttr, reduceCtorEq, reduceIte]
      have htk : List.take (cps [] ys).length (ll (cps [] ys) ++ List.replicate (ys.length - (cps [] ys).length) PV.nil) = ll (cps [] ys) := by
        rw [← ll_length (cps [] ys), List.take_left]
      rw [htk]
      exact ⟨⟨by simp [ll_length], ll_all _⟩, rfl⟩
end
end Go.Proofs.YtjbfkdaodfdpcaaDoor

/-
  All homomorphisms are what the search hands out; the laws of maps have begun. Conditions: none.
-/
set_option linter.all false
namespace Go.Proofs.YtjbfkdaodfdpcaaDoor
open Go.Pv

section
variable {n e N d : Nat} {f g : Nat → Nat → Nat}
theorem Hmo.pw (G : Grp n f e) (K : Grp N g d) {φ : Nat → Nat} (h : Hmo n f N g φ) {a : Nat} (ha : a < n) : ∀ k, φ (pw f e a k) = pw g d (φ a) k
  | 0 => h.one G K
  | k + 1 => by
    show φ (f (Go.Proofs.YtjbfkdaodfdpcaaDoor.pw f e a k) a) = g _ _
    rw [h.mul _ _ (G.pw_lt ha k) ha, Hmo.pw G K h ha k]
theorem Hmo.ord (G : Grp n f e) (K : Grp N g d) {φ : Nat → Nat} (h : Hmo n f N g φ) {a : Nat} (ha : a < n) : ord N g d (φ a) ∣ ord n f e a := by
  rw [← K.pw_eq_one (h.lt a ha), ← h.pw G K ha, G.pw_ord ha, h.one G K]
theorem Hmo.same (G : Grp n f e) (K : Grp N g d) {L : List Nat} (hgen : ∀ a, a < n → Gen n f e (fun x => decide (x ∈ L)) a) {φ ψ : Nat → Nat} (h : Hmo n f N g φ) (h' : Hmo n f N g ψ) (heq : ∀ x ∈ L, φ x = ψ x) : ∀ a, a < n → φ a = ψ a := fun a ha => by
  have key : a < n ∧ φ a = ψ a := Gen.least (H := fun a => a < n ∧ φ a = ψ a) ⟨G.el, by rw [h.one G K, h'.one G K]⟩ (fun c b hc hb hp ih => ⟨G.cl _ _ ih.1 hb, by
    rw [h.mul _ _ ih.1 hb, h'.mul _ _ ih.1 hb, ih.2, heq b (by simpa using hp)]⟩) (hgen a ha)
  exact key.2
theorem tbm_congr {φ ψ : Nat → Nat} (h : ∀ a, a < n → φ a = ψ a) : tbm n φ = tbm n ψ := List.map_congr_left fun a ha => by rw [h a (List.mem_range.1 ha)]
theorem tbm_inj {φ ψ : Nat → Nat} (h : tbm n φ = tbm n ψ) : ∀ a, a < n → φ a = ψ a := fun a ha => by
  have h1 := tbm_get (φ := φ) ha
  rw [h, tbm_get ha] at h1
  omega
theorem Hmo.congr (G : Grp n f e) {φ ψ : Nat → Nat} (h : Hmo n f N g φ) (he : ∀ a, a < n → φ a = ψ a) : Hmo n f N g ψ :=
  ⟨fun a ha => by rw [← he a ha]; exact h.lt a ha, fun a b ha hb => by rw [← he _ (G.cl _ _ ha hb), ← he a ha, ← he b hb]; exact h.mul a b ha hb⟩

/-- What the search hands out: the maps that start so. -/
theorem hsq_iff (G : Grp n f e) (K : Grp N g d) {L : List Nat} (hL : ∀ x ∈ L, x < n) (hgen : ∀ a, a < n → Gen n f e (fun x => decide (x ∈ L)) a) (w : List Int) : ∀ (r t : List Nat), t.length ≤ L.length → L.drop t.length = r →
    (w ∈ hsq n f e N g d L r t ↔ ∃ φ, Hmo n f N g φ ∧ w = tbm n φ ∧ ∀ i, i < t.length → φ (L.getD i 0) = t.getD i 0)
  | [], t, h1, h2 => by
    have htl : t.length = L.length := by
      have := congrArg List.length h2
      simp at this; omega
    unfold hsq hlf
    constructor
    · intro h
      split at h
      · rename_i hex
        have hs := Classical.choose_spec hex
        exact ⟨_, hs.1, by simpa using h, fun i hi => hs.2 i (by omega)⟩
      · simp at h
    · rintro ⟨φ, k1, rfl, k2⟩
      have hex : ∃ φ, Ext n f N g L t φ := ⟨φ, k1, fun i hi => k2 i (by omega)⟩
      rw [dif_pos hex]
      have hs := Classical.choose_spec hex
      rw [List.mem_singleton]
      refine tbm_congr (Hmo.same G K hgen k1 hs.1 fun x hx => ?_)
      obtain ⟨i, hi, rfl⟩ := List.getElem_of_mem hx
      have e1 : L.getD i 0 = L[i] := by simp [List.getD, List.getElem?_eq_getElem hi]
      rw [← e1, k2 i (by omega), hs.2 i hi]
  | x :: r, t, h1, h2 => by
    have htl : t.length < L.length := by
      have := congrArg List.length h2
      simp at this; omega
    have hd : L.drop t.length = L[t.length] :: L.drop (t.length + 1) := List.drop_eq_getElem_cons htl
    rw [h2] at hd
    obtain ⟨e1, e2⟩ := List.cons.inj hd
    have ex : L.getD t.length 0 = x := by simp [List.getD, List.getElem?_eq_getElem htl, e1]
    have hxn : x < n := by rw [e1]; exact hL _ (List.getElem_mem htl)
    unfold hsq
    rw [List.mem_flatMap]
    constructor
    · rintro ⟨y, hy, hw⟩
      obtain ⟨φ, k1, k2, k3⟩ := (hsq_iff G K hL hgen w r (t ++ [y]) (by simp; omega) (by rw [List.length_append]; exact e2.symm)).1 hw
      refine ⟨φ, k1, k2, fun i hi => ?_⟩
      have := k3 i (by simp; omega)
      rw [this]
      simp [List.getD, List.getElem?_append_left hi]
    · rintro ⟨φ, k1, k2, k3⟩
      refine ⟨φ x, List.mem_filter.2 ⟨List.mem_range.2 (k1.lt x hxn), by simpa using Nat.mod_eq_zero_of_dvd (k1.ord G K hxn)⟩, ?_⟩
      refine (hsq_iff G K hL hgen w r (t ++ [φ x]) (by simp; omega) (by rw [List.length_append]; exact e2.symm)).2 ⟨φ, k1, k2, fun i hi => ?_⟩
      by_cases hit : i < t.length
      · rw [k3 i hit]; simp [List.getD, List.getElem?_append_left hit]
      · obtain rfl : i = t.length := by simp at hi; omega
        rw [ex]; simp [List.getD]
theorem hsq_nodup (G : Grp n f e) (K : Grp N g d) {L : List Nat} (hL : ∀ x ∈ L, x < n) (hgen : ∀ a, a < n → Gen n f e (fun x => decide (x ∈ L)) a) : ∀ (r t : List Nat), t.length ≤ L.length → L.drop t.length = r → (hsq n f e N g d L r t).Nodup
  | [], t, h1, h2 => by
    unfold hsq hlf
    split <;> simp
  | x :: r, t, h1, h2 => by
    have htl : t.length < L.length := by
      have := congrArg List.length h2
      simp at this; omega
    have hd : L.drop t.length = L[t.length] :: L.drop (t.length + 1) := List.drop_eq_getElem_cons htl
    rw [h2] at hd
    obtain ⟨e1, e2⟩ := List.cons.inj hd
    have ex : L.getD t.length 0 = x := by simp [List.getD, List.getElem?_eq_getElem htl, e1]
    have hxn : x < n := by rw [e1]; exact hL _ (List.getElem_mem htl)
    have hl2 : ∀ y, (t ++ [y]).length ≤ L.length ∧ L.drop (t ++ [y]).length = r := fun y => ⟨by simp; omega, by rw [List.length_append]; exact e2.symm⟩
    unfold hsq List.Nodup
    rw [List.pairwise_flatMap]
    refine ⟨fun y _ => hsq_nodup G K hL hgen r (t ++ [y]) (hl2 y).1 (hl2 y).2, ?_⟩
    refine List.Pairwise.imp (R := fun a b => a ≠ b) (fun {y z} hyz w hw w' hw' he => hyz ?_) (List.Pairwise.filter _ List.nodup_range)
    subst he
    obtain ⟨φ, _, k2, k3⟩ := (hsq_iff G K hL hgen w r (t ++ [y]) (hl2 y).1 (hl2 y).2).1 hw
    obtain ⟨ψ, _, q2, q3⟩ := (hsq_iff G K hL hgen w r (t ++ [z]) (hl2 z).1 (hl2 z).2).1 hw'
    have h1 := tbm_inj (k2.symm.trans q2) x hxn
    have h3 := k3 t.length (by simp)
    have h4 := q3 t.length (by simp)
    rw [ex] at h3 h4
    simp [List.getD] at h3 h4
    omega
end

section
variable {n e N d : Nat} {m M : List Int}
/-- All homomorphisms, in some order. -/
noncomputable def hmW (n : Nat) (m : List Int) (e N : Nat) (M : List Int) (d : Nat) : List (List Int) := hsq n (op m n) e N (op M N) d (gl n (op m n) e n) (gl n (op m n) e n) []
theorem hmW_mem (h : GT n m n e) (h' : GT N M N d) (w : List Int) : w ∈ hmW n m e N M d ↔ ∃ φ, Hmo n (op m n) N (op M N) φ ∧ w = tbm n φ := by
  unfold hmW
  refine (hsq_iff h.2.2 h'.2.2 (fun x hx => gl_lt n (op m n) e n x hx) (gl_gen n (op m n) e h.2.2) w _ [] (Nat.zero_le _) rfl).trans ?_
  exact ⟨fun ⟨φ, a, b, _⟩ => ⟨φ, a, b⟩, fun ⟨φ, a, b⟩ => ⟨φ, a, b, fun i hi => absurd hi (Nat.not_lt_zero _)⟩⟩
theorem hmW_nodup (h : GT n m n e) (h' : GT N M N d) : (hmW n m e N M d).Nodup :=
  hsq_nodup h.2.2 h'.2.2 (fun x hx => gl_lt n (op m n) e n x hx) (gl_gen n (op m n) e h.2.2) _ [] (Nat.zero_le _) rfl
/-- All automorphisms, in some order. -/
noncomputable def auW (n : Nat) (m : List Int) (e : Nat) : List (List Int) := (hmW n m e n m e).filter fun v => decide (onto1 v n)
theorem auW_mem (h : GT n m n e) (w : List Int) : w ∈ auW n m e ↔ (∃ φ, Hmo n (op m n) n (op m n) φ ∧ w = tbm n φ) ∧ onto1 w n := by
  unfold auW
  rw [List.mem_filter, hmW_mem h h, decide_eq_true_eq]
theorem auW_nodup (h : GT n m n e) : (auW n m e).Nodup := (hmW_nodup h h).filter _
theorem auW_ne (h : GT n m n e) : auW n m e ≠ [] := fun h0 => by
  have : tbm n (fun a => a) ∈ auW n m e := (auW_mem h _).2 ⟨⟨_, ⟨fun a ha => ha, fun a b ha hb => rfl⟩, rfl⟩, fun i hi => List.mem_map.2 ⟨i, List.mem_range.2 hi, rfl⟩, tbm_len _ _⟩
  rw [h0] at this
  simp at this
theorem autos_ok (h : GT n m n e) (hn : n ≤ 24) (hm : m.length ≤ 1000000000000000) :
    FnC Tryd.prog 113 [gp n m] (.tup [if (auW n m e).length ≤ 1000 then .list (ll (srtL (auW n m e))) else .list [], fl (if (auW n m e).length ≤ 1000 then 0 else 9, 0)]) :=
  autos_c h hn hm _ _ rfl rfl (auW_ne h) _ (srtL_perm _) (srtL_strict (auW_nodup h))
end

/-! ### The laws of maps have begun -/

def cnd (x y : Nat) : List Int := (List.range 8).map fun a => if a < 4 then ((pw (op sq8 8) 0 x a : Nat) : Int) else ((op sq8 8 (pw (op sq8 8) 0 x (a - 4)) y : Nat) : Int)
def cnd8 : List (List Int) := [cnd 1 4, cnd 1 5, cnd 1 6, cnd 1 7, cnd 3 4, cnd 3 5, cnd 3 6, cnd 3 7]
theorem sq8_hom {φ : Nat → Nat} (h : Hmo 8 (op sq8 8) 8 (op sq8 8) φ) : tbm 8 φ = cnd (φ 1) (φ 4) := by
  have G := sq8_e.2.2
  have k1 : ∀ a, a < 4 → pw (op sq8 8) 0 1 a = a := by decide +kernel
  have k2 : ∀ a, a < 8 → ¬ a < 4 → op sq8 8 (a - 4) 4 = a := by decide +kernel
  unfold tbm cnd
  refine List.map_congr_left fun a ha => ?_
  have ha := List.mem_range.1 ha
  have hp : ∀ a, a < 4 → φ a = pw (op sq8 8) 0 (φ 1) a := fun a ha => by
    rw [← h.pw G G (by decide), k1 a ha]
  by_cases h4 : a < 4
  · rw [if_pos h4, ← hp a h4]
  · rw [if_neg h4, ← hp (a - 4) (by omega), ← h.mul _ _ (by omega) (by decide), k2 a ha h4]
theorem sq8_autos : (auW 8 sq8 0).length = 8 := by
  have hnd : cnd8.Nodup := by decide +kernel
  have hp : (auW 8 sq8 0).Perm cnd8 := by
    rw [List.perm_ext_iff_of_nodup (auW_nodup sq8_e) hnd]
    intro w
    rw [auW_mem sq8_e]
    constructor
    · rintro ⟨⟨φ, h1, rfl⟩, h2⟩
      rw [sq8_hom h1] at h2 ⊢
      have key : ∀ x, x < 8 → ∀ y, y < 8 → onto1 (cnd x y) 8 → cnd x y ∈ cnd8 := by decide +kernel
      exact key _ (h1.lt 1 (by decide)) _ (h1.lt 4 (by decide)) h2
    · intro hw
      have k1 : ∀ w ∈ cnd8, onto1 w 8 := by decide +kernel
      have k2 : ∀ w ∈ cnd8, ∀ a, a < 8 → (w.getD a 0).toNat < 8 := by decide +kernel
      have k3 : ∀ w ∈ cnd8, ∀ a, a < 8 → ∀ b, b < 8 → (w.getD (op sq8 8 a b) 0).toNat = op sq8 8 (w.getD a 0).toNat (w.getD b 0).toNat := by decide +kernel
      have k4 : ∀ w ∈ cnd8, w = tbm 8 fun a => (w.getD a 0).toNat := by decide +kernel
      exact ⟨⟨fun a => (w.getD a 0).toNat, ⟨fun a ha => k2 w hw a ha, fun a b ha hb => k3 w hw a ha b hb⟩, k4 w hw⟩, k1 w hw⟩
  rw [hp.length_eq]; decide +kernel
def insR (v : List Int) : List (List Int) → List (List Int)
  | [] => [v]
  | w :: r => if cmpL w v < 0 then w :: insR v r else v :: w :: r
def iny : List (List Int) := (inl' 8 (op sq8 8) 0 8).foldr insR []
theorem homBegun_c : FnC Tryd.prog 48 [] (.bool true) := by
  have h1 := autos_ok sq8_e (by decide) (by decide +kernel)
  have e8 := sq8_autos
  rw [e8] at h1
  have hy1 : (inl' 8 (op sq8 8) 0 8).Perm iny := by decide +kernel
  have hy2 : iny.Pairwise fun v w => ¬ cmpL w v < 0 := by decide +kernel
  have hy3 : (cps [] iny).length = 4 := by decide +kernel
  have h2 := inner_c sq8_e (by decide +kernel) iny hy1 hy2
  have hl : (srtL (auW 8 sq8 0)).length = 8 := by rw [← (srtL_perm _).length_eq, e8]
  refine fnc_of tab_ok Tryd.func48 rfl (by kernel_rfl) (by rw [Tryd.ntmps48]; exact Nat.le_add_left 0 _) ?_; rw [Tryd.ntmps48]
  refine qm ?_
  refine hk_region fun K hK => runs_eval tab_ok ?_
  simp only [ev0, evA, evB, evP, fl, gp, tab, simprocAttr, reduceCtorEq, reduceIte]
  refine fin_run trivial (hK _ ?_) <;> clear hK <;> clear K
  refine qa (qm ?_)
  refine hk_region fun K hK => runs_eval tab_ok ?_
  simp only [ev0, evA, evB, evP, fl, gp, tab, simprocAttr, reduceCtorEq, reduceIte]
  refine fin_stop trivial (runs_call (square_c) rfl rfl rfl (by simp only [dstOk, Nat.reduceLT]) (by repeat (first | exact trivial | constructor)) (runs_eval tab_ok ?_))
  simp only [ev0, evA, evB, evP, fl, gp, tab, simprocAttr, reduceCtorEq, reduceIte]
  refine fin_stop trivial (runs_call (h1) rfl rfl rfl (by simp only [dstOk, Nat.reduceLT]) (by repeat (first | exact trivial | constructor)) (runs_eval tab_ok ?_))
  simp only [ev0, evA, evB, evP, fl, gp, tab, simprocAttr, reduceCtorEq, reduceIte]
  refine fin_run ?_ (hK _ ?_) <;> clear hK <;> clear K
  · (first | exact trivial | omega | (simp only [In64] at *; omega) | (simp [In64] at *; omega) | (simp_all; done) | skip)
  refine qa (qm ?_)
  refine hk_region fun K hK => runs_eval tab_ok ?_
  simp only [ev0, evA, evB, evP, fl, gp, tab, simprocAttr, reduceCtorEq, reduceIte]
  refine fin_stop trivial (runs_call (square_c) rfl rfl rfl (by simp only [dstOk, Nat.reduceLT]) (by repeat (first | exact trivial | constructor)) (runs_eval tab_ok ?_))
  simp only [ev0, evA, evB, evP, fl, gp, tab, simprocAttr, reduceCtorEq, reduceIte]
  refine fin_stop trivial (runs_call (h2) rfl rfl rfl (by simp only [dstOk, Nat.reduceLT]) (by repeat (first | exact trivial | constructor)) (runs_eval tab_ok ?_))
  simp only [ev0, evA, evB, evP, fl, gp, tab, simprocAttr, reduceCtorEq, reduceIte]
  refine fin_run ?_ (hK _ ?_) <;> clear hK <;> clear K
  · (first | exact trivial | omega | (simp only [In64] at *; omega) | (simp [In64] at *; omega) | (simp_all; done) | skip)
  refine qa (qm ?_)
  refine hk_region fun K hK => runs_eval tab_ok ?_
  simp only [ev0, evA, evB, evP, fl, gp, tab, simprocAttr, reduceCtorEq, reduceIte, ll_length, hl, hy3]
  refine fin_run ?_ (hK _ ?_) <;> clear hK <;> clear K
  · (first | exact trivial | omega | (simp only [In64] at *; omega) | (simp [In64] at *; omega) | (simp_all; done) | skip)
  refine qa (qk ?_)
  simp only [Tryd.results48, enA, ev0, evA, evB, evP, fl, gp, tab, simprocAttr, reduceCtorEq, reduceIte]
  all_goals (trace_state)
end Go.Proofs.YtjbfkdaodfdpcaaDoor

/-
  Walks: hom.Extend. Conditions: none.
-/
set_option linter.all false
namespace Go.Proofs.YtjbfkdaodfdpcaaDoor
open Go.Pv

def tn (l : List Int) : List Nat := l.map Int.toNat
theorem tn_len (l : List Int) : (tn l).length = l.length := by simp [tn]
theorem tn_get {l : List Int} {i : Nat} (hi : i < l.length) : (tn l).getD i 0 = (l.getD i 0).toNat := by
  simp [tn, List.getD, List.getElem?_eq_getElem hi]
theorem nl_tn {l : List Int} (h : ∀ i, i < l.length → 0 ≤ l.getD i 0) : nl (tn l) = l := by
  refine List.ext_getElem (by rw [nl_len, tn_len]) fun i h1 h2 => ?_
  have := h i h2
  simp only [List.getD, List.getElem?_eq_getElem h2, Option.getD_some] at this
  simp [nl, tn]
  omega
/-- A place out of range. -/
def badx (N N' : Int) (F T : List Int) (i : Nat) : Bool := decide (F.getD i 0 < 0 ∨ F.getD i 0 ≥ N ∨ T.getD i 0 < 0 ∨ T.getD i 0 ≥ N')
def genp (n : Nat) (m : List Int) (e : Nat) (F : List Nat) : Prop := ∀ a, a < n → Gen n (op m n) e (fun x => decide (x ∈ F)) a
open Classical in
noncomputable def exr2 (n : Nat) (m : List Int) (e N : Nat) (M : List Int) (d : Nat) (F T : List Nat) : (Int × Int) × List Int :=
  if ¬ genp n m e F then ((4, 0), []) else if h : ∃ φ, Ext n (op m n) N (op M N) F T φ then ((0, 0), tbm n (Classical.choose h)) else ((6, 0), [])
/-- What comes of a map of some things: its fault, the map. -/
noncomputable def exr (N : Int) (m : List Int) (N' : Int) (m' F T : List Int) : (Int × Int) × List Int :=
  if ¬ (tg N m N' m').1 = 0 then (tg N m N' m', [])
  else if ¬ F.length = T.length ∨ (F.length : Int) > N then ((8, 0), [])
  else match fst' (badx N N' F T) F.length with
    | some i => ((3, (i : Int)), [])
    | none => exr2 N.toNat m (eI m N.toNat).toNat N'.toNat m' (eI m' N'.toNat).toNat (tn F) (tn T)
section
variable {N N' : Int} {m m' F T : List Int}
theorem exr_tg (h : ¬ (tg N m N' m').1 = 0) : exr N m N' m' F T = (tg N m N' m', []) := by unfold exr; rw [if_pos h]
theorem exr_8 (h : (tg N m N' m').1 = 0) (h2 : ¬ F.length = T.length ∨ (F.length : Int) > N) : exr N m N' m' F T = ((8, 0), []) := by unfold exr; rw [if_neg (by simpa using h), if_pos h2]
theorem exr_3 (h : (tg N m N' m').1 = 0) (h2 : F.length = T.length) (h3 : (F.length : Int) ≤ N) {i : Nat} (hi : i < F.length) (hb : badx N N' F T i = true) (hj : ∀ j, j < i → badx N N' F T j = false) : exr N m N' m' F T = ((3, (i : Int)), []) := by
  unfold exr; rw [if_neg (by simpa using h), if_neg (by omega), fst_some hi hb hj]
end
section
variable {n e n' e' : Nat} {m m' F T : List Int}
theorem exr_2 (h : GT n m n e) (h' : GT n' m' n' e') (h2 : F.length = T.length) (h3 : (F.length : Int) ≤ n) (hj : ∀ j, j < F.length → badx n n' F T j = false) : exr n m n' m' F T = exr2 n m e n' m' e' (tn F) (tn T) := by
  unfold exr; rw [if_neg (by rw [tg_ok h h']; simp), if_neg (by omega), fst_none hj]
  show exr2 n m (eI m n).toNat n' m' (eI m' n').toNat _ _ = _
  rw [h.eI, h'.eI]; rfl
theorem exr2_4 {F T : List Nat} (h : ¬ genp n m e F) : exr2 n m e n' m' e' F T = ((4, 0), []) := by unfold exr2; rw [if_pos h]
theorem exr2_6 {F T : List Nat} (h : genp n m e F) (h2 : ¬ ∃ φ, Ext n (op m n) n' (op m' n') F T φ) : exr2 n m e n' m' e' F T = ((6, 0), []) := by unfold exr2; rw [if_neg (by simpa using h), dif_neg h2]
theorem exr2_0 {F T : List Nat} (h : genp n m e F) (h2 : ∃ φ, Ext n (op m n) n' (op m' n') F T φ) : exr2 n m e n' m' e' F T = ((0, 0), tbm n (Classical.choose h2)) := by unfold exr2; rw [if_neg (by simpa using h), dif_pos h2]
theorem badx_ok {i : Nat} (h : badx n n' F T i = false) : (F.getD i 0 = ((F.getD i 0).toNat : Nat) ∧ (F.getD i 0).toNat < n) ∧ T.getD i 0 = ((T.getD i 0).toNat : Nat) ∧ (T.getD i 0).toNat < n' := by
  have := of_decide_eq_false h
  omega
end
theorem thl_full (n : Nat) (q : Nat → Bool) : (∀ a, a < n → q a = true) ↔ (thl n q).length = n := by
  constructor
  · intro h
    rw [thl_len]
    unfold thn'
    rw [List.filter_eq_self.2 fun a ha => h a (List.mem_range.1 ha), List.length_range]
  · intro h a ha
    rw [thl_len] at h
    unfold thn' at h
    refine Classical.byContradiction fun hq => ?_
    have := List.length_filter_lt_length_iff_exists.2 ⟨a, List.mem_range.2 ha, hq⟩
    rw [List.length_range] at this
    omega
set_option maxHeartbeats 4000000 in
theorem extend_c (N : Int) (m : List Int) (N' : Int) (m' F T : List Int) (hm : m.length ≤ 1000000000000000) (hm' : m'.length ≤ 1000000000000000) (hF : F.length ≤ 1000000000000000) (hT : T.length ≤ 1000000000000000) :
    FnC Tryd.prog 61 [gp N m, gp N' m', .list (il F), .list (il T)] (.tup [.list (il (exr N m N' m' F T).2), fl (exr N m N' m' F T).1]) := by
  refine fnc_of tab_ok Tryd.func61 rfl (by kernel_rfl) (by rw [Tryd.ntmps61]; exact Nat.le_add_left 4 _) ?_; rw [Tryd.ntmps61]
  refine qm ?_
  refine hk_region fun K hK => runs_eval tab_ok ?_
  simp only [ev0, evA, evB, evP, fl, gp, tab, simprocAttr, reduceCtorEq, reduceIte]
  refine fin_run ?_ (hK _ ?_) <;> clear hK <;> clear K
  · (first | exact trivial | omega | (simp only [In64] at *; omega) | (simp [In64] at *; omega) | (simp_all; done) | skip)
  refine qa (qm (qm ?_))
  refine hk_region fun K hK => runs_eval tab_ok ?_
  simp only [ev0, evA, evB, evP, fl, gp, tab, simprocAttr, reduceCtorEq, reduceIte]
  refine fin_stop trivial (runs_call (homBoth_c N m N' m' hm hm') rfl rfl rfl (by simp only [dstOk, Nat.reduceLT]) (by repeat (first | exact trivial | constructor)) (runs_eval tab_ok ?_))
  simp only [ev0, evA, evB, evP, fl, gp, tab, simprocAttr, reduceCtorEq, reduceIte]
  refine fin_run ?_ (hK _ ?_) <;> clear hK <;> clear K
  · (first | exact trivial | omega | (simp only [In64] at *; omega) | (simp [In64] at *; omega) | (simp_all; done) | skip)
  refine qa (qm ?_)
  refine hk_region fun K hK => runs_eval tab_ok ?_
  simp only [ev0, evA, evB, evP, fl, gp, tab, simprocAttr, reduceCtorEq, reduceIte]
  refine fin_run ?_ (hK _ ?_) <;> clear hK <;> clear K
  · (first | exact trivial | omega | (simp only [In64] at *; omega) | (simp [In64] at *; omega) | (simp_all; done) | skip)
  refine qa ?_
  refine hk_cond rfl (fun hC1 => ?_) (fun hC1 => ?_)
  · (try simp only [nhs] at hC1)
    refine qm ?_
    refine hk_draw mixed (by kernel_rfl) fun K hK => runs_eval tab_ok ?_
    simp only [ev0, evA, evB, evP, fl, gp, tab, simprocAttr, reduceCtorEq, reduceIte]
    refine fin_run ?_ (hK _ ?_) <;> clear hK <;> clear K
    · (first | exact trivial | omega | (simp only [In64] at *; omega) | (simp [In64] at *; omega) | (simp_all; done) | skip)
    refine qa (qk (qb ?_))
    simp only [Tryd.results61, enA, ev0, evA, evB, evP, fl, gp, tab, simprocAttr, reduceCtorEq, reduceIte]
    all_goals (rw [exr_tg hC1]; exact ⟨rfl, rfl, rfl⟩)
  · (try simp only [nhs] at hC1)
    obtain ⟨z1, z2⟩ := tg_zero hC1
    obtain ⟨n, e, h, _⟩ := gf_ok z1
    obtain ⟨n', e', h', _⟩ := gf_ok z2
    obtain rfl := h.1
    obtain rfl := h'.1
    have hb := h.2.1.big
    have hb' := h'.2.1.big
    refine qh (qa (qm (qm ?_)))
    rcases em3h (F.length = T.length) (F.length ≤ n) with k1 | ⟨k1, k2⟩ | ⟨k1, k2⟩
    · refine hk_region fun K hK => runs_eval tab_ok ?_
      simp only [ev0, evA, evB, evP, fl, gp, tab, simprocAttr, reduceCtorEq, reduceIte, il_length, decide_eq_false (show ¬ ((F.length : Nat) : Int) = ((T.length : Nat) : Int) by omega), Bool.not_false]
      refine fin_run trivial (hK _ ?_) <;> clear hK <;> clear K
      refine qa ?_
      refine hk_cond rfl (fun hC2 => ?_) (fun hC2 => ?_)
      · refine qm ?_
        refine hk_region fun K hK => runs_eval tab_ok ?_
        simp only [ev0, evA, evB, evP, fl, gp, tab, simprocAttr, reduceCtorEq, reduceIte]
        refine fin_stop trivial (runs_call (homFlt_c 8 0) rfl rfl rfl (by simp only [dstOk, Nat.reduceLT]) (by repeat (first | exact trivial | constructor)) (runs_eval tab_ok ?_))
        simp only [ev0, evA, evB, evP, fl, gp, tab, simprocAttr, reduceCtorEq, reduceIte]
        refine fin_run ?_ (hK _ ?_) <;> clear hK <;> clear K
        · (first | exact trivial | omega | (simp only [In64] at *; omega) | (simp [In64] at *; omega) | (simp_all; done) | skip)
        refine qa (qk (qb ?_))
        simp only [Tryd.results61, enA, ev0, evA, evB, evP, fl, gp, tab, simprocAttr, reduceCtorEq, reduceIte]
        all_goals (rw [exr_8 hC1 (.inl k1)]; exact ⟨rfl, rfl, rfl⟩)
      · cases hC2
    · refine hk_region fun K hK => runs_eval tab_ok ?_
      simp only [ev0, evA, evB, evP, fl, gp, tab, simprocAttr, reduceCtorEq, reduceIte, il_length, decide_eq_true (show ((F.length : Nat) : Int) = ((T.length : Nat) : Int) by omega), Bool.not_true, decide_eq_false (show ¬ ((F.length : Nat) : Int) > (n : Nat) by omega)]
      refine fin_run ?_ (hK _ ?_) <;> clear hK <;> clear K
      · (first | exact trivial | omega | (simp only [In64] at *; omega) | (simp [In64] at *; omega) | (simp_all; done) | skip)
      refine qa ?_
      refine hk_cond rfl (fun hC2 => ?_) (fun hC2 => ?_)
      · cases hC2
      · (try simp only [nhs] at hC2)
        refine qh (qa (qm ?_))
        refine hk_region fun K hK => runs_eval tab_ok ?_
        simp only [ev0, evA, evB, evP, fl, gp, tab, simprocAttr, reduceCtorEq, reduceIte]
        refine fin_run trivial (hK _ ?_) <;> clear hK <;> clear K
        refine qa (qm (qm ?_))
        refine hk_region fun K hK => runs_eval tab_ok ?_
        simp only [ev0, evA, evB, evP, fl, gp, tab, simprocAttr, reduceCtorEq, reduceIte, il_length]
        refine fin_run trivial (hK _ ?_) <;> clear hK <;> clear K
        refine qa (ql ?_)
        refine hk_loop (ι := Nat) (fun i => ⟨98, [(2, .p (.list (il F))), (3, .p (.list (il T))), (4, .ptr 0 0), (5, .ptr 1 0), (9, .ptr 2 0), (11, .p (.int .u64 (msk (F.take i)))), (35, .p (.int .i64 F.length)), (36, .p (.int .i64 i))], [.own [.p (.int .i64 n), .p (.list (il m))], .own [.p (.int .i64 n'), .p (.list (il m'))], .own [.p (.int .i64 0), .p (.int .i64 0)]]⟩) (fun i => i ≤ F.length ∧ ∀ j, j < i → badx n n' F T j = false) (fun i => F.length - i) 0 ⟨Nat.zero_le _, fun j hj => absurd hj (Nat.not_lt_zero _)⟩ [0, 1, 2] (by simp only [leq, leA, ev0, evA, evB, evP, fl, gp, tab, simprocAttr, reduceCtorEq, reduceIte] <;> first | trivial | exact ⟨rfl, rfl⟩ | trace_state) fun i hi => ?_
        obtain ⟨hi1, hi2⟩ := hi
        refine qm ?_
        refine hk_region fun K hK => runs_eval tab_ok ?_
        simp only [ev0, evA, evB, evP, fl, gp, tab, simprocAttr, reduceCtorEq, reduceIte]
        refine fin_run trivial (hK _ ?_) <;> clear hK <;> clear K
        refine qa (qm ?_)
        refine hk_cond rfl (fun hC3 => ?_) (fun hC3 => ?_)
        · (try simp only [nhs] at hC3)
          have hil : i < F.length := by omega
          refine qh (qa (qm (ql (qm ?_))))
          refine hk_region fun K hK => runs_eval tab_ok ?_
          simp only [ev0, evA, evB, evP, fl, gp, tab, simprocAttr, reduceCtorEq, reduceIte]
          refine fin_run trivial (hK _ ?_) <;> clear hK <;> clear K
          refine qa (qm (qm ?_))
          by_cases g10a : F.getD i 0 < 0
          · refine hk_draw mixed (by kernel_rfl) fun K hK => runs_eval tab_ok ?_
            simp only [ev0, evA, evB, evP, fl, gp, tab, simprocAttr, reduceCtorEq, reduceIte, il_get hil, il_get (show i < T.length by omega), decide_eq_true g10a]
            refine fin_run ?_ (hK _ ?_) <;> clear hK <;> clear K
            · (first | exact trivial | omega | (simp only [In64] at *; omega) | (simp [In64] at *; omega) | (simp_all; done) | skip)
            refine qa ?_
            refine hk_cond rfl (fun hC4 => ?_) (fun hC4 => ?_)
            · refine qm ?_
              refine hk_region fun K hK => runs_eval tab_ok ?_
              simp only [ev0, evA, evB, evP, fl, gp, tab, simprocAttr, reduceCtorEq, reduceIte]
              refine fin_stop trivial (runs_call (homFlt_c 3 i) rfl rfl rfl (by simp only [dstOk, Nat.reduceLT]) (by repeat (first | exact trivial | constructor)) (runs_eval tab_ok ?_))
              simp only [ev0, evA, evB, evP, fl, gp, tab, simprocAttr, reduceCtorEq, reduceIte]
              refine fin_run ?_ (hK _ ?_) <;> clear hK <;> clear K
              · (first | exact trivial | omega | (simp only [In64] at *; omega) | (simp [In64] at *; omega) | (simp_all; done) | skip)
              refine qa (qk (qb (qe (qb (qb (qe (qb ?_)))))))
              simp only [Tryd.results61, enA, ev0, evA, evB, evP, fl, gp, tab, simprocAttr, reduceCtorEq, reduceIte]
              all_goals (rw [exr_3 hC1 k1 (by omega) hil (decide_eq_true (.inl g10a)) hi2]; exact ⟨rfl, rfl, rfl⟩)
            · cases hC4
          · by_cases g10b : F.getD i 0 ≥ (n : Int)
            · refine hk_draw mixed (by kernel_rfl) fun K hK => runs_eval tab_ok ?_
              simp only [ev0, evA, evB, evP, fl, gp, tab, simprocAttr, reduceCtorEq, reduceIte, il_get hil, il_get (show i < T.length by omega), decide_eq_false g10a, decide_eq_true g10b]
              refine fin_run ?_ (hK _ ?_) <;> clear hK <;> clear K
              · (first | exact trivial | omega | (simp only [In64] at *; omega) | (simp [In64] at *; omega) | (simp_all; done) | skip)
              refine qa ?_
              refine hk_cond rfl (fun hC4 => ?_) (fun hC4 => ?_)
              · refine qm ?_
                refine hk_region fun K hK => runs_eval tab_ok ?_
                simp only [ev0, evA, evB, evP, fl, gp, tab, simprocAttr, reduceCtorEq, reduceIte]
                refine fin_stop trivial (runs_call (homFlt_c 3 i) rfl rfl rfl (by simp only [dstOk, Nat.reduceLT]) (by repeat (first | exact trivial | constructor)) (runs_eval tab_ok ?_))
                simp only [ev0, evA, evB, evP, fl, gp, tab, simprocAttr, reduceCtorEq, reduceIte]
                refine fin_run ?_ (hK _ ?_) <;> clear hK <;> clear K
                · (first | exact trivial | omega | (simp only [In64] at *; omega) | (simp [In64] at *; omega) | (simp_all; done) | skip)
                refine qa (qk (qb (qe (qb (qb (qe (qb ?_)))))))
                simp only [Tryd.results61, enA, ev0, evA, evB, evP, fl, gp, tab, simprocAttr, reduceCtorEq, reduceIte]
                all_goals (rw [exr_3 hC1 k1 (by omega) hil (decide_eq_true (.inr (.inl g10b))) hi2]; exact ⟨rfl, rfl, rfl⟩)
              · cases hC4
            · by_cases g10c : T.getD i 0 < 0
              · refine hk_draw mixed (by kernel_rfl) fun K hK => runs_eval tab_ok ?_
                simp only [ev0, evA, evB, evP, fl, gp, tab, simprocAttr, reduceCtorEq, reduceIte, il_get hil, il_get (show i < T.length by omega), decide_eq_false g10a, decide_eq_false g10b, decide_eq_true g10c]
                refine fin_run ?_ (hK _ ?_) <;> clear hK <;> clear K
                · (first | exact trivial | omega | (simp only [In64] at *; omega) | (simp [In64] at *; omega) | (simp_all; done) | skip)
                refine qa ?_
                refine hk_cond rfl (fun hC4 => ?_) (fun hC4 => ?_)
                · refine qm ?_
                  refine hk_region fun K hK => runs_eval tab_ok ?_
                  simp only [ev0, evA, evB, evP, fl, gp, tab, simprocAttr, reduceCtorEq, reduceIte]
                  refine fin_stop trivial (runs_call (homFlt_c 3 i) rfl rfl rfl (by simp only [dstOk, Nat.reduceLT]) (by repeat (first | exact trivial | constructor)) (runs_eval tab_ok ?_))
                  simp only [ev0, evA, evB, evP, fl, gp, tab, simprocAttr, reduceCtorEq, reduceIte]
                  refine fin_run ?_ (hK _ ?_) <;> clear hK <;> clear K
                  · (first | exact trivial | omega | (simp only [In64] at *; omega) | (simp [In64] at *; omega) | (simp_all; done) | skip)
                  refine qa (qk (qb (qe (qb (qb (qe (qb ?_)))))))
                  simp only [Tryd.results61, enA, ev0, evA, evB, evP, fl, gp, tab, simprocAttr, reduceCtorEq, reduceIte]
                  all_goals (rw [exr_3 hC1 k1 (by omega) hil (decide_eq_true (.inr (.inr (.inl g10c)))) hi2]; exact ⟨rfl, rfl, rfl⟩)
                · cases hC4
              · refine hk_draw mixed (by kernel_rfl) fun K hK => runs_eval tab_ok ?_
                simp only [ev0, evA, evB, evP, fl, gp, tab, simprocAttr, reduceCtorEq, reduceIte, il_get hil, il_get (show i < T.length by omega), decide_eq_false g10a, decide_eq_false g10b, decide_eq_false g10c]
                refine fin_run ?_ (hK _ ?_) <;> clear hK <;> clear K
                · (first | exact trivial | omega | (simp only [In64] at *; omega) | (simp [In64] at *; omega) | (simp_all; done) | skip)
                refine qa ?_
                refine hk_cond rfl (fun hC4 => ?_) (fun hC4 => ?_)
                · (try simp only [nhs] at hC4)
                  refine qm ?_
                  refine hk_region fun K hK => runs_eval tab_ok ?_
                  simp only [ev0, evA, evB, evP, fl, gp, tab, simprocAttr, reduceCtorEq, reduceIte]
                  refine fin_stop trivial (runs_call (homFlt_c 3 i) rfl rfl rfl (by simp only [dstOk, Nat.reduceLT]) (by repeat (first | exact trivial | constructor)) (runs_eval tab_ok ?_))
                  simp only [ev0, evA, evB, evP, fl, gp, tab, simprocAttr, reduceCtorEq, reduceIte]
                  refine fin_run ?_ (hK _ ?_) <;> clear hK <;> clear K
                  · (first | exact trivial | omega | (simp only [In64] at *; omega) | (simp [In64] at *; omega) | (simp_all; done) | skip)
                  refine qa (qk (qb (qe (qb (qb (qe (qb ?_)))))))
                  simp only [Tryd.results61, enA, ev0, evA, evB, evP, fl, gp, tab, simprocAttr, reduceCtorEq, reduceIte]
                  all_goals (rw [exr_3 hC1 k1 (by omega) hil (decide_eq_true (.inr (.inr (.inr hC4)))) hi2]; exact ⟨rfl, rfl, rfl⟩)
                · (try simp only [nhs] at hC4)
                  have hgood : badx n n' F T i = false := decide_eq_false (by omega)
                  obtain ⟨⟨ha, ha2⟩, hb1, hb2⟩ := badx_ok hgood
                  generalize (F.getD i 0).toNat = a at ha ha2
                  have ha64 : a < 64 := by omega
                  have hmk : msk (F.take i) < 2 ^ 64 := msk_lt fun x hx => by
                    obtain ⟨j, hj, rfl⟩ := List.getElem_of_mem hx
                    have hj2 : j < i := by rw [List.length_take] at hj; omega
                    have := (badx_ok (hi2 j hj2)).1.2
                    rw [List.getElem_take]
                    have e1 : F.getD j 0 = F[j]'(by omega) := by simp [List.getD, List.getElem?_eq_getElem (show j < F.length by omega)]
                    rw [e1] at this
                    omega
                  have hp : 2 ^ a < 2 ^ 64 := Nat.pow_lt_pow_right (by omega) ha64
                  have hs : msk (F.take (i + 1)) = msk (F.take i) ||| 2 ^ a := by
                    rw [List.take_succ_eq_append_getElem hil, msk_snoc]
                    have : F[i] = (a : Int) := by rw [← ha]; simp [List.getD, List.getElem?_eq_getElem hil]
                    rw [this]; rfl
                  refine qh (qa ?_)
                  refine hk_region fun K hK => runs_eval tab_ok ?_
                  simp only [ev0, evA, evB, evP, fl, gp, tab, simprocAttr, reduceCtorEq, reduceIte, il_get hil, ha, shl_one ha64, bv_or hmk hp]
                  refine fin_run ?_ (hK _ ?_) <;> clear hK <;> clear K
                  · (first | exact trivial | omega | (simp only [In64] at *; omega) | (simp [In64] at *; omega) | (simp_all; done) | skip)
                  refine qd (qa ?_)
                  refine hk_region fun K hK => runs_eval tab_ok ?_
                  simp only [ev0, evA, evB, evP, fl, gp, tab, simprocAttr, reduceCtorEq, reduceIte]
                  refine fin_run ?_ (hK _ ?_) <;> clear hK <;> clear K
                  · (first | exact trivial | omega | (simp only [In64] at *; omega) | (simp [In64] at *; omega) | (simp_all; done) | skip)
                  refine qa ?_
                  refine ⟨i + 1, [0, 1, 2], ⟨by omega, fun j hj => ?_⟩, by omega, ?_⟩
                  · by_cases hji : j = i
                    · rw [hji]; exact hgood
                    · exact hi2 j (by omega)
                  · rw [hs]
                    simp only [leq, leA, ev0, evA, evB, evP, fl, gp, tab, simprocAttr, reduceCtorEq, reduceIte] <;> first | trivial | omega
        · (try simp only [nhs] at hC3)
          obtain rfl : i = F.length := by omega
          rw [List.take_length]
          have hrng : ∀ j, j < F.length → (F.getD j 0 = ((F.getD j 0).toNat : Nat) ∧ (F.getD j 0).toNat < n) ∧ T.getD j 0 = ((T.getD j 0).toNat : Nat) ∧ (T.getD j 0).toNat < n' := fun j hj => badx_ok (hi2 j hj)
          have hnF : nl (tn F) = F := nl_tn fun j hj => by have := (hrng j hj).1.1; omega
          have hnT : nl (tn T) = T := nl_tn fun j hj => by have := (hrng j (by omega)).2.1; omega
          have hlF := tn_len F
          have hlT := tn_len T
          have hF1 : ∀ i, i < (tn F).length → (tn F).getD i 0 < n := fun j hj => by rw [tn_get (by omega)]; exact (hrng j (by omega)).1.2
          have hT1 : ∀ i, i < (tn F).length → (tn T).getD i 0 < n' := fun j hj => by rw [tn_get (by omega)]; exact (hrng j (by omega)).2.2
          have hmb : (msk F).testBit = fun x => decide (x ∈ tn F) := funext fun x => by
            rw [msk_bit]
            exact decide_eq_decide.2 (by simp [tn])
          have hms : msk F < 2 ^ n := msk_lt fun x hx => by
            obtain ⟨j, hj, rfl⟩ := List.getElem_of_mem hx
            have := (hrng j hj).1.2
            rwa [show F.getD j 0 = F[j] by simp [List.getD, List.getElem?_eq_getElem hj]] at this
          obtain ⟨q, hq⟩ := gen_ex n (op m n) e fun x => decide (x ∈ tn F)
          have hgp : genp n m e (tn F) ↔ ∀ a, a < n → q a = true := ⟨fun hh a ha => (hq a ha).2 (hh a ha), fun hh a ha => (hq a ha).1 (hh a ha)⟩
          have hsb := stl_bo (n := n) hb q
          have htf := thl_full n q
          have htl := thl_le n q
          have hbq : bo n q < 2 ^ 64 := bo_lt64 hb q
          have hx2 := exr_2 h h' k1 (by omega) hi2
          refine qj (qc (qc (qf (qa (qm (qm ?_))))))
          refine hk_draw2 mixed fun K hK => runs2_eval tab_ok ?_
          simp only [evD, ev0, evA, evB, evP, fl, gp, tab, simprocAttr, reduceCtorEq, reduceIte, hsb, il_length]
          refine fin2_stop trivial (runs2_call (grow_c h (msk F) hms q (fun a ha => by rw [hmb]; exact hq a ha)) rfl rfl rfl rfl (by simp only [dstOk, Nat.reduceLT]) (by repeat (first | exact trivial | constructor)) (runs2_eval tab_ok ?_))
          simp only [evD, ev0, evA, evB, evP, fl, gp, tab, simprocAttr, reduceCtorEq, reduceIte, hsb, il_length]
          refine fin2_stop trivial (runs2_call (list_s (bo n q) hbq) rfl rfl rfl rfl (by simp only [dstOk, Nat.reduceLT]) (by repeat (first | exact trivial | constructor)) (runs2_eval tab_ok ?_))
          simp only [evD, ev0, evA, evB, evP, fl, gp, tab, simprocAttr, reduceCtorEq, reduceIte, hsb, il_length]
          refine fin2_run ?_ (hK _ _ (by first | kernel_rfl | rfl) ?_) <;> clear hK <;> clear K
          · (first | exact trivial | omega | (simp only [In64] at *; omega) | (simp [In64] at *; omega) | (simp_all; done) | skip)
          refine qa ?_
          refine hk_cond rfl (fun hC5 => ?_) (fun hC5 => ?_)
          · (try simp only [nhs] at hC5)
            have hng : ¬ genp n m e (tn F) := fun hh => by
              have := htf.1 (hgp.1 hh)
              omega
            refine qm ?_
            refine hk_region fun K hK => runs_eval tab_ok ?_
            simp only [ev0, evA, evB, evP, fl, gp, tab, simprocAttr, reduceCtorEq, reduceIte]
            refine fin_stop trivial (runs_call (homFlt_c 4 0) rfl rfl rfl (by simp only [dstOk, Nat.reduceLT]) (by repeat (first | exact trivial | constructor)) (runs_eval tab_ok ?_))
            simp only [ev0, evA, evB, evP, fl, gp, tab, simprocAttr, reduceCtorEq, reduceIte]
            refine fin_run ?_ (hK _ ?_) <;> clear hK <;> clear K
            · (first | exact trivial | omega | (simp only [In64] at *; omega) | (simp [In64] at *; omega) | (simp_all; done) | skip)
            refine qa (qk (qb ?_))
            simp only [Tryd.results61, enA, ev0, evA, evB, evP, fl, gp, tab, simprocAttr, reduceCtorEq, reduceIte]
            all_goals (rw [hx2, exr2_4 hng]; exact ⟨rfl, rfl, rfl⟩)
          · (try simp only [nhs] at hC5)
            have hg : genp n m e (tn F) := hgp.2 (htf.2 (by omega))
            refine qh (qa (qm ?_))
            by_cases hex : ∃ φ, Ext n (op m n) n' (op m' n') (tn F) (tn T) φ
            · have hsp := spread_yes h h' (tn F) (tn T) (by omega) (by omega) hF1 hT1 hg (Classical.choose_spec hex)
              rw [hnF, hnT] at hsp
              have hx3 := exr2_0 (m := m) (m' := m') (e' := e') hg hex
              generalize Classical.choose hex = φ at hsp hx3
              have htb := tbm_len n φ
              have hne : il (tbm n φ) ≠ [] := by
                intro hh
                have h1 := congrArg List.length hh
                rw [il_length, htb] at h1
                have h2 := h.2.1.pos
                simp only [List.length_nil] at h1
                omega
              refine hk_region fun K hK => runs_eval tab_ok ?_
              simp only [ev0, evA, evB, evP, fl, gp, tab, simprocAttr, reduceCtorEq, reduceIte]
              refine fin_stop ?_ (runs_callF (FnG_fnf hsp (by simp [il, PV.sc])) rfl (by simp only [callA, peekList, peekG, peekS, List.map_cons, List.map_nil, List.append_nil, enA, ev0, evA, evB, evP, fl, gp, tab, simprocAttr, reduceCtorEq, reduceIte, List.drop_zero, ol_drop, ol_take, take_len, ol_allP, il_all, il_length]; rfl) (by simp only [dstOk, Nat.reduceLT]) ?_ (runs_eval tab_ok ?_))
              · (first | exact trivial | omega | (simp only [In64] at *; omega) | (simp [In64] at *; omega) | (simp_all; done) | skip)
              · (first | exact trivial | omega | (simp only [In64] at *; omega) | (simp [In64] at *; omega) | (simp_all; done) | skip)
              simp only [ev0, evA, evB, evP, fl, gp, tab, simprocAttr, reduceCtorEq, reduceIte]
              refine fin_run ?_ (hK _ ?_) <;> clear hK <;> clear K
              · (first | exact trivial | omega | (simp only [In64] at *; omega) | (simp [In64] at *; omega) | (simp_all; done) | skip)
              refine qa (qm (qm ?_))
              refine hk_region fun K hK => runs_eval tab_ok ?_
              simp only [ev0, evA, evB, evP, fl, gp, tab, simprocAttr, reduceCtorEq, reduceIte, binA.eq_def, Option.map_some]
              refine fin_run ?_ (hK _ ?_) <;> clear hK <;> clear K
              · first | exact hne | trivial
              refine qa ?_
              refine hk_cond rfl (fun hC6 => ?_) (fun hC6 => ?_)
              · cases hC6
              · (try simp only [nhs] at hC6)
                refine qh (qa (qm ?_))
                refine hk_region fun K hK => runs_eval tab_ok ?_
                simp only [ev0, evA, evB, evP, fl, gp, tab, simprocAttr, reduceCtorEq, reduceIte]
                refine fin_run ?_ (hK _ ?_) <;> clear hK <;> clear K
                · (first | exact trivial | omega | (simp only [In64] at *; omega) | (simp [In64] at *; omega) | (simp_all; done) | skip)
                refine qa (qk ?_)
                simp only [Tryd.results61, enA, ev0, evA, evB, evP, fl, gp, tab, simprocAttr, reduceCtorEq, reduceIte]
                all_goals (rw [hx2, hx3]; exact ⟨rfl, rfl, rfl⟩)
            · have hsp := fnc_of_p (spread_no h h' (tn F) (tn T) (by omega) (by omega) hF1 hT1 hg fun φ hφ => hex ⟨φ, hφ⟩) rfl
              rw [hnF, hnT] at hsp
              refine hk_region fun K hK => runs_eval tab_ok ?_
              simp only [ev0, evA, evB, evP, fl, gp, tab, simprocAttr, reduceCtorEq, reduceIte]
              refine fin_stop trivial (runs_call (hsp) rfl rfl rfl (by simp only [dstOk, Nat.reduceLT]) (by repeat (first | exact trivial | constructor)) (runs_eval tab_ok ?_))
              simp only [ev0, evA, evB, evP, fl, gp, tab, simprocAttr, reduceCtorEq, reduceIte]
              refine fin_run ?_ (hK _ ?_) <;> clear hK <;> clear K
              · (first | exact trivial | omega | (simp only [In64] at *; omega) | (simp [In64] at *; omega) | (simp_all; done) | skip)
              refine qa (qm (qm ?_))
              refine hk_region fun K hK => runs_eval tab_ok ?_
              simp only [ev0, evA, evB, evP, fl, gp, tab, simprocAttr, reduceCtorEq, reduceIte, binA.eq_def, Option.map_some]
              refine fin_run ?_ (hK _ ?_) <;> clear hK <;> clear K
              · first | exact hne | trivial
              refine qa ?_
              refine hk_cond rfl (fun hC6 => ?_) (fun hC6 => ?_)
              · (try simp only [nhs] at hC6)
                refine qm ?_
                refine hk_region fun K hK => runs_eval tab_ok ?_
                simp only [ev0, evA, evB, evP, fl, gp, tab, simprocAttr, reduceCtorEq, reduceIte]
                refine fin_stop trivial (runs_call (homFlt_c 6 0) rfl rfl rfl (by simp only [dstOk, Nat.reduceLT]) (by repeat (first | exact trivial | constructor)) (runs_eval tab_ok ?_))
                simp only [ev0, evA, evB, evP, fl, gp, tab, simprocAttr, reduceCtorEq, reduceIte]
                refine fin_run ?_ (hK _ ?_) <;> clear hK <;> clear K
                · (first | exact trivial | omega | (simp only [In64] at *; omega) | (simp [In64] at *; omega) | (simp_all; done) | skip)
                refine qa (qk (qb ?_))
                simp only [Tryd.results61, enA, ev0, evA, evB, evP, fl, gp, tab, simprocAttr, reduceCtorEq, reduceIte]
                all_goals (rw [hx2, exr2_6 hg hex]; exact ⟨rfl, rfl, rfl⟩)
              · cases hC6
    · refine hk_region fun K hK => runs_eval tab_ok ?_
      simp only [ev0, evA, evB, evP, fl, gp, tab, simprocAttr, reduceCtorEq, reduceIte, il_length, decide_eq_true (show ((F.length : Nat) : Int) = ((T.length : Nat) : Int) by omega), Bool.not_true, decide_eq_true (show ((F.length : Nat) : Int) > (n : Nat) by omega)]
      refine fin_run ?_ (hK _ ?_) <;> clear hK <;> clear K
      · (first | exact trivial | omega | (simp only [In64] at *; omega) | (simp [In64] at *; omega) | (simp_all; done) | skip)
      refine qa ?_
      refine hk_cond rfl (fun hC2 => ?_) (fun hC2 => ?_)
      · (try simp only [nhs] at hC2)
        refine qm ?_
        refine hk_region fun K hK => runs_eval tab_ok ?_
        simp only [ev0, evA, evB, evP, fl, gp, tab, simprocAttr, reduceCtorEq, reduceIte]
        refine fin_stop trivial (runs_call (homFlt_c 8 0) rfl rfl rfl (by simp only [dstOk, Nat.reduceLT]) (by repeat (first | exact trivial | constructor)) (runs_eval tab_ok ?_))
        simp only [ev0, evA, evB, evP, fl, gp, tab, simprocAttr, reduceCtorEq, reduceIte]
        refine fin_run ?_ (hK _ ?_) <;> clear hK <;> clear K
        · (first | exact trivial | omega | (simp only [In64] at *; omega) | (simp [In64] at *; omega) | (simp_all; done) | skip)
        refine qa (qk (qb ?_))
        simp only [Tryd.results61, enA, ev0, evA, evB, evP, fl, gp, tab, simprocAttr, reduceCtorEq, reduceIte]
        all_goals (rw [exr_8 hC1 (.inr (by omega))]; exact ⟨rfl, rfl, rfl⟩)
      · cases hC2
end Go.Proofs.YtjbfkdaodfdpcaaDoor

/-
  Walks: the law SeriesComposes. Conditions: none.
-/
set_option linter.all false

namespace Go.Proofs.YtjbfkdaodfdpcaaDoor
open Go.Pv

/-- The numbers, each put where it stands. -/
def ins (z : Int) (l : List Int) : List Int := l.takeWhile (· < z) ++ (z :: l.dropWhile (· < z))
def fac (n : Nat) (T : Nat → Nat → Bool) (k : Nat) : Int := (((thl n (T k)).length / (thl n (T (k + 1))).length : Nat) : Int)
def fos (n : Nat) (T : Nat → Nat → Bool) : Nat → List Int
  | 0 => []
  | k + 1 => ins (fac n T k) (fos n T k)
section
variable {n e : Nat} {m : List Int}

/-- Things, conjugated by the things of a list. -/
def cjs (n : Nat) (f : Nat → Nat → Nat) (e x : Nat) (l : List Int) : List Int := l.map fun z => ((cjr n f e x z.toNat : Nat) : Int)
end
end Go.Proofs.YtjbfkdaodfdpcaaDoor

/-
  The library's sort of numbers, over a row of the caller's own: what it leaves. Conditions: none; a library text.
-/
set_option linter.all false
namespace Go.Pv
open Go.RowKit

section
variable {P : Program} {ρ : Go.Shelf.Ren}
def srt (l : List Int) : List Int := l.mergeSort fun x y => decide (x ≤ y)

end
end Go.Pv

/-
  Plain: what the factors of a list of sets are; sorted lists. Conditions: none.
-/
set_option linter.all false
namespace Go.Proofs.YtjbfkdaodfdpcaaDoor

open Go.Pv
section
variable {n e : Nat} {f : Nat → Nat → Nat}
noncomputable def okR (n : Nat) (f : Nat → Nat → Nat) (e : Nat) (l : List Int) : Bool := @decide (∃ p, l = thl n p ∧ Sub n f e p) (Classical.propDecidable _)
/-- The test of a row. -/
def tsl (l : List (List Int)) (i : Nat) : Nat → Bool := tst (l.getD i [])
noncomputable def mxR (n : Nat) (f : Nat → Nat → Nat) (e : Nat) (l : List (List Int)) (k : Nat) : Bool := @decide (Mxn n f e (tsl l k) (tsl l (k + 1))) (Classical.propDecidable _)
/-- In a subgroup; normal in it. -/
def Inn (n : Nat) (p q : Nat → Bool) : Prop := ∀ x, x < n → q x = true → p x = true
def Nin (n : Nat) (f : Nat → Nat → Nat) (e : Nat) (p q : Nat → Bool) : Prop := ∀ a x, a < n → x < n → p a = true → q x = true → q (cjr n f e x a) = true
noncomputable def stF (n : Nat) (f : Nat → Nat → Nat) (e : Nat) (p q : Nat → Bool) : Int := @ite _ (Inn n p q) (Classical.propDecidable _) (@ite _ (Nin n f e p q) (Classical.propDecidable _) 6 4) 7
def facL (l : List (List Int)) (k : Nat) : List Int := (List.range k).map fun j => (((l.getD j []).length / (l.getD (j + 1) []).length : Nat) : Int)
/-- What Factors tells. -/
noncomputable def fsp (n : Nat) (f : Nat → Nat → Nat) (e : Nat) (l : List (List Int)) : List Int × (Int × Int) :=
  bif decide (l.length < 1) || decide (10 < l.length) then ([], (2, 0)) else
  bif decide ((l.getD 0 []).length ≠ n) || decide ((l.getD (l.length - 1) []).length ≠ 1) then ([], (8, 0)) else
  match fst' (fun i => !okR n f e (l.getD i [])) l.length with
  | some i => ([], (5, (i : Int)))
  | none => match fst' (fun k => !mxR n f e l k) (l.length - 1) with
    | some k => ([], (stF n f e (tsl l k) (tsl l (k + 1)), ((k : Int) + 1)))
    | none => (srt (facL l (l.length - 1)), (0, 0))
variable {l : List (List Int)}
/-- As many sets as can be. -/
structure Fw (n : Nat) (l : List (List Int)) : Prop where
  lo : 1 ≤ l.length
  hi : l.length ≤ 10
structure Fz (n : Nat) (l : List (List Int)) : Prop extends Fw n l where
  first : (l.getD 0 []).length = n
  last : (l.getD (l.length - 1) []).length = 1
/-- All in their form. -/
structure Fo (n : Nat) (f : Nat → Nat → Nat) (e : Nat) (l : List (List Int)) : Prop extends Fz n l where
  ok : ∀ i, i < l.length → okR n f e (l.getD i []) = true
end
end Go.Proofs.YtjbfkdaodfdpcaaDoor

/-
  Walks: the law QuotMakes. Conditions: none.
-/
set_option linter.all false
namespace Go.Proofs.YtjbfkdaodfdpcaaDoor
open Go.Pv

end Go.Proofs.YtjbfkdaodfdpcaaDoor

/-
  Walks: the law QuotSimple. Conditions: none.
-/
set_option linter.all false
namespace Go.Proofs.YtjbfkdaodfdpcaaDoor
open Go.Pv

/-- A group whose things make it, each with its conjugates. -/
def SimP (n e : Nat) (cw : Nat → Nat → Bool) (k : Nat) : Prop := 1 < n ∧ ∀ a, a < k → a = e ∨ (thl n (cw a)).length = n

/-- What a thing is conjugated to. -/
def conl (n : Nat) (f : Nat → Nat → Nat) (e a b : Nat) : List Int := (List.range b).map fun c => ((cjr n f e a c : Nat) : Int)
end Go.Proofs.YtjbfkdaodfdpcaaDoor

/-
  Contracts of the library, laid at this dump: numbers, and that each body is the same. Conditions: none; written by a program of this repo out of the kit's own tool.
-/
set_option linter.all false
namespace Go.Proofs
open Go.Shelf
def Tryd.sortI_ren : Go.Shelf.Ren := ⟨fun | 189 => 77 | 125 => 135 | 257 => 134 | 128 => 172 | 129 => 173 | 294 => 163 | 295 => 164 | 296 => 165 | 297 => 166 | 298 => 167 | 299 => 168 | 216 => 169 | 300 => 170 | 301 => 171 | 328 => 187 | 329 => 188 | 330 => 189 | 331 => 190 | 332 => 191 | 215 => 186 | 343 => 203 | n => n, fun | 28 => 22 | 3 => 3 | 46 => 117 | 0 => 0 | 51 => 144 | 53 => 83 | 4 => 4 | 183 => 136 | 182 => 135 | 131 => 141 | 5 => 5 | 9 => 9 | 218 => 154 | 222 => 158 | 228 => 167 | 229 => 168 | n => n, fun | n => n⟩
end Go.Proofs

/-
  The program's Factors. Conditions: none.
-/
set_option linter.all false
namespace Go.Proofs.YtjbfkdaodfdpcaaDoor
open Go.Pv

section
variable {n e k d : Nat} {f g : Nat → Nat → Nat} {p q : Nat → Bool}
/-- Where the things of the second stand in the first. -/
def kix (p : Nat → Bool) (l : List Int) : List Int := l.map fun z => ((pix p z.toNat : Nat) : Int)
end

section
variable {n e : Nat} {m : List Int} {p q : Nat → Bool}
def Qr (n : Nat) (m : List Int) (e : Nat) (p q : Nat → Bool) : Nat → Nat → Bool := Go.Proofs.YtjbfkdaodfdpcaaDoor.dco (thl n p).length (op (ptb n (op m n) p) (thl n p).length) (dwn n p q) (onp (pix p e))
end
end Go.Proofs.YtjbfkdaodfdpcaaDoor

/-
  Rows of equations modulo a prime, reduced as they come: what is reckoned. Conditions: none.
-/
set_option linter.all false
namespace Go.Proofs.YtjbfkdaodfdpcaaDoor
open Go.Pv

/-- The primes that are let in. -/
def pr (p : Nat) : Prop := p = 2 ∨ p = 3 ∨ p = 5 ∨ p = 7
instance (p : Nat) : Decidable (pr p) := by unfold pr; infer_instance
theorem pr.le {p : Nat} (h : pr p) : 2 ≤ p ∧ p ≤ 7 := by unfold pr at h; omega

/-- A row, written anew from i to j. -/
def updR (f : Nat → Int) (i j : Nat) (u : List Int) : List Int := (List.range u.length).map fun t => if i ≤ t ∧ t < j then f t else u.getD t 0

/-- All that is in a row is between 0 and p. -/
def rng (p : Nat) (u : List Int) : Prop := ∀ t, t < u.length → 0 ≤ u.getD t 0 ∧ u.getD t 0 < p

/-- The least number that makes 1 of another. -/
def inv (p : Nat) (x : Int) : Nat := ((List.range p).find? fun k => decide ((k * x.toNat) % p = 1)).getD 0

/-- The rows that are there, by where they begin. -/
def dOf : List (Nat × List Int) → Int → Bool
  | [] => fun _ => false
  | e :: L => fun u => u == (e.1 : Int) || dOf L u
def vOf : List (Nat × List Int) → Int → PV
  | [] => fun _ => default
  | e :: L => fun u => bif u == (e.1 : Int) then .list (il e.2) else vOf L u
def lkp : List (Nat × List Int) → Nat → Option (List Int)
  | [], _ => none
  | e :: L, i => if i = e.1 then some e.2 else lkp L i

/-- A row without another's multiple. -/
def redAt (p : Nat) (w : List Int) (i : Nat) (u : List Int) : List Int := updR (fun t => (u.getD t 0 - u.getD i 0 * w.getD t 0) % p) i u.length u
def mulAll (p : Nat) (k : Int) (u : List Int) : List Int := updR (fun t => u.getD t 0 * k % p) 0 u.length u
def nrm (p : Nat) (u : List Int) : List Int := updR (fun t => u.getD t 0 % p) 0 u.length u

def scan (p : Nat) (L : List (Nat × List Int)) : Nat → Nat → List Int → List (Nat × List Int) × Bool
  | 0, _, _ => (L, false)
  | m + 1, i, u =>
    if u.getD i 0 = 0 then scan p L m (i + 1) u else
    match lkp L i with
    | none => ((i, mulAll p (inv p (u.getD i 0)) u) :: L, true)
    | some w => scan p L m (i + 1) (redAt p w i u)

def addL (p : Nat) (L : List (Nat × List Int)) (v : List Int) : List (Nat × List Int) × Bool := scan p L v.length 0 (nrm p v)

/-- Rows that are as they should be. -/
structure Ech (p n : Nat) (L : List (Nat × List Int)) : Prop where
  keys : (L.map (·.1)).Nodup
  lt : ∀ e ∈ L, e.1 < n
  len : ∀ e ∈ L, e.2.length = n
  rg : ∀ e ∈ L, rng p e.2
  one : ∀ e ∈ L, e.2.getD e.1 0 = 1
  zero : ∀ e ∈ L, ∀ j, j < e.1 → e.2.getD j 0 = 0

end Go.Proofs.YtjbfkdaodfdpcaaDoor

/-
  Walks: rows of equations: a new one; a row is added. Conditions: none.
-/
set_option linter.all false
namespace Go.Proofs.YtjbfkdaodfdpcaaDoor
open Go.Pv

end Go.Proofs.YtjbfkdaodfdpcaaDoor

/-
  Walks: kernels and images. Conditions: none.
-/
set_option linter.all false
namespace Go.Proofs.YtjbfkdaodfdpcaaDoor
open Go.Pv

section
variable {α : Type} [DecidableEq α]
end
section
variable {n e n' e' : Nat} {m m' l : List Int}
/-- The kernel; the image. -/
def kerp (l : List Int) (e' : Nat) (a : Nat) : Bool := decide (hv l a = e')
def imgp (l : List Int) (n : Nat) (b : Nat) : Bool := (List.range n).any fun a => hv l a == b
end
end Go.Proofs.YtjbfkdaodfdpcaaDoor

/-
  The law HomChecks. Conditions: none.
-/
set_option linter.all false
namespace Go.Proofs.YtjbfkdaodfdpcaaDoor
open Go.Pv

section
variable {n e n' e' : Nat} {m m' l : List Int}
end
end Go.Proofs.YtjbfkdaodfdpcaaDoor

/-
  The law HomExtends. Conditions: none.
-/
set_option linter.all false
namespace Go.Proofs.YtjbfkdaodfdpcaaDoor
open Go.Pv

theorem hex1_c (p : PV) (l : List Int) (hp : p = .list (il l)) : FnC Tryd.prog 66 [.ptr [p]] (.list (il l)) := by
  subst hp
  refine fnc_of tab_ok Tryd.func66 rfl (by kernel_rfl) (by rw [Tryd.ntmps66]; exact Nat.le_add_left 1 _) ?_; rw [Tryd.ntmps66]
  refine qm ?_
  refine hk_region fun K hK => runs_eval tab_ok ?_
  simp only [ev0, evA, evB, evP, fl, gp, tab, simprocAttr, reduceCtorEq, reduceIte]
  refine fin_run trivial (hK _ ?_) <;> clear hK <;> clear K
  refine qa (qm ?_)
  refine hk_region fun K hK => runs_eval tab_ok ?_
  simp only [ev0, evA, evB, evP, fl, gp, tab, simprocAttr, reduceCtorEq, reduceIte]
  refine fin_run ?_ (hK _ ?_) <;> clear hK <;> clear K
  · (first | exact trivial | omega | (simp only [In64] at *; omega) | (simp [In64] at *; omega) | (simp_all; done) | skip)
  refine qa (qk ?_)
  simp only [Tryd.results66, enA, ev0, evA, evB, evP, fl, gp, tab, simprocAttr, reduceCtorEq, reduceIte]
  all_goals ((first | exact rfl | exact ⟨rfl, rfl⟩ | exact ⟨rfl, rfl, rfl⟩ | exact ⟨trivial, rfl⟩ | exact ⟨Nat.le_refl _, rfl⟩ | trivial | (simp; done)))

theorem em4h (p q r : Prop) : ¬ p ∨ (p ∧ ¬ q) ∨ (p ∧ q ∧ ¬ r) ∨ (p ∧ q ∧ r) := by
  by_cases hp : p
  · by_cases hq : q
    · by_cases hr : r
      · exact .inr (.inr (.inr ⟨hp, hq, hr⟩))
      · exact .inr (.inr (.inl ⟨hp, hq, hr⟩))
    · exact .inr (.inl ⟨hp, hq⟩)
  · exact .inl hp

theorem em4b (p : Prop) (b : Bool) : (¬ p ∧ b = false) ∨ (¬ p ∧ b = true) ∨ (p ∧ b = true) ∨ (p ∧ b = false) := by
  by_cases hp : p
  · cases b
    · exact .inr (.inr (.inr ⟨hp, rfl⟩))
    · exact .inr (.inr (.inl ⟨hp, rfl⟩))
  · cases b
    · exact .inl ⟨hp, rfl⟩
    · exact .inr (.inl ⟨hp, rfl⟩)
theorem d80 : decide ((8 : Int) = 0) = false := rfl
theorem d40 : decide ((4 : Int) = 0) = false := rfl
theorem d30 : decide ((3 : Int) = 0) = false := rfl
set_option maxHeartbeats 4000000 in
theorem homExtends_c (N : Int) (m : List Int) (N' : Int) (m' F T : List Int) (hm : m.length ≤ 17592186043904) (hm' : m'.length ≤ 17592186043904) (hF : F.length ≤ 17592186043904) (hT : T.length ≤ 17592186043904) : FnC Tryd.prog 12 [gp N m, gp N' m', .list (il F), .list (il T)] (.bool true) := by
  have hc := extend_c N m N' m' F T (by omega) (by omega) (by omega) (by omega)
  refine fnc_of tab_ok Tryd.func12 rfl (by kernel_rfl) (by rw [Tryd.ntmps12]; exact Nat.le_add_left 4 _) ?_; rw [Tryd.ntmps12]
  refine qm ?_
  refine hk_region fun K hK => runs_eval tab_ok ?_
  simp only [ev0, evA, evB, evP, fl, gp, tab, simprocAttr, reduceCtorEq, reduceIte]
  refine fin_run ?_ (hK _ ?_) <;> clear hK <;> clear K
  · (first | exact trivial | omega | (simp only [In64] at *; omega) | (simp [In64] at *; omega) | (simp_all; done) | skip)
  refine qa (qm ?_)
  refine hk_draw2 mixed fun K hK => runs2_eval tab_ok ?_
  simp only [evD, ev0, evA, evB, evP, fl, gp, tab, simprocAttr, reduceCtorEq, reduceIte]
  refine fin2_stop trivial (runs2_call (ownGroup_c N m hm) rfl rfl rfl rfl (by simp only [dstOk, Nat.reduceLT]) (by repeat (first | exact trivial | constructor)) (runs2_eval tab_ok ?_))
  simp only [evD, ev0, evA, evB, evP, fl, gp, tab, simprocAttr, reduceCtorEq, reduceIte]
  refine fin2_stop trivial (runs2_call (ownGroup_c N' m' hm') rfl rfl rfl rfl (by simp only [dstOk, Nat.reduceLT]) (by repeat (first | exact trivial | constructor)) (runs2_eval tab_ok ?_))
  simp only [evD, ev0, evA, evB, evP, fl, gp, tab, simprocAttr, reduceCtorEq, reduceIte]
  refine fin2_stop trivial (runs2_call (own_c F hF) rfl rfl rfl rfl (by simp only [dstOk, Nat.reduceLT]) (by repeat (first | exact trivial | constructor)) (runs2_eval tab_ok ?_))
  simp only [evD, ev0, evA, evB, evP, fl, gp, tab, simprocAttr, reduceCtorEq, reduceIte]
  refine fin2_stop trivial (runs2_call (own_c T hT) rfl rfl rfl rfl (by simp only [dstOk, Nat.reduceLT]) (by repeat (first | exact trivial | constructor)) (runs2_eval tab_ok ?_))
  simp only [evD, ev0, evA, evB, evP, fl, gp, tab, simprocAttr, reduceCtorEq, reduceIte]
  refine fin2_stop trivial (runs2_call (hc) rfl rfl rfl rfl (by simp only [dstOk, Nat.reduceLT]) (by repeat (first | exact trivial | constructor)) (runs2_eval tab_ok ?_))
  simp only [evD, ev0, evA, evB, evP, fl, gp, tab, simprocAttr, reduceCtorEq, reduceIte]
  refine fin2_run ?_ (hK _ _ (by first | kernel_rfl | rfl) ?_) <;> clear hK <;> clear K
  · (first | exact trivial | omega | (simp only [In64] at *; omega) | (simp [In64] at *; omega) | (simp_all; done) | skip)
  refine qa (qm ?_)
  refine hk_region fun K hK => runs_eval tab_ok ?_
  simp only [ev0, evA, evB, evP, fl, gp, tab, simprocAttr, reduceCtorEq, reduceIte]
  refine fin_stop trivial (runs_call (twoGroups_c N m N' m' (by omega) (by omega)) rfl rfl rfl (by simp only [dstOk, Nat.reduceLT]) (by repeat (first | exact trivial | constructor)) (runs_eval tab_ok ?_))
  simp only [ev0, evA, evB, evP, fl, gp, tab, simprocAttr, reduceCtorEq, reduceIte]
  refine fin_run ?_ (hK _ ?_) <;> clear hK <;> clear K
  · (first | exact trivial | omega | (simp only [In64] at *; omega) | (simp [In64] at *; omega) | (simp_all; done) | skip)
  refine qa (qm (qm ?_))
  rcases em4h ((tg N m N' m').1 = 0) (F.length = T.length) ((F.length : Int) ≤ N) with k1 | ⟨k1, k2⟩ | ⟨k1, k2, k3⟩ | ⟨k1, k2, k3⟩
  · refine hk_region fun K hK => runs_eval tab_ok ?_
    simp only [ev0, evA, evB, evP, fl, gp, tab, simprocAttr, reduceCtorEq, reduceIte, decide_eq_false k1]
    refine fin_run ?_ (hK _ ?_) <;> clear hK <;> clear K
    · (first | exact trivial | omega | (simp only [In64] at *; omega) | (simp [In64] at *; omega) | (simp_all; done) | skip)
    refine qa ?_
    refine hk_cond rfl (fun hC1 => ?_) (fun hC1 => ?_)
    · cases hC1
    · have hex := exr_tg (F := F) (T := T) k1
      refine qh (qa (qm (qm ?_)))
      refine hk_region fun K hK => runs_eval tab_ok ?_
      simp only [ev0, evA, evB, evP, fl, gp, tab, simprocAttr, reduceCtorEq, reduceIte]
      refine fin_run trivial (hK _ ?_) <;> clear hK <;> clear K
      refine qa (ql ?_)
      refine hk_loop (ι := Unit) (fun _ => ⟨122, [(2, .p (.list (il F))), (3, .p (.list (il T))), (4, .ptr 0 0), (5, .ptr 1 0), (9, .p (.list [])), (10, .ptr 2 0), (11, .ptr 3 0), (12, .p (.int .i64 0))], [.own [.p (.int .i64 N), .p (.list (il m))], .own [.p (.int .i64 N'), .p (.list (il m'))], .own [.p (.int .i64 (tg N m N' m').1), .p (.int .i64 (tg N m N' m').2)], .own [.p (.int .i64 (tg N m N' m').1), .p (.int .i64 (tg N m N' m').2)]]⟩) (fun _ => True) (fun _ => 0) () trivial [0, 1, 2, 3] (by simp only [leq, leA, ev0, evA, evB, evP, fl, gp, tab, simprocAttr, reduceCtorEq, reduceIte, hex] <;> first | trivial | exact ⟨rfl, rfl⟩ | trace_state) fun _ _ => ?_
      refine qm (qm ?_)
      rcases Nat.eq_zero_or_pos F.length with q1 | q1
      · have hz1 : decide ((0 : Int) < (F.length : Int)) = false := decide_eq_false (by omega)
        have hz2 : decide ((tg N m N' m').1 = 0) = false := decide_eq_false k1
        refine hk_region fun K hK => runs_eval tab_ok ?_
        simp only [ev0, evA, evB, evP, fl, gp, tab, simprocAttr, reduceCtorEq, reduceIte, il_length, hz1, hz2, if_true, if_false, Bool.false_eq_true, decide_true]
        refine fin_run trivial (hK _ ?_) <;> clear hK <;> clear K
        refine qa ?_
        refine hk_cond rfl (fun hC2 => ?_) (fun hC2 => ?_)
        · cases hC2
        · refine qj (qc (qc (qf (qa (qm (qm ?_))))))
          refine hk_draw mixed (by kernel_rfl) fun K hK => runs_eval tab_ok ?_
          simp only [ev0, evA, evB, evP, fl, gp, tab, simprocAttr, reduceCtorEq, reduceIte, hz2, il_length]
          refine fin_run ?_ (hK _ ?_) <;> clear hK <;> clear K
          · (first | exact trivial | omega | (simp only [In64] at *; omega) | (simp [In64] at *; omega) | (simp_all; done) | skip)
          refine qa ?_
          refine hk_cond rfl (fun hC4 => ?_) (fun hC4 => ?_)
          · cases hC4
          · refine qh (qa (qm ?_))
            refine hk_region fun K hK => runs_eval tab_ok ?_
            simp only [ev0, evA, evB, evP, fl, gp, tab, simprocAttr, reduceCtorEq, reduceIte]
            refine fin_run ?_ (hK _ ?_) <;> clear hK <;> clear K
            · (first | exact trivial | omega | (simp only [In64] at *; omega) | (simp [In64] at *; omega) | (simp_all; done) | skip)
            refine qa (qm (qm ?_))
            refine hk_region fun K hK => runs_eval tab_ok ?_
            simp only [ev0, evA, evB, evP, fl, gp, tab, simprocAttr, reduceCtorEq, reduceIte, hz2, d40]
            refine fin_run ?_ (hK _ ?_) <;> clear hK <;> clear K
            · (first | exact trivial | omega | (simp only [In64] at *; omega) | (simp [In64] at *; omega) | (simp_all; done) | skip)
            refine qa ?_
            refine hk_cond rfl (fun hC5 => ?_) (fun hC5 => ?_)
            · cases hC5
            · (try simp only [nhs] at hC5)
              refine qh (qa (qm ?_))
              refine hk_freeze 4 rfl rfl ?_
              refine hk_pure 13 rfl (Nat.zero_le _) ?_
              simp only [hset, List.drop_zero]
              refine hk_region fun K hK => runs_eval tab_ok ?_
              simp only [ev0, evA, evB, evP, fl, gp, tab, simprocAttr, reduceCtorEq, reduceIte]
              refine fin_stop trivial (runs_call (homBegun_c) rfl rfl rfl (by simp only [dstOk, Nat.reduceLT]) (by repeat (first | exact trivial | constructor)) (runs_eval tab_ok ?_))
              simp only [ev0, evA, evB, evP, fl, gp, tab, simprocAttr, reduceCtorEq, reduceIte]
              refine fin_stop trivial (runs_call (listAs_c [] (tg N m N' m') _ _ (by simp) (fun _ => rfl) (fun hh => absurd hh k1)) rfl rfl rfl (by simp only [dstOk, Nat.reduceLT]) (by repeat (first | exact trivial | constructor)) (runs_eval tab_ok ?_))
              simp only [ev0, evA, evB, evP, fl, gp, tab, simprocAttr, reduceCtorEq, reduceIte]
              refine fin_run ?_ (hK _ ?_) <;> clear hK <;> clear K
              · (first | exact trivial | omega | (simp only [In64] at *; omega) | (simp [In64] at *; omega) | (simp_all; done) | skip)
              refine qa (qk ?_)
              simp only [Tryd.results12, enA, ev0, evA, evB, evP, fl, gp, tab, simprocAttr, reduceCtorEq, reduceIte]
              all_goals (rfl)
      · have hz1 : decide ((0 : Int) < (F.length : Int)) = true := decide_eq_true (by omega)
        have hz2 : decide ((tg N m N' m').1 = 0) = false := decide_eq_false k1
        refine hk_region fun K hK => runs_eval tab_ok ?_
        simp only [ev0, evA, evB, evP, fl, gp, tab, simprocAttr, reduceCtorEq, reduceIte, il_length, hz1, hz2, if_true, if_false, Bool.false_eq_true, decide_true]
        refine fin_run ?_ (hK _ ?_) <;> clear hK <;> clear K
        · (first | exact trivial | omega | (simp only [In64] at *; omega) | (simp [In64] at *; omega) | (simp_all; done) | skip)
        refine qa ?_
        refine hk_cond rfl (fun hC2 => ?_) (fun hC2 => ?_)
        · cases hC2
        · (try simp only [nhs] at hC2)
          refine qj (qc (qc (qf (qa (qm (qm ?_))))))
          refine hk_draw mixed (by kernel_rfl) fun K hK => runs_eval tab_ok ?_
          simp only [ev0, evA, evB, evP, fl, gp, tab, simprocAttr, reduceCtorEq, reduceIte, hz2, il_length]
          refine fin_run ?_ (hK _ ?_) <;> clear hK <;> clear K
          · (first | exact trivial | omega | (simp only [In64] at *; omega) | (simp [In64] at *; omega) | (simp_all; done) | skip)
          refine qa ?_
          refine hk_cond rfl (fun hC4 => ?_) (fun hC4 => ?_)
          · cases hC4
          · refine qh (qa (qm ?_))
            refine hk_region fun K hK => runs_eval tab_ok ?_
            simp only [ev0, evA, evB, evP, fl, gp, tab, simprocAttr, reduceCtorEq, reduceIte]
            refine fin_run ?_ (hK _ ?_) <;> clear hK <;> clear K
            · (first | exact trivial | omega | (simp only [In64] at *; omega) | (simp [In64] at *; omega) | (simp_all; done) | skip)
            refine qa (qm (qm ?_))
            refine hk_region fun K hK => runs_eval tab_ok ?_
            simp only [ev0, evA, evB, evP, fl, gp, tab, simprocAttr, reduceCtorEq, reduceIte, hz2, d40]
            refine fin_run ?_ (hK _ ?_) <;> clear hK <;> clear K
            · (first | exact trivial | omega | (simp only [In64] at *; omega) | (simp [In64] at *; omega) | (simp_all; done) | skip)
            refine qa ?_
            refine hk_cond rfl (fun hC5 => ?_) (fun hC5 => ?_)
            · cases hC5
            · (try simp only [nhs] at hC5)
              refine qh (qa (qm ?_))
              refine hk_freeze 4 rfl rfl ?_
              refine hk_pure 13 rfl (Nat.zero_le _) ?_
              simp only [hset, List.drop_zero]
              refine hk_region fun K hK => runs_eval tab_ok ?_
              simp only [ev0, evA, evB, evP, fl, gp, tab, simprocAttr, reduceCtorEq, reduceIte]
              refine fin_stop trivial (runs_call (homBegun_c) rfl rfl rfl (by simp only [dstOk, Nat.reduceLT]) (by repeat (first | exact trivial | constructor)) (runs_eval tab_ok ?_))
              simp only [ev0, evA, evB, evP, fl, gp, tab, simprocAttr, reduceCtorEq, reduceIte]
              refine fin_stop trivial (runs_call (listAs_c [] (tg N m N' m') _ _ (by simp) (fun _ => rfl) (fun hh => absurd hh k1)) rfl rfl rfl (by simp only [dstOk, Nat.reduceLT]) (by repeat (first | exact trivial | constructor)) (runs_eval tab_ok ?_))
              simp only [ev0, evA, evB, evP, fl, gp, tab, simprocAttr, reduceCtorEq, reduceIte]
              refine fin_run ?_ (hK _ ?_) <;> clear hK <;> clear K
              · (first | exact trivial | omega | (simp only [In64] at *; omega) | (simp [In64] at *; omega) | (simp_all; done) | skip)
              refine qa (qk ?_)
              simp only [Tryd.results12, enA, ev0, evA, evB, evP, fl, gp, tab, simprocAttr, reduceCtorEq, reduceIte]
              all_goals (rfl)
  · refine hk_region fun K hK => runs_eval tab_ok ?_
    simp only [ev0, evA, evB, evP, fl, gp, tab, simprocAttr, reduceCtorEq, reduceIte, il_length, decide_eq_true k1, decide_eq_false (show ¬ ((F.length : Nat) : Int) = ((T.length : Nat) : Int) by omega), Bool.not_false]
    refine fin_run ?_ (hK _ ?_) <;> clear hK <;> clear K
    · (first | exact trivial | omega | (simp only [In64] at *; omega) | (simp [In64] at *; omega) | (simp_all; done) | skip)
    refine qa ?_
    refine hk_cond rfl (fun hC1 => ?_) (fun hC1 => ?_)
    · have hex := exr_8 (F := F) (T := T) k1 (.inl k2)
      refine hk_region fun K hK => runs_eval tab_ok ?_
      simp only [ev0, evA, evB, evP, fl, gp, tab, simprocAttr, reduceCtorEq, reduceIte]
      refine fin_stop trivial (runs_call (f_c 8 0) rfl rfl rfl (by simp only [dstOk, Nat.reduceLT]) (by repeat (first | exact trivial | constructor)) (runs_eval tab_ok ?_))
      simp only [ev0, evA, evB, evP, fl, gp, tab, simprocAttr, reduceCtorEq, reduceIte]
      refine fin_run ?_ (hK _ ?_) <;> clear hK <;> clear K
      · (first | exact trivial | omega | (simp only [In64] at *; omega) | (simp [In64] at *; omega) | (simp_all; done) | skip)
      refine qa (qm (qm ?_))
      refine hk_region fun K hK => runs_eval tab_ok ?_
      simp only [ev0, evA, evB, evP, fl, gp, tab, simprocAttr, reduceCtorEq, reduceIte]
      refine fin_run trivial (hK _ ?_) <;> clear hK <;> clear K
      refine qa (ql ?_)
      refine hk_loop (ι := Unit) (fun _ => ⟨122, [(2, .p (.list (il F))), (3, .p (.list (il T))), (4, .ptr 0 0), (5, .ptr 1 0), (9, .p (.list [])), (10, .ptr 2 0), (11, .ptr 3 0), (12, .p (.int .i64 0))], [.own [.p (.int .i64 N), .p (.list (il m))], .own [.p (.int .i64 N'), .p (.list (il m'))], .own [.p (.int .i64 8), .p (.int .i64 0)], .own [.p (.int .i64 8), .p (.int .i64 0)]]⟩) (fun _ => True) (fun _ => 0) () trivial [0, 1, 2, 3] (by simp only [leq, leA, ev0, evA, evB, evP, fl, gp, tab, simprocAttr, reduceCtorEq, reduceIte, hex] <;> first | trivial | exact ⟨rfl, rfl⟩ | trace_state) fun _ _ => ?_
      refine qm (qm ?_)
      rcases Nat.eq_zero_or_pos F.length with q1 | q1
      · have hz1 : decide ((0 : Int) < (F.length : Int)) = false := decide_eq_false (by omega)
        have hz2 : decide ((8 : Int) = 0) = false := d80
        refine hk_region fun K hK => runs_eval tab_ok ?_
        simp only [ev0, evA, evB, evP, fl, gp, tab, simprocAttr, reduceCtorEq, reduceIte, il_length, hz1, hz2, if_true, if_false, Bool.false_eq_true, decide_true]
        refine fin_run trivial (hK _ ?_) <;> clear hK <;> clear K
        refine qa ?_
        refine hk_cond rfl (fun hC2 => ?_) (fun hC2 => ?_)
        · cases hC2
        · refine qj (qc (qc (qf (qa (qm (qm ?_))))))
          refine hk_draw mixed (by kernel_rfl) fun K hK => runs_eval tab_ok ?_
          simp only [ev0, evA, evB, evP, fl, gp, tab, simprocAttr, reduceCtorEq, reduceIte, hz2, il_length]
          refine fin_run ?_ (hK _ ?_) <;> clear hK <;> clear K
          · (first | exact trivial | omega | (simp only [In64] at *; omega) | (simp [In64] at *; omega) | (simp_all; done) | skip)
          refine qa ?_
          refine hk_cond rfl (fun hC4 => ?_) (fun hC4 => ?_)
          · cases hC4
          · refine qh (qa (qm ?_))
            refine hk_region fun K hK => runs_eval tab_ok ?_
            simp only [ev0, evA, evB, evP, fl, gp, tab, simprocAttr, reduceCtorEq, reduceIte]
            refine fin_run ?_ (hK _ ?_) <;> clear hK <;> clear K
            · (first | exact trivial | omega | (simp only [In64] at *; omega) | (simp [In64] at *; omega) | (simp_all; done) | skip)
            refine qa (qm (qm ?_))
            refine hk_region fun K hK => runs_eval tab_ok ?_
            simp only [ev0, evA, evB, evP, fl, gp, tab, simprocAttr, reduceCtorEq, reduceIte, hz2, d40]
            refine fin_run ?_ (hK _ ?_) <;> clear hK <;> clear K
            · (first | exact trivial | omega | (simp only [In64] at *; omega) | (simp [In64] at *; omega) | (simp_all; done) | skip)
            refine qa ?_
            refine hk_cond rfl (fun hC5 => ?_) (fun hC5 => ?_)
            · cases hC5
            · (try simp only [nhs] at hC5)
              refine qh (qa (qm ?_))
              refine hk_freeze 4 rfl rfl ?_
              refine hk_pure 13 rfl (Nat.zero_le _) ?_
              simp only [hset, List.drop_zero]
              refine hk_region fun K hK => runs_eval tab_ok ?_
              simp only [ev0, evA, evB, evP, fl, gp, tab, simprocAttr, reduceCtorEq, reduceIte]
              refine fin_stop trivial (runs_call (homBegun_c) rfl rfl rfl (by simp only [dstOk, Nat.reduceLT]) (by repeat (first | exact trivial | constructor)) (runs_eval tab_ok ?_))
              simp only [ev0, evA, evB, evP, fl, gp, tab, simprocAttr, reduceCtorEq, reduceIte]
              refine fin_stop trivial (runs_call (listAs_c [] (8, 0) _ _ (by simp) (fun _ => rfl) (fun hh => absurd hh (by decide))) rfl rfl rfl (by simp only [dstOk, Nat.reduceLT]) (by repeat (first | exact trivial | constructor)) (runs_eval tab_ok ?_))
              simp only [ev0, evA, evB, evP, fl, gp, tab, simprocAttr, reduceCtorEq, reduceIte]
              refine fin_run ?_ (hK _ ?_) <;> clear hK <;> clear K
              · (first | exact trivial | omega | (simp only [In64] at *; omega) | (simp [In64] at *; omega) | (simp_all; done) | skip)
              refine qa (qk ?_)
              simp only [Tryd.results12, enA, ev0, evA, evB, evP, fl, gp, tab, simprocAttr, reduceCtorEq, reduceIte]
              all_goals (rfl)
      · have hz1 : decide ((0 : Int) < (F.length : Int)) = true := decide_eq_true (by omega)
        have hz2 : decide ((8 : Int) = 0) = false := d80
        refine hk_region fun K hK => runs_eval tab_ok ?_
        simp only [ev0, evA, evB, evP, fl, gp, tab, simprocAttr, reduceCtorEq, reduceIte, il_length, hz1, hz2, if_true, if_false, Bool.false_eq_true, decide_true]
        refine fin_run ?_ (hK _ ?_) <;> clear hK <;> clear K
        · (first | exact trivial | omega | (simp only [In64] at *; omega) | (simp [In64] at *; omega) | (simp_all; done) | skip)
        refine qa ?_
        refine hk_cond rfl (fun hC2 => ?_) (fun hC2 => ?_)
        · cases hC2
        · (try simp only [nhs] at hC2)
          refine qj (qc (qc (qf (qa (qm (qm ?_))))))
          refine hk_draw mixed (by kernel_rfl) fun K hK => runs_eval tab_ok ?_
          simp only [ev0, evA, evB, evP, fl, gp, tab, simprocAttr, reduceCtorEq, reduceIte, hz2, il_length]
          refine fin_run ?_ (hK _ ?_) <;> clear hK <;> clear K
          · (first | exact trivial | omega | (simp only [In64] at *; omega) | (simp [In64] at *; omega) | (simp_all; done) | skip)
          refine qa ?_
          refine hk_cond rfl (fun hC4 => ?_) (fun hC4 => ?_)
          · cases hC4
          · refine qh (qa (qm ?_))
            refine hk_region fun K hK => runs_eval tab_ok ?_
            simp only [ev0, evA, evB, evP, fl, gp, tab, simprocAttr, reduceCtorEq, reduceIte]
            refine fin_run ?_ (hK _ ?_) <;> clear hK <;> clear K
            · (first | exact trivial | omega | (simp only [In64] at *; omega) | (simp [In64] at *; omega) | (simp_all; done) | skip)
            refine qa (qm (qm ?_))
            refine hk_region fun K hK => runs_eval tab_ok ?_
            simp only [ev0, evA, evB, evP, fl, gp, tab, simprocAttr, reduceCtorEq, reduceIte, hz2, d40]
            refine fin_run ?_ (hK _ ?_) <;> clear hK <;> clear K
            · (first | exact trivial | omega | (simp only [In64] at *; omega) | (simp [In64] at *; omega) | (simp_all; done) | skip)
            refine qa ?_
            refine hk_cond rfl (fun hC5 => ?_) (fun hC5 => ?_)
            · cases hC5
            · (try simp only [nhs] at hC5)
              refine qh (qa (qm ?_))
              refine hk_freeze 4 rfl rfl ?_
              refine hk_pure 13 rfl (Nat.zero_le _) ?_
              simp only [hset, List.drop_zero]
              refine hk_region fun K hK => runs_eval tab_ok ?_
              simp only [ev0, evA, evB, evP, fl, gp, tab, simprocAttr, reduceCtorEq, reduceIte]
              refine fin_stop trivial (runs_call (homBegun_c) rfl rfl rfl (by simp only [dstOk, Nat.reduceLT]) (by repeat (first | exact trivial | constructor)) (runs_eval tab_ok ?_))
              simp only [ev0, evA, evB, evP, fl, gp, tab, simprocAttr, reduceCtorEq, reduceIte]
              refine fin_stop trivial (runs_call (listAs_c [] (8, 0) _ _ (by simp) (fun _ => rfl) (fun hh => absurd hh (by decide))) rfl rfl rfl (by simp only [dstOk, Nat.reduceLT]) (by repeat (first | exact trivial | constructor)) (runs_eval tab_ok ?_))
              simp only [ev0, evA, evB, evP, fl, gp, tab, simprocAttr, reduceCtorEq, reduceIte]
              refine fin_run ?_ (hK _ ?_) <;> clear hK <;> clear K
              · (first | exact trivial | omega | (simp only [In64] at *; omega) | (simp [In64] at *; omega) | (simp_all; done) | skip)
              refine qa (qk ?_)
              simp only [Tryd.results12, enA, ev0, evA, evB, evP, fl, gp, tab, simprocAttr, reduceCtorEq, reduceIte]
              all_goals (rfl)
    · cases hC1
  · refine hk_region fun K hK => runs_eval tab_ok ?_
    simp only [ev0, evA, evB, evP, fl, gp, tab, simprocAttr, reduceCtorEq, reduceIte, il_length, decide_eq_true k1, decide_eq_true (show ((F.length : Nat) : Int) = ((T.length : Nat) : Int) by omega), Bool.not_true, decide_eq_true (show ((F.length : Nat) : Int) > N by omega)]
    refine fin_run ?_ (hK _ ?_) <;> clear hK <;> clear K
    · (first | exact trivial | omega | (simp only [In64] at *; omega) | (simp [In64] at *; omega) | (simp_all; done) | skip)
    refine qa ?_
    refine hk_cond rfl (fun hC1 => ?_) (fun hC1 => ?_)
    · (try simp only [nhs] at hC1)
      have hex := exr_8 (F := F) (T := T) k1 (.inr (show (F.length : Int) > N by omega))
      refine hk_region fun K hK => runs_eval tab_ok ?_
      simp only [ev0, evA, evB, evP, fl, gp, tab, simprocAttr, reduceCtorEq, reduceIte]
      refine fin_stop trivial (runs_call (f_c 8 0) rfl rfl rfl (by simp only [dstOk, Nat.reduceLT]) (by repeat (first | exact trivial | constructor)) (runs_eval tab_ok ?_))
      simp only [ev0, evA, evB, evP, fl, gp, tab, simprocAttr, reduceCtorEq, reduceIte]
      refine fin_run ?_ (hK _ ?_) <;> clear hK <;> clear K
      · (first | exact trivial | omega | (simp only [In64] at *; omega) | (simp [In64] at *; omega) | (simp_all; done) | skip)
      refine qa (qm (qm ?_))
      refine hk_region fun K hK => runs_eval tab_ok ?_
      simp only [ev0, evA, evB, evP, fl, gp, tab, simprocAttr, reduceCtorEq, reduceIte]
      refine fin_run trivial (hK _ ?_) <;> clear hK <;> clear K
      refine qa (ql ?_)
      refine hk_loop (ι := Unit) (fun _ => ⟨122, [(2, .p (.list (il F))), (3, .p (.list (il T))), (4, .ptr 0 0), (5, .ptr 1 0), (9, .p (.list [])), (10, .ptr 2 0), (11, .ptr 3 0), (12, .p (.int .i64 0))], [.own [.p (.int .i64 N), .p (.list (il m))], .own [.p (.int .i64 N'), .p (.list (il m'))], .own [.p (.int .i64 8), .p (.int .i64 0)], .own [.p (.int .i64 8), .p (.int .i64 0)]]⟩) (fun _ => True) (fun _ => 0) () trivial [0, 1, 2, 3] (by simp only [leq, leA, ev0, evA, evB, evP, fl, gp, tab, simprocAttr, reduceCtorEq, reduceIte, hex] <;> first | trivial | exact ⟨rfl, rfl⟩ | trace_state) fun _ _ => ?_
      refine qm (qm ?_)
      rcases Nat.eq_zero_or_pos F.length with q1 | q1
      · have hz1 : decide ((0 : Int) < (F.length : Int)) = false := decide_eq_false (by omega)
        have hz2 : decide ((8 : Int) = 0) = false := d80
        refine hk_region fun K hK => runs_eval tab_ok ?_
        simp only [ev0, evA, evB, evP, fl, gp, tab, simprocAttr, reduceCtorEq, reduceIte, il_length, hz1, hz2, if_true, if_false, Bool.false_eq_true, decide_true]
        refine fin_run trivial (hK _ ?_) <;> clear hK <;> clear K
        refine qa ?_
        refine hk_cond rfl (fun hC2 => ?_) (fun hC2 => ?_)
        · cases hC2
        · refine qj (qc (qc (qf (qa (qm (qm ?_))))))
          refine hk_draw mixed (by kernel_rfl) fun K hK => runs_eval tab_ok ?_
          simp only [ev0, evA, evB, evP, fl, gp, tab, simprocAttr, reduceCtorEq, reduceIte, hz2, il_length]
          refine fin_run ?_ (hK _ ?_) <;> clear hK <;> clear K
          · (first | exact trivial | omega | (simp only [In64] at *; omega) | (simp [In64] at *; omega) | (simp_all; done) | skip)
          refine qa ?_
          refine hk_cond rfl (fun hC4 => ?_) (fun hC4 => ?_)
          · cases hC4
          · refine qh (qa (qm ?_))
            refine hk_region fun K hK => runs_eval tab_ok ?_
            simp only [ev0, evA, evB, evP, fl, gp, tab, simprocAttr, reduceCtorEq, reduceIte]
            refine fin_run ?_ (hK _ ?_) <;> clear hK <;> clear K
            · (first | exact trivial | omega | (simp only [In64] at *; omega) | (simp [In64] at *; omega) | (simp_all; done) | skip)
            refine qa (qm (qm ?_))
            refine hk_region fun K hK => runs_eval tab_ok ?_
            simp only [ev0, evA, evB, evP, fl, gp, tab, simprocAttr, reduceCtorEq, reduceIte, hz2, d40]
            refine fin_run ?_ (hK _ ?_) <;> clear hK <;> clear K
            · (first | exact trivial | omega | (simp only [In64] at *; omega) | (simp [In64] at *; omega) | (simp_all; done) | skip)
            refine qa ?_
            refine hk_cond rfl (fun hC5 => ?_) (fun hC5 => ?_)
            · cases hC5
            · (try simp only [nhs] at hC5)
              refine qh (qa (qm ?_))
              refine hk_freeze 4 rfl rfl ?_
              refine hk_pure 13 rfl (Nat.zero_le _) ?_
              simp only [hset, List.drop_zero]
              refine hk_region fun K hK => runs_eval tab_ok ?_
              simp only [ev0, evA, evB, evP, fl, gp, tab, simprocAttr, reduceCtorEq, reduceIte]
              refine fin_stop trivial (runs_call (homBegun_c) rfl rfl rfl (by simp only [dstOk, Nat.reduceLT]) (by repeat (first | exact trivial | constructor)) (runs_eval tab_ok ?_))
              simp only [ev0, evA, evB, evP, fl, gp, tab, simprocAttr, reduceCtorEq, reduceIte]
              refine fin_stop trivial (runs_call (listAs_c [] (8, 0) _ _ (by simp) (fun _ => rfl) (fun hh => absurd hh (by decide))) rfl rfl rfl (by simp only [dstOk, Nat.reduceLT]) (by repeat (first | exact trivial | constructor)) (runs_eval tab_ok ?_))
              simp only [ev0, evA, evB, evP, fl, gp, tab, simprocAttr, reduceCtorEq, reduceIte]
              refine fin_run ?_ (hK _ ?_) <;> clear hK <;> clear K
              · (first | exact trivial | omega | (simp only [In64] at *; omega) | (simp [In64] at *; omega) | (simp_all; done) | skip)
              refine qa (qk ?_)
              simp only [Tryd.results12, enA, ev0, evA, evB, evP, fl, gp, tab, simprocAttr, reduceCtorEq, reduceIte]
              all_goals (rfl)
      · have hz1 : decide ((0 : Int) < (F.length : Int)) = true := decide_eq_true (by omega)
        have hz2 : decide ((8 : Int) = 0) = false := d80
        refine hk_region fun K hK => runs_eval tab_ok ?_
        simp only [ev0, evA, evB, evP, fl, gp, tab, simprocAttr, reduceCtorEq, reduceIte, il_length, hz1, hz2, if_true, if_false, Bool.false_eq_true, decide_true]
        refine fin_run ?_ (hK _ ?_) <;> clear hK <;> clear K
        · (first | exact trivial | omega | (simp only [In64] at *; omega) | (simp [In64] at *; omega) | (simp_all; done) | skip)
        refine qa ?_
        refine hk_cond rfl (fun hC2 => ?_) (fun hC2 => ?_)
        · cases hC2
        · (try simp only [nhs] at hC2)
          refine qj (qc (qc (qf (qa (qm (qm ?_))))))
          refine hk_draw mixed (by kernel_rfl) fun K hK => runs_eval tab_ok ?_
          simp only [ev0, evA, evB, evP, fl, gp, tab, simprocAttr, reduceCtorEq, reduceIte, hz2, il_length]
          refine fin_run ?_ (hK _ ?_) <;> clear hK <;> clear K
          · (first | exact trivial | omega | (simp only [In64] at *; omega) | (simp [In64] at *; omega) | (simp_all; done) | skip)
          refine qa ?_
          refine hk_cond rfl (fun hC4 => ?_) (fun hC4 => ?_)
          · cases hC4
          · refine qh (qa (qm ?_))
            refine hk_region fun K hK => runs_eval tab_ok ?_
            simp only [ev0, evA, evB, evP, fl, gp, tab, simprocAttr, reduceCtorEq, reduceIte]
            refine fin_run ?_ (hK _ ?_) <;> clear hK <;> clear K
            · (first | exact trivial | omega | (simp only [In64] at *; omega) | (simp [In64] at *; omega) | (simp_all; done) | skip)
            refine qa (qm (qm ?_))
            refine hk_region fun K hK => runs_eval tab_ok ?_
            simp only [ev0, evA, evB, evP, fl, gp, tab, simprocAttr, reduceCtorEq, reduceIte, hz2, d40]
            refine fin_run ?_ (hK _ ?_) <;> clear hK <;> clear K
            · (first | exact trivial | omega | (simp only [In64] at *; omega) | (simp [In64] at *; omega) | (simp_all; done) | skip)
            refine qa ?_
            refine hk_cond rfl (fun hC5 => ?_) (fun hC5 => ?_)
            · cases hC5
            · (try simp only [nhs] at hC5)
              refine qh (qa (qm ?_))
              refine hk_freeze 4 rfl rfl ?_
              refine hk_pure 13 rfl (Nat.zero_le _) ?_
              simp only [hset, List.drop_zero]
              refine hk_region fun K hK => runs_eval tab_ok ?_
              simp only [ev0, evA, evB, evP, fl, gp, tab, simprocAttr, reduceCtorEq, reduceIte]
              refine fin_stop trivial (runs_call (homBegun_c) rfl rfl rfl (by simp only [dstOk, Nat.reduceLT]) (by repeat (first | exact trivial | constructor)) (runs_eval tab_ok ?_))
              simp only [ev0, evA, evB, evP, fl, gp, tab, simprocAttr, reduceCtorEq, reduceIte]
              refine fin_stop trivial (runs_call (listAs_c [] (8, 0) _ _ (by simp) (fun _ => rfl) (fun hh => absurd hh (by decide))) rfl rfl rfl (by simp only [dstOk, Nat.reduceLT]) (by repeat (first | exact trivial | constructor)) (runs_eval tab_ok ?_))
              simp only [ev0, evA, evB, evP, fl, gp, tab, simprocAttr, reduceCtorEq, reduceIte]
              refine fin_run ?_ (hK _ ?_) <;> clear hK <;> clear K
              · (first | exact trivial | omega | (simp only [In64] at *; omega) | (simp [In64] at *; omega) | (simp_all; done) | skip)
              refine qa (qk ?_)
              simp only [Tryd.results12, enA, ev0, evA, evB, evP, fl, gp, tab, simprocAttr, reduceCtorEq, reduceIte]
              all_goals (rfl)
    · (try simp only [nhs] at hC1)
      simp at hC1
  · refine hk_region fun K hK => runs_eval tab_ok ?_
    simp only [ev0, evA, evB, evP, fl, gp, tab, simprocAttr, reduceCtorEq, reduceIte, il_length, decide_eq_true k1, decide_eq_true (show ((F.length : Nat) : Int) = ((T.length : Nat) : Int) by omega), Bool.not_true, decide_eq_false (show ¬ ((F.length : Nat) : Int) > N by omega)]
    refine fin_run ?_ (hK _ ?_) <;> clear hK <;> clear K
    · (first | exact trivial | omega | (simp only [In64] at *; omega) | (simp [In64] at *; omega) | (simp_all; done) | skip)
    refine qa ?_
    refine hk_cond rfl (fun hC1 => ?_) (fun hC1 => ?_)
    · (try simp only [nhs] at hC1)
      simp at hC1
    · (try simp only [nhs] at hC1)
      obtain ⟨z1, z2⟩ := tg_zero k1
      obtain ⟨n, e, h, _⟩ := gf_ok z1
      obtain ⟨n', e', h', _⟩ := gf_ok z2
      obtain rfl := h.1
      obtain rfl := h'.1
      have hb := h.2.1.big
      have hb' := h'.2.1.big
      rw [tg_ok h h']
      refine qh (qa (qm (qm ?_)))
      refine hk_region fun K hK => runs_eval tab_ok ?_
      simp only [ev0, evA, evB, evP, fl, gp, tab, simprocAttr, reduceCtorEq, reduceIte]
      refine fin_run trivial (hK _ ?_) <;> clear hK <;> clear K
      refine qa (ql ?_)
      refine hk_loop (ι := Nat × Bool) (fun p => ⟨122, [(2, .p (.list (il F))), (3, .p (.list (il T))), (4, .ptr 0 0), (5, .ptr 1 0), (9, .p (.list (il (exr n m n' m' F T).2))), (10, .ptr 2 0), (11, .ptr 3 0), (12, .p (.int .i64 p.1))], [.own [.p (.int .i64 n), .p (.list (il m))], .own [.p (.int .i64 n'), .p (.list (il m'))], .own [.p (.int .i64 (exr n m n' m' F T).1.1), .p (.int .i64 (exr n m n' m' F T).1.2)], .own [.p (.int .i64 (if p.2 then 3 else 0)), .p (.int .i64 (if p.2 then ((p.1 : Nat) : Int) - 1 else 0))]]⟩) (fun p => p.1 ≤ F.length ∧ (p.2 = false → ∀ j, j < p.1 → badx n n' F T j = false) ∧ (p.2 = true → ∃ k, p.1 = k + 1 ∧ badx n n' F T k = true ∧ ∀ j, j < k → badx n n' F T j = false)) (fun p => F.length - p.1) (0, false) ⟨Nat.zero_le _, fun _ j hj => absurd hj (Nat.not_lt_zero _), fun h => by cases h⟩ [0, 1, 2, 3] (by simp only [leq, leA, ev0, evA, evB, evP, fl, gp, tab, simprocAttr, reduceCtorEq, reduceIte] <;> first | trivial | exact ⟨rfl, rfl⟩ | trace_state) fun p hp => ?_
      obtain ⟨i, b⟩ := p
      obtain ⟨hi1, hi2, hi3⟩ := hp
      simp only at hi1 hi2 hi3
      refine qm (qm ?_)
      rcases em4b (i < F.length) b with ⟨q1, rfl⟩ | ⟨q1, rfl⟩ | ⟨q1, rfl⟩ | ⟨q1, rfl⟩
      · have hz1 : decide (((i : Nat) : Int) < (F.length : Int)) = false := decide_eq_false (by omega)
        have hz2 := d30
        refine hk_region fun K hK => runs_eval tab_ok ?_
        simp only [ev0, evA, evB, evP, fl, gp, tab, simprocAttr, reduceCtorEq, reduceIte, il_length, hz1, hz2, if_true, if_false, Bool.false_eq_true, decide_true]
        refine fin_run trivial (hK _ ?_) <;> clear hK <;> clear K
        refine qa ?_
        refine hk_cond rfl (fun hC2 => ?_) (fun hC2 => ?_)
        · cases hC2
        · obtain rfl : i = F.length := by omega
          simp only [Bool.false_eq_true, if_false]
          have hz2 : decide ((0 : Int) = 0) = true := rfl
          have hrng : ∀ j, j < F.length → (F.getD j 0 = ((F.getD j 0).toNat : Nat) ∧ (F.getD j 0).toNat < n) ∧ T.getD j 0 = ((T.getD j 0).toNat : Nat) ∧ (T.getD j 0).toNat < n' := fun j hj => badx_ok (hi2 rfl j hj)
          have hnF : nl (tn F) = F := nl_tn fun j hj => by have := (hrng j hj).1.1; omega
          have hnT : nl (tn T) = T := nl_tn fun j hj => by have := (hrng j (by omega)).2.1; omega
          have hlF := tn_len F
          have hlT := tn_len T
          have hF1 : ∀ i, i < (tn F).length → (tn F).getD i 0 < n := fun j hj => by rw [tn_get (by omega)]; exact (hrng j (by omega)).1.2
          have hT1 : ∀ i, i < (tn F).length → (tn T).getD i 0 < n' := fun j hj => by rw [tn_get (by omega)]; exact (hrng j (by omega)).2.2
          have hrF : ∀ x ∈ F, ∃ a, a < n ∧ x = ((a : Nat) : Int) := fun x hx => by
            obtain ⟨j, hj, rfl⟩ := List.getElem_of_mem hx
            have := (hrng j hj).1
            rw [show F.getD j 0 = F[j] by simp [List.getD, List.getElem?_eq_getElem hj]] at this
            exact ⟨_, this.2, this.1⟩
          have htst : tst F = fun x => decide (x ∈ tn F) := funext fun x => by
            unfold tst
            refine decide_eq_decide.2 ⟨fun hx => List.mem_map.2 ⟨_, hx, rfl⟩, fun hx => ?_⟩
            obtain ⟨y, hy, he⟩ := List.mem_map.1 hx
            obtain ⟨a, _, rfl⟩ := hrF y hy
            rw [← he]; exact hy
          obtain ⟨q, hq⟩ := gen_ex n (op m n) e (tst F)
          have hgp : genp n m e (tn F) ↔ ∀ a, a < n → q a = true := by
            unfold genp
            rw [← htst]
            exact ⟨fun hh a ha => (hq a ha).2 (hh a ha), fun hh a ha => (hq a ha).1 (hh a ha)⟩
          have htf := thl_full n q
          have htl := thl_le n q
          have hx2 := exr_2 h h' k2 k3 (hi2 rfl)
          refine qj (qc (qc (qf (qa (qm (qm ?_))))))
          refine hk_draw mixed (by kernel_rfl) fun K hK => runs_eval tab_ok ?_
          simp only [ev0, evA, evB, evP, fl, gp, tab, simprocAttr, reduceCtorEq, reduceIte, hz2, il_length]
          refine fin_stop trivial (runs_call (span_c h F (by omega) hrF q hq) rfl rfl rfl (by simp only [dstOk, Nat.reduceLT]) (by repeat (first | exact trivial | constructor)) (runs_eval tab_ok ?_))
          simp only [ev0, evA, evB, evP, fl, gp, tab, simprocAttr, reduceCtorEq, reduceIte, hz2, il_length]
          refine fin_run ?_ (hK _ ?_) <;> clear hK <;> clear K
          · (first | exact trivial | omega | (simp only [In64] at *; omega) | (simp [In64] at *; omega) | (simp_all; done) | skip)
          refine qa ?_
          refine hk_cond rfl (fun hC4 => ?_) (fun hC4 => ?_)
          · (try simp only [nhs] at hC4)
            have hng : ¬ genp n m e (tn F) := fun hh => by
              have := htf.1 (hgp.1 hh)
              omega
            rw [hx2, exr2_4 hng]
            refine hk_region fun K hK => runs_eval tab_ok ?_
            simp only [ev0, evA, evB, evP, fl, gp, tab, simprocAttr, reduceCtorEq, reduceIte]
            refine fin_stop trivial (runs_call (f_c 4 0) rfl rfl rfl (by simp only [dstOk, Nat.reduceLT]) (by repeat (first | exact trivial | constructor)) (runs_eval tab_ok ?_))
            simp only [ev0, evA, evB, evP, fl, gp, tab, simprocAttr, reduceCtorEq, reduceIte]
            refine fin_run ?_ (hK _ ?_) <;> clear hK <;> clear K
            · (first | exact trivial | omega | (simp only [In64] at *; omega) | (simp [In64] at *; omega) | (simp_all; done) | skip)
            refine qa (qm ?_)
            refine hk_region fun K hK => runs_eval tab_ok ?_
            simp only [ev0, evA, evB, evP, fl, gp, tab, simprocAttr, reduceCtorEq, reduceIte]
            refine fin_run ?_ (hK _ ?_) <;> clear hK <;> clear K
            · (first | exact trivial | omega | (simp only [In64] at *; omega) | (simp [In64] at *; omega) | (simp_all; done) | skip)
            refine qa (qm (qm ?_))
            refine hk_region fun K hK => runs_eval tab_ok ?_
            simp only [ev0, evA, evB, evP, fl, gp, tab, simprocAttr, reduceCtorEq, reduceIte, hz2, d40]
            refine fin_run ?_ (hK _ ?_) <;> clear hK <;> clear K
            · (first | exact trivial | omega | (simp only [In64] at *; omega) | (simp [In64] at *; omega) | (simp_all; done) | skip)
            refine qa ?_
            refine hk_cond rfl (fun hC5 => ?_) (fun hC5 => ?_)
            · cases hC5
            · (try simp only [nhs] at hC5)
              refine qh (qa (qm ?_))
              refine hk_freeze 4 rfl rfl ?_
              refine hk_pure 13 rfl (Nat.zero_le _) ?_
              simp only [hset, List.drop_zero]
              refine hk_region fun K hK => runs_eval tab_ok ?_
              simp only [ev0, evA, evB, evP, fl, gp, tab, simprocAttr, reduceCtorEq, reduceIte]
              refine fin_stop trivial (runs_call (homBegun_c) rfl rfl rfl (by simp only [dstOk, Nat.reduceLT]) (by repeat (first | exact trivial | constructor)) (runs_eval tab_ok ?_))
              simp only [ev0, evA, evB, evP, fl, gp, tab, simprocAttr, reduceCtorEq, reduceIte]
              refine fin_stop trivial (runs_call (listAs_c [] (4, 0) _ _ (by simp) (fun _ => rfl) (fun hh => absurd hh (by decide))) rfl rfl rfl (by simp only [dstOk, Nat.reduceLT]) (by repeat (first | exact trivial | constructor)) (runs_eval tab_ok ?_))
              simp only [ev0, evA, evB, evP, fl, gp, tab, simprocAttr, reduceCtorEq, reduceIte]
              refine fin_run ?_ (hK _ ?_) <;> clear hK <;> clear K
              · (first | exact trivial | omega | (simp only [In64] at *; omega) | (simp [In64] at *; omega) | (simp_all; done) | skip)
              refine qa (qk ?_)
              simp only [Tryd.results12, enA, ev0, evA, evB, evP, fl, gp, tab, simprocAttr, reduceCtorEq, reduceIte]
              all_goals (rfl)
          · (try simp only [nhs] at hC4)
            have hg : genp n m e (tn F) := hgp.2 (htf.2 (by omega))
            refine qh (qa (qm ?_))
            refine hk_region fun K hK => runs_eval tab_ok ?_
            simp only [ev0, evA, evB, evP, fl, gp, tab, simprocAttr, reduceCtorEq, reduceIte]
            refine fin_run ?_ (hK _ ?_) <;> clear hK <;> clear K
            · (first | exact trivial | omega | (simp only [In64] at *; omega) | (simp [In64] at *; omega) | (simp_all; done) | skip)
            refine qa (qm (qm ?_))
            refine hk_region fun K hK => runs_eval tab_ok ?_
            simp only [ev0, evA, evB, evP, fl, gp, tab, simprocAttr, reduceCtorEq, reduceIte, hz2, d40]
            refine fin_run ?_ (hK _ ?_) <;> clear hK <;> clear K
            · (first | exact trivial | omega | (simp only [In64] at *; omega) | (simp [In64] at *; omega) | (simp_all; done) | skip)
            refine qa ?_
            refine hk_cond rfl (fun hC5 => ?_) (fun hC5 => ?_)
            · (try simp only [nhs] at hC5)
              refine qm ?_
              by_cases hex : ∃ φ, Ext n (op m n) n' (op m' n') (tn F) (tn T) φ
              · have hsp := rspread_yes h h' (tn F) (tn T) (by omega) (by omega) hF1 hT1 hg (Classical.choose_spec hex)
                rw [hnF, hnT] at hsp
                have hx3 := exr2_0 (m := m) (m' := m') (e' := e') hg hex
                rw [hx2, hx3]
                generalize Classical.choose hex = φ at hsp
                have htb := tbm_len n φ
                have hne : il (tbm n φ) ≠ [] := by
                  intro hh
                  have h1 := congrArg List.length hh
                  rw [il_length, htb] at h1
                  have h2 := h.2.1.pos
                  simp only [List.length_nil] at h1
                  omega
                refine hk_region fun K hK => runs_eval tab_ok ?_
                simp only [ev0, evA, evB, evP, fl, gp, tab, simprocAttr, reduceCtorEq, reduceIte]
                refine fin_stop ?_ (runs_callF (FnG_fnf hsp (by simp [il, PV.sc])) rfl (by simp only [callA, peekList, peekG, peekS, List.map_cons, List.map_nil, List.append_nil, enA, ev0, evA, evB, evP, fl, gp, tab, simprocAttr, reduceCtorEq, reduceIte, List.drop_zero, ol_drop, ol_take, take_len, ol_allP, il_all, il_length]; rfl) (by simp only [dstOk, Nat.reduceLT]) ?_ (runs_eval tab_ok ?_))
                · (first | exact trivial | omega | (simp only [In64] at *; omega) | (simp [In64] at *; omega) | (simp_all; done) | skip)
                · (first | exact trivial | omega | (simp only [In64] at *; omega) | (simp [In64] at *; omega) | (simp_all; done) | skip)
                simp only [ev0, evA, evB, evP, fl, gp, tab, simprocAttr, reduceCtorEq, reduceIte]
                refine fin_run ?_ (hK _ ?_) <;> clear hK <;> clear K
                · (first | exact trivial | omega | (simp only [In64] at *; omega) | (simp [In64] at *; omega) | (simp_all; done) | skip)
                refine qa (qm ?_)
                refine hk_region fun K hK => runs_eval tab_ok ?_
                simp only [ev0, evA, evB, evP, fl, gp, tab, simprocAttr, reduceCtorEq, reduceIte, binA.eq_def, Option.map_some]
                refine fin_run ?_ (hK _ ?_) <;> clear hK <;> clear K
                · first | exact hne | trivial
                refine qa ?_
                refine hk_cond rfl (fun hC6 => ?_) (fun hC6 => ?_)
                · cases hC6
                · (try simp only [nhs] at hC6)
                  refine qh (qa (qm ?_))
                  refine hk_freeze 4 rfl rfl ?_
                  refine hk_pure 13 rfl (Nat.zero_le _) ?_
                  simp only [hset, List.drop_zero]
                  refine hk_region fun K hK => runs_eval tab_ok ?_
                  simp only [ev0, evA, evB, evP, fl, gp, tab, simprocAttr, reduceCtorEq, reduceIte]
                  refine fin_stop trivial (runs_call (homBegun_c) rfl rfl rfl (by simp only [dstOk, Nat.reduceLT]) (by repeat (first | exact trivial | constructor)) (runs_eval tab_ok ?_))
                  simp only [ev0, evA, evB, evP, fl, gp, tab, simprocAttr, reduceCtorEq, reduceIte]
                  refine fin_stop trivial (runs_call (listAs_c (tbm n φ) (0, 0) _ _ (by omega) (fun hh => absurd rfl hh) (fun _ => hex1_c _ _ rfl)) rfl rfl rfl (by simp only [dstOk, Nat.reduceLT]) (by repeat (first | exact trivial | constructor)) (runs_eval tab_ok ?_))
                  simp only [ev0, evA, evB, evP, fl, gp, tab, simprocAttr, reduceCtorEq, reduceIte]
                  refine fin_run ?_ (hK _ ?_) <;> clear hK <;> clear K
                  · (first | exact trivial | omega | (simp only [In64] at *; omega) | (simp [In64] at *; omega) | (simp_all; done) | skip)
                  refine qa (qk ?_)
                  simp only [Tryd.results12, enA, ev0, evA, evB, evP, fl, gp, tab, simprocAttr, reduceCtorEq, reduceIte]
                  all_goals (rfl)
              · have hsp := fnc_of_p (rspread_no h h' (tn F) (tn T) (by omega) (by omega) hF1 hT1 hg fun φ hφ => hex ⟨φ, hφ⟩) rfl
                rw [hnF, hnT] at hsp
                rw [hx2, exr2_6 hg hex]
                refine hk_region fun K hK => runs_eval tab_ok ?_
                simp only [ev0, evA, evB, evP, fl, gp, tab, simprocAttr, reduceCtorEq, reduceIte]
                refine fin_stop trivial (runs_call (hsp) rfl rfl rfl (by simp only [dstOk, Nat.reduceLT]) (by repeat (first | exact trivial | constructor)) (runs_eval tab_ok ?_))
                simp only [ev0, evA, evB, evP, fl, gp, tab, simprocAttr, reduceCtorEq, reduceIte]
                refine fin_run ?_ (hK _ ?_) <;> clear hK <;> clear K
                · (first | exact trivial | omega | (simp only [In64] at *; omega) | (simp [In64] at *; omega) | (simp_all; done) | skip)
                refine qa (qm ?_)
                refine hk_region fun K hK => runs_eval tab_ok ?_
                simp only [ev0, evA, evB, evP, fl, gp, tab, simprocAttr, reduceCtorEq, reduceIte, binA.eq_def, Option.map_some]
                refine fin_run ?_ (hK _ ?_) <;> clear hK <;> clear K
                · first | exact hne | trivial
                refine qa ?_
                refine hk_cond rfl (fun hC6 => ?_) (fun hC6 => ?_)
                · (try simp only [nhs] at hC6)
                  refine hk_region fun K hK => runs_eval tab_ok ?_
                  simp only [ev0, evA, evB, evP, fl, gp, tab, simprocAttr, reduceCtorEq, reduceIte]
                  refine fin_stop trivial (runs_call (f_c 6 0) rfl rfl rfl (by simp only [dstOk, Nat.reduceLT]) (by repeat (first | exact trivial | constructor)) (runs_eval tab_ok ?_))
                  simp only [ev0, evA, evB, evP, fl, gp, tab, simprocAttr, reduceCtorEq, reduceIte]
                  refine fin_run ?_ (hK _ ?_) <;> clear hK <;> clear K
                  · (first | exact trivial | omega | (simp only [In64] at *; omega) | (simp [In64] at *; omega) | (simp_all; done) | skip)
                  refine qa (qm ?_)
                  refine hk_freeze 4 rfl rfl ?_
                  refine hk_pure 13 rfl (Nat.zero_le _) ?_
                  simp only [hset, List.drop_zero]
                  refine hk_region fun K hK => runs_eval tab_ok ?_
                  simp only [ev0, evA, evB, evP, fl, gp, tab, simprocAttr, reduceCtorEq, reduceIte]
                  refine fin_stop trivial (runs_call (homBegun_c) rfl rfl rfl (by simp only [dstOk, Nat.reduceLT]) (by repeat (first | exact trivial | constructor)) (runs_eval tab_ok ?_))
                  simp only [ev0, evA, evB, evP, fl, gp, tab, simprocAttr, reduceCtorEq, reduceIte]
                  refine fin_stop trivial (runs_call (listAs_c [] (6, 0) _ _ (by simp) (fun _ => rfl) (fun hh => absurd hh (by decide))) rfl rfl rfl (by simp only [dstOk, Nat.reduceLT]) (by repeat (first | exact trivial | constructor)) (runs_eval tab_ok ?_))
                  simp only [ev0, evA, evB, evP, fl, gp, tab, simprocAttr, reduceCtorEq, reduceIte]
                  refine fin_run ?_ (hK _ ?_) <;> clear hK <;> clear K
                  · (first | exact trivial | omega | (simp only [In64] at *; omega) | (simp [In64] at *; omega) | (simp_all; done) | skip)
                  refine qa (qk ?_)
                  simp only [Tryd.results12, enA, ev0, evA, evB, evP, fl, gp, tab, simprocAttr, reduceCtorEq, reduceIte]
                  all_goals (rfl)
                · cases hC6
            · cases hC5
      · have hz1 : decide (((i : Nat) : Int) < (F.length : Int)) = false := decide_eq_false (by omega)
        have hz2 := d30
        refine hk_region fun K hK => runs_eval tab_ok ?_
        simp only [ev0, evA, evB, evP, fl, gp, tab, simprocAttr, reduceCtorEq, reduceIte, il_length, hz1, hz2, if_true, if_false, Bool.false_eq_true, decide_true]
        refine fin_run trivial (hK _ ?_) <;> clear hK <;> clear K
        refine qa ?_
        refine hk_cond rfl (fun hC2 => ?_) (fun hC2 => ?_)
        · cases hC2
        · obtain ⟨k, rfl, hbk, hjk⟩ := hi3 rfl
          have hex := exr_3 k1 k2 k3 (by omega) hbk hjk
          rw [hex]
          simp only [if_true, show ((k + 1 : Nat) : Int) - 1 = ((k : Nat) : Int) by omega]
          refine qj (qc (qc (qf (qa (qm (qm ?_))))))
          refine hk_draw mixed (by kernel_rfl) fun K hK => runs_eval tab_ok ?_
          simp only [ev0, evA, evB, evP, fl, gp, tab, simprocAttr, reduceCtorEq, reduceIte, hz2, il_length]
          refine fin_run ?_ (hK _ ?_) <;> clear hK <;> clear K
          · (first | exact trivial | omega | (simp only [In64] at *; omega) | (simp [In64] at *; omega) | (simp_all; done) | skip)
          refine qa ?_
          refine hk_cond rfl (fun hC4 => ?_) (fun hC4 => ?_)
          · cases hC4
          · refine qh (qa (qm ?_))
            refine hk_region fun K hK => runs_eval tab_ok ?_
            simp only [ev0, evA, evB, evP, fl, gp, tab, simprocAttr, reduceCtorEq, reduceIte]
            refine fin_run ?_ (hK _ ?_) <;> clear hK <;> clear K
            · (first | exact trivial | omega | (simp only [In64] at *; omega) | (simp [In64] at *; omega) | (simp_all; done) | skip)
            refine qa (qm (qm ?_))
            refine hk_region fun K hK => runs_eval tab_ok ?_
            simp only [ev0, evA, evB, evP, fl, gp, tab, simprocAttr, reduceCtorEq, reduceIte, hz2, d40]
            refine fin_run ?_ (hK _ ?_) <;> clear hK <;> clear K
            · (first | exact trivial | omega | (simp only [In64] at *; omega) | (simp [In64] at *; omega) | (simp_all; done) | skip)
            refine qa ?_
            refine hk_cond rfl (fun hC5 => ?_) (fun hC5 => ?_)
            · cases hC5
            · (try simp only [nhs] at hC5)
              refine qh (qa (qm ?_))
              refine hk_freeze 4 rfl rfl ?_
              refine hk_pure 13 rfl (Nat.zero_le _) ?_
              simp only [hset, List.drop_zero]
              refine hk_region fun K hK => runs_eval tab_ok ?_
              simp only [ev0, evA, evB, evP, fl, gp, tab, simprocAttr, reduceCtorEq, reduceIte]
              refine fin_stop trivial (runs_call (homBegun_c) rfl rfl rfl (by simp only [dstOk, Nat.reduceLT]) (by repeat (first | exact trivial | constructor)) (runs_eval tab_ok ?_))
              simp only [ev0, evA, evB, evP, fl, gp, tab, simprocAttr, reduceCtorEq, reduceIte]
              refine fin_stop trivial (runs_call (listAs_c [] (3, (k : Int)) _ _ (by simp) (fun _ => rfl) (fun hh => absurd hh (by simp))) rfl rfl rfl (by simp only [dstOk, Nat.reduceLT]) (by repeat (first | exact trivial | constructor)) (runs_eval tab_ok ?_))
              simp only [ev0, evA, evB, evP, fl, gp, tab, simprocAttr, reduceCtorEq, reduceIte]
              refine fin_run ?_ (hK _ ?_) <;> clear hK <;> clear K
              · (first | exact trivial | omega | (simp only [In64] at *; omega) | (simp [In64] at *; omega) | (simp_all; done) | skip)
              refine qa (qk ?_)
              simp only [Tryd.results12, enA, ev0, evA, evB, evP, fl, gp, tab, simprocAttr, reduceCtorEq, reduceIte]
              all_goals (rfl)
      · have hz1 : decide (((i : Nat) : Int) < (F.length : Int)) = true := decide_eq_true (by omega)
        have hz2 := d30
        refine hk_region fun K hK => runs_eval tab_ok ?_
        simp only [ev0, evA, evB, evP, fl, gp, tab, simprocAttr, reduceCtorEq, reduceIte, il_length, hz1, hz2, if_true, if_false, Bool.false_eq_true, decide_true]
        refine fin_run ?_ (hK _ ?_) <;> clear hK <;> clear K
        · (first | exact trivial | omega | (simp only [In64] at *; omega) | (simp [In64] at *; omega) | (simp_all; done) | skip)
        refine qa ?_
        refine hk_cond rfl (fun hC2 => ?_) (fun hC2 => ?_)
        · cases hC2
        · (try simp only [nhs] at hC2)
          obtain ⟨k, rfl, hbk, hjk⟩ := hi3 rfl
          have hex := exr_3 k1 k2 k3 (by omega) hbk hjk
          rw [hex]
          simp only [if_true, show ((k + 1 : Nat) : Int) - 1 = ((k : Nat) : Int) by omega]
          refine qj (qc (qc (qf (qa (qm (qm ?_))))))
          refine hk_draw mixed (by kernel_rfl) fun K hK => runs_eval tab_ok ?_
          simp only [ev0, evA, evB, evP, fl, gp, tab, simprocAttr, reduceCtorEq, reduceIte, hz2, il_length]
          refine fin_run ?_ (hK _ ?_) <;> clear hK <;> clear K
          · (first | exact trivial | omega | (simp only [In64] at *; omega) | (simp [In64] at *; omega) | (simp_all; done) | skip)
          refine qa ?_
          refine hk_cond rfl (fun hC4 => ?_) (fun hC4 => ?_)
          · cases hC4
          · refine qh (qa (qm ?_))
            refine hk_region fun K hK => runs_eval tab_ok ?_
            simp only [ev0, evA, evB, evP, fl, gp, tab, simprocAttr, reduceCtorEq, reduceIte]
            refine fin_run ?_ (hK _ ?_) <;> clear hK <;> clear K
            · (first | exact trivial | omega | (simp only [In64] at *; omega) | (simp [In64] at *; omega) | (simp_all; done) | skip)
            refine qa (qm (qm ?_))
            refine hk_region fun K hK => runs_eval tab_ok ?_
            simp only [ev0, evA, evB, evP, fl, gp, tab, simprocAttr, reduceCtorEq, reduceIte, hz2, d40]
            refine fin_run ?_ (hK _ ?_) <;> clear hK <;> clear K
            · (first | exact trivial | omega | (simp only [In64] at *; omega) | (simp [In64] at *; omega) | (simp_all; done) | skip)
            refine qa ?_
            refine hk_cond rfl (fun hC5 => ?_) (fun hC5 => ?_)
            · cases hC5
            · (try simp only [nhs] at hC5)
              refine qh (qa (qm ?_))
              refine hk_freeze 4 rfl rfl ?_
              refine hk_pure 13 rfl (Nat.zero_le _) ?_
              simp only [hset, List.drop_zero]
              refine hk_region fun K hK => runs_eval tab_ok ?_
              simp only [ev0, evA, evB, evP, fl, gp, tab, simprocAttr, reduceCtorEq, reduceIte]
              refine fin_stop trivial (runs_call (homBegun_c) rfl rfl rfl (by simp only [dstOk, Nat.reduceLT]) (by repeat (first | exact trivial | constructor)) (runs_eval tab_ok ?_))
              simp only [ev0, evA, evB, evP, fl, gp, tab, simprocAttr, reduceCtorEq, reduceIte]
              refine fin_stop trivial (runs_call (listAs_c [] (3, (k : Int)) _ _ (by simp) (fun _ => rfl) (fun hh => absurd hh (by simp))) rfl rfl rfl (by simp only [dstOk, Nat.reduceLT]) (by repeat (first | exact trivial | constructor)) (runs_eval tab_ok ?_))
              simp only [ev0, evA, evB, evP, fl, gp, tab, simprocAttr, reduceCtorEq, reduceIte]
              refine fin_run ?_ (hK _ ?_) <;> clear hK <;> clear K
              · (first | exact trivial | omega | (simp only [In64] at *; omega) | (simp [In64] at *; omega) | (simp_all; done) | skip)
              refine qa (qk ?_)
              simp only [Tryd.results12, enA, ev0, evA, evB, evP, fl, gp, tab, simprocAttr, reduceCtorEq, reduceIte]
              all_goals (rfl)
      · have hz1 : decide (((i : Nat) : Int) < (F.length : Int)) = true := decide_eq_true (by omega)
        have hz2 := d30
        refine hk_region fun K hK => runs_eval tab_ok ?_
        simp only [ev0, evA, evB, evP, fl, gp, tab, simprocAttr, reduceCtorEq, reduceIte, il_length, hz1, hz2, if_true, if_false, Bool.false_eq_true, decide_true]
        refine fin_run ?_ (hK _ ?_) <;> clear hK <;> clear K
        · (first | exact trivial | omega | (simp only [In64] at *; omega) | (simp [In64] at *; omega) | (simp_all; done) | skip)
        refine qa ?_
        refine hk_cond rfl (fun hC2 => ?_) (fun hC2 => ?_)
        · (try simp only [nhs] at hC2)
          have hil := q1
          refine qh (qa (qm (ql (qm ?_))))
          by_cases g8a : F.getD i 0 < 0
          · refine hk_draw mixed (by kernel_rfl) fun K hK => runs_eval tab_ok ?_
            simp only [ev0, evA, evB, evP, fl, gp, tab, simprocAttr, reduceCtorEq, reduceIte, il_get hil, il_get (show i < T.length by omega), decide_eq_true g8a]
            refine fin_run ?_ (hK _ ?_) <;> clear hK <;> clear K
            · (first | exact trivial | omega | (simp only [In64] at *; omega) | (simp [In64] at *; omega) | (simp_all; done) | skip)
            refine qa ?_
            refine hk_cond rfl (fun hC3 => ?_) (fun hC3 => ?_)
            · refine hk_region fun K hK => runs_eval tab_ok ?_
              simp only [ev0, evA, evB, evP, fl, gp, tab, simprocAttr, reduceCtorEq, reduceIte]
              refine fin_stop trivial (runs_call (f_c 3 i) rfl rfl rfl (by simp only [dstOk, Nat.reduceLT]) (by repeat (first | exact trivial | constructor)) (runs_eval tab_ok ?_))
              simp only [ev0, evA, evB, evP, fl, gp, tab, simprocAttr, reduceCtorEq, reduceIte]
              refine fin_run ?_ (hK _ ?_) <;> clear hK <;> clear K
              · (first | exact trivial | omega | (simp only [In64] at *; omega) | (simp [In64] at *; omega) | (simp_all; done) | skip)
              refine qd (qa ?_)
              refine hk_region fun K hK => runs_eval tab_ok ?_
              simp only [ev0, evA, evB, evP, fl, gp, tab, simprocAttr, reduceCtorEq, reduceIte]
              refine fin_run ?_ (hK _ ?_) <;> clear hK <;> clear K
              · (first | exact trivial | omega | (simp only [In64] at *; omega) | (simp [In64] at *; omega) | (simp_all; done) | skip)
              refine qa ?_
              refine ⟨(i + 1, true), [0, 1, 2, 3], ⟨by simp only; omega, fun h => (by cases h), fun _ => ⟨i, rfl, decide_eq_true (.inl g8a), fun j hj => hi2 rfl j hj⟩⟩, by simp only; omega, ?_⟩
              simp only [if_true, show ((i + 1 : Nat) : Int) - 1 = ((i : Nat) : Int) by omega]
              simp only [leq, leA, ev0, evA, evB, evP, fl, gp, tab, simprocAttr, reduceCtorEq, reduceIte] <;> first | trivial | omega
            · cases hC3
          · by_cases g8b : F.getD i 0 ≥ (n : Int)
            · refine hk_draw mixed (by kernel_rfl) fun K hK => runs_eval tab_ok ?_
              simp only [ev0, evA, evB, evP, fl, gp, tab, simprocAttr, reduceCtorEq, reduceIte, il_get hil, il_get (show i < T.length by omega), decide_eq_false g8a, decide_eq_true g8b]
              refine fin_run ?_ (hK _ ?_) <;> clear hK <;> clear K
              · (first | exact trivial | omega | (simp only [In64] at *; omega) | (simp [In64] at *; omega) | (simp_all; done) | skip)
              refine qa ?_
              refine hk_cond rfl (fun hC3 => ?_) (fun hC3 => ?_)
              · refine hk_region fun K hK => runs_eval tab_ok ?_
                simp only [ev0, evA, evB, evP, fl, gp, tab, simprocAttr, reduceCtorEq, reduceIte]
                refine fin_stop trivial (runs_call (f_c 3 i) rfl rfl rfl (by simp only [dstOk, Nat.reduceLT]) (by repeat (first | exact trivial | constructor)) (runs_eval tab_ok ?_))
                simp only [ev0, evA, evB, evP, fl, gp, tab, simprocAttr, reduceCtorEq, reduceIte]
                refine fin_run ?_ (hK _ ?_) <;> clear hK <;> clear K
                · (first | exact trivial | omega | (simp only [In64] at *; omega) | (simp [In64] at *; omega) | (simp_all; done) | skip)
                refine qd (qa ?_)
                refine hk_region fun K hK => runs_eval tab_ok ?_
                simp only [ev0, evA, evB, evP, fl, gp, tab, simprocAttr, reduceCtorEq, reduceIte]
                refine fin_run ?_ (hK _ ?_) <;> clear hK <;> clear K
                · (first | exact trivial | omega | (simp only [In64] at *; omega) | (simp [In64] at *; omega) | (simp_all; done) | skip)
                refine qa ?_
                refine ⟨(i + 1, true), [0, 1, 2, 3], ⟨by simp only; omega, fun h => (by cases h), fun _ => ⟨i, rfl, decide_eq_true (.inr (.inl g8b)), fun j hj => hi2 rfl j hj⟩⟩, by simp only; omega, ?_⟩
                simp only [if_true, show ((i + 1 : Nat) : Int) - 1 = ((i : Nat) : Int) by omega]
                simp only [leq, leA, ev0, evA, evB, evP, fl, gp, tab, simprocAttr, reduceCtorEq, reduceIte] <;> first | trivial | omega
              · cases hC3
            · by_cases g8c : T.getD i 0 < 0
              · refine hk_draw mixed (by kernel_rfl) fun K hK => runs_eval tab_ok ?_
                simp only [ev0, evA, evB, evP, fl, gp, tab, simprocAttr, reduceCtorEq, reduceIte, il_get hil, il_get (show i < T.length by omega), decide_eq_false g8a, decide_eq_false g8b, decide_eq_true g8c]
                refine fin_run ?_ (hK _ ?_) <;> clear hK <;> clear K
                · (first | exact trivial | omega | (simp only [In64] at *; omega) | (simp [In64] at *; omega) | (simp_all; done) | skip)
                refine qa ?_
                refine hk_cond rfl (fun hC3 => ?_) (fun hC3 => ?_)
                · refine hk_region fun K hK => runs_eval tab_ok ?_
                  simp only [ev0, evA, evB, evP, fl, gp, tab, simprocAttr, reduceCtorEq, reduceIte]
                  refine fin_stop trivial (runs_call (f_c 3 i) rfl rfl rfl (by simp only [dstOk, Nat.reduceLT]) (by repeat (first | exact trivial | constructor)) (runs_eval tab_ok ?_))
                  simp only [ev0, evA, evB, evP, fl, gp, tab, simprocAttr, reduceCtorEq, reduceIte]
                  refine fin_run ?_ (hK _ ?_) <;> clear hK <;> clear K
                  · (first | exact trivial | omega | (simp only [In64] at *; omega) | (simp [In64] at *; omega) | (simp_all; done) | skip)
                  refine qd (qa ?_)
                  refine hk_region fun K hK => runs_eval tab_ok ?_
                  simp only [ev0, evA, evB, evP, fl, gp, tab, simprocAttr, reduceCtorEq, reduceIte]
                  refine fin_run ?_ (hK _ ?_) <;> clear hK <;> clear K
                  · (first | exact trivial | omega | (simp only [In64] at *; omega) | (simp [In64] at *; omega) | (simp_all; done) | skip)
                  refine qa ?_
                  refine ⟨(i + 1, true), [0, 1, 2, 3], ⟨by simp only; omega, fun h => (by cases h), fun _ => ⟨i, rfl, decide_eq_true (.inr (.inr (.inl g8c))), fun j hj => hi2 rfl j hj⟩⟩, by simp only; omega, ?_⟩
                  simp only [if_true, show ((i + 1 : Nat) : Int) - 1 = ((i : Nat) : Int) by omega]
                  simp only [leq, leA, ev0, evA, evB, evP, fl, gp, tab, simprocAttr, reduceCtorEq, reduceIte] <;> first | trivial | omega
                · cases hC3
              · refine hk_draw mixed (by kernel_rfl) fun K hK => runs_eval tab_ok ?_
                simp only [ev0, evA, evB, evP, fl, gp, tab, simprocAttr, reduceCtorEq, reduceIte, il_get hil, il_get (show i < T.length by omega), decide_eq_false g8a, decide_eq_false g8b, decide_eq_false g8c]
                refine fin_run ?_ (hK _ ?_) <;> clear hK <;> clear K
                · (first | exact trivial | omega | (simp only [In64] at *; omega) | (simp [In64] at *; omega) | (simp_all; done) | skip)
                refine qa ?_
                refine hk_cond rfl (fun hC3 => ?_) (fun hC3 => ?_)
                · (try simp only [nhs] at hC3)
                  refine hk_region fun K hK => runs_eval tab_ok ?_
                  simp only [ev0, evA, evB, evP, fl, gp, tab, simprocAttr, reduceCtorEq, reduceIte]
                  refine fin_stop trivial (runs_call (f_c 3 i) rfl rfl rfl (by simp only [dstOk, Nat.reduceLT]) (by repeat (first | exact trivial | constructor)) (runs_eval tab_ok ?_))
                  simp only [ev0, evA, evB, evP, fl, gp, tab, simprocAttr, reduceCtorEq, reduceIte]
                  refine fin_run ?_ (hK _ ?_) <;> clear hK <;> clear K
                  · (first | exact trivial | omega | (simp only [In64] at *; omega) | (simp [In64] at *; omega) | (simp_all; done) | skip)
                  refine qd (qa ?_)
                  refine hk_region fun K hK => runs_eval tab_ok ?_
                  simp only [ev0, evA, evB, evP, fl, gp, tab, simprocAttr, reduceCtorEq, reduceIte]
                  refine fin_run ?_ (hK _ ?_) <;> clear hK <;> clear K
                  · (first | exact trivial | omega | (simp only [In64] at *; omega) | (simp [In64] at *; omega) | (simp_all; done) | skip)
                  refine qa ?_
                  refine ⟨(i + 1, true), [0, 1, 2, 3], ⟨by simp only; omega, fun h => (by cases h), fun _ => ⟨i, rfl, decide_eq_true (.inr (.inr (.inr hC3))), fun j hj => hi2 rfl j hj⟩⟩, by simp only; omega, ?_⟩
                  simp only [if_true, show ((i + 1 : Nat) : Int) - 1 = ((i : Nat) : Int) by omega]
                  simp only [leq, leA, ev0, evA, evB, evP, fl, gp, tab, simprocAttr, reduceCtorEq, reduceIte] <;> first | trivial | omega
                · (try simp only [nhs] at hC3)
                  refine qh (qd (qa ?_))
                  refine hk_region fun K hK => runs_eval tab_ok ?_
                  simp only [ev0, evA, evB, evP, fl, gp, tab, simprocAttr, reduceCtorEq, reduceIte]
                  refine fin_run ?_ (hK _ ?_) <;> clear hK <;> clear K
                  · (first | exact trivial | omega | (simp only [In64] at *; omega) | (simp [In64] at *; omega) | (simp_all; done) | skip)
                  refine qa ?_
                  refine ⟨(i + 1, false), [0, 1, 2, 3], ⟨by simp only; omega, fun _ j hj => ?_, fun h => by cases h⟩, by simp only; omega, ?_⟩
                  · by_cases hji : j = i
                    · rw [hji]; exact decide_eq_false (by omega)
                    · exact hi2 rfl j (by simp only at hj; omega)
                  · simp only [Bool.false_eq_true, if_false]
                    simp only [leq, leA, ev0, evA, evB, evP, fl, gp, tab, simprocAttr, reduceCtorEq, reduceIte] <;> first | trivial | omega
        · cases hC2
end Go.Proofs.YtjbfkdaodfdpcaaDoor

/-
  What the listed package-level variable gives a walk: a table of numbers. Conditions: none; written by a program of this repo.
-/
set_option linter.all false
namespace Go.Proofs.YtjbfkdaodfdpcaaDoor
open Go.Pv Go.ChangeShapes Go.WideShapes Go.ChangeAt Go.WideElems Go.RowKit

theorem own : ownKnob Tryd.prog.godebug = none := by kernel_rfl
theorem laidOut : laidOutB Tryd.prog = true := by kernel_rfl
theorem gG : Tryd.prog.globalNamed "math/bits.deBruijn64tab" = some 0 := by kernel_rfl
theorem tG : (Tryd.prog.globals[0]?).map (·.type) = some 145 := by kernel_rfl
theorem cG : Tryd.prog.cellsOf 5 = 1 := by kernel_rfl
/-- The door's own heap meets the condition. -/
theorem door_met (os : Os) (args : Array Value) : laidMetH Tryd.prog [("math/bits.deBruijn64tab", Rows.laid_math_bits_deBruijn64tab)] ((World.doorLaid Tryd.prog 4000 os).forCall (fun _ _ => 0) ⟨#[], args, []⟩).memory :=
  laidMetH_of_parts3 (fuel := 8) (laidMet_of_run' 8 (by kernel_rfl) (by kernel_rfl)) (by kernel_rfl) (by kernel_rfl)

def convD : DataW Unit → PV
  | .lit (.int k n) => .int k n
  | _ => .nil
def datum : List (DataW Unit) → List PV := List.map convD
theorem glob_datum : (match (Rows.laid_math_bits_deBruijn64tab : DataW Unit) with | .agg l => datum l | _ => []) = glob0 := rfl

theorem laid_ok {W : World} (h : laidMetH Tryd.prog [("math/bits.deBruijn64tab", Rows.laid_math_bits_deBruijn64tab)] W) : LaidW (fun b => b < W.heap.size) W := by
  refine ⟨fun b h => h, fun g l hg => ?_⟩
  have hg2 : g = 0 ∧ l = glob0 := by
    unfold gv at hg
    by_cases e : g = 0
    · subst e; exact ⟨rfl, (Option.some.inj hg).symm⟩
    · have : (g == 0) = false := by simpa using e
      rw [this] at hg; simp at hg
  obtain ⟨rfl, rfl⟩ := hg2
  rw [MakeChecks.laidMetH_plain _ _ _ (by kernel_rfl)] at h
  obtain ⟨ps, ⟨g0, t0, cs0, f0, p0, q0, hg0, ht0, hv0, hd0, _, _⟩, _, _⟩ := h
  obtain rfl := Option.some.inj (gG.symm.trans hg0)
  obtain rfl := Option.some.inj (tG.symm.trans ht0)
  obtain ⟨xs, m1, rfl, hx1, hlen, hn3, hel⟩ := DataW.trod_array Tryd.underlying145 hd0
  have hd1 : Rows.laid_math_bits_deBruijn64tab = DataW.agg (xs.map (·.1)) := congrArg Prod.fst hx1
  have hgl : glob0 = datum (xs.map (·.1)) := by
    rw [← glob_datum, hd1]
  have key : ∀ c (h : c < glob0.length), W.cell? ⟨0, 0 + c, none⟩ = some ((cs0[c]?).getD undef) ∧ Reads (fun b => b < W.heap.size) W glob0[c] ((cs0[c]?).getD undef) := by
    intro c hc
    have hc2 : c < 64 := Nat.lt_of_lt_of_le hc (by decide)
    have hcx : c < xs.length := by omega
    have h1 := hel c hc2
    rw [List.getElem?_eq_getElem hcx] at h1
    obtain ⟨k, e1, e2, _⟩ := DataW.trod_int Tryd.underlying5 h1
    rw [cG] at e1
    have e3 : cs0.toList[c]? = some (.int .u8 k) := by
      have := congrArg (fun l => l[0]?) e1
      simpa [List.getElem?_take, List.getElem?_drop] using this
    have e4 : cs0[c]? = some (.int .u8 k) := by simpa using e3
    have e5 : glob0[c] = .int .u8 k := by
      have : glob0[c]? = (datum (xs.map (·.1)))[c]? := by rw [hgl]
      rw [List.getElem?_eq_getElem hc] at this
      simp only [datum, List.getElem?_map, List.getElem?_eq_getElem hcx, Option.map_some, Option.some.injEq] at this
      exact this.trans (by rw [e2]; rfl)
    refine ⟨?_, ?_⟩
    · rw [e4, Nat.zero_add, World.var?_cell gG hv0 c, e4]; rfl
    · rw [e4]
      exact e5 ▸ (Reads.int .u8 k)
  refine .ptr _ _ _ (fun c => (cs0[c]?).getD undef) ?_ (fun c hc => (key c hc).1) fun c hc => (key c hc).2
  have := (key 0 (by decide)).1
  unfold World.cell? at this
  rcases Nat.lt_or_ge 0 W.heap.size with h | h
  · exact h
  · exfalso
    rw [Array.getElem?_eq_none h] at this
    simp at this
end Go.Proofs.YtjbfkdaodfdpcaaDoor
