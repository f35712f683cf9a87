/-
  Walks: the law ClassTimes. Conditions: none.
-/
import Derived.Test.YthdmioeddgednaaDoorS15
set_option linter.all false
namespace Go.Proofs.YthdmioeddgednaaDoor
open Go.Pv

theorem cfault_c (c a : Int) : FnC Tryd.prog 90 [.int .i64 c, .int .i64 a] (fl (c, a)) := by
  refine fnc_of tab_ok Tryd.func90 rfl (by kernel_rfl) (by rw [Tryd.ntmps90]; exact Nat.le_add_left 2 _) ?_; rw [Tryd.ntmps90]
  refine qm ?_
  refine hk_region fun K hK => runs_eval tab_ok ?_
  simp only [ev0, evA, evB, evP, fl, gp, tab, simprocAttr, reduceCtorEq, reduceIte]
  refine fin_run ?_ (hK _ ?_) <;> clear hK <;> clear K
  · (first | exact trivial | omega | (simp only [In64] at *; omega) | (simp [In64] at *; omega) | (simp_all; done) | skip)
  refine qa (qm ?_)
  refine hk_region fun K hK => runs_eval tab_ok ?_
  simp only [ev0, evA, evB, evP, fl, gp, tab, simprocAttr, reduceCtorEq, reduceIte]
  refine fin_run ?_ (hK _ ?_) <;> clear hK <;> clear K
  · (first | exact trivial | omega | (simp only [In64] at *; omega) | (simp [In64] at *; omega) | (simp_all; done) | skip)
  refine qa (qk ?_)
  simp only [Tryd.results90, enA, ev0, evA, evB, evP, fl, gp, tab, simprocAttr, reduceCtorEq, reduceIte]
  all_goals ((first | exact rfl | exact ⟨rfl, rfl⟩ | exact ⟨rfl, rfl, rfl⟩ | exact ⟨trivial, rfl⟩ | exact ⟨Nat.le_refl _, rfl⟩ | trivial | (simp; done)))

theorem times_no (N : Int) (m : List Int) (hm : m.length ≤ 1000000000000000) (hf : ¬ (gf N m).1 = 0) : FnC Tryd.prog 48 [gp N m] (.tup [.list [], fl (gf N m)]) := by
  refine fnc_of tab_ok Tryd.func48 rfl (by kernel_rfl) (by rw [Tryd.ntmps48]; exact Nat.le_add_left 1 _) ?_; rw [Tryd.ntmps48]
  refine qm ?_
  refine hk_region fun K hK => runs_eval tab_ok ?_
  simp only [ev0, evA, evB, evP, fl, gp, tab, simprocAttr, reduceCtorEq, reduceIte]
  refine fin_run ?_ (hK _ ?_) <;> clear hK <;> clear K
  · (first | exact trivial | omega | (simp only [In64] at *; omega) | (simp [In64] at *; omega) | (simp_all; done) | skip)
  refine qa (qm (qm ?_))
  refine hk_region fun K hK => runs_eval tab_ok ?_
  simp only [ev0, evA, evB, evP, fl, gp, tab, simprocAttr, reduceCtorEq, reduceIte]
  refine fin_stop trivial (runs_call (check_c N m hm) rfl rfl rfl (by simp only [dstOk, Nat.reduceLT]) (by repeat (first | exact trivial | constructor)) (runs_eval tab_ok ?_))
  simp only [ev0, evA, evB, evP, fl, gp, tab, simprocAttr, reduceCtorEq, reduceIte]
  refine fin_run ?_ (hK _ ?_) <;> clear hK <;> clear K
  · (first | exact trivial | omega | (simp only [In64] at *; omega) | (simp [In64] at *; omega) | (simp_all; done) | skip)
  refine qa (qm ?_)
  refine hk_region fun K hK => runs_eval tab_ok ?_
  simp only [ev0, evA, evB, evP, fl, gp, tab, simprocAttr, reduceCtorEq, reduceIte]
  refine fin_run ?_ (hK _ ?_) <;> clear hK <;> clear K
  · (first | exact trivial | omega | (simp only [In64] at *; omega) | (simp [In64] at *; omega) | (simp_all; done) | skip)
  refine qa ?_
  refine hk_cond rfl (fun hC1 => ?_) (fun hC1 => ?_)
  · (try simp only [nhs] at hC1)
    refine qm ?_
    refine hk_draw mixed (by kernel_rfl) fun K hK => runs_eval tab_ok ?_
    simp only [ev0, evA, evB, evP, fl, gp, tab, simprocAttr, reduceCtorEq, reduceIte]
    refine fin_run ?_ (hK _ ?_) <;> clear hK <;> clear K
    · (first | exact trivial | omega | (simp only [In64] at *; omega) | (simp [In64] at *; omega) | (simp_all; done) | skip)
    refine qa (qk (qb ?_))
    simp only [Tryd.results48, enA, ev0, evA, evB, evP, fl, gp, tab, simprocAttr, reduceCtorEq, reduceIte]
    all_goals ((first | exact rfl | exact ⟨rfl, rfl⟩ | exact ⟨rfl, rfl, rfl⟩ | exact ⟨trivial, rfl⟩ | exact ⟨Nat.le_refl _, rfl⟩ | trivial | (simp; done)))
  · (try simp only [nhs] at hC1)
    exact absurd hC1 hf

theorem times_many {n e : Nat} {m : List Int} (h : GT n m n e) (hc : 24 < (cst n (cjb n (op m n) e)).length) : FnC Tryd.prog 48 [gp n m] (.tup [.list [], fl (2, 0)]) := by
  have hb := h.2.1.big
  have hml := h.2.1.len
  have hsq := sq_le hb
  refine fnc_of tab_ok Tryd.func48 rfl (by kernel_rfl) (by rw [Tryd.ntmps48]; exact Nat.le_add_left 1 _) ?_; rw [Tryd.ntmps48]
  refine qm ?_
  refine hk_region fun K hK => runs_eval tab_ok ?_
  simp only [ev0, evA, evB, evP, fl, gp, tab, simprocAttr, reduceCtorEq, reduceIte]
  refine fin_run ?_ (hK _ ?_) <;> clear hK <;> clear K
  · (first | exact trivial | omega | (simp only [In64] at *; omega) | (simp [In64] at *; omega) | (simp_all; done) | skip)
  refine qa (qm (qm ?_))
  refine hk_region fun K hK => runs_eval tab_ok ?_
  simp only [ev0, evA, evB, evP, fl, gp, tab, simprocAttr, reduceCtorEq, reduceIte]
  refine fin_stop trivial (runs_call (check_c n m (by omega)) rfl rfl rfl (by simp only [dstOk, Nat.reduceLT]) (by repeat (first | exact trivial | constructor)) (runs_eval tab_ok ?_))
  simp only [ev0, evA, evB, evP, fl, gp, tab, simprocAttr, reduceCtorEq, reduceIte, gf_of h]
  refine fin_run ?_ (hK _ ?_) <;> clear hK <;> clear K
  · (first | exact trivial | omega | (simp only [In64] at *; omega) | (simp [In64] at *; omega) | (simp_all; done) | skip)
  refine qa (qm ?_)
  refine hk_region fun K hK => runs_eval tab_ok ?_
  simp only [ev0, evA, evB, evP, fl, gp, tab, simprocAttr, reduceCtorEq, reduceIte]
  refine fin_run ?_ (hK _ ?_) <;> clear hK <;> clear K
  · (first | exact trivial | omega | (simp only [In64] at *; omega) | (simp [In64] at *; omega) | (simp_all; done) | skip)
  refine qa ?_
  refine hk_cond rfl (fun hC1 => ?_) (fun hC1 => ?_)
  · cases hC1
  · (try simp only [nhs] at hC1)
    refine qh (qa (qm ?_))
    refine hk_region fun K hK => runs_eval tab_ok ?_
    simp only [ev0, evA, evB, evP, fl, gp, tab, simprocAttr, reduceCtorEq, reduceIte]
    refine fin_stop trivial (runs_call (classOf_s h) rfl rfl rfl (by simp only [dstOk, Nat.reduceLT]) (by repeat (first | exact trivial | constructor)) (runs_eval tab_ok ?_))
    simp only [ev0, evA, evB, evP, fl, gp, tab, simprocAttr, reduceCtorEq, reduceIte]
    refine fin_run ?_ (hK _ ?_) <;> clear hK <;> clear K
    · (first | exact trivial | omega | (simp only [In64] at *; omega) | (simp [In64] at *; omega) | (simp_all; done) | skip)
    refine qa (qm (qm ?_))
    refine hk_region fun K hK => runs_eval tab_ok ?_
    simp only [ev0, evA, evB, evP, fl, gp, tab, simprocAttr, reduceCtorEq, reduceIte, ll_length]
    refine fin_run trivial (hK _ ?_) <;> clear hK <;> clear K
    refine qa ?_
    refine hk_cond rfl (fun hC2 => ?_) (fun hC2 => ?_)
    · (try simp only [nhs] at hC2)
      refine qm ?_
      refine hk_region fun K hK => runs_eval tab_ok ?_
      simp only [ev0, evA, evB, evP, fl, gp, tab, simprocAttr, reduceCtorEq, reduceIte]
      refine fin_stop trivial (runs_call (cfault_c 2 0) rfl rfl rfl (by simp only [dstOk, Nat.reduceLT]) (by repeat (first | exact trivial | constructor)) (runs_eval tab_ok ?_))
      simp only [ev0, evA, evB, evP, fl, gp, tab, simprocAttr, reduceCtorEq, reduceIte]
      refine fin_run ?_ (hK _ ?_) <;> clear hK <;> clear K
      · (first | exact trivial | omega | (simp only [In64] at *; omega) | (simp [In64] at *; omega) | (simp_all; done) | skip)
      refine qa (qk (qb ?_))
      simp only [Tryd.results48, enA, ev0, evA, evB, evP, fl, gp, tab, simprocAttr, reduceCtorEq, reduceIte]
      all_goals ((first | exact rfl | exact ⟨rfl, rfl⟩ | exact ⟨rfl, rfl, rfl⟩ | exact ⟨trivial, rfl⟩ | exact ⟨Nat.le_refl _, rfl⟩ | trivial | (simp; done)))
    · (try simp only [nhs] at hC2)
      omega

theorem times_ok {n e : Nat} {m : List Int} (h : GT n m n e) (hc : (cst n (cjb n (op m n) e)).length ≤ 24) : FnC Tryd.prog 48 [gp n m] (.tup [.list ((List.range (cst n (cjb n (op m n) e)).length).map (cto n (op m n) e)), fl (0, 0)]) := by
  have hb := h.2.1.big
  have hml := h.2.1.len
  have hsq := sq_le hb
  refine fnc_of tab_ok Tryd.func48 rfl (by kernel_rfl) (by rw [Tryd.ntmps48]; exact Nat.le_add_left 1 _) ?_; rw [Tryd.ntmps48]
  refine qm ?_
  refine hk_region fun K hK => runs_eval tab_ok ?_
  simp only [ev0, evA, evB, evP, fl, gp, tab, simprocAttr, reduceCtorEq, reduceIte]
  refine fin_run ?_ (hK _ ?_) <;> clear hK <;> clear K
  · (first | exact trivial | omega | (simp only [In64] at *; omega) | (simp [In64] at *; omega) | (simp_all; done) | skip)
  refine qa (qm (qm ?_))
  refine hk_region fun K hK => runs_eval tab_ok ?_
  simp only [ev0, evA, evB, evP, fl, gp, tab, simprocAttr, reduceCtorEq, reduceIte]
  refine fin_stop trivial (runs_call (check_c n m (by omega)) rfl rfl rfl (by simp only [dstOk, Nat.reduceLT]) (by repeat (first | exact trivial | constructor)) (runs_eval tab_ok ?_))
  simp only [ev0, evA, evB, evP, fl, gp, tab, simprocAttr, reduceCtorEq, reduceIte, gf_of h]
  refine fin_run ?_ (hK _ ?_) <;> clear hK <;> clear K
  · (first | exact trivial | omega | (simp only [In64] at *; omega) | (simp [In64] at *; omega) | (simp_all; done) | skip)
  refine qa (qm ?_)
  refine hk_region fun K hK => runs_eval tab_ok ?_
  simp only [ev0, evA, evB, evP, fl, gp, tab, simprocAttr, reduceCtorEq, reduceIte]
  refine fin_run ?_ (hK _ ?_) <;> clear hK <;> clear K
  · (first | exact trivial | omega | (simp only [In64] at *; omega) | (simp [In64] at *; omega) | (simp_all; done) | skip)
  refine qa ?_
  refine hk_cond rfl (fun hC1 => ?_) (fun hC1 => ?_)
  · cases hC1
  · (try simp only [nhs] at hC1)
    refine qh (qa (qm ?_))
    refine hk_region fun K hK => runs_eval tab_ok ?_
    simp only [ev0, evA, evB, evP, fl, gp, tab, simprocAttr, reduceCtorEq, reduceIte]
    refine fin_stop trivial (runs_call (classOf_s h) rfl rfl rfl (by simp only [dstOk, Nat.reduceLT]) (by repeat (first | exact trivial | constructor)) (runs_eval tab_ok ?_))
    simp only [ev0, evA, evB, evP, fl, gp, tab, simprocAttr, reduceCtorEq, reduceIte]
    refine fin_run ?_ (hK _ ?_) <;> clear hK <;> clear K
    · (first | exact trivial | omega | (simp only [In64] at *; omega) | (simp [In64] at *; omega) | (simp_all; done) | skip)
    refine qa (qm (qm ?_))
    refine hk_region fun K hK => runs_eval tab_ok ?_
    simp only [ev0, evA, evB, evP, fl, gp, tab, simprocAttr, reduceCtorEq, reduceIte, ll_length]
    refine fin_run trivial (hK _ ?_) <;> clear hK <;> clear K
    refine qa ?_
    refine hk_cond rfl (fun hC2 => ?_) (fun hC2 => ?_)
    · (try simp only [nhs] at hC2)
      exfalso; omega
    · (try simp only [nhs] at hC2)
      refine qh (qa (qm ?_))
      refine hk_region fun K hK => runs_eval tab_ok ?_
      simp only [ev0, evA, evB, evP, fl, gp, tab, simprocAttr, reduceCtorEq, reduceIte]
      refine fin_stop trivial (runs_call (consts_c h) rfl rfl rfl (by simp only [dstOk, Nat.reduceLT]) (by repeat (first | exact trivial | constructor)) (runs_eval tab_ok ?_))
      simp only [ev0, evA, evB, evP, fl, gp, tab, simprocAttr, reduceCtorEq, reduceIte]
      refine fin_run ?_ (hK _ ?_) <;> clear hK <;> clear K
      · (first | exact trivial | omega | (simp only [In64] at *; omega) | (simp [In64] at *; omega) | (simp_all; done) | skip)
      refine qa (qk ?_)
      simp only [Tryd.results48, enA, ev0, evA, evB, evP, fl, gp, tab, simprocAttr, reduceCtorEq, reduceIte]
      all_goals ((first | exact rfl | exact ⟨rfl, rfl⟩ | exact ⟨rfl, rfl, rfl⟩ | exact ⟨trivial, rfl⟩ | exact ⟨Nat.le_refl _, rfl⟩ | trivial | (simp; done)))

theorem timesL_no (N : Int) (m : List Int) (hm : m.length ≤ 17592186043904) (hf : ¬ (gf N m).1 = 0) : FnC Tryd.prog 9 [gp N m] (.bool true) := by
  refine fnc_of tab_ok Tryd.func9 rfl (by kernel_rfl) (by rw [Tryd.ntmps9]; exact Nat.le_add_left 1 _) ?_; rw [Tryd.ntmps9]
  refine qm ?_
  refine hk_region fun K hK => runs_eval tab_ok ?_
  simp only [ev0, evA, evB, evP, fl, gp, tab, simprocAttr, reduceCtorEq, reduceIte]
  refine fin_run ?_ (hK _ ?_) <;> clear hK <;> clear K
  · (first | exact trivial | omega | (simp only [In64] at *; omega) | (simp [In64] at *; omega) | (simp_all; done) | skip)
  refine qa (qm ?_)
  refine hk_region fun K hK => runs_eval tab_ok ?_
  simp only [ev0, evA, evB, evP, fl, gp, tab, simprocAttr, reduceCtorEq, reduceIte]
  refine fin_stop trivial (runs_call (ownGroup_c N m hm) rfl rfl rfl (by simp only [dstOk, Nat.reduceLT]) (by repeat (first | exact trivial | constructor)) (runs_eval tab_ok ?_))
  simp only [ev0, evA, evB, evP, fl, gp, tab, simprocAttr, reduceCtorEq, reduceIte]
  refine fin_stop trivial (runs_call (times_no N m (by omega) hf) rfl rfl rfl (by simp only [dstOk, Nat.reduceLT]) (by repeat (first | exact trivial | constructor)) (runs_eval tab_ok ?_))
  simp only [ev0, evA, evB, evP, fl, gp, tab, simprocAttr, reduceCtorEq, reduceIte]
  refine fin_run ?_ (hK _ ?_) <;> clear hK <;> clear K
  · (first | exact trivial | omega | (simp only [In64] at *; omega) | (simp [In64] at *; omega) | (simp_all; done) | skip)
  refine qa (qm ?_)
  refine hk_region fun K hK => runs_eval tab_ok ?_
  simp only [ev0, evA, evB, evP, fl, gp, tab, simprocAttr, reduceCtorEq, reduceIte]
  refine fin_stop trivial (runs_call (gf_c N m (by omega)) rfl rfl rfl (by simp only [dstOk, Nat.reduceLT]) (by repeat (first | exact trivial | constructor)) (runs_eval tab_ok ?_))
  simp only [ev0, evA, evB, evP, fl, gp, tab, simprocAttr, reduceCtorEq, reduceIte]
  refine fin_run ?_ (hK _ ?_) <;> clear hK <;> clear K
  · (first | exact trivial | omega | (simp only [In64] at *; omega) | (simp [In64] at *; omega) | (simp_all; done) | skip)
  refine qa (qm ?_)
  refine hk_region fun K hK => runs_eval tab_ok ?_
  simp only [ev0, evA, evB, evP, fl, gp, tab, simprocAttr, reduceCtorEq, reduceIte]
  refine fin_run trivial (hK _ ?_) <;> clear hK <;> clear K
  refine qa (qm (qm ?_))
  refine hk_region fun K hK => runs_eval tab_ok ?_
  simp only [ev0, evA, evB, evP, fl, gp, tab, simprocAttr, reduceCtorEq, reduceIte]
  refine fin_run ?_ (hK _ ?_) <;> clear hK <;> clear K
  · (first | exact trivial | omega | (simp only [In64] at *; omega) | (simp [In64] at *; omega) | (simp_all; done) | skip)
  refine qa ?_
  refine hk_cond rfl (fun hC1 => ?_) (fun hC1 => ?_)
  · (try simp only [nhs] at hC1)
    exact absurd hC1 hf
  · (try simp only [nhs] at hC1)
    refine qh (qa (qm (qm ?_)))
    refine hk_region fun K hK => runs_eval tab_ok ?_
    simp only [ev0, evA, evB, evP, fl, gp, tab, simprocAttr, reduceCtorEq, reduceIte]
    refine fin_stop trivial (runs_call (begun_k) rfl rfl rfl (by simp only [dstOk, Nat.reduceLT]) (by repeat (first | exact trivial | constructor)) (runs_eval tab_ok ?_))
    simp only [ev0, evA, evB, evP, fl, gp, tab, simprocAttr, reduceCtorEq, reduceIte]
    refine fin_run ?_ (hK _ ?_) <;> clear hK <;> clear K
    · (first | exact trivial | omega | (simp only [In64] at *; omega) | (simp [In64] at *; omega) | (simp_all; done) | skip)
    refine qa ?_
    refine hk_cond rfl (fun hC3 => ?_) (fun hC3 => ?_)
    · cases hC3
    · (try simp only [nhs] at hC3)
      refine qh (qa (qm (qm ?_)))
      refine hk_region fun K hK => runs_eval tab_ok ?_
      simp only [ev0, evA, evB, evP, fl, gp, tab, simprocAttr, reduceCtorEq, reduceIte]
      refine fin_run ?_ (hK _ ?_) <;> clear hK <;> clear K
      · (first | exact trivial | omega | (simp only [In64] at *; omega) | (simp [In64] at *; omega) | (simp_all; done) | skip)
      refine qa ?_
      refine hk_cond rfl (fun hC4 => ?_) (fun hC4 => ?_)
      · (try simp only [nhs] at hC4)
        refine qm ?_
        refine hk_region fun K hK => runs_eval tab_ok ?_
        simp only [ev0, evA, evB, evP, fl, gp, tab, simprocAttr, reduceCtorEq, reduceIte]
        refine fin_run trivial (hK _ ?_) <;> clear hK <;> clear K
        refine qa (qk (qb ?_))
        simp only [Tryd.results9, enA, ev0, evA, evB, evP, fl, gp, tab, simprocAttr, reduceCtorEq, reduceIte]
        all_goals ((first | exact rfl | exact ⟨rfl, rfl⟩ | exact ⟨rfl, rfl, rfl⟩ | exact ⟨trivial, rfl⟩ | exact ⟨Nat.le_refl _, rfl⟩ | trivial | (simp; done)))
      · (try simp only [nhs] at hC4)
        exact absurd hC4 hf

theorem timesL_many {n e : Nat} {m : List Int} (hm : m.length ≤ 17592186043904) (h : GT n m n e) (hc : 24 < (cst n (cjb n (op m n) e)).length) : FnC Tryd.prog 9 [gp n m] (.bool true) := by
  refine fnc_of tab_ok Tryd.func9 rfl (by kernel_rfl) (by rw [Tryd.ntmps9]; exact Nat.le_add_left 1 _) ?_; rw [Tryd.ntmps9]
  refine qm ?_
  refine hk_region fun K hK => runs_eval tab_ok ?_
  simp only [ev0, evA, evB, evP, fl, gp, tab, simprocAttr, reduceCtorEq, reduceIte]
  refine fin_run ?_ (hK _ ?_) <;> clear hK <;> clear K
  · (first | exact trivial | omega | (simp only [In64] at *; omega) | (simp [In64] at *; omega) | (simp_all; done) | skip)
  refine qa (qm ?_)
  refine hk_region fun K hK => runs_eval tab_ok ?_
  simp only [ev0, evA, evB, evP, fl, gp, tab, simprocAttr, reduceCtorEq, reduceIte]
  refine fin_stop trivial (runs_call (ownGroup_c n m hm) rfl rfl rfl (by simp only [dstOk, Nat.reduceLT]) (by repeat (first | exact trivial | constructor)) (runs_eval tab_ok ?_))
  simp only [ev0, evA, evB, evP, fl, gp, tab, simprocAttr, reduceCtorEq, reduceIte]
  refine fin_stop trivial (runs_call (times_many h hc) rfl rfl rfl (by simp only [dstOk, Nat.reduceLT]) (by repeat (first | exact trivial | constructor)) (runs_eval tab_ok ?_))
  simp only [ev0, evA, evB, evP, fl, gp, tab, simprocAttr, reduceCtorEq, reduceIte]
  refine fin_run ?_ (hK _ ?_) <;> clear hK <;> clear K
  · (first | exact trivial | omega | (simp only [In64] at *; omega) | (simp [In64] at *; omega) | (simp_all; done) | skip)
  refine qa (qm ?_)
  refine hk_region fun K hK => runs_eval tab_ok ?_
  simp only [ev0, evA, evB, evP, fl, gp, tab, simprocAttr, reduceCtorEq, reduceIte, gf_of h]
  refine fin_stop trivial (runs_call (gf_c n m (by omega)) rfl rfl rfl (by simp only [dstOk, Nat.reduceLT]) (by repeat (first | exact trivial | constructor)) (runs_eval tab_ok ?_))
  simp only [ev0, evA, evB, evP, fl, gp, tab, simprocAttr, reduceCtorEq, reduceIte, gf_of h]
  refine fin_run ?_ (hK _ ?_) <;> clear hK <;> clear K
  · (first | exact trivial | omega | (simp only [In64] at *; omega) | (simp [In64] at *; omega) | (simp_all; done) | skip)
  refine qa (qm ?_)
  refine hk_region fun K hK => runs_eval tab_ok ?_
  simp only [ev0, evA, evB, evP, fl, gp, tab, simprocAttr, reduceCtorEq, reduceIte]
  refine fin_run trivial (hK _ ?_) <;> clear hK <;> clear K
  refine qa (qm (qm ?_))
  refine hk_region fun K hK => runs_eval tab_ok ?_
  simp only [ev0, evA, evB, evP, fl, gp, tab, simprocAttr, reduceCtorEq, reduceIte]
  refine fin_run ?_ (hK _ ?_) <;> clear hK <;> clear K
  · (first | exact trivial | omega | (simp only [In64] at *; omega) | (simp [In64] at *; omega) | (simp_all; done) | skip)
  refine qa ?_
  refine hk_cond rfl (fun hC1 => ?_) (fun hC1 => ?_)
  · (try simp only [nhs] at hC1)
    refine qm ?_
    refine hk_region fun K hK => runs_eval tab_ok ?_
    simp only [ev0, evA, evB, evP, fl, gp, tab, simprocAttr, reduceCtorEq, reduceIte]
    refine fin_stop trivial (runs_call (classesOf_c h) rfl rfl rfl (by simp only [dstOk, Nat.reduceLT]) (by repeat (first | exact trivial | constructor)) (runs_eval tab_ok ?_))
    simp only [ev0, evA, evB, evP, fl, gp, tab, simprocAttr, reduceCtorEq, reduceIte]
    refine fin_run ?_ (hK _ ?_) <;> clear hK <;> clear K
    · (first | exact trivial | omega | (simp only [In64] at *; omega) | (simp [In64] at *; omega) | (simp_all; done) | skip)
    refine qa (qm ?_)
    refine hk_region fun K hK => runs_eval tab_ok ?_
    simp only [ev0, evA, evB, evP, fl, gp, tab, simprocAttr, reduceCtorEq, reduceIte, ll_length]
    refine fin_run trivial (hK _ ?_) <;> clear hK <;> clear K
    refine qa ?_
    refine hk_cond rfl (fun hC2 => ?_) (fun hC2 => ?_)
    · (try simp only [nhs] at hC2)
      refine hk_region fun K hK => runs_eval tab_ok ?_
      simp only [ev0, evA, evB, evP, fl, gp, tab, simprocAttr, reduceCtorEq, reduceIte]
      refine fin_stop trivial (runs_call (f_c 2 0) rfl rfl rfl (by simp only [dstOk, Nat.reduceLT]) (by repeat (first | exact trivial | constructor)) (runs_eval tab_ok ?_))
      simp only [ev0, evA, evB, evP, fl, gp, tab, simprocAttr, reduceCtorEq, reduceIte]
      refine fin_run ?_ (hK _ ?_) <;> clear hK <;> clear K
      · (first | exact trivial | omega | (simp only [In64] at *; omega) | (simp [In64] at *; omega) | (simp_all; done) | skip)
      refine qa (qm (qm ?_))
      refine hk_region fun K hK => runs_eval tab_ok ?_
      simp only [ev0, evA, evB, evP, fl, gp, tab, simprocAttr, reduceCtorEq, reduceIte]
      refine fin_stop trivial (runs_call (begun_k) rfl rfl rfl (by simp only [dstOk, Nat.reduceLT]) (by repeat (first | exact trivial | constructor)) (runs_eval tab_ok ?_))
      simp only [ev0, evA, evB, evP, fl, gp, tab, simprocAttr, reduceCtorEq, reduceIte]
      refine fin_run ?_ (hK _ ?_) <;> clear hK <;> clear K
      · (first | exact trivial | omega | (simp only [In64] at *; omega) | (simp [In64] at *; omega) | (simp_all; done) | skip)
      refine qa ?_
      refine hk_cond rfl (fun hC3 => ?_) (fun hC3 => ?_)
      · cases hC3
      · (try simp only [nhs] at hC3)
        refine qh (qa (qm (qm ?_)))
        refine hk_region fun K hK => runs_eval tab_ok ?_
        simp only [ev0, evA, evB, evP, fl, gp, tab, simprocAttr, reduceCtorEq, reduceIte]
        refine fin_run ?_ (hK _ ?_) <;> clear hK <;> clear K
        · (first | exact trivial | omega | (simp only [In64] at *; omega) | (simp [In64] at *; omega) | (simp_all; done) | skip)
        refine qa ?_
        refine hk_cond rfl (fun hC4 => ?_) (fun hC4 => ?_)
        · (try simp only [nhs] at hC4)
          refine qm ?_
          refine hk_region fun K hK => runs_eval tab_ok ?_
          simp only [ev0, evA, evB, evP, fl, gp, tab, simprocAttr, reduceCtorEq, reduceIte]
          refine fin_run trivial (hK _ ?_) <;> clear hK <;> clear K
          refine qa (qk (qb ?_))
          simp only [Tryd.results9, enA, ev0, evA, evB, evP, fl, gp, tab, simprocAttr, reduceCtorEq, reduceIte]
          all_goals ((first | exact rfl | exact ⟨rfl, rfl⟩ | exact ⟨rfl, rfl, rfl⟩ | exact ⟨trivial, rfl⟩ | exact ⟨Nat.le_refl _, rfl⟩ | trivial | (simp; done)))
        · cases hC4
    · (try simp only [nhs] at hC2)
      exfalso; omega
  · cases hC1

/-! ### Pairs whose product is a thing -/

def pcb (f : Nat → Nat → Nat) (B : List Int) (x : Int) (z t : Nat) : Int := ((B.take t).countP (fun y => decide (f x.toNat y.toNat = z)) : Nat)
def pca (f : Nat → Nat → Nat) (A B : List Int) (z t : Nat) : Int := ((A.take t).map fun x => pcb f B x z B.length).sum

theorem pcb_zero (f : Nat → Nat → Nat) (B : List Int) (x : Int) (z : Nat) : pcb f B x z 0 = 0 := by simp [pcb]
theorem pca_zero (f : Nat → Nat → Nat) (A B : List Int) (z : Nat) : pca f A B z 0 = 0 := by simp [pca]
theorem pcb_succ (f : Nat → Nat → Nat) {B : List Int} (x : Int) (z : Nat) {t : Nat} (h : t < B.length) : pcb f B x z (t + 1) = pcb f B x z t + if f x.toNat (B.getD t 0).toNat = z then 1 else 0 := by
  unfold pcb
  rw [List.take_succ_eq_append_getElem h, List.countP_append]
  have : B[t] = B.getD t 0 := by simp [List.getD, List.getElem?_eq_getElem h]
  rw [this, List.countP_singleton]
  by_cases e : f x.toNat (B.getD t 0).toNat = z
  · rw [if_pos (by simpa using e), if_pos e]; omega
  · rw [if_neg (by simpa using e), if_neg e]; omega
theorem pca_succ (f : Nat → Nat → Nat) {A : List Int} (B : List Int) (z : Nat) {t : Nat} (h : t < A.length) : pca f A B z (t + 1) = pca f A B z t + pcb f B (A.getD t 0) z B.length := by
  unfold pca
  rw [List.take_succ_eq_append_getElem h, List.map_append, List.sum_append]
  have : A[t] = A.getD t 0 := by simp [List.getD, List.getElem?_eq_getElem h]
  rw [this]
  simp
theorem pcb_rng (f : Nat → Nat → Nat) (B : List Int) (x : Int) (z t : Nat) : 0 ≤ pcb f B x z t ∧ pcb f B x z t ≤ t ∧ pcb f B x z t ≤ B.length := by
  unfold pcb
  have := List.countP_le_length (p := fun y => decide (f x.toNat y.toNat = z)) (l := B.take t)
  rw [List.length_take] at this
  omega
theorem pca_rng (f : Nat → Nat → Nat) (A B : List Int) (z : Nat) : ∀ t, t ≤ A.length → 0 ≤ pca f A B z t ∧ pca f A B z t ≤ (t * B.length : Nat)
  | 0, _ => by rw [pca_zero]; simp
  | t + 1, h => by
    have ih := pca_rng f A B z t (by omega)
    have hb := pcb_rng f B (A.getD t 0) z B.length
    rw [pca_succ f B z (show t < A.length by omega), Nat.add_mul, Nat.one_mul]
    omega

theorem thn_count {n : Nat} {p q : Nat → Bool} : (thn' n p).countP q = (thn' n fun b => p b && q b).length := by
  rw [List.countP_eq_length_filter, thn', thn', List.filter_filter]
  congr 1
  exact List.filter_congr fun a _ => Bool.and_comm _ _
theorem thl_none (n : Nat) : thl n (fun _ => false) = [] := by simp [thl, thn']

/-- One thing alone makes the product. -/
theorem pcb_all {n e : Nat} {f : Nat → Nat → Nat} (G : Grp n f e) (hlt : ∀ a b, a < n → b < n → f a b < n) {p : Nat → Bool} {a z : Nat} (ha : a < n) (hz : z < n) : pcb f (thl n p) a z (thl n p).length = if p (f (iv n f e a) z) = true then 1 else 0 := by
  have hi := G.iv_lt ha
  have hu := hlt _ _ hi hz
  have key : ∀ b, b < n → (f a b = z ↔ b = f (iv n f e a) z) := by
    intro b hb
    constructor
    · intro h
      rw [← h, ← G.assoc _ _ _ hi ha hb, G.iv_mul ha, G.one_l b hb]
    · intro h
      rw [h, ← G.assoc _ _ _ ha hi hz, G.mul_iv ha, G.one_l z hz]
  unfold pcb
  rw [List.take_length, thl, List.countP_map]
  have e1 : (thn' n p).countP ((fun y : Int => decide (f (a : Int).toNat y.toNat = z)) ∘ fun (a : Nat) => (a : Int)) = (thn' n p).countP fun b => decide (b = f (iv n f e a) z) := by
    refine List.countP_congr fun b hb => ?_
    have := key b (mem_thn.1 hb).1
    simp only [Function.comp, Int.toNat_natCast, decide_eq_true_eq]
    exact this
  rw [e1, thn_count, ← thl_len]
  by_cases hp : p (f (iv n f e a) z) = true
  · rw [if_pos hp, thl_congr (q := fun b => decide (b = f (iv n f e a) z)) fun b _ => by
      by_cases h : b = f (iv n f e a) z
      · rw [h, hp]; simp
      · simp [h], thl_one hu]
    rfl
  · rw [if_neg hp, thl_congr (q := fun _ => false) fun b _ => by
      by_cases h : b = f (iv n f e a) z
      · rw [h]; simp [hp]
      · simp [h], thl_none]
    rfl

theorem sum_ite {α : Type} (q : α → Bool) : ∀ (l : List α), (l.map fun x => if q x = true then (1 : Int) else 0).sum = (l.countP q : Nat)
  | [] => rfl
  | x :: r => by
    rw [List.map_cons, List.sum_cons, sum_ite q r, List.countP_cons]
    by_cases h : q x = true
    · simp [h]; omega
    · simp [h]

/-- The program's count is the document's. -/
theorem ct_pairs {n e : Nat} {f : Nat → Nat → Nat} (G : Grp n f e) (hlt : ∀ a b, a < n → b < n → f a b < n) {i j k : Nat} (hi : i < (cst n (cjb n f e)).length) (hj : j < (cst n (cjb n f e)).length) (hk : k < (cst n (cjb n f e)).length) :
    pca f ((cst n (cjb n f e)).getD i []) ((cst n (cjb n f e)).getD j []) ((mem n (lead (cjb n f e))).getD k 0) ((cst n (cjb n f e)).getD i []).length = ct n f e i j k := by
  have E := G.cjb_eqv
  obtain ⟨x, x1, x2, x3, x4⟩ := cst_get hi
  obtain ⟨y, y1, y2, y3, y4⟩ := cst_get hj
  obtain ⟨z, z1, z2, z3, z4⟩ := cst_get hk
  unfold pca ct tcp
  rw [List.take_length, ← sum_ite]
  refine congrArg List.sum (List.map_congr_left fun v hv => ?_)
  rw [x3, mem_thl] at hv
  obtain ⟨a, a1, a2, rfl⟩ := hv
  rw [y3, z4, pcb_all G hlt a1 z1]
  have hu := hlt _ _ (G.iv_lt a1) z1
  have hiff : cjb n f e y (f (iv n f e a) z) = true ↔ cw n f e k (a : Int) = (j : Int) := by
    unfold cw
    rw [Int.toNat_natCast, z4]
    constructor
    · intro h
      exact wch_at E hj hu (by rw [y3, mem_thl_n hu]; exact h)
    · intro h
      obtain ⟨q, q1, q2⟩ := cst_in E hu
      have h2 := wch_at E q1 hu q2
      rw [h2] at h
      have : q = j := by omega
      subst this
      rw [y3, mem_thl_n hu] at q2
      exact q2
  by_cases h : cjb n f e y (f (iv n f e a) z) = true
  · rw [if_pos h, if_pos (by simpa using hiff.1 h)]
  · rw [if_neg h, if_neg (by simpa using fun h2 => h (hiff.2 h2))]

theorem cto_get {n e : Nat} {f : Nat → Nat → Nat} {c i : Nat} (h : i < c) : ((List.range c).map (cto n f e)).getD i default = .list (ll (mat (cst n (cjb n f e)).length (ct n f e i))) := by
  simp [List.getD, List.getElem?_map, List.getElem?_range h, cto]

/-- What has been counted at pair (a, b), up to class q. -/
def wnt (f : Nat → Nat → Nat) (A B : List Int) (hd : Nat → Nat) (a b q k : Nat) : Int := pca f A B (hd k) a + pcb f B (A.getD a 0) (hd k) b + if k < q ∧ f (A.getD a 0).toNat (B.getD b 0).toNat = hd k then 1 else 0
theorem wnt_zero (f : Nat → Nat → Nat) (A B : List Int) (hd : Nat → Nat) (k : Nat) : wnt f A B hd 0 0 0 k = 0 := by
  simp [wnt, pca_zero, pcb_zero]
theorem wnt_hit {f : Nat → Nat → Nat} {A B : List Int} {hd : Nat → Nat} {a b q : Nat} (h : f (A.getD a 0).toNat (B.getD b 0).toNat = hd q) (k : Nat) : wnt f A B hd a b (q + 1) k = if k = q then wnt f A B hd a b q q + 1 else wnt f A B hd a b q k := by
  unfold wnt
  by_cases e : k = q
  · subst e
    rw [if_pos rfl, if_pos ⟨by omega, h⟩, if_neg (by omega)]
    omega
  · rw [if_neg e]
    by_cases e2 : k < q
    · by_cases e3 : f (A.getD a 0).toNat (B.getD b 0).toNat = hd k
      · rw [if_pos ⟨by omega, e3⟩, if_pos ⟨e2, e3⟩]
      · rw [if_neg (fun h => e3 h.2), if_neg (fun h => e3 h.2)]
    · rw [if_neg (by omega), if_neg (by omega)]
theorem wnt_miss {f : Nat → Nat → Nat} {A B : List Int} {hd : Nat → Nat} {a b q : Nat} (h : ¬ f (A.getD a 0).toNat (B.getD b 0).toNat = hd q) (k : Nat) : wnt f A B hd a b (q + 1) k = wnt f A B hd a b q k := by
  unfold wnt
  by_cases e : k = q
  · subst e
    rw [if_neg (fun h2 => h h2.2), if_neg (by omega)]
  · by_cases e3 : f (A.getD a 0).toNat (B.getD b 0).toNat = hd k
    · by_cases e2 : k < q
      · rw [if_pos ⟨by omega, e3⟩, if_pos ⟨e2, e3⟩]
      · rw [if_neg (by omega), if_neg (by omega)]
    · rw [if_neg (fun h => e3 h.2), if_neg (fun h => e3 h.2)]
theorem wnt_b {f : Nat → Nat → Nat} {A B : List Int} {hd : Nat → Nat} {a b c k : Nat} (hb : b < B.length) (hk : k < c) : wnt f A B hd a (b + 1) 0 k = wnt f A B hd a b c k := by
  unfold wnt
  rw [pcb_succ f _ _ hb, if_neg (show ¬ (k < 0 ∧ _) from fun h => absurd h.1 (by omega))]
  by_cases e : f (A.getD a 0).toNat (B.getD b 0).toNat = hd k
  · rw [if_pos e, if_pos ⟨hk, e⟩]; omega
  · rw [if_neg e, if_neg (fun h => e h.2)]; omega
theorem wnt_a {f : Nat → Nat → Nat} {A B : List Int} {hd : Nat → Nat} {a k : Nat} (ha : a < A.length) : wnt f A B hd (a + 1) 0 0 k = wnt f A B hd a B.length 0 k := by
  unfold wnt
  rw [pca_succ f _ _ ha, pcb_zero, if_neg (fun h => absurd h.1 (by omega)), if_neg (fun h => absurd h.1 (by omega))]
  omega
theorem wnt_end {f : Nat → Nat → Nat} {A B : List Int} {hd : Nat → Nat} {a k : Nat} : wnt f A B hd a 0 0 k = pca f A B (hd k) a := by
  unfold wnt
  rw [pcb_zero, if_neg (fun h => absurd h.1 (by omega))]
  omega
theorem wnt_rng {f : Nat → Nat → Nat} {A B : List Int} {hd : Nat → Nat} {a b q k : Nat} (hA : A.length ≤ 60) (hB : B.length ≤ 60) (ha : a ≤ A.length) : 0 ≤ wnt f A B hd a b q k ∧ wnt f A B hd a b q k ≤ 4000 := by
  unfold wnt
  have h1 := pca_rng f A B (hd k) a ha
  have h2 := pcb_rng f B (A.getD a 0) (hd k) b
  have h3 := Nat.mul_le_mul (Nat.le_trans ha hA) hB
  split <;> omega

set_option maxHeartbeats 4000000 in
theorem timesL_ok {n e : Nat} {m : List Int} (hm : m.length ≤ 17592186043904) (h : GT n m n e) (hc : (cst n (cjb n (op m n) e)).length ≤ 24) : FnC Tryd.prog 9 [gp n m] (.bool true) := by
  have G := h.2.2
  have T := h.2.1
  have hb := h.2.1.big
  have E := G.cjb_eqv
  have hlt2 : ∀ a b, a < n → b < n → op m n a b < n := fun a b ha hb => T.lt ha hb
  generalize hL : cst n (cjb n (op m n) e) = L at *
  refine fnc_of tab_ok Tryd.func9 rfl (by kernel_rfl) (by rw [Tryd.ntmps9]; exact Nat.le_add_left 1 _) ?_; rw [Tryd.ntmps9]
  refine qm ?_
  refine hk_region fun K hK => runs_eval tab_ok ?_
  simp only [ev0, evA, evB, evP, fl, gp, tab, simprocAttr, reduceCtorEq, reduceIte]
  refine fin_run ?_ (hK _ ?_) <;> clear hK <;> clear K
  · (first | exact trivial | omega | (simp only [In64] at *; omega) | (simp [In64] at *; omega) | (simp_all; done) | skip)
  refine qa (qm ?_)
  refine hk_region fun K hK => runs_eval tab_ok ?_
  simp only [ev0, evA, evB, evP, fl, gp, tab, simprocAttr, reduceCtorEq, reduceIte]
  refine fin_stop trivial (runs_call (ownGroup_c n m hm) rfl rfl rfl (by simp only [dstOk, Nat.reduceLT]) (by repeat (first | exact trivial | constructor)) (runs_eval tab_ok ?_))
  simp only [ev0, evA, evB, evP, fl, gp, tab, simprocAttr, reduceCtorEq, reduceIte]
  refine fin_stop trivial (runs_call ((hL ▸ times_ok h (by rw [hL]; exact hc))) rfl rfl rfl (by simp only [dstOk, Nat.reduceLT]) (by repeat (first | exact trivial | constructor)) (runs_eval tab_ok ?_))
  simp only [ev0, evA, evB, evP, fl, gp, tab, simprocAttr, reduceCtorEq, reduceIte]
  refine fin_run ?_ (hK _ ?_) <;> clear hK <;> clear K
  · (first | exact trivial | omega | (simp only [In64] at *; omega) | (simp [In64] at *; omega) | (simp_all; done) | skip)
  refine qa (qm ?_)
  refine hk_region fun K hK => runs_eval tab_ok ?_
  simp only [ev0, evA, evB, evP, fl, gp, tab, simprocAttr, reduceCtorEq, reduceIte, gf_of h]
  refine fin_stop trivial (runs_call (gf_c n m (by omega)) rfl rfl rfl (by simp only [dstOk, Nat.reduceLT]) (by repeat (first | exact trivial | constructor)) (runs_eval tab_ok ?_))
  simp only [ev0, evA, evB, evP, fl, gp, tab, simprocAttr, reduceCtorEq, reduceIte, gf_of h]
  refine fin_run ?_ (hK _ ?_) <;> clear hK <;> clear K
  · (first | exact trivial | omega | (simp only [In64] at *; omega) | (simp [In64] at *; omega) | (simp_all; done) | skip)
  refine qa (qm ?_)
  refine hk_region fun K hK => runs_eval tab_ok ?_
  simp only [ev0, evA, evB, evP, fl, gp, tab, simprocAttr, reduceCtorEq, reduceIte]
  refine fin_run trivial (hK _ ?_) <;> clear hK <;> clear K
  refine qa (qm (qm ?_))
  refine hk_region fun K hK => runs_eval tab_ok ?_
  simp only [ev0, evA, evB, evP, fl, gp, tab, simprocAttr, reduceCtorEq, reduceIte]
  refine fin_run ?_ (hK _ ?_) <;> clear hK <;> clear K
  · (first | exact trivial | omega | (simp only [In64] at *; omega) | (simp [In64] at *; omega) | (simp_all; done) | skip)
  refine qa ?_
  refine hk_cond rfl (fun hC1 => ?_) (fun hC1 => ?_)
  · (try simp only [nhs] at hC1)
    refine qm ?_
    refine hk_region fun K hK => runs_eval tab_ok ?_
    simp only [ev0, evA, evB, evP, fl, gp, tab, simprocAttr, reduceCtorEq, reduceIte]
    refine fin_stop trivial (runs_call ((hL ▸ classesOf_c h)) rfl rfl rfl (by simp only [dstOk, Nat.reduceLT]) (by repeat (first | exact trivial | constructor)) (runs_eval tab_ok ?_))
    simp only [ev0, evA, evB, evP, fl, gp, tab, simprocAttr, reduceCtorEq, reduceIte]
    refine fin_run ?_ (hK _ ?_) <;> clear hK <;> clear K
    · (first | exact trivial | omega | (simp only [In64] at *; omega) | (simp [In64] at *; omega) | (simp_all; done) | skip)
    refine qa (qm ?_)
    refine hk_region fun K hK => runs_eval tab_ok ?_
    simp only [ev0, evA, evB, evP, fl, gp, tab, simprocAttr, reduceCtorEq, reduceIte, ll_length]
    refine fin_run trivial (hK _ ?_) <;> clear hK <;> clear K
    refine qa ?_
    refine hk_cond rfl (fun hC2 => ?_) (fun hC2 => ?_)
    · (try simp only [nhs] at hC2)
      exfalso; omega
    · (try simp only [nhs] at hC2)
      refine qh (qa (qm (qm ?_)))
      refine hk_region fun K hK => runs_eval tab_ok ?_
      simp only [ev0, evA, evB, evP, fl, gp, tab, simprocAttr, reduceCtorEq, reduceIte]
      refine fin_stop trivial (runs_call (begun_k) rfl rfl rfl (by simp only [dstOk, Nat.reduceLT]) (by repeat (first | exact trivial | constructor)) (runs_eval tab_ok ?_))
      simp only [ev0, evA, evB, evP, fl, gp, tab, simprocAttr, reduceCtorEq, reduceIte]
      refine fin_run ?_ (hK _ ?_) <;> clear hK <;> clear K
      · (first | exact trivial | omega | (simp only [In64] at *; omega) | (simp [In64] at *; omega) | (simp_all; done) | skip)
      refine qa ?_
      refine hk_cond rfl (fun hC3 => ?_) (fun hC3 => ?_)
      · cases hC3
      · (try simp only [nhs] at hC3)
        refine qh (qa (qm (qm ?_)))
        refine hk_region fun K hK => runs_eval tab_ok ?_
        simp only [ev0, evA, evB, evP, fl, gp, tab, simprocAttr, reduceCtorEq, reduceIte]
        refine fin_run ?_ (hK _ ?_) <;> clear hK <;> clear K
        · (first | exact trivial | omega | (simp only [In64] at *; omega) | (simp [In64] at *; omega) | (simp_all; done) | skip)
        refine qa ?_
        refine hk_cond rfl (fun hC4 => ?_) (fun hC4 => ?_)
        · cases hC4
        · (try simp only [nhs] at hC4)
          refine qh (qa (qm (qm ?_)))
          refine hk_region fun K hK => runs_eval tab_ok ?_
          simp only [ev0, evA, evB, evP, fl, gp, tab, simprocAttr, reduceCtorEq, reduceIte, ll_length, List.length_map, List.length_range]
          refine fin_run trivial (hK _ ?_) <;> clear hK <;> clear K
          refine qa ?_
          refine hk_cond rfl (fun hC5 => ?_) (fun hC5 => ?_)
          · cases hC5
          · (try simp only [nhs] at hC5)
            refine qh (qa (qm (qm ?_)))
            refine hk_region fun K hK => runs_eval tab_ok ?_
            simp only [ev0, evA, evB, evP, fl, gp, tab, simprocAttr, reduceCtorEq, reduceIte]
            refine fin_run trivial (hK _ ?_) <;> clear hK <;> clear K
            refine qa (ql ?_)
            refine hk_loop (ι := Nat) (fun i => ⟨134, [(1, .ptr 0 0), (3, .p (.list ((List.range L.length).map (cto n (op m n) e)))), (6, .p (.list (ll L))), (7, .p (.int .i64 i))], [.own [.p (.int .i64 n), .p (.list (il m))]]⟩) (fun i => i ≤ L.length) (fun i => L.length - i) 0 (Nat.zero_le _) [0] (by simp only [leq, leA, ev0, evA, evB, evP, fl, gp, tab, simprocAttr, reduceCtorEq, reduceIte]) fun i hi => ?_
            refine qm (qm ?_)
            refine hk_region fun K hK => runs_eval tab_ok ?_
            simp only [ev0, evA, evB, evP, fl, gp, tab, simprocAttr, reduceCtorEq, reduceIte, ll_length]
            refine fin_run trivial (hK _ ?_) <;> clear hK <;> clear K
            refine qa ?_
            refine hk_cond rfl (fun hC6 => ?_) (fun hC6 => ?_)
            · (try simp only [nhs] at hC6)
              have hil : i < L.length := by omega
              refine qh (qa (qm (ql (qm (qm ?_)))))
              refine hk_region fun K hK => runs_eval tab_ok ?_
              simp only [ev0, evA, evB, evP, fl, gp, tab, simprocAttr, reduceCtorEq, reduceIte, ll_length, cto_get hil, mat_len, hL, List.length_map, List.length_range]
              refine fin_run ?_ (hK _ ?_) <;> clear hK <;> clear K
              · (first | exact trivial | omega | (simp only [In64] at *; omega) | (simp [In64] at *; omega) | (simp_all; done) | skip)
              refine qa ?_
              refine hk_cond rfl (fun hC7 => ?_) (fun hC7 => ?_)
              · cases hC7
              · (try simp only [nhs] at hC7)
                refine qh (qa (qm ?_))
                refine hk_region fun K hK => runs_eval tab_ok ?_
                simp only [ev0, evA, evB, evP, fl, gp, tab, simprocAttr, reduceCtorEq, reduceIte]
                refine fin_run trivial (hK _ ?_) <;> clear hK <;> clear K
                refine qa (ql ?_)
                refine hk_loop (ι := Nat) (fun j => ⟨134, [(1, .ptr 0 0), (3, .p (.list ((List.range L.length).map (cto n (op m n) e)))), (6, .p (.list (ll L))), (7, .p (.int .i64 i)), (8, .p (.int .i64 j))], [.own [.p (.int .i64 n), .p (.list (il m))]]⟩) (fun j => j ≤ L.length) (fun j => L.length - j) 0 (Nat.zero_le _) [0] (by simp only [leq, leA, ev0, evA, evB, evP, fl, gp, tab, simprocAttr, reduceCtorEq, reduceIte]) fun j hj => ?_
                refine qm (qm ?_)
                refine hk_region fun K hK => runs_eval tab_ok ?_
                simp only [ev0, evA, evB, evP, fl, gp, tab, simprocAttr, reduceCtorEq, reduceIte, ll_length]
                refine fin_run trivial (hK _ ?_) <;> clear hK <;> clear K
                refine qa ?_
                refine hk_cond rfl (fun hC8 => ?_) (fun hC8 => ?_)
                · (try simp only [nhs] at hC8)
                  have hjl : j < L.length := by omega
                  obtain ⟨x, x1, x2, x3, x4⟩ := cst_get (n := n) (r := cjb n (op m n) e) (i := i) (by rw [hL]; exact hil)
                  obtain ⟨y, y1, y2, y3, y4⟩ := cst_get (n := n) (r := cjb n (op m n) e) (i := j) (by rw [hL]; exact hjl)
                  rw [hL] at x3 y3
                  have hAn : (L.getD i []).length ≤ n := by rw [x3]; exact thl_le _ _
                  have hBn : (L.getD j []).length ≤ n := by rw [y3]; exact thl_le _ _
                  refine qh (qa (qm (ql (qm ?_))))
                  refine hk_region fun K hK => runs_eval tab_ok ?_
                  simp only [ev0, evA, evB, evP, fl, gp, tab, simprocAttr, reduceCtorEq, reduceIte, ll_length, makeSliceA.eq_def, rgz_new]
                  refine fin_run ?_ (hK _ ?_) <;> clear hK <;> clear K
                  · omega
                  refine qa (qm (qm ?_))
                  refine hk_region fun K hK => runs_eval tab_ok ?_
                  simp only [ev0, evA, evB, evP, fl, gp, tab, simprocAttr, reduceCtorEq, reduceIte]
                  refine fin_run trivial (hK _ ?_) <;> clear hK <;> clear K
                  refine qa (ql ?_)
                  refine hk_loop (ι := Nat) (fun a => ⟨134, [(1, .ptr 0 0), (3, .p (.list ((List.range L.length).map (cto n (op m n) e)))), (6, .p (.list (ll L))), (7, .p (.int .i64 i)), (8, .p (.int .i64 j)), (9, .sl 1 0 L.length), (10, .p (.int .i64 a))], [.own [.p (.int .i64 n), .p (.list (il m))], .own (ol (rgz L.length (wnt (op m n) (L.getD i []) (L.getD j []) (fun k => (mem n (lead (cjb n (op m n) e))).getD k 0) a 0 0)))]⟩) (fun a => a ≤ (L.getD i []).length) (fun a => (L.getD i []).length - a) 0 (Nat.zero_le _) [0, 1] (by
                    rw [rgz_congr (g := wnt (op m n) (L.getD i []) (L.getD j []) (fun k => (mem n (lead (cjb n (op m n) e))).getD k 0) 0 0 0) (g' := fun _ => 0) fun k _ => wnt_zero _ _ _ _ k]
                    simp only [leq, leA, ev0, evA, evB, evP, fl, gp, tab, simprocAttr, reduceCtorEq, reduceIte]) fun a ha => ?_
                  refine qm (qm ?_)
                  refine hk_region fun K hK => runs_eval tab_ok ?_
                  simp only [ev0, evA, evB, evP, fl, gp, tab, simprocAttr, reduceCtorEq, reduceIte, ll_length, ll_get hil, il_length]
                  refine fin_run ?_ (hK _ ?_) <;> clear hK <;> clear K
                  · omega
                  refine qa ?_
                  refine hk_cond rfl (fun hC9 => ?_) (fun hC9 => ?_)
                  · (try simp only [nhs] at hC9)
                    have hal : a < (L.getD i []).length := by omega
                    refine qh (qa (qm (ql (qm ?_))))
                    refine hk_region fun K hK => runs_eval tab_ok ?_
                    simp only [ev0, evA, evB, evP, fl, gp, tab, simprocAttr, reduceCtorEq, reduceIte]
                    refine fin_run trivial (hK _ ?_) <;> clear hK <;> clear K
                    refine qa (ql ?_)
                    refine hk_loop (ι := Nat) (fun b => ⟨134, [(1, .ptr 0 0), (3, .p (.list ((List.range L.length).map (cto n (op m n) e)))), (6, .p (.list (ll L))), (7, .p (.int .i64 i)), (8, .p (.int .i64 j)), (9, .sl 1 0 L.length), (10, .p (.int .i64 a)), (11, .p (.int .i64 b))], [.own [.p (.int .i64 n), .p (.list (il m))], .own (ol (rgz L.length (wnt (op m n) (L.getD i []) (L.getD j []) (fun k => (mem n (lead (cjb n (op m n) e))).getD k 0) a b 0)))]⟩) (fun b => b ≤ (L.getD j []).length) (fun b => (L.getD j []).length - b) 0 (Nat.zero_le _) [0, 1] (by simp only [leq, leA, ev0, evA, evB, evP, fl, gp, tab, simprocAttr, reduceCtorEq, reduceIte]) fun b hb4 => ?_
                    refine qm (qm ?_)
                    refine hk_region fun K hK => runs_eval tab_ok ?_
                    simp only [ev0, evA, evB, evP, fl, gp, tab, simprocAttr, reduceCtorEq, reduceIte, ll_length, ll_get hjl, il_length]
                    refine fin_run ?_ (hK _ ?_) <;> clear hK <;> clear K
                    · omega
                    refine qa ?_
                    refine hk_cond rfl (fun hC10 => ?_) (fun hC10 => ?_)
                    · (try simp only [nhs] at hC10)
                      have hbl : b < (L.getD j []).length := by omega
                      obtain ⟨u, u1, u2, u3⟩ := thl_get (n := n) (p := cjb n (op m n) e x) (by rw [← x3]; exact hal)
                      obtain ⟨v, v1, v2, v3⟩ := thl_get (n := n) (p := cjb n (op m n) e y) (by rw [← y3]; exact hbl)
                      rw [← x3] at u3
                      rw [← y3] at v3
                      refine qh (qa (qm (ql (qm ?_))))
                      refine hk_region fun K hK => runs_eval tab_ok ?_
                      simp only [ev0, evA, evB, evP, fl, gp, tab, simprocAttr, reduceCtorEq, reduceIte]
                      refine fin_run trivial (hK _ ?_) <;> clear hK <;> clear K
                      refine qa (ql ?_)
                      refine hk_loop (ι := Nat) (fun q => ⟨134, [(1, .ptr 0 0), (3, .p (.list ((List.range L.length).map (cto n (op m n) e)))), (6, .p (.list (ll L))), (7, .p (.int .i64 i)), (8, .p (.int .i64 j)), (9, .sl 1 0 L.length), (10, .p (.int .i64 a)), (11, .p (.int .i64 b)), (12, .p (.int .i64 q))], [.own [.p (.int .i64 n), .p (.list (il m))], .own (ol (rgz L.length (wnt (op m n) (L.getD i []) (L.getD j []) (fun k => (mem n (lead (cjb n (op m n) e))).getD k 0) a b q)))]⟩) (fun q => q ≤ L.length) (fun q => L.length - q) 0 (Nat.zero_le _) [0, 1] (by simp only [leq, leA, ev0, evA, evB, evP, fl, gp, tab, simprocAttr, reduceCtorEq, reduceIte]) fun q hq => ?_
                      refine qm (qm ?_)
                      refine hk_region fun K hK => runs_eval tab_ok ?_
                      simp only [ev0, evA, evB, evP, fl, gp, tab, simprocAttr, reduceCtorEq, reduceIte, ll_length]
                      refine fin_run trivial (hK _ ?_) <;> clear hK <;> clear K
                      refine qa ?_
                      refine hk_cond rfl (fun hC11 => ?_) (fun hC11 => ?_)
                      · (try simp only [nhs] at hC11)
                        have hql : q < L.length := by omega
                        obtain ⟨w, w1, w2, w3, w4⟩ := cst_get (n := n) (r := cjb n (op m n) e) (i := q) (by rw [hL]; exact hql)
                        rw [hL] at w3
                        obtain ⟨hd1, hd2⟩ := (lead_head w1).1 w2
                        rw [← w3] at hd1 hd2
                        have huv := T.lt u1 v1
                        have hpr : op m n ((L.getD i []).getD a 0).toNat ((L.getD j []).getD b 0).toNat = op m n u v := by rw [u3, v3, Int.toNat_natCast, Int.toNat_natCast]
                        refine qh (qa (qm (ql (qm ?_))))
                        refine hk_draw2 mixed fun K hK => runs2_eval tab_ok ?_
                        simp only [evD, ev0, evA, evB, evP, fl, gp, tab, simprocAttr, reduceCtorEq, reduceIte, ll_length, ll_get hil, ll_get hjl, ll_get hql, il_get hal, il_get hbl, il_get hd1, u3, v3, hd2]
                        refine fin2_stop ?_ (runs2_call (m_c T u1 v1) rfl rfl rfl rfl (by simp only [dstOk, Nat.reduceLT]) (by repeat (first | exact trivial | constructor)) (runs2_eval tab_ok ?_))
                        · (first | exact trivial | omega | (simp only [In64] at *; omega) | (simp [In64] at *; omega) | (simp_all; done) | skip)
                        simp only [evD, ev0, evA, evB, evP, fl, gp, tab, simprocAttr, reduceCtorEq, reduceIte, ll_length, ll_get hil, ll_get hjl, ll_get hql, il_get hal, il_get hbl, il_get hd1, u3, v3, hd2]
                        refine fin2_run ?_ (hK _ _ (by first | kernel_rfl | rfl) ?_) <;> clear hK <;> clear K
                        · (first | exact trivial | omega | (simp only [In64] at *; omega) | (simp [In64] at *; omega) | (simp_all; done) | skip)
                        refine qa ?_
                        refine hk_cond rfl (fun hC12 => ?_) (fun hC12 => ?_)
                        · (try simp only [nhs] at hC12)
                          refine hk_region fun K hK => runs_eval tab_ok ?_
                          simp only [ev0, evA, evB, evP, fl, gp, tab, simprocAttr, reduceCtorEq, reduceIte, ol_get (show q < (rgz L.length (wnt (op m n) (L.getD i []) (L.getD j []) (fun k => (mem n (lead (cjb n (op m n) e))).getD k 0) a b q)).length by rw [rgz_len]; exact hql), rgz_get hql, ol_set, rgz_set]
                          refine fin_run ?_ (hK _ ?_) <;> clear hK <;> clear K
                          · have hr := wnt_rng (f := op m n) (hd := fun k => (mem n (lead (cjb n (op m n) e))).getD k 0) (a := a) (b := b) (q := q) (k := q) (Nat.le_trans hAn hb) (Nat.le_trans hBn hb) ha
                            rw [rgz_len]
                            simp only [In64]
                            omega
                          refine qd (qa ?_)
                          refine hk_region fun K hK => runs_eval tab_ok ?_
                          simp only [ev0, evA, evB, evP, fl, gp, tab, simprocAttr, reduceCtorEq, reduceIte]
                          refine fin_run ?_ (hK _ ?_) <;> clear hK <;> clear K
                          · (first | exact trivial | omega | (simp only [In64] at *; omega) | (simp [In64] at *; omega) | (simp_all; done) | skip)
                          refine qa ?_
                          refine ⟨q + 1, [0, 1], by omega, by omega, ?_⟩
                          rw [rgz_congr fun k _ => wnt_hit (a := a) (b := b) (q := q) (show op m n ((L.getD i []).getD a 0).toNat ((L.getD j []).getD b 0).toNat = (mem n (lead (cjb n (op m n) e))).getD q 0 by rw [hpr, w4]; omega) k]
                          simp only [leq, leA, ev0, evA, evB, evP, fl, gp, tab, simprocAttr, reduceCtorEq, reduceIte]
                        · (try simp only [nhs] at hC12)
                          refine qh (qd (qa ?_))
                          refine hk_region fun K hK => runs_eval tab_ok ?_
                          simp only [ev0, evA, evB, evP, fl, gp, tab, simprocAttr, reduceCtorEq, reduceIte]
                          refine fin_run ?_ (hK _ ?_) <;> clear hK <;> clear K
                          · (first | exact trivial | omega | (simp only [In64] at *; omega) | (simp [In64] at *; omega) | (simp_all; done) | skip)
                          refine qa ?_
                          refine ⟨q + 1, [0, 1], by omega, by omega, ?_⟩
                          rw [rgz_congr fun k _ => wnt_miss (a := a) (b := b) (q := q) (show ¬ op m n ((L.getD i []).getD a 0).toNat ((L.getD j []).getD b 0).toNat = (mem n (lead (cjb n (op m n) e))).getD q 0 by rw [hpr, w4]; omega) k]
                          simp only [leq, leA, ev0, evA, evB, evP, fl, gp, tab, simprocAttr, reduceCtorEq, reduceIte]
                      · (try simp only [nhs] at hC11)
                        refine qj (qc (qc (qf (qd (qa ?_)))))
                        refine hk_region fun K hK => runs_eval tab_ok ?_
                        simp only [ev0, evA, evB, evP, fl, gp, tab, simprocAttr, reduceCtorEq, reduceIte]
                        refine fin_run ?_ (hK _ ?_) <;> clear hK <;> clear K
                        · (first | exact trivial | omega | (simp only [In64] at *; omega) | (simp [In64] at *; omega) | (simp_all; done) | skip)
                        refine qa ?_
                        have hqe : q = L.length := by omega
                        subst hqe
                        refine ⟨b + 1, [0, 1], by omega, by omega, ?_⟩
                        rw [rgz_congr fun k hk => wnt_b hbl hk]
                        simp only [leq, leA, ev0, evA, evB, evP, fl, gp, tab, simprocAttr, reduceCtorEq, reduceIte]
                    · (try simp only [nhs] at hC10)
                      refine qj (qc (qc (qf (qd (qa ?_)))))
                      refine hk_region fun K hK => runs_eval tab_ok ?_
                      simp only [ev0, evA, evB, evP, fl, gp, tab, simprocAttr, reduceCtorEq, reduceIte]
                      refine fin_run ?_ (hK _ ?_) <;> clear hK <;> clear K
                      · (first | exact trivial | omega | (simp only [In64] at *; omega) | (simp [In64] at *; omega) | (simp_all; done) | skip)
                      refine qa ?_
                      have hbe : b = (L.getD j []).length := by omega
                      subst hbe
                      refine ⟨a + 1, [0, 1], by omega, by omega, ?_⟩
                      rw [rgz_congr fun k _ => wnt_a hal]
                      simp only [leq, leA, ev0, evA, evB, evP, fl, gp, tab, simprocAttr, reduceCtorEq, reduceIte]
                  · (try simp only [nhs] at hC9)
                    have hae : a = (L.getD i []).length := by omega
                    subst hae
                    have hfin : rgz L.length (wnt (op m n) (L.getD i []) (L.getD j []) (fun k => (mem n (lead (cjb n (op m n) e))).getD k 0) (L.getD i []).length 0 0) = rgz L.length (ct n (op m n) e i j) := rgz_congr fun k hk => by
                      rw [wnt_end]
                      have := ct_pairs G hlt2 (i := i) (j := j) (k := k) (by rw [hL]; exact hil) (by rw [hL]; exact hjl) (by rw [hL]; exact hk)
                      rw [hL] at this
                      exact this
                    rw [hfin]
                    refine hk_seal 9 1 (w := rgz L.length (ct n (op m n) e i j)) (by show AV.sl 1 0 L.length = AV.sl 1 0 _; rw [rgz_len]) rfl ?_
                    refine qj (qc (qc (qf (qa (qm ?_)))))
                    refine hk_region fun K hK => runs_eval tab_ok ?_
                    simp only [ev0, evA, evB, evP, fl, gp, tab, simprocAttr, reduceCtorEq, reduceIte, cto_get hil, hL, ll_get (show j < (mat L.length (ct n (op m n) e i)).length by rw [mat_len]; exact hjl), mat_get hjl]
                    refine fin_stop ?_ (runs_call (ints_c (rgz L.length (ct n (op m n) e i j)) (rgz L.length (ct n (op m n) e i j)) (by rw [rgz_len]; omega)) rfl rfl rfl (by simp only [dstOk, Nat.reduceLT]) (by repeat (first | exact trivial | constructor)) (runs_eval tab_ok ?_))
                    · simp only [List.length_map, List.length_range, mat_len]; omega
                    simp only [ev0, evA, evB, evP, fl, gp, tab, simprocAttr, reduceCtorEq, reduceIte, cto_get hil, hL, ll_get (show j < (mat L.length (ct n (op m n) e i)).length by rw [mat_len]; exact hjl), mat_get hjl]
                    refine fin_run ?_ (hK _ ?_) <;> clear hK <;> clear K
                    · (first | exact trivial | omega | (simp only [In64] at *; omega) | (simp [In64] at *; omega) | (simp_all; done) | skip)
                    refine qa ?_
                    refine hk_cond rfl (fun hC13 => ?_) (fun hC13 => ?_)
                    · cases hC13
                    · (try simp only [nhs] at hC13)
                      refine qh (qd (qa ?_))
                      refine hk_region fun K hK => runs_eval tab_ok ?_
                      simp only [ev0, evA, evB, evP, fl, gp, tab, simprocAttr, reduceCtorEq, reduceIte]
                      refine fin_run ?_ (hK _ ?_) <;> clear hK <;> clear K
                      · (first | exact trivial | omega | (simp only [In64] at *; omega) | (simp [In64] at *; omega) | (simp_all; done) | skip)
                      refine qa ?_
                      refine ⟨j + 1, [0], by omega, by omega, ?_⟩
                      simp only [leq, leA, ev0, evA, evB, evP, fl, gp, tab, simprocAttr, reduceCtorEq, reduceIte]
                · (try simp only [nhs] at hC8)
                  refine qj (qc (qc (qf (qd (qa ?_)))))
                  refine hk_region fun K hK => runs_eval tab_ok ?_
                  simp only [ev0, evA, evB, evP, fl, gp, tab, simprocAttr, reduceCtorEq, reduceIte]
                  refine fin_run ?_ (hK _ ?_) <;> clear hK <;> clear K
                  · (first | exact trivial | omega | (simp only [In64] at *; omega) | (simp [In64] at *; omega) | (simp_all; done) | skip)
                  refine qa ?_
                  refine ⟨i + 1, [0], by omega, by omega, ?_⟩
                  simp only [leq, leA, ev0, evA, evB, evP, fl, gp, tab, simprocAttr, reduceCtorEq, reduceIte]
            · (try simp only [nhs] at hC6)
              refine qj (qc (qc (qf (qa (qm ?_)))))
              refine hk_region fun K hK => runs_eval tab_ok ?_
              simp only [ev0, evA, evB, evP, fl, gp, tab, simprocAttr, reduceCtorEq, reduceIte]
              refine fin_run trivial (hK _ ?_) <;> clear hK <;> clear K
              refine qa (qk ?_)
              simp only [Tryd.results9, enA, ev0, evA, evB, evP, fl, gp, tab, simprocAttr, reduceCtorEq, reduceIte]
              all_goals ((first | exact rfl | exact ⟨rfl, rfl⟩ | exact ⟨rfl, rfl, rfl⟩ | exact ⟨trivial, rfl⟩ | exact ⟨Nat.le_refl _, rfl⟩ | trivial | (simp; done)))
  · cases hC1

theorem clsTimes_c (N : Int) (m : List Int) (hm : m.length ≤ 17592186043904) : FnC Tryd.prog 9 [gp N m] (.bool true) := by
  by_cases hf : (gf N m).1 = 0
  · obtain ⟨n, e, h, _⟩ := gf_ok hf
    obtain rfl := h.1
    by_cases hc : 24 < (cst n (cjb n (op m n) e)).length
    · exact timesL_many hm h hc
    · exact timesL_ok hm h (by omega)
  · exact timesL_no N m hm hf
end Go.Proofs.YthdmioeddgednaaDoor
