/-
  Walks: the law SeriesGo. Conditions: none.
-/
import Derived.Test.YtpogfmijefephaaDoorS11
import Derived.Test.YtpogfmijefephaaDoorFF1
set_option linter.all false
namespace Go.Proofs.YtpogfmijefephaaDoor
open Go.Pv

theorem those_f (n : Nat) (m : List Int) (F : FuncId) (caps : List PV) (p : Nat → Bool) (hn : n ≤ 1000000) (hF : ∀ a, a < n → FnC Tryd.prog F (.int .i64 a :: caps) (.bool (p a))) : FnF Tryd.prog 43 [gp n m, .fn F caps] (.list (il (thl n p))) :=
  FnG_fnf (those_g n m F caps p hn hF) (il_scal _)

section
variable {n e : Nat} {m : List Int}

theorem solvable_ok (h : GT n m n e) (nx : (Nat → Bool) → Nat → Bool) (hnx : ∀ p a, a < n → (nx p a = true ↔ Gen n (op m n) e (dnp n (op m n) e p p) a)) (Z : Nat) (hZ : Z ≤ n) (hS : Stp n (itr nx fun _ => true) Z) :
    FnC Tryd.prog 9 [gp n m] (.tup [.bool (decide (((thl n (itr nx (fun _ => true) Z)).length : Int) = 1)), fl (0, 0)]) := by
  have hb := h.2.1.big
  have hl := cht_len n (itr nx fun _ => true) Z
  have hg : (cht n (itr nx fun _ => true) Z).getD Z [] = thl n (itr nx (fun _ => true) Z) := cht_get (Nat.le_refl _)
  refine fnc_of tab_ok Tryd.func9 rfl (by kernel_rfl) (by rw [Tryd.ntmps9]; exact Nat.le_add_left 1 _) ?_; rw [Tryd.ntmps9]
  refine qm ?_
  refine hk_region fun K hK => runs_eval tab_ok ?_
  simp only [ev0, evA, evB, evP, fl, gp, tab, simprocAttr, reduceCtorEq, reduceIte]
  refine fin_run ?_ (hK _ ?_) <;> clear hK <;> clear K
  · (first | exact trivial | omega | (simp only [In64] at *; omega) | (simp [In64] at *; omega) | (simp_all; done) | skip)
  refine qa (qm ?_)
  refine hk_region fun K hK => runs_eval tab_ok ?_
  simp only [ev0, evA, evB, evP, fl, gp, tab, simprocAttr, reduceCtorEq, reduceIte]
  refine fin_stop trivial (runs_call (derived_ok h nx hnx Z hZ hS) rfl rfl rfl (by simp only [dstOk, Nat.reduceLT]) (by repeat (first | exact trivial | constructor)) (runs_eval tab_ok ?_))
  simp only [ev0, evA, evB, evP, fl, gp, tab, simprocAttr, reduceCtorEq, reduceIte]
  refine fin_run ?_ (hK _ ?_) <;> clear hK <;> clear K
  · (first | exact trivial | omega | (simp only [In64] at *; omega) | (simp [In64] at *; omega) | (simp_all; done) | skip)
  refine qa (qm ?_)
  refine hk_draw mixed (by kernel_rfl) fun K hK => runs_eval tab_ok ?_
  simp only [ev0, evA, evB, evP, fl, gp, tab, simprocAttr, reduceCtorEq, reduceIte, ll_length, hl, Int.add_sub_cancel, ll_get (show Z < (cht n (itr nx fun _ => true) Z).length by omega), hg, il_length]
  refine fin_run ?_ (hK _ ?_) <;> clear hK <;> clear K
  · simp only [In64, ll_length]; omega
  refine qa (qk ?_)
  simp only [Tryd.results9, enA, ev0, evA, evB, evP, fl, gp, tab, simprocAttr, reduceCtorEq, reduceIte]
  all_goals ((first | exact rfl | exact ⟨rfl, rfl⟩ | exact ⟨rfl, rfl, rfl⟩ | exact ⟨trivial, rfl⟩ | exact ⟨Nat.le_refl _, rfl⟩ | trivial | (simp; done)))
theorem solvable_no (N : Int) (m : List Int) (hm : m.length ≤ 1000000000000000) (hf : ¬ (gf N m).1 = 0) : FnC Tryd.prog 9 [gp N m] (.tup [.bool false, fl (gf N m)]) := by
  refine fnc_of tab_ok Tryd.func9 rfl (by kernel_rfl) (by rw [Tryd.ntmps9]; exact Nat.le_add_left 1 _) ?_; rw [Tryd.ntmps9]
  refine qm ?_
  refine hk_region fun K hK => runs_eval tab_ok ?_
  simp only [ev0, evA, evB, evP, fl, gp, tab, simprocAttr, reduceCtorEq, reduceIte]
  refine fin_run ?_ (hK _ ?_) <;> clear hK <;> clear K
  · (first | exact trivial | omega | (simp only [In64] at *; omega) | (simp [In64] at *; omega) | (simp_all; done) | skip)
  refine qa (qm ?_)
  refine hk_region fun K hK => runs_eval tab_ok ?_
  simp only [ev0, evA, evB, evP, fl, gp, tab, simprocAttr, reduceCtorEq, reduceIte]
  refine fin_stop trivial (runs_call (derived_no N m hm hf) rfl rfl rfl (by simp only [dstOk, Nat.reduceLT]) (by repeat (first | exact trivial | constructor)) (runs_eval tab_ok ?_))
  simp only [ev0, evA, evB, evP, fl, gp, tab, simprocAttr, reduceCtorEq, reduceIte]
  refine fin_run ?_ (hK _ ?_) <;> clear hK <;> clear K
  · (first | exact trivial | omega | (simp only [In64] at *; omega) | (simp [In64] at *; omega) | (simp_all; done) | skip)
  refine qa (qm ?_)
  refine hk_draw mixed (by kernel_rfl) fun K hK => runs_eval tab_ok ?_
  simp only [ev0, evA, evB, evP, fl, gp, tab, simprocAttr, reduceCtorEq, reduceIte, decide_eq_false hf]
  refine fin_run ?_ (hK _ ?_) <;> clear hK <;> clear K
  · (first | exact trivial | omega | (simp only [In64] at *; omega) | (simp [In64] at *; omega) | (simp_all; done) | skip)
  refine qa (qk ?_)
  simp only [Tryd.results9, enA, ev0, evA, evB, evP, fl, gp, tab, simprocAttr, reduceCtorEq, reduceIte]
  all_goals ((first | exact rfl | exact ⟨rfl, rfl⟩ | exact ⟨rfl, rfl, rfl⟩ | exact ⟨trivial, rfl⟩ | exact ⟨Nat.le_refl _, rfl⟩ | trivial | (simp; done)))
theorem nilpotent_ok (h : GT n m n e) (nx : (Nat → Bool) → Nat → Bool) (hnx : ∀ p a, a < n → (nx p a = true ↔ Gen n (op m n) e (dnp n (op m n) e p fun _ => true) a)) (Z : Nat) (hZ : Z ≤ n) (hS : Stp n (itr nx fun _ => true) Z) :
    FnC Tryd.prog 10 [gp n m] (.tup [.bool (decide (((thl n (itr nx (fun _ => true) Z)).length : Int) = 1)), fl (0, 0)]) := by
  have hb := h.2.1.big
  have hl := cht_len n (itr nx fun _ => true) Z
  have hg : (cht n (itr nx fun _ => true) Z).getD Z [] = thl n (itr nx (fun _ => true) Z) := cht_get (Nat.le_refl _)
  refine fnc_of tab_ok Tryd.func10 rfl (by kernel_rfl) (by rw [Tryd.ntmps10]; exact Nat.le_add_left 1 _) ?_; rw [Tryd.ntmps10]
  refine qm ?_
  refine hk_region fun K hK => runs_eval tab_ok ?_
  simp only [ev0, evA, evB, evP, fl, gp, tab, simprocAttr, reduceCtorEq, reduceIte]
  refine fin_run ?_ (hK _ ?_) <;> clear hK <;> clear K
  · (first | exact trivial | omega | (simp only [In64] at *; omega) | (simp [In64] at *; omega) | (simp_all; done) | skip)
  refine qa (qm ?_)
  refine hk_region fun K hK => runs_eval tab_ok ?_
  simp only [ev0, evA, evB, evP, fl, gp, tab, simprocAttr, reduceCtorEq, reduceIte]
  refine fin_stop trivial (runs_call (lower_ok h nx hnx Z hZ hS) rfl rfl rfl (by simp only [dstOk, Nat.reduceLT]) (by repeat (first | exact trivial | constructor)) (runs_eval tab_ok ?_))
  simp only [ev0, evA, evB, evP, fl, gp, tab, simprocAttr, reduceCtorEq, reduceIte]
  refine fin_run ?_ (hK _ ?_) <;> clear hK <;> clear K
  · (first | exact trivial | omega | (simp only [In64] at *; omega) | (simp [In64] at *; omega) | (simp_all; done) | skip)
  refine qa (qm ?_)
  refine hk_draw mixed (by kernel_rfl) fun K hK => runs_eval tab_ok ?_
  simp only [ev0, evA, evB, evP, fl, gp, tab, simprocAttr, reduceCtorEq, reduceIte, ll_length, hl, Int.add_sub_cancel, ll_get (show Z < (cht n (itr nx fun _ => true) Z).length by omega), hg, il_length]
  refine fin_run ?_ (hK _ ?_) <;> clear hK <;> clear K
  · simp only [In64, ll_length]; omega
  refine qa (qk ?_)
  simp only [Tryd.results10, enA, ev0, evA, evB, evP, fl, gp, tab, simprocAttr, reduceCtorEq, reduceIte]
  all_goals ((first | exact rfl | exact ⟨rfl, rfl⟩ | exact ⟨rfl, rfl, rfl⟩ | exact ⟨trivial, rfl⟩ | exact ⟨Nat.le_refl _, rfl⟩ | trivial | (simp; done)))
theorem nilpotent_no (N : Int) (m : List Int) (hm : m.length ≤ 1000000000000000) (hf : ¬ (gf N m).1 = 0) : FnC Tryd.prog 10 [gp N m] (.tup [.bool false, fl (gf N m)]) := by
  refine fnc_of tab_ok Tryd.func10 rfl (by kernel_rfl) (by rw [Tryd.ntmps10]; exact Nat.le_add_left 1 _) ?_; rw [Tryd.ntmps10]
  refine qm ?_
  refine hk_region fun K hK => runs_eval tab_ok ?_
  simp only [ev0, evA, evB, evP, fl, gp, tab, simprocAttr, reduceCtorEq, reduceIte]
  refine fin_run ?_ (hK _ ?_) <;> clear hK <;> clear K
  · (first | exact trivial | omega | (simp only [In64] at *; omega) | (simp [In64] at *; omega) | (simp_all; done) | skip)
  refine qa (qm ?_)
  refine hk_region fun K hK => runs_eval tab_ok ?_
  simp only [ev0, evA, evB, evP, fl, gp, tab, simprocAttr, reduceCtorEq, reduceIte]
  refine fin_stop trivial (runs_call (lower_no N m hm hf) rfl rfl rfl (by simp only [dstOk, Nat.reduceLT]) (by repeat (first | exact trivial | constructor)) (runs_eval tab_ok ?_))
  simp only [ev0, evA, evB, evP, fl, gp, tab, simprocAttr, reduceCtorEq, reduceIte]
  refine fin_run ?_ (hK _ ?_) <;> clear hK <;> clear K
  · (first | exact trivial | omega | (simp only [In64] at *; omega) | (simp [In64] at *; omega) | (simp_all; done) | skip)
  refine qa (qm ?_)
  refine hk_draw mixed (by kernel_rfl) fun K hK => runs_eval tab_ok ?_
  simp only [ev0, evA, evB, evP, fl, gp, tab, simprocAttr, reduceCtorEq, reduceIte, decide_eq_false hf]
  refine fin_run ?_ (hK _ ?_) <;> clear hK <;> clear K
  · (first | exact trivial | omega | (simp only [In64] at *; omega) | (simp [In64] at *; omega) | (simp_all; done) | skip)
  refine qa (qk ?_)
  simp only [Tryd.results10, enA, ev0, evA, evB, evP, fl, gp, tab, simprocAttr, reduceCtorEq, reduceIte]
  all_goals ((first | exact rfl | exact ⟨rfl, rfl⟩ | exact ⟨rfl, rfl, rfl⟩ | exact ⟨trivial, rfl⟩ | exact ⟨Nat.le_refl _, rfl⟩ | trivial | (simp; done)))

/-! ### The document's series -/

theorem rising1_c (h : GT n m n e) (p : Nat → Bool) {a : Nat} (ha : a < n) : FnC Tryd.prog 44 [.int .i64 a, .ptr [.int .i64 n, .list (il m)], .ptr [.list (il (thl n p))]] (.bool (unx n (op m n) e p a)) := by
  have G := h.2.2
  have hb := h.2.1.big
  have hlp := thl_le n p
  refine fnc_of tab_ok Tryd.func44 rfl (by kernel_rfl) (by rw [Tryd.ntmps44]; exact Nat.le_add_left 3 _) ?_; rw [Tryd.ntmps44]
  refine qm ?_
  refine hk_region fun K hK => runs_eval tab_ok ?_
  simp only [ev0, evA, evB, evP, fl, gp, tab, simprocAttr, reduceCtorEq, reduceIte]
  refine fin_run trivial (hK _ ?_) <;> clear hK <;> clear K
  refine qa (qm (qm ?_))
  refine hk_region fun K hK => runs_eval tab_ok ?_
  simp only [ev0, evA, evB, evP, fl, gp, tab, simprocAttr, reduceCtorEq, reduceIte]
  refine fin_run trivial (hK _ ?_) <;> clear hK <;> clear K
  refine qa (ql ?_)
  refine hk_loop (ι := Nat) (fun b => ⟨19, [(0, .p (.int .i64 a)), (1, .p (.ptr [.int .i64 n, .list (il m)])), (2, .p (.ptr [.list (il (thl n p))])), (5, .p (.int .i64 b))], []⟩) (fun b => b ≤ n ∧ ∀ c, c < b → p (cmt n (op m n) e a c) = true) (fun b => n - b) 0 ⟨Nat.zero_le _, fun c hc => by omega⟩ [] (by simp only [leq, leA, ev0, evA, evB, evP, fl, gp, tab, simprocAttr, reduceCtorEq, reduceIte]) fun b hb2 => ?_
  obtain ⟨hb2, hall⟩ := hb2
  refine qm (qm ?_)
  refine hk_region fun K hK => runs_eval tab_ok ?_
  simp only [ev0, evA, evB, evP, fl, gp, tab, simprocAttr, reduceCtorEq, reduceIte]
  refine fin_run ?_ (hK _ ?_) <;> clear hK <;> clear K
  · (first | exact trivial | omega | (simp only [In64] at *; omega) | (simp [In64] at *; omega) | (simp_all; done) | skip)
  refine qa ?_
  refine hk_cond rfl (fun hC1 => ?_) (fun hC1 => ?_)
  · (try simp only [nhs] at hC1)
    have hbl : b < n := by omega
    have hcl := G.cmt_lt (e := e) ha hbl
    have hmem : decide (((cmt n (op m n) e a b : Nat) : Int) ∈ thl n p) = p (cmt n (op m n) e a b) := by
      rw [Bool.eq_iff_iff, decide_eq_true_eq, mem_thl_n hcl]
    refine qh (qa (qm (ql (qm ?_))))
    refine hk_draw2 mixed fun K hK => runs2_eval tab_ok ?_
    simp only [evD, ev0, evA, evB, evP, fl, gp, tab, simprocAttr, reduceCtorEq, reduceIte]
    refine fin2_stop ?_ (runs2_call (commutator_r h ha hbl) rfl rfl rfl rfl (by simp only [dstOk, Nat.reduceLT]) (by repeat (first | exact trivial | constructor)) (runs2_eval tab_ok ?_))
    · (first | exact trivial | omega | (simp only [In64] at *; omega) | (simp [In64] at *; omega) | (simp_all; done) | skip)
    simp only [evD, ev0, evA, evB, evP, fl, gp, tab, simprocAttr, reduceCtorEq, reduceIte]
    refine fin2_stop ?_ (runs2_call (has_r (thl n p) (cmt n (op m n) e a b : Nat) (by omega)) rfl rfl rfl rfl (by simp only [dstOk, Nat.reduceLT]) (by repeat (first | exact trivial | constructor)) (runs2_eval tab_ok ?_))
    · (first | exact trivial | omega | (simp only [In64] at *; omega) | (simp [In64] at *; omega) | (simp_all; done) | skip)
    simp only [evD, ev0, evA, evB, evP, fl, gp, tab, simprocAttr, reduceCtorEq, reduceIte, hmem]
    refine fin2_run ?_ (hK _ _ (by first | kernel_rfl | rfl) ?_) <;> clear hK <;> clear K
    · (first | exact trivial | omega | (simp only [In64] at *; omega) | (simp [In64] at *; omega) | (simp_all; done) | skip)
    refine qa ?_
    refine hk_cond rfl (fun hC2 => ?_) (fun hC2 => ?_)
    · (try simp only [nhs] at hC2)
      refine qm ?_
      refine hk_region fun K hK => runs_eval tab_ok ?_
      simp only [ev0, evA, evB, evP, fl, gp, tab, simprocAttr, reduceCtorEq, reduceIte]
      refine fin_run trivial (hK _ ?_) <;> clear hK <;> clear K
      refine qa (qk (qe (qb (qb (qe (qb ?_))))))
      simp only [Tryd.results44, enA, ev0, evA, evB, evP, fl, gp, tab, simprocAttr, reduceCtorEq, reduceIte]
      symm
      rw [← Bool.not_eq_true, unx_iff]
      intro hh
      rw [hh b hbl] at hC2; simp at hC2
    · (try simp only [nhs] at hC2)
      refine qh (qd (qa ?_))
      refine hk_region fun K hK => runs_eval tab_ok ?_
      simp only [ev0, evA, evB, evP, fl, gp, tab, simprocAttr, reduceCtorEq, reduceIte]
      refine fin_run ?_ (hK _ ?_) <;> clear hK <;> clear K
      · (first | exact trivial | omega | (simp only [In64] at *; omega) | (simp [In64] at *; omega) | (simp_all; done) | skip)
      refine qa ?_
      refine ⟨b + 1, [], ⟨by omega, fun c hc => ?_⟩, by omega, ?_⟩
      · by_cases hcb : c = b
        · subst hcb; simpa using hC2
        · exact hall c (by omega)
      · simp only [leq, leA, ev0, evA, evB, evP, fl, gp, tab, simprocAttr, reduceCtorEq, reduceIte] <;> omega
  · (try simp only [nhs] at hC1)
    refine qj (qc (qc (qf (qa (qm ?_)))))
    refine hk_region fun K hK => runs_eval tab_ok ?_
    simp only [ev0, evA, evB, evP, fl, gp, tab, simprocAttr, reduceCtorEq, reduceIte]
    refine fin_run trivial (hK _ ?_) <;> clear hK <;> clear K
    refine qa (qk ?_)
    simp only [Tryd.results44, enA, ev0, evA, evB, evP, fl, gp, tab, simprocAttr, reduceCtorEq, reduceIte]
    symm
    rw [unx_iff]
    exact fun c hc => hall c (by omega)

set_option maxHeartbeats 4000000 in
theorem falling_f (h : GT n m n e) (T : Nat → Nat → Bool) (K : Nat) (hK : K ≤ n) (hS : Stp n T K) (h0 : T 0 = fun _ => true) (hT : ∀ k a, a < n → (T (k + 1) a = true ↔ Gen n (op m n) e (dnp n (op m n) e (T k) (T k)) a)) :
    FnC Tryd.prog 16 [gp n m, .bool false] (.list (ll (cht n T K))) := by
  have G := h.2.2
  have hb := h.2.1.big
  have h1 : ∀ k : Nat, ((k + 1) == 0) = false := fun k => rfl
  have hsz : ∀ (p r : Nat → Bool) i, i ≤ (thl n p).length → (cml n (op m n) e ((thl n p).take i) (thl n r)).length ≤ 3600 := fun p r i hi => by
    have hlp := thl_le n p
    have hlr := thl_le n r
    rw [cml_len, List.length_take]
    exact Nat.mul_le_mul (by omega : min i (thl n p).length ≤ 60) (by omega : (thl n r).length ≤ 60)
  refine fnc_of tab_ok Tryd.func16 rfl (by kernel_rfl) (by rw [Tryd.ntmps16]; exact Nat.le_add_left 2 _) ?_; rw [Tryd.ntmps16]
  refine qm ?_
  refine hk_region fun K hK => runs_eval tab_ok ?_
  simp only [ev0, evA, evB, evP, fl, gp, tab, simprocAttr, reduceCtorEq, reduceIte]
  refine fin_run ?_ (hK _ ?_) <;> clear hK <;> clear K
  · (first | exact trivial | omega | (simp only [In64] at *; omega) | (simp [In64] at *; omega) | (simp_all; done) | skip)
  refine qa (qm ?_)
  refine hk_region fun K hK => runs_eval tab_ok ?_
  simp only [ev0, evA, evB, evP, fl, gp, tab, simprocAttr, reduceCtorEq, reduceIte, ← h0]
  refine fin_stop trivial (runs_call (stays_r n (by omega)) rfl rfl rfl (by simp only [dstOk, Nat.reduceLT]) (by repeat (first | exact trivial | constructor)) (runs_eval tab_ok ?_))
  simp only [ev0, evA, evB, evP, fl, gp, tab, simprocAttr, reduceCtorEq, reduceIte, ← h0]
  refine fin_run ?_ (hK _ ?_) <;> clear hK <;> clear K
  · (first | exact trivial | omega | (simp only [In64] at *; omega) | (simp [In64] at *; omega) | (simp_all; done) | skip)
  refine qa (qm ?_)
  refine hk_region fun K hK => runs_eval tab_ok ?_
  simp only [ev0, evA, evB, evP, fl, gp, tab, simprocAttr, reduceCtorEq, reduceIte]
  refine fin_run ?_ (hK _ ?_) <;> clear hK <;> clear K
  · (first | exact trivial | omega | (simp only [In64] at *; omega) | (simp [In64] at *; omega) | (simp_all; done) | skip)
  refine qa (ql ?_)
  refine hk_loop (ι := Nat) (fun k => ⟨59, [(1, .p (.bool false)), (2, .ptr 0 0), (5, .p (.list (il (thl n (T k))))), (6, bif k == 0 then .p (.nn [.list (il (thl n (T 0)))]) else .sl 1 0 (cht n T k).length)], bif k == 0 then [.own [.p (.int .i64 n), .p (.list (il m))]] else [.own [.p (.int .i64 n), .p (.list (il m))], .own (opl (ll (cht n T k)))]⟩) (fun k => k ≤ K) (fun k => K - k) 0 (Nat.zero_le _) [0] (by simp only [leq, leA, ev0, evA, evB, evP, fl, gp, tab, simprocAttr, reduceCtorEq, reduceIte, beq_self_eq_true, cond_true] <;> first | trivial | (simp; done)) fun k hk => ?_
  have hlT := thl_le n (T k)
  have hlT1 := thl_le n (T (k + 1))
  refine ql (qm ?_)
  by_cases hk0 : (k == 0) = true
  · simp only [hk0, cond_true]
    have hkz : k = 0 := by simpa using hk0
    refine hk_region fun K hK => runs_eval tab_ok ?_
    simp only [ev0, evA, evB, evP, fl, gp, tab, simprocAttr, reduceCtorEq, reduceIte]
    refine fin_run trivial (hK _ ?_) <;> clear hK <;> clear K
    refine qa (qm (qm ?_))
    refine hk_region fun K hK => runs_eval tab_ok ?_
    simp only [ev0, evA, evB, evP, fl, gp, tab, simprocAttr, reduceCtorEq, reduceIte]
    refine fin_run trivial (hK _ ?_) <;> clear hK <;> clear K
    refine qa ?_
    refine hk_cond rfl (fun hC1 => ?_) (fun hC1 => ?_)
    · cases hC1
    · (try simp only [nhs] at hC1)
      refine qh (qa (qm ?_))
      refine hk_region fun K hK => runs_eval tab_ok ?_
      simp only [ev0, evA, evB, evP, fl, gp, tab, simprocAttr, reduceCtorEq, reduceIte]
      refine fin_run trivial (hK _ ?_) <;> clear hK <;> clear K
      refine qa (qm (qm ?_))
      refine hk_own0 8 rfl ?_
      refine hk_region fun K hK => runs_eval tab_ok ?_
      simp only [ev0, evA, evB, evP, fl, gp, tab, simprocAttr, reduceCtorEq, reduceIte]
      refine fin_run trivial (hK _ ?_) <;> clear hK <;> clear K
      refine qa (ql ?_)
      refine hk_loop (ι := Nat) (fun i => ⟨59, [(1, .p (.bool false)), (2, .ptr 0 0), (5, .p (.list (il (thl n (T k))))), (6, .p (.nn [.list (il (thl n (T 0)))])), (7, .p (.list (il (thl n ((T k)))))), (8, .sl 1 0 (cml n (op m n) e ((thl n (T k)).take i) (thl n ((T k)))).length), (9, .p (.int .i64 i))], [.own [.p (.int .i64 n), .p (.list (il m))], .own (ol (cml n (op m n) e ((thl n (T k)).take i) (thl n ((T k)))))]⟩) (fun i => i ≤ (thl n (T k)).length) (fun i => (thl n (T k)).length - i) 0 (Nat.zero_le _) [0, 1] (by simp only [leq, leA, ev0, evA, evB, evP, fl, gp, tab, simprocAttr, reduceCtorEq, reduceIte, ll_takeL] <;> first | trivial | simp [cml, ol_nil]) fun i hi => ?_
      have hszi := hsz (T k) ((T k)) i hi
      refine qm (qm ?_)
      refine hk_region fun K hK => runs_eval tab_ok ?_
      simp only [ev0, evA, evB, evP, fl, gp, tab, simprocAttr, reduceCtorEq, reduceIte]
      refine fin_run trivial (hK _ ?_) <;> clear hK <;> clear K
      refine qa ?_
      refine hk_cond rfl (fun hC2 => ?_) (fun hC2 => ?_)
      · (try simp only [nhs] at hC2)
        have hlt : i < (thl n (T k)).length := by omega
        obtain ⟨x, x1, x2, x3⟩ := thl_get hlt
        refine qh (qa (qm (ql (qm ?_))))
        refine hk_region fun K hK => runs_eval tab_ok ?_
        simp only [ev0, evA, evB, evP, fl, gp, tab, simprocAttr, reduceCtorEq, reduceIte]
        refine fin_run trivial (hK _ ?_) <;> clear hK <;> clear K
        refine qa (ql ?_)
        refine hk_loop (ι := Nat) (fun j => ⟨59, [(1, .p (.bool false)), (2, .ptr 0 0), (5, .p (.list (il (thl n (T k))))), (6, .p (.nn [.list (il (thl n (T 0)))])), (7, .p (.list (il (thl n ((T k)))))), (8, .sl 1 0 (cml n (op m n) e ((thl n (T k)).take i) (thl n ((T k))) ++ cmr n (op m n) e x ((thl n ((T k))).take j)).length), (9, .p (.int .i64 i)), (10, .p (.int .i64 j))], [.own [.p (.int .i64 n), .p (.list (il m))], .own (ol (cml n (op m n) e ((thl n (T k)).take i) (thl n ((T k))) ++ cmr n (op m n) e x ((thl n ((T k))).take j)))]⟩) (fun j => j ≤ (thl n ((T k))).length) (fun j => (thl n ((T k))).length - j) 0 (Nat.zero_le _) [0, 1] (by simp only [leq, leA, ev0, evA, evB, evP, fl, gp, tab, simprocAttr, reduceCtorEq, reduceIte, ll_takeL] <;> first | trivial | simp [cmr]) fun j hj => ?_
        have hszj : (cml n (op m n) e ((thl n (T k)).take i) (thl n ((T k))) ++ cmr n (op m n) e x ((thl n ((T k))).take j)).length ≤ 3660 := by
          rw [List.length_append]
          have : (cmr n (op m n) e x ((thl n ((T k))).take j)).length ≤ 60 := by
            have := thl_le n ((T k))
            unfold cmr; rw [List.length_map, List.length_take]; omega
          omega
        refine qm (qm ?_)
        refine hk_region fun K hK => runs_eval tab_ok ?_
        simp only [ev0, evA, evB, evP, fl, gp, tab, simprocAttr, reduceCtorEq, reduceIte]
        refine fin_run trivial (hK _ ?_) <;> clear hK <;> clear K
        refine qa ?_
        refine hk_cond rfl (fun hC3 => ?_) (fun hC3 => ?_)
        · (try simp only [nhs] at hC3)
          have hjl : j < (thl n ((T k))).length := by omega
          obtain ⟨y, y1, y2, y3⟩ := thl_get hjl
          refine qh (qa (qm (ql ?_)))
          refine hk_draw2 mixed fun K hK => runs2_eval tab_ok ?_
          simp only [evD, ev0, evA, evB, evP, fl, gp, tab, simprocAttr, reduceCtorEq, reduceIte, il_get hlt, x3, il_get hjl, y3]
          refine fin2_stop ?_ (runs2_call (commutator_r h x1 y1) rfl rfl rfl rfl (by simp only [dstOk, Nat.reduceLT]) (by repeat (first | exact trivial | constructor)) (runs2_eval tab_ok ?_))
          · (first | exact trivial | omega | (simp only [In64] at *; omega) | (simp [In64] at *; omega) | (simp_all; done) | skip)
          simp only [evD, ev0, evA, evB, evP, fl, gp, tab, simprocAttr, reduceCtorEq, reduceIte, il_get hlt, x3, il_get hjl, y3]
          refine fin2_run ?_ (hK _ _ (by first | kernel_rfl | rfl) ?_) <;> clear hK <;> clear K
          · (first | exact trivial | omega | (simp only [In64] at *; omega) | (simp [In64] at *; omega) | (simp_all; done) | skip)
          refine qd (qa ?_)
          refine hk_region fun K hK => runs_eval tab_ok ?_
          simp only [ev0, evA, evB, evP, fl, gp, tab, simprocAttr, reduceCtorEq, reduceIte]
          refine fin_run ?_ (hK _ ?_) <;> clear hK <;> clear K
          · have hlq := thl_le n ((T k))
            simp only [In64]; omega
          refine qa ?_
          refine ⟨j + 1, [0, 2], by omega, by omega, ?_⟩
          rw [cmr_succ n (op m n) e x hjl, ← List.append_assoc, y3]
          simp only [leq, leA, ev0, evA, evB, evP, fl, gp, tab, simprocAttr, reduceCtorEq, reduceIte, ll_takeL] <;> first | trivial | omega | (simp only [List.length_append, List.length_cons, List.length_nil]; omega) | exact congrArg ol (List.take_of_length_le (by simp only [List.length_append, List.length_cons, List.length_nil]; omega)).symm
        · (try simp only [nhs] at hC3)
          have hjn : j = (thl n ((T k))).length := by omega
          rw [hjn, List.take_length]
          refine qj (qc (qc (qf (qd (qa ?_)))))
          refine hk_region fun K hK => runs_eval tab_ok ?_
          simp only [ev0, evA, evB, evP, fl, gp, tab, simprocAttr, reduceCtorEq, reduceIte]
          refine fin_run ?_ (hK _ ?_) <;> clear hK <;> clear K
          · (first | exact trivial | omega | (simp only [In64] at *; omega) | (simp [In64] at *; omega) | (simp_all; done) | skip)
          refine qa ?_
          refine ⟨i + 1, [0, 1], by omega, by omega, ?_⟩
          rw [cml_succ n (op m n) e (thl n ((T k))) hlt, x3]
          simp only [leq, leA, ev0, evA, evB, evP, fl, gp, tab, simprocAttr, reduceCtorEq, reduceIte, ll_takeL] <;> first | trivial | omega
      · (try simp only [nhs] at hC2)
        refine qj (qc (qc (qf (qa (qm ?_)))))
        have hin : i = (thl n (T k)).length := by omega
        rw [hin, List.take_length]
        rw [hin, List.take_length] at hszi
        refine hk_seal 8 1 rfl rfl ?_
        refine hk_region fun K hK => runs_eval tab_ok ?_
        simp only [ev0, evA, evB, evP, fl, gp, tab, simprocAttr, reduceCtorEq, reduceIte]
        refine fin_stop trivial (runs_call (span_c h (cml n (op m n) e (thl n (T k)) (thl n ((T k)))) (by omega) (cml_rng G) (T (k + 1)) (fun a ha => by rw [tst_cml]; exact hT k a ha)) rfl rfl rfl (by simp only [dstOk, Nat.reduceLT]) (by repeat (first | exact trivial | constructor)) (runs_eval tab_ok ?_))
        simp only [ev0, evA, evB, evP, fl, gp, tab, simprocAttr, reduceCtorEq, reduceIte]
        refine fin_run ?_ (hK _ ?_) <;> clear hK <;> clear K
        · (first | exact trivial | omega | (simp only [In64] at *; omega) | (simp [In64] at *; omega) | (simp_all; done) | skip)
        refine qa (qm (qm ?_))
        refine hk_region fun K hK => runs_eval tab_ok ?_
        simp only [ev0, evA, evB, evP, fl, gp, tab, simprocAttr, reduceCtorEq, reduceIte]
        refine fin_stop trivial (runs_call (ints_c (thl n (T k)) (thl n (T (k + 1))) (by omega)) rfl rfl rfl (by simp only [dstOk, Nat.reduceLT]) (by repeat (first | exact trivial | constructor)) (runs_eval tab_ok ?_))
        simp only [ev0, evA, evB, evP, fl, gp, tab, simprocAttr, reduceCtorEq, reduceIte]
        refine fin_run trivial (hK _ ?_) <;> clear hK <;> clear K
        refine qa ?_
        refine hk_cond rfl (fun hC4 => ?_) (fun hC4 => ?_)
        · (try simp only [nhs] at hC4)
          have hkK : k = K := (hS.at' hk).1 hC4
          refine qm ?_
          refine hk_region fun K hK => runs_eval tab_ok ?_
          simp only [ev0, evA, evB, evP, fl, gp, tab, simprocAttr, reduceCtorEq, reduceIte]
          refine fin_run trivial (hK _ ?_) <;> clear hK <;> clear K
          refine qa (qk (qb (qe (qb (qe ?_)))))
          simp only [Tryd.results16, enA, ev0, evA, evB, evP, fl, gp, tab, simprocAttr, reduceCtorEq, reduceIte]
          all_goals (rw [← hkK, hkz]; rfl)
        · (try simp only [nhs] at hC4)
          have hkK : k < K := by
            rcases Nat.lt_or_eq_of_le hk with h | h
            · exact h
            · exact absurd ((hS.at' hk).2 h) hC4
          have hs := cht_succ n T k
          refine qh (qa (qm ?_))
          refine hk_region fun K hK => runs_eval tab_ok ?_
          simp only [ev0, evA, evB, evP, fl, gp, tab, simprocAttr, reduceCtorEq, reduceIte]
          refine fin_run trivial (hK _ ?_) <;> clear hK <;> clear K
          refine qa ?_
          refine hk_region fun K hK => runs_eval tab_ok ?_
          simp only [ev0, evA, evB, evP, fl, gp, tab, simprocAttr, reduceCtorEq, reduceIte, ll_takeL, oll_ok, ll_snoc]
          refine fin_run ?_ (hK _ ?_) <;> clear hK <;> clear K
          · first | (simp [cellOk, PV.one]; done) | (simp [cellOk, PV.one]; omega)
          refine qd (qa ?_)
          refine ⟨k + 1, [0, 2], by omega, by omega, ?_⟩
          have hs0 : ll (cht n T (k + 1)) = [.list (il (thl n (T 0))), .list (il (thl n (T (k + 1))))] := by rw [hs, hkz]; rfl
          have hl0 := cht_len n T (k + 1)
          simp only [leq, leA, ev0, evA, evB, evP, fl, gp, tab, simprocAttr, reduceCtorEq, reduceIte, h1, cond_false] <;> first | trivial | omega | (rw [hs0, hl0, hkz]; exact ⟨rfl, rfl⟩)
  · rw [Bool.not_eq_true] at hk0
    simp only [hk0, cond_false]
    have hlen := cht_len n T k
    have hll := ll_length (cht n T k)
    refine hk_region fun K hK => runs_eval tab_ok ?_
    simp only [ev0, evA, evB, evP, fl, gp, tab, simprocAttr, reduceCtorEq, reduceIte]
    refine fin_run trivial (hK _ ?_) <;> clear hK <;> clear K
    refine qa (qm (qm ?_))
    refine hk_region fun K hK => runs_eval tab_ok ?_
    simp only [ev0, evA, evB, evP, fl, gp, tab, simprocAttr, reduceCtorEq, reduceIte]
    refine fin_run trivial (hK _ ?_) <;> clear hK <;> clear K
    refine qa ?_
    refine hk_cond rfl (fun hC1 => ?_) (fun hC1 => ?_)
    · cases hC1
    · (try simp only [nhs] at hC1)
      refine qh (qa (qm ?_))
      refine hk_region fun K hK => runs_eval tab_ok ?_
      simp only [ev0, evA, evB, evP, fl, gp, tab, simprocAttr, reduceCtorEq, reduceIte]
      refine fin_run trivial (hK _ ?_) <;> clear hK <;> clear K
      refine qa (qm (qm ?_))
      refine hk_own0 8 rfl ?_
      refine hk_region fun K hK => runs_eval tab_ok ?_
      simp only [ev0, evA, evB, evP, fl, gp, tab, simprocAttr, reduceCtorEq, reduceIte]
      refine fin_run trivial (hK _ ?_) <;> clear hK <;> clear K
      refine qa (ql ?_)
      refine hk_loop (ι := Nat) (fun i => ⟨59, [(1, .p (.bool false)), (2, .ptr 0 0), (5, .p (.list (il (thl n (T k))))), (6, .sl 1 0 (cht n T k).length), (7, .p (.list (il (thl n ((T k)))))), (8, .sl 2 0 (cml n (op m n) e ((thl n (T k)).take i) (thl n ((T k)))).length), (9, .p (.int .i64 i))], [.own [.p (.int .i64 n), .p (.list (il m))], .own (opl (ll (cht n T k))), .own (ol (cml n (op m n) e ((thl n (T k)).take i) (thl n ((T k)))))]⟩) (fun i => i ≤ (thl n (T k)).length) (fun i => (thl n (T k)).length - i) 0 (Nat.zero_le _) [0, 1, 2] (by simp only [leq, leA, ev0, evA, evB, evP, fl, gp, tab, simprocAttr, reduceCtorEq, reduceIte, ll_takeL] <;> first | trivial | simp [cml, ol_nil]) fun i hi => ?_
      have hszi := hsz (T k) ((T k)) i hi
      refine qm (qm ?_)
      refine hk_region fun K hK => runs_eval tab_ok ?_
      simp only [ev0, evA, evB, evP, fl, gp, tab, simprocAttr, reduceCtorEq, reduceIte]
      refine fin_run trivial (hK _ ?_) <;> clear hK <;> clear K
      refine qa ?_
      refine hk_cond rfl (fun hC2 => ?_) (fun hC2 => ?_)
      · (try simp only [nhs] at hC2)
        have hlt : i < (thl n (T k)).length := by omega
        obtain ⟨x, x1, x2, x3⟩ := thl_get hlt
        refine qh (qa (qm (ql (qm ?_))))
        refine hk_region fun K hK => runs_eval tab_ok ?_
        simp only [ev0, evA, evB, evP, fl, gp, tab, simprocAttr, reduceCtorEq, reduceIte]
        refine fin_run trivial (hK _ ?_) <;> clear hK <;> clear K
        refine qa (ql ?_)
        refine hk_loop (ι := Nat) (fun j => ⟨59, [(1, .p (.bool false)), (2, .ptr 0 0), (5, .p (.list (il (thl n (T k))))), (6, .sl 1 0 (cht n T k).length), (7, .p (.list (il (thl n ((T k)))))), (8, .sl 2 0 (cml n (op m n) e ((thl n (T k)).take i) (thl n ((T k))) ++ cmr n (op m n) e x ((thl n ((T k))).take j)).length), (9, .p (.int .i64 i)), (10, .p (.int .i64 j))], [.own [.p (.int .i64 n), .p (.list (il m))], .own (opl (ll (cht n T k))), .own (ol (cml n (op m n) e ((thl n (T k)).take i) (thl n ((T k))) ++ cmr n (op m n) e x ((thl n ((T k))).take j)))]⟩) (fun j => j ≤ (thl n ((T k))).length) (fun j => (thl n ((T k))).length - j) 0 (Nat.zero_le _) [0, 1, 2] (by simp only [leq, leA, ev0, evA, evB, evP, fl, gp, tab, simprocAttr, reduceCtorEq, reduceIte, ll_takeL] <;> first | trivial | simp [cmr]) fun j hj => ?_
        have hszj : (cml n (op m n) e ((thl n (T k)).take i) (thl n ((T k))) ++ cmr n (op m n) e x ((thl n ((T k))).take j)).length ≤ 3660 := by
          rw [List.length_append]
          have : (cmr n (op m n) e x ((thl n ((T k))).take j)).length ≤ 60 := by
            have := thl_le n ((T k))
            unfold cmr; rw [List.length_map, List.length_take]; omega
          omega
        refine qm (qm ?_)
        refine hk_region fun K hK => runs_eval tab_ok ?_
        simp only [ev0, evA, evB, evP, fl, gp, tab, simprocAttr, reduceCtorEq, reduceIte]
        refine fin_run trivial (hK _ ?_) <;> clear hK <;> clear K
        refine qa ?_
        refine hk_cond rfl (fun hC3 => ?_) (fun hC3 => ?_)
        · (try simp only [nhs] at hC3)
          have hjl : j < (thl n ((T k))).length := by omega
          obtain ⟨y, y1, y2, y3⟩ := thl_get hjl
          refine qh (qa (qm (ql ?_)))
          refine hk_draw2 mixed fun K hK => runs2_eval tab_ok ?_
          simp only [evD, ev0, evA, evB, evP, fl, gp, tab, simprocAttr, reduceCtorEq, reduceIte, il_get hlt, x3, il_get hjl, y3]
          refine fin2_stop ?_ (runs2_call (commutator_r h x1 y1) rfl rfl rfl rfl (by simp only [dstOk, Nat.reduceLT]) (by repeat (first | exact trivial | constructor)) (runs2_eval tab_ok ?_))
          · (first | exact trivial | omega | (simp only [In64] at *; omega) | (simp [In64] at *; omega) | (simp_all; done) | skip)
          simp only [evD, ev0, evA, evB, evP, fl, gp, tab, simprocAttr, reduceCtorEq, reduceIte, il_get hlt, x3, il_get hjl, y3]
          refine fin2_run ?_ (hK _ _ (by first | kernel_rfl | rfl) ?_) <;> clear hK <;> clear K
          · (first | exact trivial | omega | (simp only [In64] at *; omega) | (simp [In64] at *; omega) | (simp_all; done) | skip)
          refine qd (qa ?_)
          refine hk_region fun K hK => runs_eval tab_ok ?_
          simp only [ev0, evA, evB, evP, fl, gp, tab, simprocAttr, reduceCtorEq, reduceIte]
          refine fin_run ?_ (hK _ ?_) <;> clear hK <;> clear K
          · have hlq := thl_le n ((T k))
            simp only [In64]; omega
          refine qa ?_
          refine ⟨j + 1, [0, 1, 3], by omega, by omega, ?_⟩
          rw [cmr_succ n (op m n) e x hjl, ← List.append_assoc, y3]
          simp only [leq, leA, ev0, evA, evB, evP, fl, gp, tab, simprocAttr, reduceCtorEq, reduceIte, ll_takeL] <;> first | trivial | omega | (simp only [List.length_append, List.length_cons, List.length_nil]; omega) | exact congrArg ol (List.take_of_length_le (by simp only [List.length_append, List.length_cons, List.length_nil]; omega)).symm
        · (try simp only [nhs] at hC3)
          have hjn : j = (thl n ((T k))).length := by omega
          rw [hjn, List.take_length]
          refine qj (qc (qc (qf (qd (qa ?_)))))
          refine hk_region fun K hK => runs_eval tab_ok ?_
          simp only [ev0, evA, evB, evP, fl, gp, tab, simprocAttr, reduceCtorEq, reduceIte]
          refine fin_run ?_ (hK _ ?_) <;> clear hK <;> clear K
          · (first | exact trivial | omega | (simp only [In64] at *; omega) | (simp [In64] at *; omega) | (simp_all; done) | skip)
          refine qa ?_
          refine ⟨i + 1, [0, 1, 2], by omega, by omega, ?_⟩
          rw [cml_succ n (op m n) e (thl n ((T k))) hlt, x3]
          simp only [leq, leA, ev0, evA, evB, evP, fl, gp, tab, simprocAttr, reduceCtorEq, reduceIte, ll_takeL] <;> first | trivial | omega
      · (try simp only [nhs] at hC2)
        refine qj (qc (qc (qf (qa (qm ?_)))))
        have hin : i = (thl n (T k)).length := by omega
        rw [hin, List.take_length]
        rw [hin, List.take_length] at hszi
        refine hk_seal 8 2 rfl rfl ?_
        refine hk_region fun K hK => runs_eval tab_ok ?_
        simp only [ev0, evA, evB, evP, fl, gp, tab, simprocAttr, reduceCtorEq, reduceIte]
        refine fin_stop trivial (runs_call (span_c h (cml n (op m n) e (thl n (T k)) (thl n ((T k)))) (by omega) (cml_rng G) (T (k + 1)) (fun a ha => by rw [tst_cml]; exact hT k a ha)) rfl rfl rfl (by simp only [dstOk, Nat.reduceLT]) (by repeat (first | exact trivial | constructor)) (runs_eval tab_ok ?_))
        simp only [ev0, evA, evB, evP, fl, gp, tab, simprocAttr, reduceCtorEq, reduceIte]
        refine fin_run ?_ (hK _ ?_) <;> clear hK <;> clear K
        · (first | exact trivial | omega | (simp only [In64] at *; omega) | (simp [In64] at *; omega) | (simp_all; done) | skip)
        refine qa (qm (qm ?_))
        refine hk_region fun K hK => runs_eval tab_ok ?_
        simp only [ev0, evA, evB, evP, fl, gp, tab, simprocAttr, reduceCtorEq, reduceIte]
        refine fin_stop trivial (runs_call (ints_c (thl n (T k)) (thl n (T (k + 1))) (by omega)) rfl rfl rfl (by simp only [dstOk, Nat.reduceLT]) (by repeat (first | exact trivial | constructor)) (runs_eval tab_ok ?_))
        simp only [ev0, evA, evB, evP, fl, gp, tab, simprocAttr, reduceCtorEq, reduceIte]
        refine fin_run trivial (hK _ ?_) <;> clear hK <;> clear K
        refine qa ?_
        refine hk_cond rfl (fun hC4 => ?_) (fun hC4 => ?_)
        · (try simp only [nhs] at hC4)
          have hkK : k = K := (hS.at' hk).1 hC4
          refine qm ?_
          rw [← ll_length (cht n T k)]
          refine hk_sealp 6 1 (ll_all _) rfl rfl ?_
          refine hk_region fun K hK => runs_eval tab_ok ?_
          simp only [ev0, evA, evB, evP, fl, gp, tab, simprocAttr, reduceCtorEq, reduceIte]
          refine fin_run trivial (hK _ ?_) <;> clear hK <;> clear K
          refine qa (qk (qb (qe (qb (qe ?_)))))
          simp only [Tryd.results16, enA, ev0, evA, evB, evP, fl, gp, tab, simprocAttr, reduceCtorEq, reduceIte]
          all_goals (rw [← hkK])
        · (try simp only [nhs] at hC4)
          have hkK : k < K := by
            rcases Nat.lt_or_eq_of_le hk with h | h
            · exact h
            · exact absurd ((hS.at' hk).2 h) hC4
          have hs := cht_succ n T k
          refine qh (qa (qm ?_))
          refine hk_region fun K hK => runs_eval tab_ok ?_
          simp only [ev0, evA, evB, evP, fl, gp, tab, simprocAttr, reduceCtorEq, reduceIte]
          refine fin_run trivial (hK _ ?_) <;> clear hK <;> clear K
          refine qa ?_
          refine hk_region fun K hK => runs_eval tab_ok ?_
          simp only [ev0, evA, evB, evP, fl, gp, tab, simprocAttr, reduceCtorEq, reduceIte, ll_takeL, oll_ok, ll_snoc]
          refine fin_run ?_ (hK _ ?_) <;> clear hK <;> clear K
          · first | (simp [cellOk, PV.one]; done) | (simp [cellOk, PV.one]; omega)
          refine qd (qa ?_)
          refine ⟨k + 1, [0, 3], by omega, by omega, ?_⟩
          rw [hs]
          simp only [leq, leA, ev0, evA, evB, evP, fl, gp, tab, simprocAttr, reduceCtorEq, reduceIte, h1, cond_false, ll_takeL, ll_snoc, ll_takeS] <;> first | trivial | omega | (simp [ll]; done)

set_option maxHeartbeats 4000000 in
theorem falling_t (h : GT n m n e) (T : Nat → Nat → Bool) (K : Nat) (hK : K ≤ n) (hS : Stp n T K) (h0 : T 0 = fun _ => true) (hT : ∀ k a, a < n → (T (k + 1) a = true ↔ Gen n (op m n) e (dnp n (op m n) e (T k) fun _ => true) a)) :
    FnC Tryd.prog 16 [gp n m, .bool true] (.list (ll (cht n T K))) := by
  have G := h.2.2
  have hb := h.2.1.big
  have h1 : ∀ k : Nat, ((k + 1) == 0) = false := fun k => rfl
  have hsz : ∀ (p r : Nat → Bool) i, i ≤ (thl n p).length → (cml n (op m n) e ((thl n p).take i) (thl n r)).length ≤ 3600 := fun p r i hi => by
    have hlp := thl_le n p
    have hlr := thl_le n r
    rw [cml_len, List.length_take]
    exact Nat.mul_le_mul (by omega : min i (thl n p).length ≤ 60) (by omega : (thl n r).length ≤ 60)
  refine fnc_of tab_ok Tryd.func16 rfl (by kernel_rfl) (by rw [Tryd.ntmps16]; exact Nat.le_add_left 2 _) ?_; rw [Tryd.ntmps16]
  refine qm ?_
  refine hk_region fun K hK => runs_eval tab_ok ?_
  simp only [ev0, evA, evB, evP, fl, gp, tab, simprocAttr, reduceCtorEq, reduceIte]
  refine fin_run ?_ (hK _ ?_) <;> clear hK <;> clear K
  · (first | exact trivial | omega | (simp only [In64] at *; omega) | (simp [In64] at *; omega) | (simp_all; done) | skip)
  refine qa (qm ?_)
  refine hk_region fun K hK => runs_eval tab_ok ?_
  simp only [ev0, evA, evB, evP, fl, gp, tab, simprocAttr, reduceCtorEq, reduceIte, ← h0]
  refine fin_stop trivial (runs_call (stays_r n (by omega)) rfl rfl rfl (by simp only [dstOk, Nat.reduceLT]) (by repeat (first | exact trivial | constructor)) (runs_eval tab_ok ?_))
  simp only [ev0, evA, evB, evP, fl, gp, tab, simprocAttr, reduceCtorEq, reduceIte, ← h0]
  refine fin_run ?_ (hK _ ?_) <;> clear hK <;> clear K
  · (first | exact trivial | omega | (simp only [In64] at *; omega) | (simp [In64] at *; omega) | (simp_all; done) | skip)
  refine qa (qm ?_)
  refine hk_region fun K hK => runs_eval tab_ok ?_
  simp only [ev0, evA, evB, evP, fl, gp, tab, simprocAttr, reduceCtorEq, reduceIte]
  refine fin_run ?_ (hK _ ?_) <;> clear hK <;> clear K
  · (first | exact trivial | omega | (simp only [In64] at *; omega) | (simp [In64] at *; omega) | (simp_all; done) | skip)
  refine qa (ql ?_)
  refine hk_loop (ι := Nat) (fun k => ⟨59, [(1, .p (.bool true)), (2, .ptr 0 0), (5, .p (.list (il (thl n (T k))))), (6, bif k == 0 then .p (.nn [.list (il (thl n (T 0)))]) else .sl 1 0 (cht n T k).length)], bif k == 0 then [.own [.p (.int .i64 n), .p (.list (il m))]] else [.own [.p (.int .i64 n), .p (.list (il m))], .own (opl (ll (cht n T k)))]⟩) (fun k => k ≤ K) (fun k => K - k) 0 (Nat.zero_le _) [0] (by simp only [leq, leA, ev0, evA, evB, evP, fl, gp, tab, simprocAttr, reduceCtorEq, reduceIte, beq_self_eq_true, cond_true] <;> first | trivial | (simp; done)) fun k hk => ?_
  have hlT := thl_le n (T k)
  have hlT1 := thl_le n (T (k + 1))
  refine ql (qm ?_)
  by_cases hk0 : (k == 0) = true
  · simp only [hk0, cond_true]
    have hkz : k = 0 := by simpa using hk0
    refine hk_region fun K hK => runs_eval tab_ok ?_
    simp only [ev0, evA, evB, evP, fl, gp, tab, simprocAttr, reduceCtorEq, reduceIte]
    refine fin_run trivial (hK _ ?_) <;> clear hK <;> clear K
    refine qa (qm (qm ?_))
    refine hk_region fun K hK => runs_eval tab_ok ?_
    simp only [ev0, evA, evB, evP, fl, gp, tab, simprocAttr, reduceCtorEq, reduceIte]
    refine fin_run trivial (hK _ ?_) <;> clear hK <;> clear K
    refine qa ?_
    refine hk_cond rfl (fun hC1 => ?_) (fun hC1 => ?_)
    · (try simp only [nhs] at hC1)
      refine hk_region fun K hK => runs_eval tab_ok ?_
      simp only [ev0, evA, evB, evP, fl, gp, tab, simprocAttr, reduceCtorEq, reduceIte]
      refine fin_stop trivial (runs_call (stays_r n (by omega)) rfl rfl rfl (by simp only [dstOk, Nat.reduceLT]) (by repeat (first | exact trivial | constructor)) (runs_eval tab_ok ?_))
      simp only [ev0, evA, evB, evP, fl, gp, tab, simprocAttr, reduceCtorEq, reduceIte]
      refine fin_run ?_ (hK _ ?_) <;> clear hK <;> clear K
      · (first | exact trivial | omega | (simp only [In64] at *; omega) | (simp [In64] at *; omega) | (simp_all; done) | skip)
      refine qa (qm ?_)
      refine hk_region fun K hK => runs_eval tab_ok ?_
      simp only [ev0, evA, evB, evP, fl, gp, tab, simprocAttr, reduceCtorEq, reduceIte]
      refine fin_run trivial (hK _ ?_) <;> clear hK <;> clear K
      refine qa (qm (qm ?_))
      refine hk_own0 8 rfl ?_
      refine hk_region fun K hK => runs_eval tab_ok ?_
      simp only [ev0, evA, evB, evP, fl, gp, tab, simprocAttr, reduceCtorEq, reduceIte]
      refine fin_run trivial (hK _ ?_) <;> clear hK <;> clear K
      refine qa (ql ?_)
      refine hk_loop (ι := Nat) (fun i => ⟨59, [(1, .p (.bool true)), (2, .ptr 0 0), (5, .p (.list (il (thl n (T k))))), (6, .p (.nn [.list (il (thl n (T 0)))])), (7, .p (.list (il (thl n fun _ => true)))), (8, .sl 1 0 (cml n (op m n) e ((thl n (T k)).take i) (thl n fun _ => true)).length), (9, .p (.int .i64 i))], [.own [.p (.int .i64 n), .p (.list (il m))], .own (ol (cml n (op m n) e ((thl n (T k)).take i) (thl n fun _ => true)))]⟩) (fun i => i ≤ (thl n (T k)).length) (fun i => (thl n (T k)).length - i) 0 (Nat.zero_le _) [0, 1] (by simp only [leq, leA, ev0, evA, evB, evP, fl, gp, tab, simprocAttr, reduceCtorEq, reduceIte, ll_takeL] <;> first | trivial | simp [cml, ol_nil]) fun i hi => ?_
      have hszi := hsz (T k) (fun _ => true) i hi
      refine qm (qm ?_)
      refine hk_region fun K hK => runs_eval tab_ok ?_
      simp only [ev0, evA, evB, evP, fl, gp, tab, simprocAttr, reduceCtorEq, reduceIte]
      refine fin_run trivial (hK _ ?_) <;> clear hK <;> clear K
      refine qa ?_
      refine hk_cond rfl (fun hC2 => ?_) (fun hC2 => ?_)
      · (try simp only [nhs] at hC2)
        have hlt : i < (thl n (T k)).length := by omega
        obtain ⟨x, x1, x2, x3⟩ := thl_get hlt
        refine qh (qa (qm (ql (qm ?_))))
        refine hk_region fun K hK => runs_eval tab_ok ?_
        simp only [ev0, evA, evB, evP, fl, gp, tab, simprocAttr, reduceCtorEq, reduceIte]
        refine fin_run trivial (hK _ ?_) <;> clear hK <;> clear K
        refine qa (ql ?_)
        refine hk_loop (ι := Nat) (fun j => ⟨59, [(1, .p (.bool true)), (2, .ptr 0 0), (5, .p (.list (il (thl n (T k))))), (6, .p (.nn [.list (il (thl n (T 0)))])), (7, .p (.list (il (thl n fun _ => true)))), (8, .sl 1 0 (cml n (op m n) e ((thl n (T k)).take i) (thl n fun _ => true) ++ cmr n (op m n) e x ((thl n fun _ => true).take j)).length), (9, .p (.int .i64 i)), (10, .p (.int .i64 j))], [.own [.p (.int .i64 n), .p (.list (il m))], .own (ol (cml n (op m n) e ((thl n (T k)).take i) (thl n fun _ => true) ++ cmr n (op m n) e x ((thl n fun _ => true).take j)))]⟩) (fun j => j ≤ (thl n fun _ => true).length) (fun j => (thl n fun _ => true).length - j) 0 (Nat.zero_le _) [0, 1] (by simp only [leq, leA, ev0, evA, evB, evP, fl, gp, tab, simprocAttr, reduceCtorEq, reduceIte, ll_takeL] <;> first | trivial | simp [cmr]) fun j hj => ?_
        have hszj : (cml n (op m n) e ((thl n (T k)).take i) (thl n fun _ => true) ++ cmr n (op m n) e x ((thl n fun _ => true).take j)).length ≤ 3660 := by
          rw [List.length_append]
          have : (cmr n (op m n) e x ((thl n fun _ => true).take j)).length ≤ 60 := by
            have := thl_le n (fun _ => true)
            unfold cmr; rw [List.length_map, List.length_take]; omega
          omega
        refine qm (qm ?_)
        refine hk_region fun K hK => runs_eval tab_ok ?_
        simp only [ev0, evA, evB, evP, fl, gp, tab, simprocAttr, reduceCtorEq, reduceIte]
        refine fin_run trivial (hK _ ?_) <;> clear hK <;> clear K
        refine qa ?_
        refine hk_cond rfl (fun hC3 => ?_) (fun hC3 => ?_)
        · (try simp only [nhs] at hC3)
          have hjl : j < (thl n fun _ => true).length := by omega
          obtain ⟨y, y1, y2, y3⟩ := thl_get hjl
          refine qh (qa (qm (ql ?_)))
          refine hk_draw2 mixed fun K hK => runs2_eval tab_ok ?_
          simp only [evD, ev0, evA, evB, evP, fl, gp, tab, simprocAttr, reduceCtorEq, reduceIte, il_get hlt, x3, il_get hjl, y3]
          refine fin2_stop ?_ (runs2_call (commutator_r h x1 y1) rfl rfl rfl rfl (by simp only [dstOk, Nat.reduceLT]) (by repeat (first | exact trivial | constructor)) (runs2_eval tab_ok ?_))
          · (first | exact trivial | omega | (simp only [In64] at *; omega) | (simp [In64] at *; omega) | (simp_all; done) | skip)
          simp only [evD, ev0, evA, evB, evP, fl, gp, tab, simprocAttr, reduceCtorEq, reduceIte, il_get hlt, x3, il_get hjl, y3]
          refine fin2_run ?_ (hK _ _ (by first | kernel_rfl | rfl) ?_) <;> clear hK <;> clear K
          · (first | exact trivial | omega | (simp only [In64] at *; omega) | (simp [In64] at *; omega) | (simp_all; done) | skip)
          refine qd (qa ?_)
          refine hk_region fun K hK => runs_eval tab_ok ?_
          simp only [ev0, evA, evB, evP, fl, gp, tab, simprocAttr, reduceCtorEq, reduceIte]
          refine fin_run ?_ (hK _ ?_) <;> clear hK <;> clear K
          · have hlq := thl_le n (fun _ => true)
            simp only [In64]; omega
          refine qa ?_
          refine ⟨j + 1, [0, 2], by omega, by omega, ?_⟩
          rw [cmr_succ n (op m n) e x hjl, ← List.append_assoc, y3]
          simp only [leq, leA, ev0, evA, evB, evP, fl, gp, tab, simprocAttr, reduceCtorEq, reduceIte, ll_takeL] <;> first | trivial | omega | (simp only [List.length_append, List.length_cons, List.length_nil]; omega) | exact congrArg ol (List.take_of_length_le (by simp only [List.length_append, List.length_cons, List.length_nil]; omega)).symm
        · (try simp only [nhs] at hC3)
          have hjn : j = (thl n fun _ => true).length := by omega
          rw [hjn, List.take_length]
          refine qj (qc (qc (qf (qd (qa ?_)))))
          refine hk_region fun K hK => runs_eval tab_ok ?_
          simp only [ev0, evA, evB, evP, fl, gp, tab, simprocAttr, reduceCtorEq, reduceIte]
          refine fin_run ?_ (hK _ ?_) <;> clear hK <;> clear K
          · (first | exact trivial | omega | (simp only [In64] at *; omega) | (simp [In64] at *; omega) | (simp_all; done) | skip)
          refine qa ?_
          refine ⟨i + 1, [0, 1], by omega, by omega, ?_⟩
          rw [cml_succ n (op m n) e (thl n fun _ => true) hlt, x3]
          simp only [leq, leA, ev0, evA, evB, evP, fl, gp, tab, simprocAttr, reduceCtorEq, reduceIte, ll_takeL] <;> first | trivial | omega
      · (try simp only [nhs] at hC2)
        refine qj (qc (qc (qf (qa (qm ?_)))))
        have hin : i = (thl n (T k)).length := by omega
        rw [hin, List.take_length]
        rw [hin, List.take_length] at hszi
        refine hk_seal 8 1 rfl rfl ?_
        refine hk_region fun K hK => runs_eval tab_ok ?_
        simp only [ev0, evA, evB, evP, fl, gp, tab, simprocAttr, reduceCtorEq, reduceIte]
        refine fin_stop trivial (runs_call (span_c h (cml n (op m n) e (thl n (T k)) (thl n fun _ => true)) (by omega) (cml_rng G) (T (k + 1)) (fun a ha => by rw [tst_cml]; exact hT k a ha)) rfl rfl rfl (by simp only [dstOk, Nat.reduceLT]) (by repeat (first | exact trivial | constructor)) (runs_eval tab_ok ?_))
        simp only [ev0, evA, evB, evP, fl, gp, tab, simprocAttr, reduceCtorEq, reduceIte]
        refine fin_run ?_ (hK _ ?_) <;> clear hK <;> clear K
        · (first | exact trivial | omega | (simp only [In64] at *; omega) | (simp [In64] at *; omega) | (simp_all; done) | skip)
        refine qa (qm (qm ?_))
        refine hk_region fun K hK => runs_eval tab_ok ?_
        simp only [ev0, evA, evB, evP, fl, gp, tab, simprocAttr, reduceCtorEq, reduceIte]
        refine fin_stop trivial (runs_call (ints_c (thl n (T k)) (thl n (T (k + 1))) (by omega)) rfl rfl rfl (by simp only [dstOk, Nat.reduceLT]) (by repeat (first | exact trivial | constructor)) (runs_eval tab_ok ?_))
        simp only [ev0, evA, evB, evP, fl, gp, tab, simprocAttr, reduceCtorEq, reduceIte]
        refine fin_run trivial (hK _ ?_) <;> clear hK <;> clear K
        refine qa ?_
        refine hk_cond rfl (fun hC4 => ?_) (fun hC4 => ?_)
        · (try simp only [nhs] at hC4)
          have hkK : k = K := (hS.at' hk).1 hC4
          refine qm ?_
          refine hk_region fun K hK => runs_eval tab_ok ?_
          simp only [ev0, evA, evB, evP, fl, gp, tab, simprocAttr, reduceCtorEq, reduceIte]
          refine fin_run trivial (hK _ ?_) <;> clear hK <;> clear K
          refine qa (qk (qb (qe (qb (qe ?_)))))
          simp only [Tryd.results16, enA, ev0, evA, evB, evP, fl, gp, tab, simprocAttr, reduceCtorEq, reduceIte]
          all_goals (rw [← hkK, hkz]; rfl)
        · (try simp only [nhs] at hC4)
          have hkK : k < K := by
            rcases Nat.lt_or_eq_of_le hk with h | h
            · exact h
            · exact absurd ((hS.at' hk).2 h) hC4
          have hs := cht_succ n T k
          refine qh (qa (qm ?_))
          refine hk_region fun K hK => runs_eval tab_ok ?_
          simp only [ev0, evA, evB, evP, fl, gp, tab, simprocAttr, reduceCtorEq, reduceIte]
          refine fin_run trivial (hK _ ?_) <;> clear hK <;> clear K
          refine qa ?_
          refine hk_region fun K hK => runs_eval tab_ok ?_
          simp only [ev0, evA, evB, evP, fl, gp, tab, simprocAttr, reduceCtorEq, reduceIte, ll_takeL, oll_ok, ll_snoc]
          refine fin_run ?_ (hK _ ?_) <;> clear hK <;> clear K
          · first | (simp [cellOk, PV.one]; done) | (simp [cellOk, PV.one]; omega)
          refine qd (qa ?_)
          refine ⟨k + 1, [0, 2], by omega, by omega, ?_⟩
          have hs0 : ll (cht n T (k + 1)) = [.list (il (thl n (T 0))), .list (il (thl n (T (k + 1))))] := by rw [hs, hkz]; rfl
          have hl0 := cht_len n T (k + 1)
          simp only [leq, leA, ev0, evA, evB, evP, fl, gp, tab, simprocAttr, reduceCtorEq, reduceIte, h1, cond_false] <;> first | trivial | omega | (rw [hs0, hl0, hkz]; exact ⟨rfl, rfl⟩)
    · cases hC1
  · rw [Bool.not_eq_true] at hk0
    simp only [hk0, cond_false]
    have hlen := cht_len n T k
    have hll := ll_length (cht n T k)
    refine hk_region fun K hK => runs_eval tab_ok ?_
    simp only [ev0, evA, evB, evP, fl, gp, tab, simprocAttr, reduceCtorEq, reduceIte]
    refine fin_run trivial (hK _ ?_) <;> clear hK <;> clear K
    refine qa (qm (qm ?_))
    refine hk_region fun K hK => runs_eval tab_ok ?_
    simp only [ev0, evA, evB, evP, fl, gp, tab, simprocAttr, reduceCtorEq, reduceIte]
    refine fin_run trivial (hK _ ?_) <;> clear hK <;> clear K
    refine qa ?_
    refine hk_cond rfl (fun hC1 => ?_) (fun hC1 => ?_)
    · (try simp only [nhs] at hC1)
      refine hk_region fun K hK => runs_eval tab_ok ?_
      simp only [ev0, evA, evB, evP, fl, gp, tab, simprocAttr, reduceCtorEq, reduceIte]
      refine fin_stop trivial (runs_call (stays_r n (by omega)) rfl rfl rfl (by simp only [dstOk, Nat.reduceLT]) (by repeat (first | exact trivial | constructor)) (runs_eval tab_ok ?_))
      simp only [ev0, evA, evB, evP, fl, gp, tab, simprocAttr, reduceCtorEq, reduceIte]
      refine fin_run ?_ (hK _ ?_) <;> clear hK <;> clear K
      · (first | exact trivial | omega | (simp only [In64] at *; omega) | (simp [In64] at *; omega) | (simp_all; done) | skip)
      refine qa (qm ?_)
      refine hk_region fun K hK => runs_eval tab_ok ?_
      simp only [ev0, evA, evB, evP, fl, gp, tab, simprocAttr, reduceCtorEq, reduceIte]
      refine fin_run trivial (hK _ ?_) <;> clear hK <;> clear K
      refine qa (qm (qm ?_))
      refine hk_own0 8 rfl ?_
      refine hk_region fun K hK => runs_eval tab_ok ?_
      simp only [ev0, evA, evB, evP, fl, gp, tab, simprocAttr, reduceCtorEq, reduceIte]
      refine fin_run trivial (hK _ ?_) <;> clear hK <;> clear K
      refine qa (ql ?_)
      refine hk_loop (ι := Nat) (fun i => ⟨59, [(1, .p (.bool true)), (2, .ptr 0 0), (5, .p (.list (il (thl n (T k))))), (6, .sl 1 0 (cht n T k).length), (7, .p (.list (il (thl n fun _ => true)))), (8, .sl 2 0 (cml n (op m n) e ((thl n (T k)).take i) (thl n fun _ => true)).length), (9, .p (.int .i64 i))], [.own [.p (.int .i64 n), .p (.list (il m))], .own (opl (ll (cht n T k))), .own (ol (cml n (op m n) e ((thl n (T k)).take i) (thl n fun _ => true)))]⟩) (fun i => i ≤ (thl n (T k)).length) (fun i => (thl n (T k)).length - i) 0 (Nat.zero_le _) [0, 1, 2] (by simp only [leq, leA, ev0, evA, evB, evP, fl, gp, tab, simprocAttr, reduceCtorEq, reduceIte, ll_takeL] <;> first | trivial | simp [cml, ol_nil]) fun i hi => ?_
      have hszi := hsz (T k) (fun _ => true) i hi
      refine qm (qm ?_)
      refine hk_region fun K hK => runs_eval tab_ok ?_
      simp only [ev0, evA, evB, evP, fl, gp, tab, simprocAttr, reduceCtorEq, reduceIte]
      refine fin_run trivial (hK _ ?_) <;> clear hK <;> clear K
      refine qa ?_
      refine hk_cond rfl (fun hC2 => ?_) (fun hC2 => ?_)
      · (try simp only [nhs] at hC2)
        have hlt : i < (thl n (T k)).length := by omega
        obtain ⟨x, x1, x2, x3⟩ := thl_get hlt
        refine qh (qa (qm (ql (qm ?_))))
        refine hk_region fun K hK => runs_eval tab_ok ?_
        simp only [ev0, evA, evB, evP, fl, gp, tab, simprocAttr, reduceCtorEq, reduceIte]
        refine fin_run trivial (hK _ ?_) <;> clear hK <;> clear K
        refine qa (ql ?_)
        refine hk_loop (ι := Nat) (fun j => ⟨59, [(1, .p (.bool true)), (2, .ptr 0 0), (5, .p (.list (il (thl n (T k))))), (6, .sl 1 0 (cht n T k).length), (7, .p (.list (il (thl n fun _ => true)))), (8, .sl 2 0 (cml n (op m n) e ((thl n (T k)).take i) (thl n fun _ => true) ++ cmr n (op m n) e x ((thl n fun _ => true).take j)).length), (9, .p (.int .i64 i)), (10, .p (.int .i64 j))], [.own [.p (.int .i64 n), .p (.list (il m))], .own (opl (ll (cht n T k))), .own (ol (cml n (op m n) e ((thl n (T k)).take i) (thl n fun _ => true) ++ cmr n (op m n) e x ((thl n fun _ => true).take j)))]⟩) (fun j => j ≤ (thl n fun _ => true).length) (fun j => (thl n fun _ => true).length - j) 0 (Nat.zero_le _) [0, 1, 2] (by simp only [leq, leA, ev0, evA, evB, evP, fl, gp, tab, simprocAttr, reduceCtorEq, reduceIte, ll_takeL] <;> first | trivial | simp [cmr]) fun j hj => ?_
        have hszj : (cml n (op m n) e ((thl n (T k)).take i) (thl n fun _ => true) ++ cmr n (op m n) e x ((thl n fun _ => true).take j)).length ≤ 3660 := by
          rw [List.length_append]
          have : (cmr n (op m n) e x ((thl n fun _ => true).take j)).length ≤ 60 := by
            have := thl_le n (fun _ => true)
            unfold cmr; rw [List.length_map, List.length_take]; omega
          omega
        refine qm (qm ?_)
        refine hk_region fun K hK => runs_eval tab_ok ?_
        simp only [ev0, evA, evB, evP, fl, gp, tab, simprocAttr, reduceCtorEq, reduceIte]
        refine fin_run trivial (hK _ ?_) <;> clear hK <;> clear K
        refine qa ?_
        refine hk_cond rfl (fun hC3 => ?_) (fun hC3 => ?_)
        · (try simp only [nhs] at hC3)
          have hjl : j < (thl n fun _ => true).length := by omega
          obtain ⟨y, y1, y2, y3⟩ := thl_get hjl
          refine qh (qa (qm (ql ?_)))
          refine hk_draw2 mixed fun K hK => runs2_eval tab_ok ?_
          simp only [evD, ev0, evA, evB, evP, fl, gp, tab, simprocAttr, reduceCtorEq, reduceIte, il_get hlt, x3, il_get hjl, y3]
          refine fin2_stop ?_ (runs2_call (commutator_r h x1 y1) rfl rfl rfl rfl (by simp only [dstOk, Nat.reduceLT]) (by repeat (first | exact trivial | constructor)) (runs2_eval tab_ok ?_))
          · (first | exact trivial | omega | (simp only [In64] at *; omega) | (simp [In64] at *; omega) | (simp_all; done) | skip)
          simp only [evD, ev0, evA, evB, evP, fl, gp, tab, simprocAttr, reduceCtorEq, reduceIte, il_get hlt, x3, il_get hjl, y3]
          refine fin2_run ?_ (hK _ _ (by first | kernel_rfl | rfl) ?_) <;> clear hK <;> clear K
          · (first | exact trivial | omega | (simp only [In64] at *; omega) | (simp [In64] at *; omega) | (simp_all; done) | skip)
          refine qd (qa ?_)
          refine hk_region fun K hK => runs_eval tab_ok ?_
          simp only [ev0, evA, evB, evP, fl, gp, tab, simprocAttr, reduceCtorEq, reduceIte]
          refine fin_run ?_ (hK _ ?_) <;> clear hK <;> clear K
          · have hlq := thl_le n (fun _ => true)
            simp only [In64]; omega
          refine qa ?_
          refine ⟨j + 1, [0, 1, 3], by omega, by omega, ?_⟩
          rw [cmr_succ n (op m n) e x hjl, ← List.append_assoc, y3]
          simp only [leq, leA, ev0, evA, evB, evP, fl, gp, tab, simprocAttr, reduceCtorEq, reduceIte, ll_takeL] <;> first | trivial | omega | (simp only [List.length_append, List.length_cons, List.length_nil]; omega) | exact congrArg ol (List.take_of_length_le (by simp only [List.length_append, List.length_cons, List.length_nil]; omega)).symm
        · (try simp only [nhs] at hC3)
          have hjn : j = (thl n fun _ => true).length := by omega
          rw [hjn, List.take_length]
          refine qj (qc (qc (qf (qd (qa ?_)))))
          refine hk_region fun K hK => runs_eval tab_ok ?_
          simp only [ev0, evA, evB, evP, fl, gp, tab, simprocAttr, reduceCtorEq, reduceIte]
          refine fin_run ?_ (hK _ ?_) <;> clear hK <;> clear K
          · (first | exact trivial | omega | (simp only [In64] at *; omega) | (simp [In64] at *; omega) | (simp_all; done) | skip)
          refine qa ?_
          refine ⟨i + 1, [0, 1, 2], by omega, by omega, ?_⟩
          rw [cml_succ n (op m n) e (thl n fun _ => true) hlt, x3]
          simp only [leq, leA, ev0, evA, evB, evP, fl, gp, tab, simprocAttr, reduceCtorEq, reduceIte, ll_takeL] <;> first | trivial | omega
      · (try simp only [nhs] at hC2)
        refine qj (qc (qc (qf (qa (qm ?_)))))
        have hin : i = (thl n (T k)).length := by omega
        rw [hin, List.take_length]
        rw [hin, List.take_length] at hszi
        refine hk_seal 8 2 rfl rfl ?_
        refine hk_region fun K hK => runs_eval tab_ok ?_
        simp only [ev0, evA, evB, evP, fl, gp, tab, simprocAttr, reduceCtorEq, reduceIte]
        refine fin_stop trivial (runs_call (span_c h (cml n (op m n) e (thl n (T k)) (thl n fun _ => true)) (by omega) (cml_rng G) (T (k + 1)) (fun a ha => by rw [tst_cml]; exact hT k a ha)) rfl rfl rfl (by simp only [dstOk, Nat.reduceLT]) (by repeat (first | exact trivial | constructor)) (runs_eval tab_ok ?_))
        simp only [ev0, evA, evB, evP, fl, gp, tab, simprocAttr, reduceCtorEq, reduceIte]
        refine fin_run ?_ (hK _ ?_) <;> clear hK <;> clear K
        · (first | exact trivial | omega | (simp only [In64] at *; omega) | (simp [In64] at *; omega) | (simp_all; done) | skip)
        refine qa (qm (qm ?_))
        refine hk_region fun K hK => runs_eval tab_ok ?_
        simp only [ev0, evA, evB, evP, fl, gp, tab, simprocAttr, reduceCtorEq, reduceIte]
        refine fin_stop trivial (runs_call (ints_c (thl n (T k)) (thl n (T (k + 1))) (by omega)) rfl rfl rfl (by simp only [dstOk, Nat.reduceLT]) (by repeat (first | exact trivial | constructor)) (runs_eval tab_ok ?_))
        simp only [ev0, evA, evB, evP, fl, gp, tab, simprocAttr, reduceCtorEq, reduceIte]
        refine fin_run trivial (hK _ ?_) <;> clear hK <;> clear K
        refine qa ?_
        refine hk_cond rfl (fun hC4 => ?_) (fun hC4 => ?_)
        · (try simp only [nhs] at hC4)
          have hkK : k = K := (hS.at' hk).1 hC4
          refine qm ?_
          rw [← ll_length (cht n T k)]
          refine hk_sealp 6 1 (ll_all _) rfl rfl ?_
          refine hk_region fun K hK => runs_eval tab_ok ?_
          simp only [ev0, evA, evB, evP, fl, gp, tab, simprocAttr, reduceCtorEq, reduceIte]
          refine fin_run trivial (hK _ ?_) <;> clear hK <;> clear K
          refine qa (qk (qb (qe (qb (qe ?_)))))
          simp only [Tryd.results16, enA, ev0, evA, evB, evP, fl, gp, tab, simprocAttr, reduceCtorEq, reduceIte]
          all_goals (rw [← hkK])
        · (try simp only [nhs] at hC4)
          have hkK : k < K := by
            rcases Nat.lt_or_eq_of_le hk with h | h
            · exact h
            · exact absurd ((hS.at' hk).2 h) hC4
          have hs := cht_succ n T k
          refine qh (qa (qm ?_))
          refine hk_region fun K hK => runs_eval tab_ok ?_
          simp only [ev0, evA, evB, evP, fl, gp, tab, simprocAttr, reduceCtorEq, reduceIte]
          refine fin_run trivial (hK _ ?_) <;> clear hK <;> clear K
          refine qa ?_
          refine hk_region fun K hK => runs_eval tab_ok ?_
          simp only [ev0, evA, evB, evP, fl, gp, tab, simprocAttr, reduceCtorEq, reduceIte, ll_takeL, oll_ok, ll_snoc]
          refine fin_run ?_ (hK _ ?_) <;> clear hK <;> clear K
          · first | (simp [cellOk, PV.one]; done) | (simp [cellOk, PV.one]; omega)
          refine qd (qa ?_)
          refine ⟨k + 1, [0, 3], by omega, by omega, ?_⟩
          rw [hs]
          simp only [leq, leA, ev0, evA, evB, evP, fl, gp, tab, simprocAttr, reduceCtorEq, reduceIte, h1, cond_false, ll_takeL, ll_snoc, ll_takeS] <;> first | trivial | omega | (simp [ll]; done)
    · cases hC1

/-- A row that is not nil is a row. -/
theorem hk_nnl {P : Program} {s : St} {c : Code} {Q : Exit → St → Prop} (k : Nat) {l : List PV} (hk : hget s.H k = .own [.p (.nn l)]) (h : Holds P c Q { s with H := hset s.H k (.own [.p (.list l)]) }) : Holds P c Q s := by
  refine hk_cells (b' := [.p (.list l)]) k hk rfl (fun C m tmps w R i hi hi' v hv => ?_) h
  have : i = 0 := by simpa using hi
  subst this
  exact .p _ _ hv.p_inv.nn_list

set_option maxHeartbeats 4000000 in
theorem rising_c (h : GT n m n e) (heI : eI m n = (e : Nat)) (K : Nat) (hK : K ≤ n) (hS : Stp n (itr (unx n (op m n) e) (onp e)) K) : FnC Tryd.prog 19 [gp n m] (.list (ll (cht n (itr (unx n (op m n) e) (onp e)) K))) := by
  have G := h.2.2
  have T' := h.2.1
  have hb := h.2.1.big
  have h1 : ∀ k : Nat, ((k + 1) == 0) = false := fun k => rfl
  have hT0 : itr (unx n (op m n) e) (onp e) 0 = onp e := rfl
  have hTs : ∀ k, itr (unx n (op m n) e) (onp e) (k + 1) = unx n (op m n) e (itr (unx n (op m n) e) (onp e) k) := fun k => rfl
  have hone : thl n (onp e) = [(e : Int)] := by
    rw [← thl_one G.el]
    refine thl_congr fun a _ => ?_
    rw [Bool.eq_iff_iff, onp_iff, decide_eq_true_eq]
  generalize hTT : itr (unx n (op m n) e) (onp e) = T at *
  refine fnc_of tab_ok Tryd.func19 rfl (by kernel_rfl) (by rw [Tryd.ntmps19]; exact Nat.le_add_left 1 _) ?_; rw [Tryd.ntmps19]
  refine qm ?_
  refine hk_region fun K hK => runs_eval tab_ok ?_
  simp only [ev0, evA, evB, evP, fl, gp, tab, simprocAttr, reduceCtorEq, reduceIte]
  refine fin_run ?_ (hK _ ?_) <;> clear hK <;> clear K
  · (first | exact trivial | omega | (simp only [In64] at *; omega) | (simp [In64] at *; omega) | (simp_all; done) | skip)
  refine qa (qm ?_)
  refine hk_region fun K hK => runs_eval tab_ok ?_
  simp only [ev0, evA, evB, evP, fl, gp, tab, simprocAttr, reduceCtorEq, reduceIte]
  refine fin_stop trivial (runs_call (e_c T') rfl rfl rfl (by simp only [dstOk, Nat.reduceLT]) (by repeat (first | exact trivial | constructor)) (runs_eval tab_ok ?_))
  simp only [ev0, evA, evB, evP, fl, gp, tab, simprocAttr, reduceCtorEq, reduceIte, heI]
  refine fin_run ?_ (hK _ ?_) <;> clear hK <;> clear K
  · (first | exact trivial | omega | (simp only [In64] at *; omega) | (simp [In64] at *; omega) | (simp_all; done) | skip)
  refine qa (qm ?_)
  have hl0 : [PV.int .i64 e] = il (thl n (T 0)) := by rw [hT0, hone]; rfl
  rw [hl0]
  refine hk_nnl 1 rfl ?_
  simp only [hset]
  refine hk_region fun K hK => runs_eval tab_ok ?_
  simp only [ev0, evA, evB, evP, fl, gp, tab, simprocAttr, reduceCtorEq, reduceIte]
  refine fin_run ?_ (hK _ ?_) <;> clear hK <;> clear K
  · (first | exact trivial | omega | (simp only [In64] at *; omega) | (simp [In64] at *; omega) | (simp_all; done) | skip)
  refine qa (ql ?_)
  refine hk_loop (ι := Nat) (fun k => ⟨23, [(1, .ptr 0 0), (3, .ptr 1 0), (4, bif k == 0 then .p (.nn [.list (il (thl n (T 0)))]) else .sl 2 0 (cht n T k).length)], bif k == 0 then [.own [.p (.int .i64 n), .p (.list (il m))], .own [.p (.list (il (thl n (T k))))]] else [.own [.p (.int .i64 n), .p (.list (il m))], .own [.p (.list (il (thl n (T k))))], .own (opl (ll (cht n T k)))]⟩) (fun k => k ≤ K) (fun k => K - k) 0 (Nat.zero_le _) [0, 1] (by simp only [leq, leA, ev0, evA, evB, evP, fl, gp, tab, simprocAttr, reduceCtorEq, reduceIte, beq_self_eq_true, cond_true] <;> first | trivial | (simp; done)) fun k hk => ?_
  have hlT := thl_le n (T k)
  have hlT1 := thl_le n (T (k + 1))
  refine ql (qm ?_)
  by_cases hk0 : (k == 0) = true
  · simp only [hk0, cond_true]
    have hkz : k = 0 := by simpa using hk0
    refine hk_region fun K hK => runs_eval tab_ok ?_
    simp only [ev0, evA, evB, evP, fl, gp, tab, simprocAttr, reduceCtorEq, reduceIte]
    refine fin_stop ?_ (runs_op (makeCl_does rfl rfl) rfl (by simp only [dstOk, Nat.reduceLT]) (runs_eval tab_ok ?_))
    · (first | exact trivial | omega | (simp only [In64] at *; omega) | (simp [In64] at *; omega) | (simp_all; done) | skip)
    simp only [ev0, evA, evB, evP, fl, gp, tab, simprocAttr, reduceCtorEq, reduceIte]
    refine fin_stop ?_ (runs_callF (those_f n m _ _ (T (k + 1)) (by omega) (fun a ha => by rw [hTs]; exact rising1_c h (T k) ha)) rfl (by simp only [callA, peekList, peekG, peekS, List.map_cons, List.map_nil, List.append_nil, enA, ev0, evA, evB, evP, fl, gp, tab, simprocAttr, reduceCtorEq, reduceIte, List.drop_zero, ol_drop, ol_take, take_len, ol_allP, il_all, il_length]; rfl) (by simp only [dstOk, Nat.reduceLT]) ?_ (runs_eval tab_ok ?_))
    · (first | exact trivial | omega | (simp only [In64] at *; omega) | (simp [In64] at *; omega) | (simp_all; done) | skip)
    · (first | exact trivial | omega | (simp only [In64] at *; omega) | (simp [In64] at *; omega) | (simp_all; done) | skip)
    simp only [ev0, evA, evB, evP, fl, gp, tab, simprocAttr, reduceCtorEq, reduceIte]
    refine fin_run ?_ (hK _ ?_) <;> clear hK <;> clear K
    · (first | exact trivial | omega | (simp only [In64] at *; omega) | (simp [In64] at *; omega) | (simp_all; done) | skip)
    refine qa (qm (qm ?_))
    refine hk_region fun K hK => runs_eval tab_ok ?_
    simp only [ev0, evA, evB, evP, fl, gp, tab, simprocAttr, reduceCtorEq, reduceIte]
    refine fin_stop trivial (runs_call (ints_c (thl n (T k)) (thl n (T (k + 1))) (by omega)) rfl rfl rfl (by simp only [dstOk, Nat.reduceLT]) (by repeat (first | exact trivial | constructor)) (runs_eval tab_ok ?_))
    simp only [ev0, evA, evB, evP, fl, gp, tab, simprocAttr, reduceCtorEq, reduceIte]
    refine fin_run ?_ (hK _ ?_) <;> clear hK <;> clear K
    · (first | exact trivial | omega | (simp only [In64] at *; omega) | (simp [In64] at *; omega) | (simp_all; done) | skip)
    refine qa ?_
    refine hk_cond rfl (fun hC1 => ?_) (fun hC1 => ?_)
    · (try simp only [nhs] at hC1)
      have hkK : k = K := (hS.at' hk).1 hC1
      refine qm ?_
      refine hk_region fun K hK => runs_eval tab_ok ?_
      simp only [ev0, evA, evB, evP, fl, gp, tab, simprocAttr, reduceCtorEq, reduceIte]
      refine fin_run trivial (hK _ ?_) <;> clear hK <;> clear K
      refine qa (qk (qb (qe (qb (qe ?_)))))
      simp only [Tryd.results19, enA, ev0, evA, evB, evP, fl, gp, tab, simprocAttr, reduceCtorEq, reduceIte]
      all_goals (rw [← hkK, hkz]; rfl)
    · (try simp only [nhs] at hC1)
      have hkK : k < K := by
        rcases Nat.lt_or_eq_of_le hk with h | h
        · exact h
        · exact absurd ((hS.at' hk).2 h) hC1
      have hs := cht_succ n T k
      refine qh (qa (qm ?_))
      refine hk_region fun K hK => runs_eval tab_ok ?_
      simp only [ev0, evA, evB, evP, fl, gp, tab, simprocAttr, reduceCtorEq, reduceIte]
      refine fin_run ?_ (hK _ ?_) <;> clear hK <;> clear K
      · (first | exact trivial | omega | (simp only [In64] at *; omega) | (simp [In64] at *; omega) | (simp_all; done) | skip)
      refine qa ?_
      refine hk_region fun K hK => runs_eval tab_ok ?_
      simp only [ev0, evA, evB, evP, fl, gp, tab, simprocAttr, reduceCtorEq, reduceIte, ll_takeL, oll_ok, ll_snoc]
      refine fin_run ?_ (hK _ ?_) <;> clear hK <;> clear K
      · first | (simp [cellOk, PV.one]; done) | (simp [cellOk, PV.one]; omega)
      refine qd (qa ?_)
      refine ⟨k + 1, [0, 1, 2], by omega, by omega, ?_⟩
      have hs0 : ll (cht n T (k + 1)) = [.list (il (thl n (T 0))), .list (il (thl n (T (k + 1))))] := by rw [hs, hkz]; rfl
      have hl0 := cht_len n T (k + 1)
      simp only [leq, leA, ev0, evA, evB, evP, fl, gp, tab, simprocAttr, reduceCtorEq, reduceIte, h1, cond_false] <;> first | trivial | omega | (rw [hs0, hl0, hkz]; exact ⟨rfl, rfl⟩)
  · rw [Bool.not_eq_true] at hk0
    simp only [hk0, cond_false]
    have hlen := cht_len n T k
    have hll := ll_length (cht n T k)
    refine hk_region fun K hK => runs_eval tab_ok ?_
    simp only [ev0, evA, evB, evP, fl, gp, tab, simprocAttr, reduceCtorEq, reduceIte]
    refine fin_stop ?_ (runs_op (makeCl_does rfl rfl) rfl (by simp only [dstOk, Nat.reduceLT]) (runs_eval tab_ok ?_))
    · (first | exact trivial | omega | (simp only [In64] at *; omega) | (simp [In64] at *; omega) | (simp_all; done) | skip)
    simp only [ev0, evA, evB, evP, fl, gp, tab, simprocAttr, reduceCtorEq, reduceIte]
    refine fin_stop ?_ (runs_callF (those_f n m _ _ (T (k + 1)) (by omega) (fun a ha => by rw [hTs]; exact rising1_c h (T k) ha)) rfl (by simp only [callA, peekList, peekG, peekS, List.map_cons, List.map_nil, List.append_nil, enA, ev0, evA, evB, evP, fl, gp, tab, simprocAttr, reduceCtorEq, reduceIte, List.drop_zero, ol_drop, ol_take, take_len, ol_allP, il_all, il_length]; rfl) (by simp only [dstOk, Nat.reduceLT]) ?_ (runs_eval tab_ok ?_))
    · (first | exact trivial | omega | (simp only [In64] at *; omega) | (simp [In64] at *; omega) | (simp_all; done) | skip)
    · (first | exact trivial | omega | (simp only [In64] at *; omega) | (simp [In64] at *; omega) | (simp_all; done) | skip)
    simp only [ev0, evA, evB, evP, fl, gp, tab, simprocAttr, reduceCtorEq, reduceIte]
    refine fin_run ?_ (hK _ ?_) <;> clear hK <;> clear K
    · (first | exact trivial | omega | (simp only [In64] at *; omega) | (simp [In64] at *; omega) | (simp_all; done) | skip)
    refine qa (qm (qm ?_))
    refine hk_region fun K hK => runs_eval tab_ok ?_
    simp only [ev0, evA, evB, evP, fl, gp, tab, simprocAttr, reduceCtorEq, reduceIte]
    refine fin_stop trivial (runs_call (ints_c (thl n (T k)) (thl n (T (k + 1))) (by omega)) rfl rfl rfl (by simp only [dstOk, Nat.reduceLT]) (by repeat (first | exact trivial | constructor)) (runs_eval tab_ok ?_))
    simp only [ev0, evA, evB, evP, fl, gp, tab, simprocAttr, reduceCtorEq, reduceIte]
    refine fin_run ?_ (hK _ ?_) <;> clear hK <;> clear K
    · (first | exact trivial | omega | (simp only [In64] at *; omega) | (simp [In64] at *; omega) | (simp_all; done) | skip)
    refine qa ?_
    refine hk_cond rfl (fun hC1 => ?_) (fun hC1 => ?_)
    · (try simp only [nhs] at hC1)
      have hkK : k = K := (hS.at' hk).1 hC1
      refine qm ?_
      rw [← ll_length (cht n T k)]
      refine hk_sealp 4 2 (ll_all _) rfl rfl ?_
      refine hk_region fun K hK => runs_eval tab_ok ?_
      simp only [ev0, evA, evB, evP, fl, gp, tab, simprocAttr, reduceCtorEq, reduceIte]
      refine fin_run trivial (hK _ ?_) <;> clear hK <;> clear K
      refine qa (qk (qb (qe (qb (qe ?_)))))
      simp only [Tryd.results19, enA, ev0, evA, evB, evP, fl, gp, tab, simprocAttr, reduceCtorEq, reduceIte]
      all_goals (rw [← hkK])
    · (try simp only [nhs] at hC1)
      have hkK : k < K := by
        rcases Nat.lt_or_eq_of_le hk with h | h
        · exact h
        · exact absurd ((hS.at' hk).2 h) hC1
      have hs := cht_succ n T k
      refine qh (qa (qm ?_))
      refine hk_region fun K hK => runs_eval tab_ok ?_
      simp only [ev0, evA, evB, evP, fl, gp, tab, simprocAttr, reduceCtorEq, reduceIte]
      refine fin_run ?_ (hK _ ?_) <;> clear hK <;> clear K
      · (first | exact trivial | omega | (simp only [In64] at *; omega) | (simp [In64] at *; omega) | (simp_all; done) | skip)
      refine qa ?_
      refine hk_region fun K hK => runs_eval tab_ok ?_
      simp only [ev0, evA, evB, evP, fl, gp, tab, simprocAttr, reduceCtorEq, reduceIte, ll_takeL, oll_ok, ll_snoc]
      refine fin_run ?_ (hK _ ?_) <;> clear hK <;> clear K
      · first | (simp [cellOk, PV.one]; done) | (simp [cellOk, PV.one]; omega)
      refine qd (qa ?_)
      refine ⟨k + 1, [0, 1, 3], by omega, by omega, ?_⟩
      rw [hs]
      simp only [leq, leA, ev0, evA, evB, evP, fl, gp, tab, simprocAttr, reduceCtorEq, reduceIte, h1, cond_false, ll_takeL, ll_snoc, ll_takeS] <;> first | trivial | omega | (simp [ll]; done)
end
end Go.Proofs.YtpogfmijefephaaDoor
