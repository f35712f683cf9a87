/-
  Series of subgroups, as the program has them. Conditions: none.
-/
import Derived.Test.YtpogfmijefephaaDoorS9
import Derived.Test.YtpogfmijefephaaDoorS7
import Derived.Test.YtpogfmijefephaaDoorG20
set_option linter.all false
namespace Go.Proofs.YtpogfmijefephaaDoor
open Go.Pv

/-- A series, as lists, up to the one at K. -/
def cht (n : Nat) (T : Nat → Nat → Bool) (K : Nat) : List (List Int) := (List.range (K + 1)).map fun k => thl n (T k)
theorem cht_zero (n : Nat) (T : Nat → Nat → Bool) : cht n T 0 = [thl n (T 0)] := rfl
theorem cht_succ (n : Nat) (T : Nat → Nat → Bool) (k : Nat) : cht n T (k + 1) = cht n T k ++ [thl n (T (k + 1))] := by
  unfold cht
  rw [List.range_succ, List.map_append]; rfl
theorem cht_len (n : Nat) (T : Nat → Nat → Bool) (k : Nat) : (cht n T k).length = k + 1 := by simp [cht]
theorem cht_get {n : Nat} {T : Nat → Nat → Bool} {K i : Nat} (hi : i ≤ K) : (cht n T K).getD i [] = thl n (T i) := by
  unfold cht
  simp [List.getD, List.getElem?_map, List.getElem?_range (show i < K + 1 by omega)]
theorem cht_row {n : Nat} {T : Nat → Nat → Bool} {K : Nat} : ∀ w ∈ cht n T K, w.length ≤ n := fun w hw => by
  unfold cht at hw
  obtain ⟨k, _, rfl⟩ := List.mem_map.1 hw
  exact thl_le _ _
theorem tst_cml {n e : Nat} {f : Nat → Nat → Nat} (p q : Nat → Bool) : tst (cml n f e (thl n p) (thl n q)) = dnp n f e p q := by
  funext x
  rw [Bool.eq_iff_iff, dnp_iff]
  unfold tst
  rw [decide_eq_true_eq, mem_cml]
  constructor
  · rintro ⟨a, b, a1, b1, a2, b2, h⟩
    exact ⟨a, b, a1, b1, a2, b2, by omega⟩
  · rintro ⟨a, b, a1, b1, a2, b2, h⟩
    exact ⟨a, b, a1, b1, a2, b2, by omega⟩
theorem Stp.at {n : Nat} {T : Nat → Nat → Bool} {K k : Nat} (h : Stp n T K) (hk : k ≤ K) : bo n (T (k + 1)) = bo n (T k) ↔ k = K := by
  constructor
  · intro he
    rcases Nat.lt_or_eq_of_le hk with h1 | h1
    · exact absurd (fun a ha => bo_inj he ha) (h.ne k h1)
    · exact h1
  · rintro rfl
    exact bo_congr h.eq
theorem Stp.at' {n : Nat} {T : Nat → Nat → Bool} {K k : Nat} (h : Stp n T K) (hk : k ≤ K) : thl n (T k) = thl n (T (k + 1)) ↔ k = K := by
  rw [← h.at hk]
  exact ⟨fun he => bo_congr fun a ha => (thl_inj he ha).symm, fun he => thl_congr fun a ha => (bo_inj he ha).symm⟩

theorem whole_bo (n : Nat) : 2 ^ n - 1 = bo n fun _ => true := by
  refine Nat.eq_of_testBit_eq fun i => ?_
  rw [bo_bit, Nat.testBit_two_pow_sub_one]; simp
theorem whole_s (n : Nat) (m : List Int) (hb : n ≤ 60) : FnC Tryd.prog 27 [gp n m] (.int .u64 (bo n fun _ => true)) := by
  have h1 : IntKind.u64.wrap (((2 ^ n : Nat) : Int) - 1) = ((bo n fun _ => true : Nat) : Int) := by
    rw [← whole_bo, wrap_u]
    have h2 := pow_lt64 (b := n) (by omega)
    have h3 : 0 < 2 ^ n := Nat.pow_pos (by omega)
    omega
  refine fnc_of tab_ok Tryd.func27 rfl (by kernel_rfl) (by rw [Tryd.ntmps27]; exact Nat.le_add_left 1 _) ?_; rw [Tryd.ntmps27]
  refine qm ?_
  refine hk_region fun K hK => runs_eval tab_ok ?_
  simp only [ev0, evA, evB, evP, fl, gp, tab, simprocAttr, reduceCtorEq, reduceIte]
  refine fin_run ?_ (hK _ ?_) <;> clear hK <;> clear K
  · (first | exact trivial | omega | (simp only [In64] at *; omega) | (simp [In64] at *; omega) | (simp_all; done) | skip)
  refine qa (qm ?_)
  refine hk_region fun K hK => runs_eval tab_ok ?_
  simp only [ev0, evA, evB, evP, fl, gp, tab, simprocAttr, reduceCtorEq, reduceIte, shl_one (show n < 64 by omega), h1]
  refine fin_run ?_ (hK _ ?_) <;> clear hK <;> clear K
  · (first | exact trivial | omega | (simp only [In64] at *; omega) | (simp [In64] at *; omega) | (simp_all; done) | skip)
  refine qa (qk ?_)
  simp only [Tryd.results27, enA, ev0, evA, evB, evP, fl, gp, tab, simprocAttr, reduceCtorEq, reduceIte]
  all_goals (rfl)

theorem ll_one (w : List Int) : ll [w] = [.list (il w)] := rfl
set_option maxHeartbeats 2000000 in
theorem down_ok {n e : Nat} {m : List Int} (h : GT n m n e) (F : FuncId) (caps : List PV) (T : Nat → Nat → Bool) (K : Nat) (hK : K ≤ n) (hS : Stp n T K) (h0 : T 0 = fun _ => true) (hF : ∀ k, FnC Tryd.prog F (.int .u64 (bo n (T k)) :: caps) (.int .u64 (bo n (T (k + 1))))) :
    FnC Tryd.prog 23 [gp n m, .fn F caps] (.tup [.list (ll (cht n T K)), fl (0, 0)]) := by
  have hb := h.2.1.big
  have hml := h.2.1.len
  have hsq := sq_le hb
  have hbt : ∀ p, bo n p < 2 ^ 64 := fun p => bo_lt64 hb p
  have h1 : ∀ k : Nat, ((k + 1) == 0) = false := fun k => rfl
  refine fnc_of tab_ok Tryd.func23 rfl (by kernel_rfl) (by rw [Tryd.ntmps23]; exact Nat.le_add_left 2 _) ?_; rw [Tryd.ntmps23]
  refine qm ?_
  refine hk_region fun K hK => runs_eval tab_ok ?_
  simp only [ev0, evA, evB, evP, fl, gp, tab, simprocAttr, reduceCtorEq, reduceIte]
  refine fin_run ?_ (hK _ ?_) <;> clear hK <;> clear K
  · (first | exact trivial | omega | (simp only [In64] at *; omega) | (simp [In64] at *; omega) | (simp_all; done) | skip)
  refine qa (qm (qm ?_))
  refine hk_region fun K hK => runs_eval tab_ok ?_
  simp only [ev0, evA, evB, evP, fl, gp, tab, simprocAttr, reduceCtorEq, reduceIte]
  refine fin_stop trivial (runs_call (check_c n m (by omega)) rfl rfl rfl (by simp only [dstOk, Nat.reduceLT]) (by repeat (first | exact trivial | constructor)) (runs_eval tab_ok ?_))
  simp only [ev0, evA, evB, evP, fl, gp, tab, simprocAttr, reduceCtorEq, reduceIte, gf_of h]
  refine fin_run ?_ (hK _ ?_) <;> clear hK <;> clear K
  · (first | exact trivial | omega | (simp only [In64] at *; omega) | (simp [In64] at *; omega) | (simp_all; done) | skip)
  refine qa (qm ?_)
  refine hk_region fun K hK => runs_eval tab_ok ?_
  simp only [ev0, evA, evB, evP, fl, gp, tab, simprocAttr, reduceCtorEq, reduceIte]
  refine fin_run ?_ (hK _ ?_) <;> clear hK <;> clear K
  · (first | exact trivial | omega | (simp only [In64] at *; omega) | (simp [In64] at *; omega) | (simp_all; done) | skip)
  refine qa ?_
  refine hk_cond rfl (fun hC1 => ?_) (fun hC1 => ?_)
  · cases hC1
  · (try simp only [nhs] at hC1)
    refine qh (qa (qm ?_))
    refine hk_region fun K hK => runs_eval tab_ok ?_
    simp only [ev0, evA, evB, evP, fl, gp, tab, simprocAttr, reduceCtorEq, reduceIte]
    refine fin_stop trivial (runs_call (whole_s n m hb) rfl rfl rfl (by simp only [dstOk, Nat.reduceLT]) (by repeat (first | exact trivial | constructor)) (runs_eval tab_ok ?_))
    simp only [ev0, evA, evB, evP, fl, gp, tab, simprocAttr, reduceCtorEq, reduceIte]
    refine fin_run ?_ (hK _ ?_) <;> clear hK <;> clear K
    · (first | exact trivial | omega | (simp only [In64] at *; omega) | (simp [In64] at *; omega) | (simp_all; done) | skip)
    refine qa (qm ?_)
    refine hk_region fun K hK => runs_eval tab_ok ?_
    simp only [ev0, evA, evB, evP, fl, gp, tab, simprocAttr, reduceCtorEq, reduceIte]
    refine fin_stop trivial (runs_call (list_s (bo n fun _ => true) (hbt _)) rfl rfl rfl (by simp only [dstOk, Nat.reduceLT]) (by repeat (first | exact trivial | constructor)) (runs_eval tab_ok ?_))
    simp only [ev0, evA, evB, evP, fl, gp, tab, simprocAttr, reduceCtorEq, reduceIte, stl_bo hb]
    refine fin_run ?_ (hK _ ?_) <;> clear hK <;> clear K
    · (first | exact trivial | omega | (simp only [In64] at *; omega) | (simp [In64] at *; omega) | (simp_all; done) | skip)
    refine qa (ql ?_)
    refine hk_loop (ι := Nat) (fun k => ⟨35, [(1, .p (.fn F caps)), (5, .ptr 0 0), (7, .p (.int .u64 (bo n (T k)))), (8, bif k == 0 then .p (.nn [.list (il (thl n (T 0)))]) else .sl 1 0 (cht n T k).length)], bif k == 0 then [.own [.p (.int .i64 0), .p (.int .i64 0)]] else [.own [.p (.int .i64 0), .p (.int .i64 0)], .own (opl (ll (cht n T k)))]⟩) (fun k => k ≤ K) (fun k => K - k) 0 (Nat.zero_le _) [1] (by rw [h0]; simp only [leq, leA, ev0, evA, evB, evP, fl, gp, tab, simprocAttr, reduceCtorEq, reduceIte, beq_self_eq_true, cond_true] <;> first | trivial | (simp; done)) fun k hk => ?_
    refine ql (qm ?_)
    by_cases hk0 : (k == 0) = true
    · simp only [hk0, cond_true]
      have hkz : k = 0 := by simpa using hk0
      refine hk_region fun K hK => runs_eval tab_ok ?_
      simp only [ev0, evA, evB, evP, fl, gp, tab, simprocAttr, reduceCtorEq, reduceIte]
      refine fin_stop trivial (runs_call (hF k) rfl rfl rfl (by simp only [dstOk, Nat.reduceLT]) (by repeat (first | exact trivial | constructor)) (runs_eval tab_ok ?_))
      simp only [ev0, evA, evB, evP, fl, gp, tab, simprocAttr, reduceCtorEq, reduceIte]
      refine fin_run trivial (hK _ ?_) <;> clear hK <;> clear K
      refine qa (qm (qm ?_))
      refine hk_region fun K hK => runs_eval tab_ok ?_
      simp only [ev0, evA, evB, evP, fl, gp, tab, simprocAttr, reduceCtorEq, reduceIte]
      refine fin_run trivial (hK _ ?_) <;> clear hK <;> clear K
      refine qa ?_
      refine hk_cond rfl (fun hC2 => ?_) (fun hC2 => ?_)
      · (try simp only [nhs] at hC2)
        have hkK : k = K := (hS.at hk).1 (by omega)
        refine qm ?_
        refine hk_region fun K hK => runs_eval tab_ok ?_
        simp only [ev0, evA, evB, evP, fl, gp, tab, simprocAttr, reduceCtorEq, reduceIte]
        refine fin_run ?_ (hK _ ?_) <;> clear hK <;> clear K
        · (first | exact trivial | omega | (simp only [In64] at *; omega) | (simp [In64] at *; omega) | (simp_all; done) | skip)
        refine qa (qk (qb (qe (qb (qe ?_)))))
        simp only [Tryd.results23, enA, ev0, evA, evB, evP, fl, gp, tab, simprocAttr, reduceCtorEq, reduceIte]
        all_goals (rw [← hkK, hkz]; rfl)
      · (try simp only [nhs] at hC2)
        have hkK : k < K := by
          rcases Nat.lt_or_eq_of_le hk with h | h
          · exact h
          · exact absurd (by rw [(hS.at hk).2 h]) hC2
        have hs := cht_succ n T k
        refine qh (qa (qm ?_))
        refine hk_region fun K hK => runs_eval tab_ok ?_
        simp only [ev0, evA, evB, evP, fl, gp, tab, simprocAttr, reduceCtorEq, reduceIte]
        refine fin_run trivial (hK _ ?_) <;> clear hK <;> clear K
        refine qa ?_
        refine hk_region fun K hK => runs_eval tab_ok ?_
        simp only [ev0, evA, evB, evP, fl, gp, tab, simprocAttr, reduceCtorEq, reduceIte, ll_takeL, oll_ok, ll_snoc]
        refine fin_stop trivial (runs_call (list_s (bo n (T (k + 1))) (hbt _)) rfl rfl rfl (by simp only [dstOk, Nat.reduceLT]) (by repeat (first | exact trivial | constructor)) (runs_eval tab_ok ?_))
        simp only [ev0, evA, evB, evP, fl, gp, tab, simprocAttr, reduceCtorEq, reduceIte, stl_bo hb, ll_takeL, oll_ok, ll_snoc]
        refine fin_run ?_ (hK _ ?_) <;> clear hK <;> clear K
        · first | (simp [cellOk, PV.one]; done) | (simp [cellOk, PV.one]; omega)
        refine qd (qa ?_)
        refine ⟨k + 1, [0, 1], by omega, by omega, ?_⟩
        have hs0 : ll (cht n T (k + 1)) = [.list (il (thl n (T 0))), .list (il (thl n (T (k + 1))))] := by rw [hs, hkz]; rfl
        have hl0 := cht_len n T (k + 1)
        simp only [leq, leA, ev0, evA, evB, evP, fl, gp, tab, simprocAttr, reduceCtorEq, reduceIte, h1, cond_false] <;> first | trivial | omega | (rw [hs0, hl0, hkz]; exact ⟨rfl, rfl⟩)
    · rw [Bool.not_eq_true] at hk0
      simp only [hk0, cond_false]
      have hlen := cht_len n T k
      have hll := ll_length (cht n T k)
      refine hk_region fun K hK => runs_eval tab_ok ?_
      simp only [ev0, evA, evB, evP, fl, gp, tab, simprocAttr, reduceCtorEq, reduceIte]
      refine fin_stop trivial (runs_call (hF k) rfl rfl rfl (by simp only [dstOk, Nat.reduceLT]) (by repeat (first | exact trivial | constructor)) (runs_eval tab_ok ?_))
      simp only [ev0, evA, evB, evP, fl, gp, tab, simprocAttr, reduceCtorEq, reduceIte]
      refine fin_run trivial (hK _ ?_) <;> clear hK <;> clear K
      refine qa (qm (qm ?_))
      refine hk_region fun K hK => runs_eval tab_ok ?_
      simp only [ev0, evA, evB, evP, fl, gp, tab, simprocAttr, reduceCtorEq, reduceIte]
      refine fin_run trivial (hK _ ?_) <;> clear hK <;> clear K
      refine qa ?_
      refine hk_cond rfl (fun hC2 => ?_) (fun hC2 => ?_)
      · (try simp only [nhs] at hC2)
        have hkK : k = K := (hS.at hk).1 (by omega)
        refine qm ?_
        rw [← ll_length (cht n T k)]
        refine hk_sealp 8 1 (ll_all _) rfl rfl ?_
        refine hk_region fun K hK => runs_eval tab_ok ?_
        simp only [ev0, evA, evB, evP, fl, gp, tab, simprocAttr, reduceCtorEq, reduceIte]
        refine fin_run ?_ (hK _ ?_) <;> clear hK <;> clear K
        · (first | exact trivial | omega | (simp only [In64] at *; omega) | (simp [In64] at *; omega) | (simp_all; done) | skip)
        refine qa (qk (qb (qe (qb (qe ?_)))))
        simp only [Tryd.results23, enA, ev0, evA, evB, evP, fl, gp, tab, simprocAttr, reduceCtorEq, reduceIte]
        all_goals (rw [← hkK])
      · (try simp only [nhs] at hC2)
        have hkK : k < K := by
          rcases Nat.lt_or_eq_of_le hk with h | h
          · exact h
          · exact absurd (by rw [(hS.at hk).2 h]) hC2
        have hs := cht_succ n T k
        refine qh (qa (qm ?_))
        refine hk_region fun K hK => runs_eval tab_ok ?_
        simp only [ev0, evA, evB, evP, fl, gp, tab, simprocAttr, reduceCtorEq, reduceIte]
        refine fin_run trivial (hK _ ?_) <;> clear hK <;> clear K
        refine qa ?_
        refine hk_region fun K hK => runs_eval tab_ok ?_
        simp only [ev0, evA, evB, evP, fl, gp, tab, simprocAttr, reduceCtorEq, reduceIte, ll_takeL, oll_ok, ll_snoc]
        refine fin_stop trivial (runs_call (list_s (bo n (T (k + 1))) (hbt _)) rfl rfl rfl (by simp only [dstOk, Nat.reduceLT]) (by repeat (first | exact trivial | constructor)) (runs_eval tab_ok ?_))
        simp only [ev0, evA, evB, evP, fl, gp, tab, simprocAttr, reduceCtorEq, reduceIte, stl_bo hb, ll_takeL, oll_ok, ll_snoc]
        refine fin_run ?_ (hK _ ?_) <;> clear hK <;> clear K
        · first | (simp [cellOk, PV.one]; done) | (simp [cellOk, PV.one]; omega)
        refine qd (qa ?_)
        refine ⟨k + 1, [0, 2], by omega, by omega, ?_⟩
        rw [hs]
        simp only [leq, leA, ev0, evA, evB, evP, fl, gp, tab, simprocAttr, reduceCtorEq, reduceIte, h1, cond_false, ll_takeL, ll_snoc, ll_takeS] <;> first | trivial | omega | (simp [ll]; done)
theorem down_no (N : Int) (m : List Int) (F : FuncId) (caps : List PV) (hm : m.length ≤ 1000000000000000) (hf : ¬ (gf N m).1 = 0) : FnC Tryd.prog 23 [gp N m, .fn F caps] (.tup [.list (ll []), fl (gf N m)]) := by
  refine fnc_of tab_ok Tryd.func23 rfl (by kernel_rfl) (by rw [Tryd.ntmps23]; exact Nat.le_add_left 2 _) ?_; rw [Tryd.ntmps23]
  refine qm ?_
  refine hk_region fun K hK => runs_eval tab_ok ?_
  simp only [ev0, evA, evB, evP, fl, gp, tab, simprocAttr, reduceCtorEq, reduceIte]
  refine fin_run ?_ (hK _ ?_) <;> clear hK <;> clear K
  · (first | exact trivial | omega | (simp only [In64] at *; omega) | (simp [In64] at *; omega) | (simp_all; done) | skip)
  refine qa (qm (qm ?_))
  refine hk_region fun K hK => runs_eval tab_ok ?_
  simp only [ev0, evA, evB, evP, fl, gp, tab, simprocAttr, reduceCtorEq, reduceIte]
  refine fin_stop trivial (runs_call (check_c N m hm) rfl rfl rfl (by simp only [dstOk, Nat.reduceLT]) (by repeat (first | exact trivial | constructor)) (runs_eval tab_ok ?_))
  simp only [ev0, evA, evB, evP, fl, gp, tab, simprocAttr, reduceCtorEq, reduceIte]
  refine fin_run ?_ (hK _ ?_) <;> clear hK <;> clear K
  · (first | exact trivial | omega | (simp only [In64] at *; omega) | (simp [In64] at *; omega) | (simp_all; done) | skip)
  refine qa (qm ?_)
  refine hk_region fun K hK => runs_eval tab_ok ?_
  simp only [ev0, evA, evB, evP, fl, gp, tab, simprocAttr, reduceCtorEq, reduceIte]
  refine fin_run ?_ (hK _ ?_) <;> clear hK <;> clear K
  · (first | exact trivial | omega | (simp only [In64] at *; omega) | (simp [In64] at *; omega) | (simp_all; done) | skip)
  refine qa ?_
  refine hk_cond rfl (fun hC1 => ?_) (fun hC1 => ?_)
  · (try simp only [nhs] at hC1)
    refine qm ?_
    refine hk_draw mixed (by kernel_rfl) fun K hK => runs_eval tab_ok ?_
    simp only [ev0, evA, evB, evP, fl, gp, tab, simprocAttr, reduceCtorEq, reduceIte]
    refine fin_run ?_ (hK _ ?_) <;> clear hK <;> clear K
    · (first | exact trivial | omega | (simp only [In64] at *; omega) | (simp [In64] at *; omega) | (simp_all; done) | skip)
    refine qa (qk (qb ?_))
    simp only [Tryd.results23, enA, ev0, evA, evB, evP, fl, gp, tab, simprocAttr, reduceCtorEq, reduceIte]
    all_goals (simp [ll])
  · (try simp only [nhs] at hC1)
    exact absurd hC1 hf

/-! ### Derived, Lower -/

section
variable {n e : Nat} {m : List Int}
theorem derived1_c (h : GT n m n e) (p r : Nat → Bool) (hr : ∀ a, a < n → (r a = true ↔ Gen n (op m n) e (dnp n (op m n) e p p) a)) : FnC Tryd.prog 24 [.int .u64 (bo n p), .ptr [.int .i64 n, .list (il m)]] (.int .u64 (bo n r)) := by
  refine fnc_of tab_ok Tryd.func24 rfl (by kernel_rfl) (by rw [Tryd.ntmps24]; exact Nat.le_add_left 2 _) ?_; rw [Tryd.ntmps24]
  refine qm ?_
  refine hk_region fun K hK => runs_eval tab_ok ?_
  simp only [ev0, evA, evB, evP, fl, gp, tab, simprocAttr, reduceCtorEq, reduceIte]
  refine fin_run trivial (hK _ ?_) <;> clear hK <;> clear K
  refine qa (qm ?_)
  refine hk_region fun K hK => runs_eval tab_ok ?_
  simp only [ev0, evA, evB, evP, fl, gp, tab, simprocAttr, reduceCtorEq, reduceIte]
  refine fin_stop trivial (runs_call (derive_s h p p r (fun a ha => by rw [tst_cml]; exact hr a ha)) rfl rfl rfl (by simp only [dstOk, Nat.reduceLT]) (by repeat (first | exact trivial | constructor)) (runs_eval tab_ok ?_))
  simp only [ev0, evA, evB, evP, fl, gp, tab, simprocAttr, reduceCtorEq, reduceIte]
  refine fin_run ?_ (hK _ ?_) <;> clear hK <;> clear K
  · (first | exact trivial | omega | (simp only [In64] at *; omega) | (simp [In64] at *; omega) | (simp_all; done) | skip)
  refine qa (qk ?_)
  simp only [Tryd.results24, enA, ev0, evA, evB, evP, fl, gp, tab, simprocAttr, reduceCtorEq, reduceIte]
  all_goals (rfl)
theorem lower1_c (h : GT n m n e) (p r : Nat → Bool) (hr : ∀ a, a < n → (r a = true ↔ Gen n (op m n) e (dnp n (op m n) e p fun _ => true) a)) : FnC Tryd.prog 26 [.int .u64 (bo n p), .ptr [.int .i64 n, .list (il m)]] (.int .u64 (bo n r)) := by
  refine fnc_of tab_ok Tryd.func26 rfl (by kernel_rfl) (by rw [Tryd.ntmps26]; exact Nat.le_add_left 2 _) ?_; rw [Tryd.ntmps26]
  refine qm ?_
  refine hk_region fun K hK => runs_eval tab_ok ?_
  simp only [ev0, evA, evB, evP, fl, gp, tab, simprocAttr, reduceCtorEq, reduceIte]
  refine fin_run trivial (hK _ ?_) <;> clear hK <;> clear K
  refine qa (qm ?_)
  refine hk_draw mixed (by kernel_rfl) fun K hK => runs_eval tab_ok ?_
  simp only [ev0, evA, evB, evP, fl, gp, tab, simprocAttr, reduceCtorEq, reduceIte]
  refine fin_stop trivial (runs_call (whole_s n m h.2.1.big) rfl rfl rfl (by simp only [dstOk, Nat.reduceLT]) (by repeat (first | exact trivial | constructor)) (runs_eval tab_ok ?_))
  simp only [ev0, evA, evB, evP, fl, gp, tab, simprocAttr, reduceCtorEq, reduceIte]
  refine fin_stop trivial (runs_call (derive_s h p (fun _ => true) r (fun a ha => by rw [tst_cml]; exact hr a ha)) rfl rfl rfl (by simp only [dstOk, Nat.reduceLT]) (by repeat (first | exact trivial | constructor)) (runs_eval tab_ok ?_))
  simp only [ev0, evA, evB, evP, fl, gp, tab, simprocAttr, reduceCtorEq, reduceIte]
  refine fin_run ?_ (hK _ ?_) <;> clear hK <;> clear K
  · (first | exact trivial | omega | (simp only [In64] at *; omega) | (simp [In64] at *; omega) | (simp_all; done) | skip)
  refine qa (qk ?_)
  simp only [Tryd.results26, enA, ev0, evA, evB, evP, fl, gp, tab, simprocAttr, reduceCtorEq, reduceIte]
  all_goals (rfl)
theorem derived_ok (h : GT n m n e) (nx : (Nat → Bool) → Nat → Bool) (hnx : ∀ p a, a < n → (nx p a = true ↔ Gen n (op m n) e (dnp n (op m n) e p p) a)) (Z : Nat) (hZ : Z ≤ n) (hS : Stp n (itr nx fun _ => true) Z) :
    FnC Tryd.prog 6 [gp n m] (.tup [.list (ll (cht n (itr nx fun _ => true) Z)), fl (0, 0)]) := by
  refine fnc_of tab_ok Tryd.func6 rfl (by kernel_rfl) (by rw [Tryd.ntmps6]; exact Nat.le_add_left 1 _) ?_; rw [Tryd.ntmps6]
  refine qm ?_
  refine hk_region fun K hK => runs_eval tab_ok ?_
  simp only [ev0, evA, evB, evP, fl, gp, tab, simprocAttr, reduceCtorEq, reduceIte]
  refine fin_run ?_ (hK _ ?_) <;> clear hK <;> clear K
  · (first | exact trivial | omega | (simp only [In64] at *; omega) | (simp [In64] at *; omega) | (simp_all; done) | skip)
  refine qa (qm ?_)
  refine hk_freeze 0 rfl rfl ?_
  simp only [hset]
  refine hk_region fun K hK => runs_eval tab_ok ?_
  simp only [ev0, evA, evB, evP, fl, gp, tab, simprocAttr, reduceCtorEq, reduceIte]
  refine fin_stop trivial (runs_call (down_ok h _ _ (itr nx fun _ => true) Z hZ hS rfl (fun k => derived1_c h _ _ (hnx _))) rfl rfl rfl (by simp only [dstOk, Nat.reduceLT]) (by repeat (first | exact trivial | constructor)) (runs_eval tab_ok ?_))
  simp only [ev0, evA, evB, evP, fl, gp, tab, simprocAttr, reduceCtorEq, reduceIte]
  refine fin_run ?_ (hK _ ?_) <;> clear hK <;> clear K
  · (first | exact trivial | omega | (simp only [In64] at *; omega) | (simp [In64] at *; omega) | (simp_all; done) | skip)
  refine qa (qk ?_)
  simp only [Tryd.results6, enA, ev0, evA, evB, evP, fl, gp, tab, simprocAttr, reduceCtorEq, reduceIte]
  all_goals ((first | exact rfl | exact ⟨rfl, rfl⟩ | exact ⟨rfl, rfl, rfl⟩ | exact ⟨trivial, rfl⟩ | exact ⟨Nat.le_refl _, rfl⟩ | trivial | (simp; done)))
theorem lower_ok (h : GT n m n e) (nx : (Nat → Bool) → Nat → Bool) (hnx : ∀ p a, a < n → (nx p a = true ↔ Gen n (op m n) e (dnp n (op m n) e p fun _ => true) a)) (Z : Nat) (hZ : Z ≤ n) (hS : Stp n (itr nx fun _ => true) Z) :
    FnC Tryd.prog 7 [gp n m] (.tup [.list (ll (cht n (itr nx fun _ => true) Z)), fl (0, 0)]) := by
  refine fnc_of tab_ok Tryd.func7 rfl (by kernel_rfl) (by rw [Tryd.ntmps7]; exact Nat.le_add_left 1 _) ?_; rw [Tryd.ntmps7]
  refine qm ?_
  refine hk_region fun K hK => runs_eval tab_ok ?_
  simp only [ev0, evA, evB, evP, fl, gp, tab, simprocAttr, reduceCtorEq, reduceIte]
  refine fin_run ?_ (hK _ ?_) <;> clear hK <;> clear K
  · (first | exact trivial | omega | (simp only [In64] at *; omega) | (simp [In64] at *; omega) | (simp_all; done) | skip)
  refine qa (qm ?_)
  refine hk_freeze 0 rfl rfl ?_
  simp only [hset]
  refine hk_region fun K hK => runs_eval tab_ok ?_
  simp only [ev0, evA, evB, evP, fl, gp, tab, simprocAttr, reduceCtorEq, reduceIte]
  refine fin_stop trivial (runs_call (down_ok h _ _ (itr nx fun _ => true) Z hZ hS rfl (fun k => lower1_c h _ _ (hnx _))) rfl rfl rfl (by simp only [dstOk, Nat.reduceLT]) (by repeat (first | exact trivial | constructor)) (runs_eval tab_ok ?_))
  simp only [ev0, evA, evB, evP, fl, gp, tab, simprocAttr, reduceCtorEq, reduceIte]
  refine fin_run ?_ (hK _ ?_) <;> clear hK <;> clear K
  · (first | exact trivial | omega | (simp only [In64] at *; omega) | (simp [In64] at *; omega) | (simp_all; done) | skip)
  refine qa (qk ?_)
  simp only [Tryd.results7, enA, ev0, evA, evB, evP, fl, gp, tab, simprocAttr, reduceCtorEq, reduceIte]
  all_goals ((first | exact rfl | exact ⟨rfl, rfl⟩ | exact ⟨rfl, rfl, rfl⟩ | exact ⟨trivial, rfl⟩ | exact ⟨Nat.le_refl _, rfl⟩ | trivial | (simp; done)))
end
theorem derived_no (N : Int) (m : List Int) (hm : m.length ≤ 1000000000000000) (hf : ¬ (gf N m).1 = 0) : FnC Tryd.prog 6 [gp N m] (.tup [.list (ll []), fl (gf N m)]) := by
  refine fnc_of tab_ok Tryd.func6 rfl (by kernel_rfl) (by rw [Tryd.ntmps6]; exact Nat.le_add_left 1 _) ?_; rw [Tryd.ntmps6]
  refine qm ?_
  refine hk_region fun K hK => runs_eval tab_ok ?_
  simp only [ev0, evA, evB, evP, fl, gp, tab, simprocAttr, reduceCtorEq, reduceIte]
  refine fin_run ?_ (hK _ ?_) <;> clear hK <;> clear K
  · (first | exact trivial | omega | (simp only [In64] at *; omega) | (simp [In64] at *; omega) | (simp_all; done) | skip)
  refine qa (qm ?_)
  refine hk_freeze 0 rfl rfl ?_
  simp only [hset]
  refine hk_region fun K hK => runs_eval tab_ok ?_
  simp only [ev0, evA, evB, evP, fl, gp, tab, simprocAttr, reduceCtorEq, reduceIte]
  refine fin_stop trivial (runs_call (down_no N m _ _ hm hf) rfl rfl rfl (by simp only [dstOk, Nat.reduceLT]) (by repeat (first | exact trivial | constructor)) (runs_eval tab_ok ?_))
  simp only [ev0, evA, evB, evP, fl, gp, tab, simprocAttr, reduceCtorEq, reduceIte]
  refine fin_run ?_ (hK _ ?_) <;> clear hK <;> clear K
  · (first | exact trivial | omega | (simp only [In64] at *; omega) | (simp [In64] at *; omega) | (simp_all; done) | skip)
  refine qa (qk ?_)
  simp only [Tryd.results6, enA, ev0, evA, evB, evP, fl, gp, tab, simprocAttr, reduceCtorEq, reduceIte]
  all_goals ((first | exact rfl | exact ⟨rfl, rfl⟩ | exact ⟨rfl, rfl, rfl⟩ | exact ⟨trivial, rfl⟩ | exact ⟨Nat.le_refl _, rfl⟩ | trivial | (simp; done)))
theorem lower_no (N : Int) (m : List Int) (hm : m.length ≤ 1000000000000000) (hf : ¬ (gf N m).1 = 0) : FnC Tryd.prog 7 [gp N m] (.tup [.list (ll []), fl (gf N m)]) := by
  refine fnc_of tab_ok Tryd.func7 rfl (by kernel_rfl) (by rw [Tryd.ntmps7]; exact Nat.le_add_left 1 _) ?_; rw [Tryd.ntmps7]
  refine qm ?_
  refine hk_region fun K hK => runs_eval tab_ok ?_
  simp only [ev0, evA, evB, evP, fl, gp, tab, simprocAttr, reduceCtorEq, reduceIte]
  refine fin_run ?_ (hK _ ?_) <;> clear hK <;> clear K
  · (first | exact trivial | omega | (simp only [In64] at *; omega) | (simp [In64] at *; omega) | (simp_all; done) | skip)
  refine qa (qm ?_)
  refine hk_freeze 0 rfl rfl ?_
  simp only [hset]
  refine hk_region fun K hK => runs_eval tab_ok ?_
  simp only [ev0, evA, evB, evP, fl, gp, tab, simprocAttr, reduceCtorEq, reduceIte]
  refine fin_stop trivial (runs_call (down_no N m _ _ hm hf) rfl rfl rfl (by simp only [dstOk, Nat.reduceLT]) (by repeat (first | exact trivial | constructor)) (runs_eval tab_ok ?_))
  simp only [ev0, evA, evB, evP, fl, gp, tab, simprocAttr, reduceCtorEq, reduceIte]
  refine fin_run ?_ (hK _ ?_) <;> clear hK <;> clear K
  · (first | exact trivial | omega | (simp only [In64] at *; omega) | (simp [In64] at *; omega) | (simp_all; done) | skip)
  refine qa (qk ?_)
  simp only [Tryd.results7, enA, ev0, evA, evB, evP, fl, gp, tab, simprocAttr, reduceCtorEq, reduceIte]
  all_goals ((first | exact rfl | exact ⟨rfl, rfl⟩ | exact ⟨rfl, rfl, rfl⟩ | exact ⟨trivial, rfl⟩ | exact ⟨Nat.le_refl _, rfl⟩ | trivial | (simp; done)))

/-! ### Upper -/

theorem upper_no (N : Int) (m : List Int) (hm : m.length ≤ 1000000000000000) (hf : ¬ (gf N m).1 = 0) : FnC Tryd.prog 8 [gp N m] (.tup [.list (ll []), fl (gf N m)]) := by
  refine fnc_of tab_ok Tryd.func8 rfl (by kernel_rfl) (by rw [Tryd.ntmps8]; exact Nat.le_add_left 1 _) ?_; rw [Tryd.ntmps8]
  refine qm ?_
  refine hk_region fun K hK => runs_eval tab_ok ?_
  simp only [ev0, evA, evB, evP, fl, gp, tab, simprocAttr, reduceCtorEq, reduceIte]
  refine fin_run ?_ (hK _ ?_) <;> clear hK <;> clear K
  · (first | exact trivial | omega | (simp only [In64] at *; omega) | (simp [In64] at *; omega) | (simp_all; done) | skip)
  refine qa (qm (qm ?_))
  refine hk_region fun K hK => runs_eval tab_ok ?_
  simp only [ev0, evA, evB, evP, fl, gp, tab, simprocAttr, reduceCtorEq, reduceIte]
  refine fin_stop trivial (runs_call (check_c N m hm) rfl rfl rfl (by simp only [dstOk, Nat.reduceLT]) (by repeat (first | exact trivial | constructor)) (runs_eval tab_ok ?_))
  simp only [ev0, evA, evB, evP, fl, gp, tab, simprocAttr, reduceCtorEq, reduceIte]
  refine fin_run ?_ (hK _ ?_) <;> clear hK <;> clear K
  · (first | exact trivial | omega | (simp only [In64] at *; omega) | (simp [In64] at *; omega) | (simp_all; done) | skip)
  refine qa (qm ?_)
  refine hk_region fun K hK => runs_eval tab_ok ?_
  simp only [ev0, evA, evB, evP, fl, gp, tab, simprocAttr, reduceCtorEq, reduceIte]
  refine fin_run ?_ (hK _ ?_) <;> clear hK <;> clear K
  · (first | exact trivial | omega | (simp only [In64] at *; omega) | (simp [In64] at *; omega) | (simp_all; done) | skip)
  refine qa ?_
  refine hk_cond rfl (fun hC1 => ?_) (fun hC1 => ?_)
  · (try simp only [nhs] at hC1)
    refine qm ?_
    refine hk_draw mixed (by kernel_rfl) fun K hK => runs_eval tab_ok ?_
    simp only [ev0, evA, evB, evP, fl, gp, tab, simprocAttr, reduceCtorEq, reduceIte]
    refine fin_run ?_ (hK _ ?_) <;> clear hK <;> clear K
    · (first | exact trivial | omega | (simp only [In64] at *; omega) | (simp [In64] at *; omega) | (simp_all; done) | skip)
    refine qa (qk (qb ?_))
    simp only [Tryd.results8, enA, ev0, evA, evB, evP, fl, gp, tab, simprocAttr, reduceCtorEq, reduceIte]
    all_goals (simp [ll])
  · (try simp only [nhs] at hC1)
    exact absurd hC1 hf
/-- Of what is below a: what commutes with all, up to a set. -/
def upl (n : Nat) (f : Nat → Nat → Nat) (e : Nat) (p : Nat → Bool) (a x : Nat) : Bool := decide (x < a) && unx n f e p x
theorem upl_succ (n : Nat) (f : Nat → Nat → Nat) (e : Nat) (p : Nat → Bool) (a : Nat) : upl n f e p (a + 1) = if unx n f e p a = true then upd (upl n f e p a) a else upl n f e p a := by
  funext x
  unfold upl
  by_cases h : unx n f e p a = true
  · rw [if_pos h]
    unfold upd
    by_cases hx : x = a
    · subst hx; simp [h]
    · have h1 : decide (x < a + 1) = decide (x < a) := decide_eq_decide.2 (by omega)
      rw [h1]; simp [hx]
  · rw [if_neg h]
    by_cases hx : x = a
    · subst hx
      rw [Bool.not_eq_true] at h
      rw [h]; simp
    · have h1 : decide (x < a + 1) = decide (x < a) := decide_eq_decide.2 (by omega)
      rw [h1]

set_option maxHeartbeats 4000000 in
theorem upper_ok {n e : Nat} {m : List Int} (h : GT n m n e) (K : Nat) (hK : K ≤ n) (hS : Stp n (itr (unx n (op m n) e) (onp e)) K) :
    FnC Tryd.prog 8 [gp n m] (.tup [.list (ll (cht n (itr (unx n (op m n) e) (onp e)) K)), fl (0, 0)]) := by
  have G := h.2.2
  have hb := h.2.1.big
  have hml := h.2.1.len
  have hsq := sq_le hb
  have hbt : ∀ p, bo n p < 2 ^ 64 := fun p => bo_lt64 hb p
  have h1 : ∀ k : Nat, ((k + 1) == 0) = false := fun k => rfl
  have hT0 : itr (unx n (op m n) e) (onp e) 0 = onp e := rfl
  have hgen : ∀ a, a < n → (onp e a = true ↔ Gen n (op m n) e (Nat.testBit 0) a) := fun a ha => by
    rw [onp_iff]
    constructor
    · rintro rfl; exact .one
    · intro hg
      exact Gen.least (H := fun a => a = e) rfl (fun a b _ _ hb _ => by simp at hb) hg
  have hup0 : ∀ p, bo n (upl n (op m n) e p 0) = 0 := fun p => by
    refine Nat.eq_of_testBit_eq fun i => ?_
    rw [bo_bit]; simp [upl]
  have hupn : ∀ p, bo n (upl n (op m n) e p n) = bo n (unx n (op m n) e p) := fun p => bo_congr fun x hx => by simp [upl, hx]
  have hTs : ∀ k, itr (unx n (op m n) e) (onp e) (k + 1) = unx n (op m n) e (itr (unx n (op m n) e) (onp e) k) := fun k => rfl
  have hbit : ∀ (p : Nat → Bool) (a b : Nat), a < n → b < n → (bo n p).testBit (cmt n (op m n) e a b) = p (cmt n (op m n) e a b) := fun p a b ha hb' => by
    rw [bo_bit]; simp [G.cmt_lt ha hb']
  generalize hTT : itr (unx n (op m n) e) (onp e) = T at *
  refine fnc_of tab_ok Tryd.func8 rfl (by kernel_rfl) (by rw [Tryd.ntmps8]; exact Nat.le_add_left 1 _) ?_; rw [Tryd.ntmps8]
  refine qm ?_
  refine hk_region fun K hK => runs_eval tab_ok ?_
  simp only [ev0, evA, evB, evP, fl, gp, tab, simprocAttr, reduceCtorEq, reduceIte]
  refine fin_run ?_ (hK _ ?_) <;> clear hK <;> clear K
  · (first | exact trivial | omega | (simp only [In64] at *; omega) | (simp [In64] at *; omega) | (simp_all; done) | skip)
  refine qa (qm (qm ?_))
  refine hk_region fun K hK => runs_eval tab_ok ?_
  simp only [ev0, evA, evB, evP, fl, gp, tab, simprocAttr, reduceCtorEq, reduceIte]
  refine fin_stop trivial (runs_call (check_c n m (by omega)) rfl rfl rfl (by simp only [dstOk, Nat.reduceLT]) (by repeat (first | exact trivial | constructor)) (runs_eval tab_ok ?_))
  simp only [ev0, evA, evB, evP, fl, gp, tab, simprocAttr, reduceCtorEq, reduceIte, gf_of h]
  refine fin_run ?_ (hK _ ?_) <;> clear hK <;> clear K
  · (first | exact trivial | omega | (simp only [In64] at *; omega) | (simp [In64] at *; omega) | (simp_all; done) | skip)
  refine qa (qm ?_)
  refine hk_region fun K hK => runs_eval tab_ok ?_
  simp only [ev0, evA, evB, evP, fl, gp, tab, simprocAttr, reduceCtorEq, reduceIte]
  refine fin_run ?_ (hK _ ?_) <;> clear hK <;> clear K
  · (first | exact trivial | omega | (simp only [In64] at *; omega) | (simp [In64] at *; omega) | (simp_all; done) | skip)
  refine qa ?_
  refine hk_cond rfl (fun hC1 => ?_) (fun hC1 => ?_)
  · cases hC1
  · (try simp only [nhs] at hC1)
    refine qh (qa (qm ?_))
    refine hk_region fun K hK => runs_eval tab_ok ?_
    simp only [ev0, evA, evB, evP, fl, gp, tab, simprocAttr, reduceCtorEq, reduceIte]
    refine fin_stop trivial (runs_call (grow_c h 0 (Nat.pow_pos (by omega)) (onp e) hgen) rfl rfl rfl (by simp only [dstOk, Nat.reduceLT]) (by repeat (first | exact trivial | constructor)) (runs_eval tab_ok ?_))
    simp only [ev0, evA, evB, evP, fl, gp, tab, simprocAttr, reduceCtorEq, reduceIte]
    refine fin_run ?_ (hK _ ?_) <;> clear hK <;> clear K
    · (first | exact trivial | omega | (simp only [In64] at *; omega) | (simp [In64] at *; omega) | (simp_all; done) | skip)
    refine qa (qm ?_)
    refine hk_region fun K hK => runs_eval tab_ok ?_
    simp only [ev0, evA, evB, evP, fl, gp, tab, simprocAttr, reduceCtorEq, reduceIte]
    refine fin_stop trivial (runs_call (list_s (bo n (onp e)) (hbt _)) rfl rfl rfl (by simp only [dstOk, Nat.reduceLT]) (by repeat (first | exact trivial | constructor)) (runs_eval tab_ok ?_))
    simp only [ev0, evA, evB, evP, fl, gp, tab, simprocAttr, reduceCtorEq, reduceIte, stl_bo hb]
    refine fin_run ?_ (hK _ ?_) <;> clear hK <;> clear K
    · (first | exact trivial | omega | (simp only [In64] at *; omega) | (simp [In64] at *; omega) | (simp_all; done) | skip)
    refine qa (ql ?_)
    refine hk_loop (ι := Nat) (fun k => ⟨59, [(1, .ptr 0 0), (3, .ptr 1 0), (5, .p (.int .u64 (bo n (T k)))), (6, bif k == 0 then .p (.nn [.list (il (thl n (T 0)))]) else .sl 2 0 (cht n T k).length)], bif k == 0 then [.own [.p (.int .i64 n), .p (.list (il m))], .own [.p (.int .i64 0), .p (.int .i64 0)]] else [.own [.p (.int .i64 n), .p (.list (il m))], .own [.p (.int .i64 0), .p (.int .i64 0)], .own (opl (ll (cht n T k)))]⟩) (fun k => k ≤ K) (fun k => K - k) 0 (Nat.zero_le _) [0, 1] (by rw [hT0]; simp only [leq, leA, ev0, evA, evB, evP, fl, gp, tab, simprocAttr, reduceCtorEq, reduceIte, beq_self_eq_true, cond_true] <;> first | trivial | (simp; done)) fun k hk => ?_
    refine ql (qm ?_)
    by_cases hk0 : (k == 0) = true
    · simp only [hk0, cond_true]
      have hkz : k = 0 := by simpa using hk0
      refine hk_region fun K hK => runs_eval tab_ok ?_
      simp only [ev0, evA, evB, evP, fl, gp, tab, simprocAttr, reduceCtorEq, reduceIte]
      refine fin_run trivial (hK _ ?_) <;> clear hK <;> clear K
      refine qa (qm (qm ?_))
      refine hk_region fun K hK => runs_eval tab_ok ?_
      simp only [ev0, evA, evB, evP, fl, gp, tab, simprocAttr, reduceCtorEq, reduceIte]
      refine fin_run ?_ (hK _ ?_) <;> clear hK <;> clear K
      · (first | exact trivial | omega | (simp only [In64] at *; omega) | (simp [In64] at *; omega) | (simp_all; done) | skip)
      refine qa (ql ?_)
      refine hk_loop (ι := Nat) (fun a => ⟨59, [(1, .ptr 0 0), (3, .ptr 1 0), (5, .p (.int .u64 (bo n (T k)))), (6, .p (.nn [.list (il (thl n (T 0)))])), (7, .p (.int .u64 (bo n (upl n (op m n) e (T k) a)))), (23, .p (.int .i64 n)), (24, .p (.int .i64 a))], [.own [.p (.int .i64 n), .p (.list (il m))], .own [.p (.int .i64 0), .p (.int .i64 0)]]⟩) (fun a => a ≤ n) (fun a => n - a) 0 (Nat.zero_le _) [0, 1] (by rw [hup0]; simp only [leq, leA, ev0, evA, evB, evP, fl, gp, tab, simprocAttr, reduceCtorEq, reduceIte] <;> first | trivial | (simp; done)) fun a ha => ?_
      refine qm ?_
      refine hk_region fun K hK => runs_eval tab_ok ?_
      simp only [ev0, evA, evB, evP, fl, gp, tab, simprocAttr, reduceCtorEq, reduceIte]
      refine fin_run trivial (hK _ ?_) <;> clear hK <;> clear K
      refine qa (qm ?_)
      refine hk_cond rfl (fun hC2 => ?_) (fun hC2 => ?_)
      · (try simp only [nhs] at hC2)
        have hal : a < n := by omega
        refine qh (qa (qm (ql (qm ?_))))
        refine hk_region fun K hK => runs_eval tab_ok ?_
        simp only [ev0, evA, evB, evP, fl, gp, tab, simprocAttr, reduceCtorEq, reduceIte]
        refine fin_run trivial (hK _ ?_) <;> clear hK <;> clear K
        refine qa (qm ?_)
        refine hk_region fun K hK => runs_eval tab_ok ?_
        simp only [ev0, evA, evB, evP, fl, gp, tab, simprocAttr, reduceCtorEq, reduceIte]
        refine fin_run trivial (hK _ ?_) <;> clear hK <;> clear K
        refine qa (qm (qm ?_))
        refine hk_region fun K hK => runs_eval tab_ok ?_
        simp only [ev0, evA, evB, evP, fl, gp, tab, simprocAttr, reduceCtorEq, reduceIte]
        refine fin_run ?_ (hK _ ?_) <;> clear hK <;> clear K
        · (first | exact trivial | omega | (simp only [In64] at *; omega) | (simp [In64] at *; omega) | (simp_all; done) | skip)
        refine qa (ql ?_)
        refine hk_loop (ι := Nat) (fun b => ⟨59, [(1, .ptr 0 0), (3, .ptr 1 0), (5, .p (.int .u64 (bo n (T k)))), (6, .p (.nn [.list (il (thl n (T 0)))])), (7, .p (.int .u64 (bo n (upl n (op m n) e (T k) a)))), (8, .p (.int .i64 a)), (9, .p (.bool (decide (∀ c, c < b → T k (cmt n (op m n) e a c) = true)))), (23, .p (.int .i64 n)), (24, .p (.int .i64 a)), (28, .p (.int .i64 n)), (29, .p (.int .i64 b))], [.own [.p (.int .i64 n), .p (.list (il m))], .own [.p (.int .i64 0), .p (.int .i64 0)]]⟩) (fun b => b ≤ n) (fun b => n - b) 0 (Nat.zero_le _) [0, 1] (by simp only [leq, leA, ev0, evA, evB, evP, fl, gp, tab, simprocAttr, reduceCtorEq, reduceIte] <;> first | trivial | (simp; done)) fun b hb' => ?_
        refine qm ?_
        refine hk_region fun K hK => runs_eval tab_ok ?_
        simp only [ev0, evA, evB, evP, fl, gp, tab, simprocAttr, reduceCtorEq, reduceIte]
        refine fin_run trivial (hK _ ?_) <;> clear hK <;> clear K
        refine qa (qm ?_)
        refine hk_cond rfl (fun hC3 => ?_) (fun hC3 => ?_)
        · (try simp only [nhs] at hC3)
          have hbl : b < n := by omega
          have hcl := G.cmt_lt hal hbl
          refine qh (qa (qm (ql (qm ?_))))
          refine hk_region fun K hK => runs_eval tab_ok ?_
          simp only [ev0, evA, evB, evP, fl, gp, tab, simprocAttr, reduceCtorEq, reduceIte]
          refine fin_run trivial (hK _ ?_) <;> clear hK <;> clear K
          refine qa ?_
          by_cases hv : ∀ c, c < b → T k (cmt n (op m n) e a c) = true
          · have hn : decide (∀ c, c < b + 1 → T k (cmt n (op m n) e a c) = true) = T k (cmt n (op m n) e a b) := by
              rw [Bool.eq_iff_iff, decide_eq_true_eq]
              refine ⟨fun hh => hh b (by omega), fun hh c hc => ?_⟩
              by_cases hcb : c = b
              · subst hcb; exact hh
              · exact hv c (by omega)
            refine hk_region fun K hK => runs_eval tab_ok ?_
            simp only [ev0, evA, evB, evP, fl, gp, tab, simprocAttr, reduceCtorEq, reduceIte, decide_eq_true hv]
            refine fin_stop trivial (runs_call (commOf_s h hal hbl) rfl rfl rfl (by simp only [dstOk, Nat.reduceLT]) (by repeat (first | exact trivial | constructor)) (runs_eval tab_ok ?_))
            simp only [ev0, evA, evB, evP, fl, gp, tab, simprocAttr, reduceCtorEq, reduceIte, decide_eq_true hv]
            refine fin_stop trivial (runs_call (has_s (bo n (T k)) (cmt n (op m n) e a b) (hbt _) (by omega)) rfl rfl rfl (by simp only [dstOk, Nat.reduceLT]) (by repeat (first | exact trivial | constructor)) (runs_eval tab_ok ?_))
            simp only [ev0, evA, evB, evP, fl, gp, tab, simprocAttr, reduceCtorEq, reduceIte, hbit _ _ _ hal hbl, decide_eq_true hv]
            refine fin_run ?_ (hK _ ?_) <;> clear hK <;> clear K
            · (first | exact trivial | omega | (simp only [In64] at *; omega) | (simp [In64] at *; omega) | (simp_all; done) | skip)
            refine qd (qa ?_)
            refine hk_region fun K hK => runs_eval tab_ok ?_
            simp only [ev0, evA, evB, evP, fl, gp, tab, simprocAttr, reduceCtorEq, reduceIte]
            refine fin_run ?_ (hK _ ?_) <;> clear hK <;> clear K
            · (first | exact trivial | omega | (simp only [In64] at *; omega) | (simp [In64] at *; omega) | (simp_all; done) | skip)
            refine qa ?_
            refine ⟨b + 1, [0, 1], by omega, by omega, ?_⟩
            rw [hn]
            simp only [leq, leA, ev0, evA, evB, evP, fl, gp, tab, simprocAttr, reduceCtorEq, reduceIte] <;> first | trivial | omega
          · have hn : decide (∀ c, c < b + 1 → T k (cmt n (op m n) e a c) = true) = false := decide_eq_false fun hh => hv fun c hc => hh c (by omega)
            refine hk_region fun K hK => runs_eval tab_ok ?_
            simp only [ev0, evA, evB, evP, fl, gp, tab, simprocAttr, reduceCtorEq, reduceIte, decide_eq_false hv]
            refine fin_run trivial (hK _ ?_) <;> clear hK <;> clear K
            refine qd (qa ?_)
            refine hk_region fun K hK => runs_eval tab_ok ?_
            simp only [ev0, evA, evB, evP, fl, gp, tab, simprocAttr, reduceCtorEq, reduceIte]
            refine fin_run ?_ (hK _ ?_) <;> clear hK <;> clear K
            · (first | exact trivial | omega | (simp only [In64] at *; omega) | (simp [In64] at *; omega) | (simp_all; done) | skip)
            refine qa ?_
            refine ⟨b + 1, [0, 1], by omega, by omega, ?_⟩
            rw [hn]
            simp only [leq, leA, ev0, evA, evB, evP, fl, gp, tab, simprocAttr, reduceCtorEq, reduceIte] <;> first | trivial | omega
        · (try simp only [nhs] at hC3)
          have hbn : b = n := by omega
          have hun : decide (∀ c, c < b → T k (cmt n (op m n) e a c) = true) = unx n (op m n) e (T k) a := by rw [hbn]; rfl
          rw [hun]
          have hps := upl_succ n (op m n) e (T k) a
          have hbu := hbt (upl n (op m n) e (T k) a)
          have hp := pow_lt64 (b := a) (by omega)
          refine qj (qc (qc (qf (qa (qm ?_)))))
          refine hk_region fun K hK => runs_eval tab_ok ?_
          simp only [ev0, evA, evB, evP, fl, gp, tab, simprocAttr, reduceCtorEq, reduceIte]
          refine fin_run trivial (hK _ ?_) <;> clear hK <;> clear K
          refine qa ?_
          refine hk_cond rfl (fun hC4 => ?_) (fun hC4 => ?_)
          · (try simp only [nhs] at hC4)
            rw [if_pos hC4] at hps
            refine hk_region fun K hK => runs_eval tab_ok ?_
            simp only [ev0, evA, evB, evP, fl, gp, tab, simprocAttr, reduceCtorEq, reduceIte, shl_one (show a < 64 by omega), bv_or hbu hp, bo_upd hal]
            refine fin_run ?_ (hK _ ?_) <;> clear hK <;> clear K
            · (first | exact trivial | omega | (simp only [In64] at *; omega) | (simp [In64] at *; omega) | (simp_all; done) | skip)
            refine qd (qa ?_)
            refine hk_region fun K hK => runs_eval tab_ok ?_
            simp only [ev0, evA, evB, evP, fl, gp, tab, simprocAttr, reduceCtorEq, reduceIte]
            refine fin_run ?_ (hK _ ?_) <;> clear hK <;> clear K
            · (first | exact trivial | omega | (simp only [In64] at *; omega) | (simp [In64] at *; omega) | (simp_all; done) | skip)
            refine qa ?_
            refine ⟨a + 1, [0, 1], by omega, by omega, ?_⟩
            rw [hps]
            simp only [leq, leA, ev0, evA, evB, evP, fl, gp, tab, simprocAttr, reduceCtorEq, reduceIte] <;> first | trivial | omega
          · (try simp only [nhs] at hC4)
            rw [if_neg (by rw [hC4]; simp)] at hps
            refine qh (qd (qa ?_))
            refine hk_region fun K hK => runs_eval tab_ok ?_
            simp only [ev0, evA, evB, evP, fl, gp, tab, simprocAttr, reduceCtorEq, reduceIte]
            refine fin_run ?_ (hK _ ?_) <;> clear hK <;> clear K
            · (first | exact trivial | omega | (simp only [In64] at *; omega) | (simp [In64] at *; omega) | (simp_all; done) | skip)
            refine qa ?_
            refine ⟨a + 1, [0, 1], by omega, by omega, ?_⟩
            rw [hps]
            simp only [leq, leA, ev0, evA, evB, evP, fl, gp, tab, simprocAttr, reduceCtorEq, reduceIte] <;> first | trivial | omega
      · (try simp only [nhs] at hC2)
        have han : a = n := by omega
        rw [han, hupn, ← hTs k]
        refine qj (qc (qc (qf (qa (qm (qm ?_))))))
        refine hk_region fun K hK => runs_eval tab_ok ?_
        simp only [ev0, evA, evB, evP, fl, gp, tab, simprocAttr, reduceCtorEq, reduceIte]
        refine fin_run trivial (hK _ ?_) <;> clear hK <;> clear K
        refine qa ?_
        refine hk_cond rfl (fun hC5 => ?_) (fun hC5 => ?_)
        · (try simp only [nhs] at hC5)
          have hkK : k = K := (hS.at hk).1 (by omega)
          refine qm ?_
          refine hk_region fun K hK => runs_eval tab_ok ?_
          simp only [ev0, evA, evB, evP, fl, gp, tab, simprocAttr, reduceCtorEq, reduceIte]
          refine fin_run ?_ (hK _ ?_) <;> clear hK <;> clear K
          · (first | exact trivial | omega | (simp only [In64] at *; omega) | (simp [In64] at *; omega) | (simp_all; done) | skip)
          refine qa (qk (qb (qe (qb (qe ?_)))))
          simp only [Tryd.results8, enA, ev0, evA, evB, evP, fl, gp, tab, simprocAttr, reduceCtorEq, reduceIte]
          all_goals (rw [← hkK, hkz]; rfl)
        · (try simp only [nhs] at hC5)
          have hkK : k < K := by
            rcases Nat.lt_or_eq_of_le hk with h | h
            · exact h
            · exact absurd (by rw [(hS.at hk).2 h]) hC5
          have hs := cht_succ n T k
          refine qh (qa (qm ?_))
          refine hk_region fun K hK => runs_eval tab_ok ?_
          simp only [ev0, evA, evB, evP, fl, gp, tab, simprocAttr, reduceCtorEq, reduceIte]
          refine fin_run trivial (hK _ ?_) <;> clear hK <;> clear K
          refine qa ?_
          refine hk_region fun K hK => runs_eval tab_ok ?_
          simp only [ev0, evA, evB, evP, fl, gp, tab, simprocAttr, reduceCtorEq, reduceIte, ll_takeL, oll_ok, ll_snoc]
          refine fin_stop trivial (runs_call (list_s (bo n (T (k + 1))) (hbt _)) rfl rfl rfl (by simp only [dstOk, Nat.reduceLT]) (by repeat (first | exact trivial | constructor)) (runs_eval tab_ok ?_))
          simp only [ev0, evA, evB, evP, fl, gp, tab, simprocAttr, reduceCtorEq, reduceIte, stl_bo hb, ll_takeL, oll_ok, ll_snoc]
          refine fin_run ?_ (hK _ ?_) <;> clear hK <;> clear K
          · first | (simp [cellOk, PV.one]; done) | (simp [cellOk, PV.one]; omega)
          refine qd (qa ?_)
          refine ⟨k + 1, [0, 1, 2], by omega, by omega, ?_⟩
          have hs0 : ll (cht n T (k + 1)) = [.list (il (thl n (T 0))), .list (il (thl n (T (k + 1))))] := by rw [hs, hkz]; rfl
          have hl0 := cht_len n T (k + 1)
          simp only [leq, leA, ev0, evA, evB, evP, fl, gp, tab, simprocAttr, reduceCtorEq, reduceIte, h1, cond_false] <;> first | trivial | omega | (rw [hs0, hl0, hkz]; exact ⟨rfl, rfl⟩)
    · rw [Bool.not_eq_true] at hk0
      simp only [hk0, cond_false]
      have hlen := cht_len n T k
      have hll := ll_length (cht n T k)
      refine hk_region fun K hK => runs_eval tab_ok ?_
      simp only [ev0, evA, evB, evP, fl, gp, tab, simprocAttr, reduceCtorEq, reduceIte]
      refine fin_run trivial (hK _ ?_) <;> clear hK <;> clear K
      refine qa (qm (qm ?_))
      refine hk_region fun K hK => runs_eval tab_ok ?_
      simp only [ev0, evA, evB, evP, fl, gp, tab, simprocAttr, reduceCtorEq, reduceIte]
      refine fin_run ?_ (hK _ ?_) <;> clear hK <;> clear K
      · (first | exact trivial | omega | (simp only [In64] at *; omega) | (simp [In64] at *; omega) | (simp_all; done) | skip)
      refine qa (ql ?_)
      refine hk_loop (ι := Nat) (fun a => ⟨59, [(1, .ptr 0 0), (3, .ptr 1 0), (5, .p (.int .u64 (bo n (T k)))), (6, .sl 2 0 (cht n T k).length), (7, .p (.int .u64 (bo n (upl n (op m n) e (T k) a)))), (23, .p (.int .i64 n)), (24, .p (.int .i64 a))], [.own [.p (.int .i64 n), .p (.list (il m))], .own [.p (.int .i64 0), .p (.int .i64 0)], .own (opl (ll (cht n T k)))]⟩) (fun a => a ≤ n) (fun a => n - a) 0 (Nat.zero_le _) [0, 1, 2] (by rw [hup0]; simp only [leq, leA, ev0, evA, evB, evP, fl, gp, tab, simprocAttr, reduceCtorEq, reduceIte, ll_takeL] <;> first | trivial | (simp; done)) fun a ha => ?_
      refine qm ?_
      refine hk_region fun K hK => runs_eval tab_ok ?_
      simp only [ev0, evA, evB, evP, fl, gp, tab, simprocAttr, reduceCtorEq, reduceIte]
      refine fin_run trivial (hK _ ?_) <;> clear hK <;> clear K
      refine qa (qm ?_)
      refine hk_cond rfl (fun hC2 => ?_) (fun hC2 => ?_)
      · (try simp only [nhs] at hC2)
        have hal : a < n := by omega
        refine qh (qa (qm (ql (qm ?_))))
        refine hk_region fun K hK => runs_eval tab_ok ?_
        simp only [ev0, evA, evB, evP, fl, gp, tab, simprocAttr, reduceCtorEq, reduceIte]
        refine fin_run trivial (hK _ ?_) <;> clear hK <;> clear K
        refine qa (qm ?_)
        refine hk_region fun K hK => runs_eval tab_ok ?_
        simp only [ev0, evA, evB, evP, fl, gp, tab, simprocAttr, reduceCtorEq, reduceIte]
        refine fin_run trivial (hK _ ?_) <;> clear hK <;> clear K
        refine qa (qm (qm ?_))
        refine hk_region fun K hK => runs_eval tab_ok ?_
        simp only [ev0, evA, evB, evP, fl, gp, tab, simprocAttr, reduceCtorEq, reduceIte]
        refine fin_run ?_ (hK _ ?_) <;> clear hK <;> clear K
        · (first | exact trivial | omega | (simp only [In64] at *; omega) | (simp [In64] at *; omega) | (simp_all; done) | skip)
        refine qa (ql ?_)
        refine hk_loop (ι := Nat) (fun b => ⟨59, [(1, .ptr 0 0), (3, .ptr 1 0), (5, .p (.int .u64 (bo n (T k)))), (6, .sl 2 0 (cht n T k).length), (7, .p (.int .u64 (bo n (upl n (op m n) e (T k) a)))), (8, .p (.int .i64 a)), (9, .p (.bool (decide (∀ c, c < b → T k (cmt n (op m n) e a c) = true)))), (23, .p (.int .i64 n)), (24, .p (.int .i64 a)), (28, .p (.int .i64 n)), (29, .p (.int .i64 b))], [.own [.p (.int .i64 n), .p (.list (il m))], .own [.p (.int .i64 0), .p (.int .i64 0)], .own (opl (ll (cht n T k)))]⟩) (fun b => b ≤ n) (fun b => n - b) 0 (Nat.zero_le _) [0, 1, 2] (by simp only [leq, leA, ev0, evA, evB, evP, fl, gp, tab, simprocAttr, reduceCtorEq, reduceIte, ll_takeL] <;> first | trivial | (simp; done)) fun b hb' => ?_
        refine qm ?_
        refine hk_region fun K hK => runs_eval tab_ok ?_
        simp only [ev0, evA, evB, evP, fl, gp, tab, simprocAttr, reduceCtorEq, reduceIte]
        refine fin_run trivial (hK _ ?_) <;> clear hK <;> clear K
        refine qa (qm ?_)
        refine hk_cond rfl (fun hC3 => ?_) (fun hC3 => ?_)
        · (try simp only [nhs] at hC3)
          have hbl : b < n := by omega
          have hcl := G.cmt_lt hal hbl
          refine qh (qa (qm (ql (qm ?_))))
          refine hk_region fun K hK => runs_eval tab_ok ?_
          simp only [ev0, evA, evB, evP, fl, gp, tab, simprocAttr, reduceCtorEq, reduceIte]
          refine fin_run trivial (hK _ ?_) <;> clear hK <;> clear K
          refine qa ?_
          by_cases hv : ∀ c, c < b → T k (cmt n (op m n) e a c) = true
          · have hn : decide (∀ c, c < b + 1 → T k (cmt n (op m n) e a c) = true) = T k (cmt n (op m n) e a b) := by
              rw [Bool.eq_iff_iff, decide_eq_true_eq]
              refine ⟨fun hh => hh b (by omega), fun hh c hc => ?_⟩
              by_cases hcb : c = b
              · subst hcb; exact hh
              · exact hv c (by omega)
            refine hk_region fun K hK => runs_eval tab_ok ?_
            simp only [ev0, evA, evB, evP, fl, gp, tab, simprocAttr, reduceCtorEq, reduceIte, decide_eq_true hv]
            refine fin_stop trivial (runs_call (commOf_s h hal hbl) rfl rfl rfl (by simp only [dstOk, Nat.reduceLT]) (by repeat (first | exact trivial | constructor)) (runs_eval tab_ok ?_))
            simp only [ev0, evA, evB, evP, fl, gp, tab, simprocAttr, reduceCtorEq, reduceIte, decide_eq_true hv]
            refine fin_stop trivial (runs_call (has_s (bo n (T k)) (cmt n (op m n) e a b) (hbt _) (by omega)) rfl rfl rfl (by simp only [dstOk, Nat.reduceLT]) (by repeat (first | exact trivial | constructor)) (runs_eval tab_ok ?_))
            simp only [ev0, evA, evB, evP, fl, gp, tab, simprocAttr, reduceCtorEq, reduceIte, hbit _ _ _ hal hbl, decide_eq_true hv]
            refine fin_run ?_ (hK _ ?_) <;> clear hK <;> clear K
            · (first | exact trivial | omega | (simp only [In64] at *; omega) | (simp [In64] at *; omega) | (simp_all; done) | skip)
            refine qd (qa ?_)
            refine hk_region fun K hK => runs_eval tab_ok ?_
            simp only [ev0, evA, evB, evP, fl, gp, tab, simprocAttr, reduceCtorEq, reduceIte]
            refine fin_run ?_ (hK _ ?_) <;> clear hK <;> clear K
            · (first | exact trivial | omega | (simp only [In64] at *; omega) | (simp [In64] at *; omega) | (simp_all; done) | skip)
            refine qa ?_
            refine ⟨b + 1, [0, 1, 2], by omega, by omega, ?_⟩
            rw [hn]
            simp only [leq, leA, ev0, evA, evB, evP, fl, gp, tab, simprocAttr, reduceCtorEq, reduceIte, ll_takeL] <;> first | trivial | omega
          · have hn : decide (∀ c, c < b + 1 → T k (cmt n (op m n) e a c) = true) = false := decide_eq_false fun hh => hv fun c hc => hh c (by omega)
            refine hk_region fun K hK => runs_eval tab_ok ?_
            simp only [ev0, evA, evB, evP, fl, gp, tab, simprocAttr, reduceCtorEq, reduceIte, decide_eq_false hv]
            refine fin_run trivial (hK _ ?_) <;> clear hK <;> clear K
            refine qd (qa ?_)
            refine hk_region fun K hK => runs_eval tab_ok ?_
            simp only [ev0, evA, evB, evP, fl, gp, tab, simprocAttr, reduceCtorEq, reduceIte]
            refine fin_run ?_ (hK _ ?_) <;> clear hK <;> clear K
            · (first | exact trivial | omega | (simp only [In64] at *; omega) | (simp [In64] at *; omega) | (simp_all; done) | skip)
            refine qa ?_
            refine ⟨b + 1, [0, 1, 2], by omega, by omega, ?_⟩
            rw [hn]
            simp only [leq, leA, ev0, evA, evB, evP, fl, gp, tab, simprocAttr, reduceCtorEq, reduceIte, ll_takeL] <;> first | trivial | omega
        · (try simp only [nhs] at hC3)
          have hbn : b = n := by omega
          have hun : decide (∀ c, c < b → T k (cmt n (op m n) e a c) = true) = unx n (op m n) e (T k) a := by rw [hbn]; rfl
          rw [hun]
          have hps := upl_succ n (op m n) e (T k) a
          have hbu := hbt (upl n (op m n) e (T k) a)
          have hp := pow_lt64 (b := a) (by omega)
          refine qj (qc (qc (qf (qa (qm ?_)))))
          refine hk_region fun K hK => runs_eval tab_ok ?_
          simp only [ev0, evA, evB, evP, fl, gp, tab, simprocAttr, reduceCtorEq, reduceIte]
          refine fin_run trivial (hK _ ?_) <;> clear hK <;> clear K
          refine qa ?_
          refine hk_cond rfl (fun hC4 => ?_) (fun hC4 => ?_)
          · (try simp only [nhs] at hC4)
            rw [if_pos hC4] at hps
            refine hk_region fun K hK => runs_eval tab_ok ?_
            simp only [ev0, evA, evB, evP, fl, gp, tab, simprocAttr, reduceCtorEq, reduceIte, shl_one (show a < 64 by omega), bv_or hbu hp, bo_upd hal]
            refine fin_run ?_ (hK _ ?_) <;> clear hK <;> clear K
            · (first | exact trivial | omega | (simp only [In64] at *; omega) | (simp [In64] at *; omega) | (simp_all; done) | skip)
            refine qd (qa ?_)
            refine hk_region fun K hK => runs_eval tab_ok ?_
            simp only [ev0, evA, evB, evP, fl, gp, tab, simprocAttr, reduceCtorEq, reduceIte]
            refine fin_run ?_ (hK _ ?_) <;> clear hK <;> clear K
            · (first | exact trivial | omega | (simp only [In64] at *; omega) | (simp [In64] at *; omega) | (simp_all; done) | skip)
            refine qa ?_
            refine ⟨a + 1, [0, 1, 2], by omega, by omega, ?_⟩
            rw [hps]
            simp only [leq, leA, ev0, evA, evB, evP, fl, gp, tab, simprocAttr, reduceCtorEq, reduceIte, ll_takeL] <;> first | trivial | omega
          · (try simp only [nhs] at hC4)
            rw [if_neg (by rw [hC4]; simp)] at hps
            refine qh (qd (qa ?_))
            refine hk_region fun K hK => runs_eval tab_ok ?_
            simp only [ev0, evA, evB, evP, fl, gp, tab, simprocAttr, reduceCtorEq, reduceIte]
            refine fin_run ?_ (hK _ ?_) <;> clear hK <;> clear K
            · (first | exact trivial | omega | (simp only [In64] at *; omega) | (simp [In64] at *; omega) | (simp_all; done) | skip)
            refine qa ?_
            refine ⟨a + 1, [0, 1, 2], by omega, by omega, ?_⟩
            rw [hps]
            simp only [leq, leA, ev0, evA, evB, evP, fl, gp, tab, simprocAttr, reduceCtorEq, reduceIte, ll_takeL] <;> first | trivial | omega
      · (try simp only [nhs] at hC2)
        have han : a = n := by omega
        rw [han, hupn, ← hTs k]
        refine qj (qc (qc (qf (qa (qm (qm ?_))))))
        refine hk_region fun K hK => runs_eval tab_ok ?_
        simp only [ev0, evA, evB, evP, fl, gp, tab, simprocAttr, reduceCtorEq, reduceIte]
        refine fin_run trivial (hK _ ?_) <;> clear hK <;> clear K
        refine qa ?_
        refine hk_cond rfl (fun hC5 => ?_) (fun hC5 => ?_)
        · (try simp only [nhs] at hC5)
          have hkK : k = K := (hS.at hk).1 (by omega)
          refine qm ?_
          rw [← ll_length (cht n T k)]
          refine hk_sealp 6 2 (ll_all _) rfl rfl ?_
          refine hk_region fun K hK => runs_eval tab_ok ?_
          simp only [ev0, evA, evB, evP, fl, gp, tab, simprocAttr, reduceCtorEq, reduceIte]
          refine fin_run ?_ (hK _ ?_) <;> clear hK <;> clear K
          · (first | exact trivial | omega | (simp only [In64] at *; omega) | (simp [In64] at *; omega) | (simp_all; done) | skip)
          refine qa (qk (qb (qe (qb (qe ?_)))))
          simp only [Tryd.results8, enA, ev0, evA, evB, evP, fl, gp, tab, simprocAttr, reduceCtorEq, reduceIte]
          all_goals (rw [← hkK])
        · (try simp only [nhs] at hC5)
          have hkK : k < K := by
            rcases Nat.lt_or_eq_of_le hk with h | h
            · exact h
            · exact absurd (by rw [(hS.at hk).2 h]) hC5
          have hs := cht_succ n T k
          refine qh (qa (qm ?_))
          refine hk_region fun K hK => runs_eval tab_ok ?_
          simp only [ev0, evA, evB, evP, fl, gp, tab, simprocAttr, reduceCtorEq, reduceIte]
          refine fin_run trivial (hK _ ?_) <;> clear hK <;> clear K
          refine qa ?_
          refine hk_region fun K hK => runs_eval tab_ok ?_
          simp only [ev0, evA, evB, evP, fl, gp, tab, simprocAttr, reduceCtorEq, reduceIte, ll_takeL, oll_ok, ll_snoc]
          refine fin_stop trivial (runs_call (list_s (bo n (T (k + 1))) (hbt _)) rfl rfl rfl (by simp only [dstOk, Nat.reduceLT]) (by repeat (first | exact trivial | constructor)) (runs_eval tab_ok ?_))
          simp only [ev0, evA, evB, evP, fl, gp, tab, simprocAttr, reduceCtorEq, reduceIte, stl_bo hb, ll_takeL, oll_ok, ll_snoc]
          refine fin_run ?_ (hK _ ?_) <;> clear hK <;> clear K
          · first | (simp [cellOk, PV.one]; done) | (simp [cellOk, PV.one]; omega)
          refine qd (qa ?_)
          refine ⟨k + 1, [0, 1, 3], by omega, by omega, ?_⟩
          rw [hs]
          simp only [leq, leA, ev0, evA, evB, evP, fl, gp, tab, simprocAttr, reduceCtorEq, reduceIte, h1, cond_false, ll_takeL, ll_snoc, ll_takeS] <;> first | trivial | omega | (simp [ll]; done)

/-! ### An example of the document -/

theorem sq8_der (nx : (Nat → Bool) → Nat → Bool) (hnx : ∀ p a, a < 8 → (nx p a = true ↔ Gen 8 (op sq8 8) 0 (dnp 8 (op sq8 8) 0 p p) a)) : Stp 8 (itr nx fun _ => true) 2 ∧ thl 8 (itr nx (fun _ => true) 1) = [0, 2] := by
  have G := sq8_e.2.2
  have e1 : ∀ a, a < 8 → itr nx (fun _ => true) 1 a = (a == 0 || a == 2) := fun a ha => by
    rw [Bool.eq_iff_iff]
    refine (hnx _ a ha).trans ?_
    constructor
    · intro hg
      have hs : Sub 8 (op sq8 8) 0 fun a => a == 0 || a == 2 := by
        refine sub_of G rfl fun a b ha hb h1 h2 => ?_
        have key : ∀ a, a < 8 → ∀ b, b < 8 → (a == 0 || a == 2) = true → (b == 0 || b == 2) = true → (op sq8 8 a b == 0 || op sq8 8 a b == 2) = true := by decide +kernel
        exact key a ha b hb h1 h2
      refine hg.sub G hs fun b hb hc => ?_
      have key : ∀ b, b < 8 → dnp 8 (op sq8 8) 0 (fun _ => true) (fun _ => true) b = true → (b == 0 || b == 2) = true := by decide +kernel
      exact key b hb hc
    · intro h'
      have : a = 0 ∨ a = 2 := by simpa using h'
      rcases this with rfl | rfl
      · exact .one
      · exact .mem G (by omega) (by show dnp 8 (op sq8 8) 0 (fun _ => true) (fun _ => true) 2 = true; decide +kernel)
  have step : ∀ k, (∀ a, a < 8 → itr nx (fun _ => true) k a = true → (a = 0 ∨ a = 2)) → ∀ a, a < 8 → itr nx (fun _ => true) (k + 1) a = (a == 0) := fun k hk a ha => by
    rw [Bool.eq_iff_iff]
    refine (hnx _ a ha).trans ?_
    constructor
    · intro hg
      have hs := G.onp_sub
      have := hg.sub G hs fun b hb hc => by
        obtain ⟨x, y, x1, y1, x2, y2, rfl⟩ := dnp_iff.1 hc
        have key : ∀ x, x < 8 → ∀ y, y < 8 → (x = 0 ∨ x = 2) → (y = 0 ∨ y = 2) → onp 0 (cmt 8 (op sq8 8) 0 x y) = true := by decide +kernel
        exact key x x1 y y1 (hk x x1 x2) (hk y y1 y2)
      simpa [onp] using this
    · intro h'
      have : a = 0 := by simpa using h'
      subst this
      exact .one
  have e2 : ∀ a, a < 8 → itr nx (fun _ => true) 2 a = (a == 0) := step 1 fun a ha h => by rw [e1 a ha] at h; simpa using h
  have e3 : ∀ a, a < 8 → itr nx (fun _ => true) 3 a = (a == 0) := step 2 fun a ha h => by rw [e2 a ha] at h; exact .inl (by simpa using h)
  refine ⟨⟨fun a ha => by rw [e2 a ha]; exact e3 a ha, fun j hj hall => ?_⟩, ?_⟩
  · match j, hj with
    | 0, _ => have := hall 1 (by omega); rw [e1 1 (by omega)] at this; cases this
    | 1, _ => have := hall 2 (by omega); rw [e1 2 (by omega)] at this; rw [show itr nx (fun _ => true) (1 + 1) 2 = _ from e2 2 (by omega)] at this; cases this
  · rw [thl_congr e1]; decide +kernel
theorem seriesBegun_c : FnC Tryd.prog 12 [] (.bool true) := by
  obtain ⟨nx, hnx⟩ := nx_ex 8 (op sq8 8) 0 fun p => dnp 8 (op sq8 8) 0 p p
  obtain ⟨hS, h1⟩ := sq8_der nx hnx
  have hl : (cht 8 (itr nx fun _ => true) 2).length = 3 := cht_len _ _ _
  have hg : (cht 8 (itr nx fun _ => true) 2).getD 1 [] = [0, 2] := by rw [cht_get (by omega), h1]
  have hll : (ll (cht 8 (itr nx fun _ => true) 2)).getD 1 default = .list (il [0, 2]) := by rw [ll_get (by omega), hg]
  refine fnc_of tab_ok Tryd.func12 rfl (by kernel_rfl) (by rw [Tryd.ntmps12]; exact Nat.le_add_left 0 _) ?_; rw [Tryd.ntmps12]
  refine qm ?_
  refine hk_region fun K hK => runs_eval tab_ok ?_
  simp only [ev0, evA, evB, evP, fl, gp, tab, simprocAttr, reduceCtorEq, reduceIte]
  refine fin_run trivial (hK _ ?_) <;> clear hK <;> clear K
  refine qa (qm ?_)
  refine hk_region fun K hK => runs_eval tab_ok ?_
  simp only [ev0, evA, evB, evP, fl, gp, tab, simprocAttr, reduceCtorEq, reduceIte]
  refine fin_stop trivial (runs_call (square_c) rfl rfl rfl (by simp only [dstOk, Nat.reduceLT]) (by repeat (first | exact trivial | constructor)) (runs_eval tab_ok ?_))
  simp only [ev0, evA, evB, evP, fl, gp, tab, simprocAttr, reduceCtorEq, reduceIte]
  refine fin_stop trivial (runs_call (derived_ok sq8_e nx hnx 2 (by omega) hS) rfl rfl rfl (by simp only [dstOk, Nat.reduceLT]) (by repeat (first | exact trivial | constructor)) (runs_eval tab_ok ?_))
  simp only [ev0, evA, evB, evP, fl, gp, tab, simprocAttr, reduceCtorEq, reduceIte]
  refine fin_run ?_ (hK _ ?_) <;> clear hK <;> clear K
  · (first | exact trivial | omega | (simp only [In64] at *; omega) | (simp [In64] at *; omega) | (simp_all; done) | skip)
  refine qa (qm ?_)
  refine hk_region fun K hK => runs_eval tab_ok ?_
  simp only [ev0, evA, evB, evP, fl, gp, tab, simprocAttr, reduceCtorEq, reduceIte, ll_length, hl, hll]
  refine fin_stop trivial (runs_call (FnC.sub (args' := [.list (il [0, 2]), .nn (il [0, 2])]) (ints_c [0, 2] [0, 2] (by decide)) (And.intro (.same _) (And.intro (.nn _) trivial))) rfl rfl rfl (by simp only [dstOk, Nat.reduceLT]) (by repeat (first | exact trivial | constructor)) (runs_eval tab_ok ?_))
  simp only [ev0, evA, evB, evP, fl, gp, tab, simprocAttr, reduceCtorEq, reduceIte, ll_length, hl, hll]
  refine fin_run ?_ (hK _ ?_) <;> clear hK <;> clear K
  · (first | exact trivial | omega | (simp only [In64] at *; omega) | (simp [In64] at *; omega) | (simp_all; done) | skip)
  refine qa (qk ?_)
  simp only [Tryd.results12, enA, ev0, evA, evB, evP, fl, gp, tab, simprocAttr, reduceCtorEq, reduceIte]
  all_goals (rfl)
end Go.Proofs.YtpogfmijefephaaDoor
