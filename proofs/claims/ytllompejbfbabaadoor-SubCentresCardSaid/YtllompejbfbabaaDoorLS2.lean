/-
  Walks: the law SubProducts. Conditions: none.
-/
import Derived.Test.YtllompejbfbabaaDoorS6
import Derived.Test.YtllompejbfbabaaDoorG13
set_option linter.all false
namespace Go.Proofs.YtllompejbfbabaaDoor
open Go.Pv

theorem thl_mem_len (n : Nat) (p : Nat → Bool) : (thl n p).length = (mem n p).length := thl_len n p
theorem two0 (a b : Int) : (a = 0 ∧ b = 0) ∨ (a = 0 ∧ ¬ b = 0) ∨ ¬ a = 0 := by omega
/-- In one of two. -/
def orB (p q : Nat → Bool) (a : Nat) : Bool := p a || q a
theorem three0 (a b c : Int) : (a = 0 ∧ b = 0 ∧ c = 0) ∨ (a = 0 ∧ b = 0 ∧ ¬ c = 0) ∨ (a = 0 ∧ ¬ b = 0) ∨ ¬ a = 0 := by omega
theorem sf_two {N : Int} {m l : List Int} {n e : Nat} (h : GT N m n e) (hf : (sf N m l).1 = 0) : l = thl n (tst l) ∧ sf N m l = (0, 0) := by
  obtain ⟨n', e', h', hN, h1, h2⟩ := sf_ok hf
  have : n' = n := by have := h.1; omega
  subst this
  exact ⟨h1, h2⟩
theorem made_any (N : Int) (m l : List Int) (hm : m.length ≤ 1000000000000000) (hl : l.length ≤ 1000000000000000) : ∃ r : List Int, FnC Tryd.prog 38 [gp N m, .list (il l)] (.tup [.list (il r), fl (sf N m l)]) := by
  by_cases hf : (sf N m l).1 = 0
  · obtain ⟨n, e, h, rfl, h1, h2⟩ := sf_ok hf
    obtain ⟨q, hq⟩ := gen_ex n (op m n) e (tst l)
    refine ⟨thl n q, ?_⟩
    rw [h2, h1]
    exact made_ok h (tst l) q hq
  · exact ⟨[], made_no N m l hm hl hf⟩

theorem prod1_c {n e : Nat} {m : List Int} (h : GT n m n e) (p q : Nat → Bool) {x : Nat} (hx : x < n) : FnC Tryd.prog 55 [.int .i64 x, .ptr [.list (il (thl n p))], .ptr [.list (il (thl n q))], .ptr [.int .i64 n, .list (il m)]] (.bool (pr2 n (op m n) e p q x)) := by
  have G := h.2.2
  have hb := h.2.1.big
  have hlp := thl_le n p
  have hlq := thl_le n q
  refine fnc_of tab_ok Tryd.func55 rfl (by kernel_rfl) (by rw [Tryd.ntmps55]; exact Nat.le_add_left 4 _) ?_; rw [Tryd.ntmps55]; repeat (first | refine thn_n ?_ | refine thn_r ?_ | refine thn_x ?_ | refine inb_n ?_ | refine inb_r ?_ | refine inb_x ?_ | refine inb_y rfl ?_ | refine hk_skip ?_ | refine hk_label ?_ | refine hk_exit ?_ | refine hk_ret ?_ | refine hk_block ?_ | refine hk_seq ?_)
  refine hk_region fun K hK => runs_eval tab_ok ?_
  simp only [ev0, evA, evB, evP, fl, gp, tab, simprocAttr, reduceCtorEq, reduceIte]
  refine fin_run trivial (hK _ ?_) <;> clear hK <;> clear K
  repeat (first | refine thn_n ?_ | refine thn_r ?_ | refine thn_x ?_ | refine inb_n ?_ | refine inb_r ?_ | refine inb_x ?_ | refine inb_y rfl ?_ | refine hk_skip ?_ | refine hk_label ?_ | refine hk_exit ?_ | refine hk_ret ?_ | refine hk_block ?_ | refine hk_seq ?_)
  refine hk_region fun K hK => runs_eval tab_ok ?_
  simp only [ev0, evA, evB, evP, fl, gp, tab, simprocAttr, reduceCtorEq, reduceIte]
  refine fin_run trivial (hK _ ?_) <;> clear hK <;> clear K
  repeat (first | refine thn_n ?_ | refine thn_r ?_ | refine thn_x ?_ | refine inb_n ?_ | refine inb_r ?_ | refine inb_x ?_ | refine inb_y rfl ?_ | refine hk_skip ?_ | refine hk_label ?_ | refine hk_exit ?_ | refine hk_ret ?_ | refine hk_block ?_ | refine hk_seq ?_)
  refine hk_loop (ι := Nat) (fun i => ⟨24, [(0, .p (.int .i64 x)), (1, .p (.ptr [.list (il (thl n p))])), (2, .p (.ptr [.list (il (thl n q))])), (3, .p (.ptr [.int .i64 n, .list (il m)])), (6, .p (.int .i64 i))], []⟩) (fun i => i ≤ (thl n p).length ∧ ∀ j, j < i → q (op m n (iv n (op m n) e ((thl n p).getD j 0).toNat) x) = false) (fun i => (thl n p).length - i) 0 ⟨Nat.zero_le _, fun j hj => by omega⟩ [] (by simp only [leq, leA, ev0, evA, evB, evP, fl, gp, tab, simprocAttr, reduceCtorEq, reduceIte] <;> trivial) fun i hi => ?_
  obtain ⟨hi1, hi2⟩ := hi
  repeat (first | refine thn_n ?_ | refine thn_r ?_ | refine thn_x ?_ | refine inb_n ?_ | refine inb_r ?_ | refine inb_x ?_ | refine inb_y rfl ?_ | refine hk_skip ?_ | refine hk_label ?_ | refine hk_exit ?_ | refine hk_ret ?_ | refine hk_block ?_ | refine hk_seq ?_)
  refine hk_region fun K hK => runs_eval tab_ok ?_
  simp only [ev0, evA, evB, evP, fl, gp, tab, simprocAttr, reduceCtorEq, reduceIte]
  refine fin_run ?_ (hK _ ?_) <;> clear hK <;> clear K
  · (first | exact trivial | omega | (simp only [In64] at *; omega) | (simp [In64] at *; omega) | (simp_all; done) | skip)
  repeat (first | refine thn_n ?_ | refine thn_r ?_ | refine thn_x ?_ | refine inb_n ?_ | refine inb_r ?_ | refine inb_x ?_ | refine inb_y rfl ?_ | refine hk_skip ?_ | refine hk_label ?_ | refine hk_exit ?_ | refine hk_ret ?_ | refine hk_block ?_ | refine hk_seq ?_)
  refine hk_cond rfl (fun hC1 => ?_) (fun hC1 => ?_)
  · (try simp only [nhs] at hC1)
    repeat (first | refine thn_n ?_ | refine thn_r ?_ | refine thn_x ?_ | refine inb_n ?_ | refine inb_r ?_ | refine inb_x ?_ | refine inb_y rfl ?_ | refine hk_skip ?_ | refine hk_label ?_ | refine hk_exit ?_ | refine hk_ret ?_ | refine hk_block ?_ | refine hk_seq ?_)
    have hlt : i < (thl n p).length := by omega
    obtain ⟨a, a1, a2, a3⟩ := thl_get hlt
    have hax := G.cl _ _ (G.iv_lt a1) hx
    refine hk_draw mixed (by kernel_rfl) fun K hK => runs_eval tab_ok ?_
    simp only [ev0, evA, evB, evP, fl, gp, tab, simprocAttr, reduceCtorEq, reduceIte, il_get hlt, a3]
    refine fin_stop ?_ (runs_call (i_c h.2.1 a1) rfl rfl rfl (by simp only [dstOk, Nat.reduceLT]) (by repeat (first | exact trivial | constructor)) (runs_eval tab_ok ?_))
    · (first | exact trivial | omega | (simp only [In64] at *; omega) | (simp [In64] at *; omega) | (simp_all; done) | skip)
    simp only [ev0, evA, evB, evP, fl, gp, tab, simprocAttr, reduceCtorEq, reduceIte, h.iI a1, il_get hlt, a3]
    refine fin_stop trivial (runs_call (m_c h.2.1 (G.iv_lt a1) hx) rfl rfl rfl (by simp only [dstOk, Nat.reduceLT]) (by repeat (first | exact trivial | constructor)) (runs_eval tab_ok ?_))
    simp only [ev0, evA, evB, evP, fl, gp, tab, simprocAttr, reduceCtorEq, reduceIte, il_get hlt, a3]
    refine fin_stop trivial (runs_call (has_r (thl n q) (op m n (iv n (op m n) e a) x : Nat) (by omega)) rfl rfl rfl (by simp only [dstOk, Nat.reduceLT]) (by repeat (first | exact trivial | constructor)) (runs_eval tab_ok ?_))
    simp only [ev0, evA, evB, evP, fl, gp, tab, simprocAttr, reduceCtorEq, reduceIte, il_get hlt, a3]
    refine fin_run ?_ (hK _ ?_) <;> clear hK <;> clear K
    · (first | exact trivial | omega | (simp only [In64] at *; omega) | (simp [In64] at *; omega) | (simp_all; done) | skip)
    repeat (first | refine thn_n ?_ | refine thn_r ?_ | refine thn_x ?_ | refine inb_n ?_ | refine inb_r ?_ | refine inb_x ?_ | refine inb_y rfl ?_ | refine hk_skip ?_ | refine hk_label ?_ | refine hk_exit ?_ | refine hk_ret ?_ | refine hk_block ?_ | refine hk_seq ?_)
    refine hk_cond rfl (fun hC2 => ?_) (fun hC2 => ?_)
    · (try simp only [nhs] at hC2)
      repeat (first | refine thn_n ?_ | refine thn_r ?_ | refine thn_x ?_ | refine inb_n ?_ | refine inb_r ?_ | refine inb_x ?_ | refine inb_y rfl ?_ | refine hk_skip ?_ | refine hk_label ?_ | refine hk_exit ?_ | refine hk_ret ?_ | refine hk_block ?_ | refine hk_seq ?_)
      have hin := (mem_thl_n hax).1 hC2
      refine hk_region fun K hK => runs_eval tab_ok ?_
      simp only [ev0, evA, evB, evP, fl, gp, tab, simprocAttr, reduceCtorEq, reduceIte]
      refine fin_run trivial (hK _ ?_) <;> clear hK <;> clear K
      repeat (first | refine thn_n ?_ | refine thn_r ?_ | refine thn_x ?_ | refine inb_n ?_ | refine inb_r ?_ | refine inb_x ?_ | refine inb_y rfl ?_ | refine hk_skip ?_ | refine hk_label ?_ | refine hk_exit ?_ | refine hk_ret ?_ | refine hk_block ?_ | refine hk_seq ?_)
      simp only [Tryd.results55, enA, ev0, evA, evB, evP, fl, gp, tab, simprocAttr, reduceCtorEq, reduceIte]
      all_goals (rw [eq_comm, pr2_iff]; exact ⟨a, a1, a2, hin⟩)
    · (try simp only [nhs] at hC2)
      repeat (first | refine thn_n ?_ | refine thn_r ?_ | refine thn_x ?_ | refine inb_n ?_ | refine inb_r ?_ | refine inb_x ?_ | refine inb_y rfl ?_ | refine hk_skip ?_ | refine hk_label ?_ | refine hk_exit ?_ | refine hk_ret ?_ | refine hk_block ?_ | refine hk_seq ?_)
      have hno : q (op m n (iv n (op m n) e a) x) = false := by
        cases hqv : q (op m n (iv n (op m n) e a) x) with
        | false => rfl
        | true => exact absurd ((mem_thl_n hax).2 hqv) hC2
      refine hk_region fun K hK => runs_eval tab_ok ?_
      simp only [ev0, evA, evB, evP, fl, gp, tab, simprocAttr, reduceCtorEq, reduceIte]
      refine fin_run ?_ (hK _ ?_) <;> clear hK <;> clear K
      · (first | exact trivial | omega | (simp only [In64] at *; omega) | (simp [In64] at *; omega) | (simp_all; done) | skip)
      repeat (first | refine thn_n ?_ | refine thn_r ?_ | refine thn_x ?_ | refine inb_n ?_ | refine inb_r ?_ | refine inb_x ?_ | refine inb_y rfl ?_ | refine hk_skip ?_ | refine hk_label ?_ | refine hk_exit ?_ | refine hk_ret ?_ | refine hk_block ?_ | refine hk_seq ?_)
      refine ⟨i + 1, [], ⟨by omega, fun j hj => ?_⟩, by omega, ?_⟩
      · by_cases hj2 : j = i
        · subst hj2; rw [a3, Int.toNat_natCast]; exact hno
        · exact hi2 j (by omega)
      · simp only [leq, leA, ev0, evA, evB, evP, fl, gp, tab, simprocAttr, reduceCtorEq, reduceIte] <;> omega
  · (try simp only [nhs] at hC1)
    repeat (first | refine thn_n ?_ | refine thn_r ?_ | refine thn_x ?_ | refine inb_n ?_ | refine inb_r ?_ | refine inb_x ?_ | refine inb_y rfl ?_ | refine hk_skip ?_ | refine hk_label ?_ | refine hk_exit ?_ | refine hk_ret ?_ | refine hk_block ?_ | refine hk_seq ?_)
    refine hk_region fun K hK => runs_eval tab_ok ?_
    simp only [ev0, evA, evB, evP, fl, gp, tab, simprocAttr, reduceCtorEq, reduceIte]
    refine fin_run trivial (hK _ ?_) <;> clear hK <;> clear K
    repeat (first | refine thn_n ?_ | refine thn_r ?_ | refine thn_x ?_ | refine inb_n ?_ | refine inb_r ?_ | refine inb_x ?_ | refine inb_y rfl ?_ | refine hk_skip ?_ | refine hk_label ?_ | refine hk_exit ?_ | refine hk_ret ?_ | refine hk_block ?_ | refine hk_seq ?_)
    simp only [Tryd.results55, enA, ev0, evA, evB, evP, fl, gp, tab, simprocAttr, reduceCtorEq, reduceIte]
    rw [eq_comm]
    cases hqv : pr2 n (op m n) e p q x with
    | false => rfl
    | true =>
      obtain ⟨a, a1, a2, a3⟩ := pr2_iff.1 hqv
      obtain ⟨j, j1, j2⟩ := thl_at a1 a2
      have := hi2 j (by omega)
      rw [j2, Int.toNat_natCast, a3] at this
      cases this

set_option maxRecDepth 20000 in
set_option maxHeartbeats 4000000 in
theorem products_c (N : Int) (m l l2 : List Int) (hm : m.length ≤ 17592186043904) (hl : l.length ≤ 17592186043904) (hl2 : l2.length ≤ 17592186043904) : FnC Tryd.prog 10 [gp N m, .list (il l), .list (il l2)] (.bool true) := by
  refine fnc_of tab_ok Tryd.func10 rfl (by kernel_rfl) (by rw [Tryd.ntmps10]; exact Nat.le_add_left 3 _) ?_; rw [Tryd.ntmps10]; repeat (first | refine thn_n ?_ | refine thn_r ?_ | refine thn_x ?_ | refine inb_n ?_ | refine inb_r ?_ | refine inb_x ?_ | refine inb_y rfl ?_ | refine hk_skip ?_ | refine hk_label ?_ | refine hk_exit ?_ | refine hk_ret ?_ | refine hk_block ?_ | refine hk_seq ?_)
  refine hk_region fun K hK => runs_eval tab_ok ?_
  simp only [ev0, evA, evB, evP, fl, gp, tab, simprocAttr, reduceCtorEq, reduceIte]
  refine fin_run ?_ (hK _ ?_) <;> clear hK <;> clear K
  · (first | exact trivial | omega | (simp only [In64] at *; omega) | (simp [In64] at *; omega) | (simp_all; done) | skip)
  repeat (first | refine thn_n ?_ | refine thn_r ?_ | refine thn_x ?_ | refine inb_n ?_ | refine inb_r ?_ | refine inb_x ?_ | refine inb_y rfl ?_ | refine hk_skip ?_ | refine hk_label ?_ | refine hk_exit ?_ | refine hk_ret ?_ | refine hk_block ?_ | refine hk_seq ?_)
  refine hk_region fun K hK => runs_eval tab_ok ?_
  simp only [ev0, evA, evB, evP, fl, gp, tab, simprocAttr, reduceCtorEq, reduceIte]
  refine fin_stop trivial (runs_call (begun_s) rfl rfl rfl (by simp only [dstOk, Nat.reduceLT]) (by repeat (first | exact trivial | constructor)) (runs_eval tab_ok ?_))
  simp only [ev0, evA, evB, evP, fl, gp, tab, simprocAttr, reduceCtorEq, reduceIte]
  refine fin_run trivial (hK _ ?_) <;> clear hK <;> clear K
  repeat (first | refine thn_n ?_ | refine thn_r ?_ | refine thn_x ?_ | refine inb_n ?_ | refine inb_r ?_ | refine inb_x ?_ | refine inb_y rfl ?_ | refine hk_skip ?_ | refine hk_label ?_ | refine hk_exit ?_ | refine hk_ret ?_ | refine hk_block ?_ | refine hk_seq ?_)
  refine hk_cond rfl (fun hC1 => ?_) (fun hC1 => ?_)
  · cases hC1
  · (try simp only [nhs] at hC1)
    repeat (first | refine thn_n ?_ | refine thn_r ?_ | refine thn_x ?_ | refine inb_n ?_ | refine inb_r ?_ | refine inb_x ?_ | refine inb_y rfl ?_ | refine hk_skip ?_ | refine hk_label ?_ | refine hk_exit ?_ | refine hk_ret ?_ | refine hk_block ?_ | refine hk_seq ?_)
    rcases two0 (sf N m l).1 (sf N m l2).1 with ⟨hf, hf2⟩ | ⟨hf, hf2⟩ | hf
    · obtain ⟨n, e, h, rfl, h1, hs⟩ := sf_ok hf
      obtain ⟨h2, hs2⟩ := sf_two h hf2
      have G := h.2.2
      have T := h.2.1
      have hb := T.big
      generalize tst l = p at h1
      subst h1
      generalize tst l2 = r at h2
      subst h2
      obtain ⟨q1, hq1⟩ := gen_ex n (op m n) e p
      obtain ⟨q2, hq2⟩ := gen_ex n (op m n) e r
      have s1 := gen_sub G hq1
      have s2 := gen_sub G hq2
      have len1 := thl_le n q1
      have len2 := thl_le n q2
      have len3 := thl_le n fun a => q1 a && q2 a
      have len4 := thl_le n (pr2 n (op m n) e q1 q2)
      have hcount := G.prod_count s1 s2
      simp only [← thl_mem_len] at hcount
      refine hk_region fun K hK => runs_eval tab_ok ?_
      simp only [ev0, evA, evB, evP, fl, gp, tab, simprocAttr, reduceCtorEq, reduceIte]
      refine fin_stop trivial (runs_call (made_ok h p q1 hq1) rfl rfl rfl (by simp only [dstOk, Nat.reduceLT]) (by repeat (first | exact trivial | constructor)) (runs_eval tab_ok ?_))
      simp only [ev0, evA, evB, evP, fl, gp, tab, simprocAttr, reduceCtorEq, reduceIte]
      refine fin_run ?_ (hK _ ?_) <;> clear hK <;> clear K
      · (first | exact trivial | omega | (simp only [In64] at *; omega) | (simp [In64] at *; omega) | (simp_all; done) | skip)
      repeat (first | refine thn_n ?_ | refine thn_r ?_ | refine thn_x ?_ | refine inb_n ?_ | refine inb_r ?_ | refine inb_x ?_ | refine inb_y rfl ?_ | refine hk_skip ?_ | refine hk_label ?_ | refine hk_exit ?_ | refine hk_ret ?_ | refine hk_block ?_ | refine hk_seq ?_)
      refine hk_region fun K hK => runs_eval tab_ok ?_
      simp only [ev0, evA, evB, evP, fl, gp, tab, simprocAttr, reduceCtorEq, reduceIte]
      refine fin_stop trivial (runs_call (made_ok h r q2 hq2) rfl rfl rfl (by simp only [dstOk, Nat.reduceLT]) (by repeat (first | exact trivial | constructor)) (runs_eval tab_ok ?_))
      simp only [ev0, evA, evB, evP, fl, gp, tab, simprocAttr, reduceCtorEq, reduceIte]
      refine fin_run ?_ (hK _ ?_) <;> clear hK <;> clear K
      · (first | exact trivial | omega | (simp only [In64] at *; omega) | (simp [In64] at *; omega) | (simp_all; done) | skip)
      repeat (first | refine thn_n ?_ | refine thn_r ?_ | refine thn_x ?_ | refine inb_n ?_ | refine inb_r ?_ | refine inb_x ?_ | refine inb_y rfl ?_ | refine hk_skip ?_ | refine hk_label ?_ | refine hk_exit ?_ | refine hk_ret ?_ | refine hk_block ?_ | refine hk_seq ?_)
      refine hk_region fun K hK => runs_eval tab_ok ?_
      simp only [ev0, evA, evB, evP, fl, gp, tab, simprocAttr, reduceCtorEq, reduceIte]
      refine fin_run ?_ (hK _ ?_) <;> clear hK <;> clear K
      · (first | exact trivial | omega | (simp only [In64] at *; omega) | (simp [In64] at *; omega) | (simp_all; done) | skip)
      repeat (first | refine thn_n ?_ | refine thn_r ?_ | refine thn_x ?_ | refine inb_n ?_ | refine inb_r ?_ | refine inb_x ?_ | refine inb_y rfl ?_ | refine hk_skip ?_ | refine hk_label ?_ | refine hk_exit ?_ | refine hk_ret ?_ | refine hk_block ?_ | refine hk_seq ?_)
      refine hk_cond rfl (fun hC2 => ?_) (fun hC2 => ?_)
      · cases hC2
      · (try simp only [nhs] at hC2)
        repeat (first | refine thn_n ?_ | refine thn_r ?_ | refine thn_x ?_ | refine inb_n ?_ | refine inb_r ?_ | refine inb_x ?_ | refine inb_y rfl ?_ | refine hk_skip ?_ | refine hk_label ?_ | refine hk_exit ?_ | refine hk_ret ?_ | refine hk_block ?_ | refine hk_seq ?_)
        refine hk_region fun K hK => runs_eval tab_ok ?_
        simp only [ev0, evA, evB, evP, fl, gp, tab, simprocAttr, reduceCtorEq, reduceIte]
        refine fin_stop trivial (runs_call (both_c (thl n q1) (thl n q2) (by omega) (by omega)) rfl rfl rfl (by simp only [dstOk, Nat.reduceLT]) (by repeat (first | exact trivial | constructor)) (runs_eval tab_ok ?_))
        simp only [ev0, evA, evB, evP, fl, gp, tab, simprocAttr, reduceCtorEq, reduceIte, bth_thl]
        refine fin_run ?_ (hK _ ?_) <;> clear hK <;> clear K
        · (first | exact trivial | omega | (simp only [In64] at *; omega) | (simp [In64] at *; omega) | (simp_all; done) | skip)
        repeat (first | refine thn_n ?_ | refine thn_r ?_ | refine thn_x ?_ | refine inb_n ?_ | refine inb_r ?_ | refine inb_x ?_ | refine inb_y rfl ?_ | refine hk_skip ?_ | refine hk_label ?_ | refine hk_exit ?_ | refine hk_ret ?_ | refine hk_block ?_ | refine hk_seq ?_)
        refine hk_region fun K hK => runs_eval tab_ok ?_
        simp only [ev0, evA, evB, evP, fl, gp, tab, simprocAttr, reduceCtorEq, reduceIte]
        refine fin_stop trivial (runs_call (is_ok h (fun a => q1 a && q2 a) true (by simp only [true_iff]; exact s1.and s2)) rfl rfl rfl (by simp only [dstOk, Nat.reduceLT]) (by repeat (first | exact trivial | constructor)) (runs_eval tab_ok ?_))
        simp only [ev0, evA, evB, evP, fl, gp, tab, simprocAttr, reduceCtorEq, reduceIte]
        refine fin_run ?_ (hK _ ?_) <;> clear hK <;> clear K
        · (first | exact trivial | omega | (simp only [In64] at *; omega) | (simp [In64] at *; omega) | (simp_all; done) | skip)
        repeat (first | refine thn_n ?_ | refine thn_r ?_ | refine thn_x ?_ | refine inb_n ?_ | refine inb_r ?_ | refine inb_x ?_ | refine inb_y rfl ?_ | refine hk_skip ?_ | refine hk_label ?_ | refine hk_exit ?_ | refine hk_ret ?_ | refine hk_block ?_ | refine hk_seq ?_)
        refine hk_region fun K hK => runs_eval tab_ok ?_
        simp only [ev0, evA, evB, evP, fl, gp, tab, simprocAttr, reduceCtorEq, reduceIte]
        refine fin_stop trivial (runs_call (listFault_c n m (thl n q1) (by omega)) rfl rfl rfl (by simp only [dstOk, Nat.reduceLT]) (by repeat (first | exact trivial | constructor)) (runs_eval tab_ok ?_))
        simp only [ev0, evA, evB, evP, fl, gp, tab, simprocAttr, reduceCtorEq, reduceIte, lf_thl]
        refine fin_stop trivial (runs_call (listFault_c n m (thl n q2) (by omega)) rfl rfl rfl (by simp only [dstOk, Nat.reduceLT]) (by repeat (first | exact trivial | constructor)) (runs_eval tab_ok ?_))
        simp only [ev0, evA, evB, evP, fl, gp, tab, simprocAttr, reduceCtorEq, reduceIte, lf_thl]
        refine fin_run ?_ (hK _ ?_) <;> clear hK <;> clear K
        · (first | exact trivial | omega | (simp only [In64] at *; omega) | (simp [In64] at *; omega) | (simp_all; done) | skip)
        repeat (first | refine thn_n ?_ | refine thn_r ?_ | refine thn_x ?_ | refine inb_n ?_ | refine inb_r ?_ | refine inb_x ?_ | refine inb_y rfl ?_ | refine hk_skip ?_ | refine hk_label ?_ | refine hk_exit ?_ | refine hk_ret ?_ | refine hk_block ?_ | refine hk_seq ?_)
        refine hk_cond rfl (fun hC3 => ?_) (fun hC3 => ?_)
        · cases hC3
        · (try simp only [nhs] at hC3)
          repeat (first | refine thn_n ?_ | refine thn_r ?_ | refine thn_x ?_ | refine inb_n ?_ | refine inb_r ?_ | refine inb_x ?_ | refine inb_y rfl ?_ | refine hk_skip ?_ | refine hk_label ?_ | refine hk_exit ?_ | refine hk_ret ?_ | refine hk_block ?_ | refine hk_seq ?_)
          refine hk_freeze 0 rfl rfl ?_
          refine hk_freeze 1 rfl rfl ?_
          refine hk_freeze 3 rfl rfl ?_
          simp only [hset]
          refine hk_region fun K hK => runs_eval tab_ok ?_
          simp only [ev0, evA, evB, evP, fl, gp, tab, simprocAttr, reduceCtorEq, reduceIte]
          refine fin_stop trivial (runs_call (those_c n m _ _ (pr2 n (op m n) e q1 q2) (by omega) (fun a ha => prod1_c h q1 q2 ha)) rfl rfl rfl (by simp only [dstOk, Nat.reduceLT]) (by repeat (first | exact trivial | constructor)) (runs_eval tab_ok ?_))
          simp only [ev0, evA, evB, evP, fl, gp, tab, simprocAttr, reduceCtorEq, reduceIte, il_length]
          refine fin_run ?_ (hK _ ?_) <;> clear hK <;> clear K
          · (first | exact trivial | omega | (simp only [In64] at *; omega) | (simp [In64] at *; omega) | (simp_all; done) | skip)
          repeat (first | refine thn_n ?_ | refine thn_r ?_ | refine thn_x ?_ | refine inb_n ?_ | refine inb_r ?_ | refine inb_x ?_ | refine inb_y rfl ?_ | refine hk_skip ?_ | refine hk_label ?_ | refine hk_exit ?_ | refine hk_ret ?_ | refine hk_block ?_ | refine hk_seq ?_)
          refine hk_region fun K hK => runs_eval tab_ok ?_
          simp only [ev0, evA, evB, evP, fl, gp, tab, simprocAttr, reduceCtorEq, reduceIte, il_length]
          refine fin_run ?_ (hK _ ?_) <;> clear hK <;> clear K
          · have b1 := Nat.mul_le_mul (Nat.le_trans len4 hb) (Nat.le_trans len3 hb)
            have b2 := Nat.mul_le_mul (Nat.le_trans len1 hb) (Nat.le_trans len2 hb)
            rw [← Int.natCast_mul, ← Int.natCast_mul]
            simp only [In64]
            omega
          repeat (first | refine thn_n ?_ | refine thn_r ?_ | refine thn_x ?_ | refine inb_n ?_ | refine inb_r ?_ | refine inb_x ?_ | refine inb_y rfl ?_ | refine hk_skip ?_ | refine hk_label ?_ | refine hk_exit ?_ | refine hk_ret ?_ | refine hk_block ?_ | refine hk_seq ?_)
          simp only [Tryd.results10, enA, ev0, evA, evB, evP, fl, gp, tab, simprocAttr, reduceCtorEq, reduceIte]
          refine decide_eq_true ?_
          rw [← Int.natCast_mul, ← Int.natCast_mul, hcount]
    · obtain ⟨n, e, h, rfl, h1, hs⟩ := sf_ok hf
      generalize tst l = p at h1
      subst h1
      obtain ⟨q1, hq1⟩ := gen_ex n (op m n) e p
      refine hk_region fun K hK => runs_eval tab_ok ?_
      simp only [ev0, evA, evB, evP, fl, gp, tab, simprocAttr, reduceCtorEq, reduceIte]
      refine fin_stop trivial (runs_call (made_ok h p q1 hq1) rfl rfl rfl (by simp only [dstOk, Nat.reduceLT]) (by repeat (first | exact trivial | constructor)) (runs_eval tab_ok ?_))
      simp only [ev0, evA, evB, evP, fl, gp, tab, simprocAttr, reduceCtorEq, reduceIte]
      refine fin_run ?_ (hK _ ?_) <;> clear hK <;> clear K
      · (first | exact trivial | omega | (simp only [In64] at *; omega) | (simp [In64] at *; omega) | (simp_all; done) | skip)
      repeat (first | refine thn_n ?_ | refine thn_r ?_ | refine thn_x ?_ | refine inb_n ?_ | refine inb_r ?_ | refine inb_x ?_ | refine inb_y rfl ?_ | refine hk_skip ?_ | refine hk_label ?_ | refine hk_exit ?_ | refine hk_ret ?_ | refine hk_block ?_ | refine hk_seq ?_)
      refine hk_region fun K hK => runs_eval tab_ok ?_
      simp only [ev0, evA, evB, evP, fl, gp, tab, simprocAttr, reduceCtorEq, reduceIte]
      refine fin_stop trivial (runs_call (made_no n m l2 (by omega) (by omega) hf2) rfl rfl rfl (by simp only [dstOk, Nat.reduceLT]) (by repeat (first | exact trivial | constructor)) (runs_eval tab_ok ?_))
      simp only [ev0, evA, evB, evP, fl, gp, tab, simprocAttr, reduceCtorEq, reduceIte]
      refine fin_run ?_ (hK _ ?_) <;> clear hK <;> clear K
      · (first | exact trivial | omega | (simp only [In64] at *; omega) | (simp [In64] at *; omega) | (simp_all; done) | skip)
      repeat (first | refine thn_n ?_ | refine thn_r ?_ | refine thn_x ?_ | refine inb_n ?_ | refine inb_r ?_ | refine inb_x ?_ | refine inb_y rfl ?_ | refine hk_skip ?_ | refine hk_label ?_ | refine hk_exit ?_ | refine hk_ret ?_ | refine hk_block ?_ | refine hk_seq ?_)
      refine hk_region fun K hK => runs_eval tab_ok ?_
      simp only [ev0, evA, evB, evP, fl, gp, tab, simprocAttr, reduceCtorEq, reduceIte, decide_eq_false hf2]
      refine fin_run ?_ (hK _ ?_) <;> clear hK <;> clear K
      · (first | exact trivial | omega | (simp only [In64] at *; omega) | (simp [In64] at *; omega) | (simp_all; done) | skip)
      repeat (first | refine thn_n ?_ | refine thn_r ?_ | refine thn_x ?_ | refine inb_n ?_ | refine inb_r ?_ | refine inb_x ?_ | refine inb_y rfl ?_ | refine hk_skip ?_ | refine hk_label ?_ | refine hk_exit ?_ | refine hk_ret ?_ | refine hk_block ?_ | refine hk_seq ?_)
      refine hk_cond rfl (fun hC2 => ?_) (fun hC2 => ?_)
      · (try simp only [nhs] at hC2)
        repeat (first | refine thn_n ?_ | refine thn_r ?_ | refine thn_x ?_ | refine inb_n ?_ | refine inb_r ?_ | refine inb_x ?_ | refine inb_y rfl ?_ | refine hk_skip ?_ | refine hk_label ?_ | refine hk_exit ?_ | refine hk_ret ?_ | refine hk_block ?_ | refine hk_seq ?_)
        refine hk_region fun K hK => runs_eval tab_ok ?_
        simp only [ev0, evA, evB, evP, fl, gp, tab, simprocAttr, reduceCtorEq, reduceIte, sf_thl h, decide_eq_false hf2]
        refine fin_stop trivial (runs_call (setFault_c n m (thl n p) (by omega) (by omega)) rfl rfl rfl (by simp only [dstOk, Nat.reduceLT]) (by repeat (first | exact trivial | constructor)) (runs_eval tab_ok ?_))
        simp only [ev0, evA, evB, evP, fl, gp, tab, simprocAttr, reduceCtorEq, reduceIte, sf_thl h, decide_eq_false hf2]
        refine fin_stop trivial (runs_call (setFault_c n m l2 (by omega) (by omega)) rfl rfl rfl (by simp only [dstOk, Nat.reduceLT]) (by repeat (first | exact trivial | constructor)) (runs_eval tab_ok ?_))
        simp only [ev0, evA, evB, evP, fl, gp, tab, simprocAttr, reduceCtorEq, reduceIte, sf_thl h, decide_eq_false hf2]
        refine fin_run ?_ (hK _ ?_) <;> clear hK <;> clear K
        · (first | exact trivial | omega | (simp only [In64] at *; omega) | (simp [In64] at *; omega) | (simp_all; done) | skip)
        repeat (first | refine thn_n ?_ | refine thn_r ?_ | refine thn_x ?_ | refine inb_n ?_ | refine inb_r ?_ | refine inb_x ?_ | refine inb_y rfl ?_ | refine hk_skip ?_ | refine hk_label ?_ | refine hk_exit ?_ | refine hk_ret ?_ | refine hk_block ?_ | refine hk_seq ?_)
        simp only [Tryd.results10, enA, ev0, evA, evB, evP, fl, gp, tab, simprocAttr, reduceCtorEq, reduceIte]
        all_goals (rfl)
      · cases hC2
    · obtain ⟨r2, hr2⟩ := made_any N m l2 (by omega) (by omega)
      refine hk_region fun K hK => runs_eval tab_ok ?_
      simp only [ev0, evA, evB, evP, fl, gp, tab, simprocAttr, reduceCtorEq, reduceIte]
      refine fin_stop trivial (runs_call (made_no N m l (by omega) (by omega) hf) rfl rfl rfl (by simp only [dstOk, Nat.reduceLT]) (by repeat (first | exact trivial | constructor)) (runs_eval tab_ok ?_))
      simp only [ev0, evA, evB, evP, fl, gp, tab, simprocAttr, reduceCtorEq, reduceIte]
      refine fin_run ?_ (hK _ ?_) <;> clear hK <;> clear K
      · (first | exact trivial | omega | (simp only [In64] at *; omega) | (simp [In64] at *; omega) | (simp_all; done) | skip)
      repeat (first | refine thn_n ?_ | refine thn_r ?_ | refine thn_x ?_ | refine inb_n ?_ | refine inb_r ?_ | refine inb_x ?_ | refine inb_y rfl ?_ | refine hk_skip ?_ | refine hk_label ?_ | refine hk_exit ?_ | refine hk_ret ?_ | refine hk_block ?_ | refine hk_seq ?_)
      refine hk_region fun K hK => runs_eval tab_ok ?_
      simp only [ev0, evA, evB, evP, fl, gp, tab, simprocAttr, reduceCtorEq, reduceIte]
      refine fin_stop trivial (runs_call (hr2) rfl rfl rfl (by simp only [dstOk, Nat.reduceLT]) (by repeat (first | exact trivial | constructor)) (runs_eval tab_ok ?_))
      simp only [ev0, evA, evB, evP, fl, gp, tab, simprocAttr, reduceCtorEq, reduceIte]
      refine fin_run ?_ (hK _ ?_) <;> clear hK <;> clear K
      · (first | exact trivial | omega | (simp only [In64] at *; omega) | (simp [In64] at *; omega) | (simp_all; done) | skip)
      repeat (first | refine thn_n ?_ | refine thn_r ?_ | refine thn_x ?_ | refine inb_n ?_ | refine inb_r ?_ | refine inb_x ?_ | refine inb_y rfl ?_ | refine hk_skip ?_ | refine hk_label ?_ | refine hk_exit ?_ | refine hk_ret ?_ | refine hk_block ?_ | refine hk_seq ?_)
      refine hk_region fun K hK => runs_eval tab_ok ?_
      simp only [ev0, evA, evB, evP, fl, gp, tab, simprocAttr, reduceCtorEq, reduceIte, decide_eq_false hf]
      refine fin_run ?_ (hK _ ?_) <;> clear hK <;> clear K
      · (first | exact trivial | omega | (simp only [In64] at *; omega) | (simp [In64] at *; omega) | (simp_all; done) | skip)
      repeat (first | refine thn_n ?_ | refine thn_r ?_ | refine thn_x ?_ | refine inb_n ?_ | refine inb_r ?_ | refine inb_x ?_ | refine inb_y rfl ?_ | refine hk_skip ?_ | refine hk_label ?_ | refine hk_exit ?_ | refine hk_ret ?_ | refine hk_block ?_ | refine hk_seq ?_)
      refine hk_cond rfl (fun hC2 => ?_) (fun hC2 => ?_)
      · repeat (first | refine thn_n ?_ | refine thn_r ?_ | refine thn_x ?_ | refine inb_n ?_ | refine inb_r ?_ | refine inb_x ?_ | refine inb_y rfl ?_ | refine hk_skip ?_ | refine hk_label ?_ | refine hk_exit ?_ | refine hk_ret ?_ | refine hk_block ?_ | refine hk_seq ?_)
        refine hk_region fun K hK => runs_eval tab_ok ?_
        simp only [ev0, evA, evB, evP, fl, gp, tab, simprocAttr, reduceCtorEq, reduceIte, decide_eq_false hf]
        refine fin_stop trivial (runs_call (setFault_c N m l (by omega) (by omega)) rfl rfl rfl (by simp only [dstOk, Nat.reduceLT]) (by repeat (first | exact trivial | constructor)) (runs_eval tab_ok ?_))
        simp only [ev0, evA, evB, evP, fl, gp, tab, simprocAttr, reduceCtorEq, reduceIte, decide_eq_false hf]
        refine fin_run ?_ (hK _ ?_) <;> clear hK <;> clear K
        · (first | exact trivial | omega | (simp only [In64] at *; omega) | (simp [In64] at *; omega) | (simp_all; done) | skip)
        repeat (first | refine thn_n ?_ | refine thn_r ?_ | refine thn_x ?_ | refine inb_n ?_ | refine inb_r ?_ | refine inb_x ?_ | refine inb_y rfl ?_ | refine hk_skip ?_ | refine hk_label ?_ | refine hk_exit ?_ | refine hk_ret ?_ | refine hk_block ?_ | refine hk_seq ?_)
        simp only [Tryd.results10, enA, ev0, evA, evB, evP, fl, gp, tab, simprocAttr, reduceCtorEq, reduceIte]
        all_goals (rfl)
      · cases hC2
end Go.Proofs.YtllompejbfbabaaDoor
