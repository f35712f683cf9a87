/-
  Walks: the program's words of groups: things, powers, orders. Conditions: none.
-/
import Derived.Test.YtmkebnaedgdeaaaT5
set_option linter.all false
namespace Go.Proofs.Ytmkebnaedgdeaaa
open Go.Pv

theorem oneOf_c {n e : Nat} {m : List Int} (h : GT n m n e) : FnC Try.prog 61 [gp n m] (.int .i64 (e : Nat)) := by
  have G := h.2.2
  have T := h.2.1
  have hb := T.big
  have hel := G.el
  refine fnc_of tab_ok Try.func61 rfl (by kernel_rfl) (by rw [Try.ntmps61]; exact Nat.le_add_left 1 _) ?_; rw [Try.ntmps61]; repeat (first | refine thn_n ?_ | refine thn_r ?_ | refine thn_x ?_ | refine inb_n ?_ | refine inb_r ?_ | refine inb_x ?_ | refine inb_y rfl ?_ | refine hk_skip ?_ | refine hk_label ?_ | refine hk_exit ?_ | refine hk_ret ?_ | refine hk_block ?_ | refine hk_seq ?_)
  refine hk_region fun K hK => runs_eval tab_ok ?_
  simp only [ev0, evA, evB, evP, fl, gp, tab, simprocAttr, reduceCtorEq, reduceIte]
  refine fin_run ?_ (hK _ ?_) <;> clear hK <;> clear K
  · (first | exact trivial | omega | (simp only [In64] at *; omega) | (simp [In64] at *; omega) | (simp_all; done) | skip)
  repeat (first | refine thn_n ?_ | refine thn_r ?_ | refine thn_x ?_ | refine inb_n ?_ | refine inb_r ?_ | refine inb_x ?_ | refine inb_y rfl ?_ | refine hk_skip ?_ | refine hk_label ?_ | refine hk_exit ?_ | refine hk_ret ?_ | refine hk_block ?_ | refine hk_seq ?_)
  refine hk_region fun K hK => runs_eval tab_ok ?_
  simp only [ev0, evA, evB, evP, fl, gp, tab, simprocAttr, reduceCtorEq, reduceIte]
  refine fin_run ?_ (hK _ ?_) <;> clear hK <;> clear K
  · (first | exact trivial | omega | (simp only [In64] at *; omega) | (simp [In64] at *; omega) | (simp_all; done) | skip)
  repeat (first | refine thn_n ?_ | refine thn_r ?_ | refine thn_x ?_ | refine inb_n ?_ | refine inb_r ?_ | refine inb_x ?_ | refine inb_y rfl ?_ | refine hk_skip ?_ | refine hk_label ?_ | refine hk_exit ?_ | refine hk_ret ?_ | refine hk_block ?_ | refine hk_seq ?_)
  refine hk_loop (ι := Nat) (fun i => ⟨17, [(1, .ptr 0 0), (5, .p (.int .i64 n)), (6, .p (.int .i64 i))], [.own [.p (.int .i64 n), .p (.list (il m))]]⟩) (fun i => i ≤ e) (fun i => n - i) 0 (Nat.zero_le _) [0] (by simp only [leq, leA, ev0, evA, evB, evP, fl, gp, tab, simprocAttr, reduceCtorEq, reduceIte] <;> trivial) fun i hi => ?_
  repeat (first | refine thn_n ?_ | refine thn_r ?_ | refine thn_x ?_ | refine inb_n ?_ | refine inb_r ?_ | refine inb_x ?_ | refine inb_y rfl ?_ | refine hk_skip ?_ | refine hk_label ?_ | refine hk_exit ?_ | refine hk_ret ?_ | refine hk_block ?_ | refine hk_seq ?_)
  refine hk_region fun K hK => runs_eval tab_ok ?_
  simp only [ev0, evA, evB, evP, fl, gp, tab, simprocAttr, reduceCtorEq, reduceIte]
  refine fin_run trivial (hK _ ?_) <;> clear hK <;> clear K
  repeat (first | refine thn_n ?_ | refine thn_r ?_ | refine thn_x ?_ | refine inb_n ?_ | refine inb_r ?_ | refine inb_x ?_ | refine inb_y rfl ?_ | refine hk_skip ?_ | refine hk_label ?_ | refine hk_exit ?_ | refine hk_ret ?_ | refine hk_block ?_ | refine hk_seq ?_)
  refine hk_cond rfl (fun hC1 => ?_) (fun hC1 => ?_)
  · (try simp only [nhs] at hC1)
    repeat (first | refine thn_n ?_ | refine thn_r ?_ | refine thn_x ?_ | refine inb_n ?_ | refine inb_r ?_ | refine inb_x ?_ | refine inb_y rfl ?_ | refine hk_skip ?_ | refine hk_label ?_ | refine hk_exit ?_ | refine hk_ret ?_ | refine hk_block ?_ | refine hk_seq ?_)
    refine hk_region fun K hK => runs_eval tab_ok ?_
    simp only [ev0, evA, evB, evP, fl, gp, tab, simprocAttr, reduceCtorEq, reduceIte]
    refine fin_run trivial (hK _ ?_) <;> clear hK <;> clear K
    repeat (first | refine thn_n ?_ | refine thn_r ?_ | refine thn_x ?_ | refine inb_n ?_ | refine inb_r ?_ | refine inb_x ?_ | refine inb_y rfl ?_ | refine hk_skip ?_ | refine hk_label ?_ | refine hk_exit ?_ | refine hk_ret ?_ | refine hk_block ?_ | refine hk_seq ?_)
    refine hk_region fun K hK => runs_eval tab_ok ?_
    simp only [ev0, evA, evB, evP, fl, gp, tab, simprocAttr, reduceCtorEq, reduceIte]
    refine fin_stop trivial (runs_call (of_c T (show i < n by omega) (show i < n by omega)) rfl rfl rfl (by simp only [dstOk, Nat.reduceLT]) (by repeat (first | exact trivial | constructor)) (runs_eval tab_ok ?_))
    simp only [ev0, evA, evB, evP, fl, gp, tab, simprocAttr, reduceCtorEq, reduceIte]
    refine fin_run ?_ (hK _ ?_) <;> clear hK <;> clear K
    · (first | exact trivial | omega | (simp only [In64] at *; omega) | (simp [In64] at *; omega) | (simp_all; done) | skip)
    repeat (first | refine thn_n ?_ | refine thn_r ?_ | refine thn_x ?_ | refine inb_n ?_ | refine inb_r ?_ | refine inb_x ?_ | refine inb_y rfl ?_ | refine hk_skip ?_ | refine hk_label ?_ | refine hk_exit ?_ | refine hk_ret ?_ | refine hk_block ?_ | refine hk_seq ?_)
    refine hk_cond rfl (fun hC2 => ?_) (fun hC2 => ?_)
    · (try simp only [nhs] at hC2)
      repeat (first | refine thn_n ?_ | refine thn_r ?_ | refine thn_x ?_ | refine inb_n ?_ | refine inb_r ?_ | refine inb_x ?_ | refine inb_y rfl ?_ | refine hk_skip ?_ | refine hk_label ?_ | refine hk_exit ?_ | refine hk_ret ?_ | refine hk_block ?_ | refine hk_seq ?_)
      have hie : i = e := (G.idem (by omega)).1 (by omega)
      refine hk_region fun K hK => runs_eval tab_ok ?_
      simp only [ev0, evA, evB, evP, fl, gp, tab, simprocAttr, reduceCtorEq, reduceIte]
      refine fin_run trivial (hK _ ?_) <;> clear hK <;> clear K
      repeat (first | refine thn_n ?_ | refine thn_r ?_ | refine thn_x ?_ | refine inb_n ?_ | refine inb_r ?_ | refine inb_x ?_ | refine inb_y rfl ?_ | refine hk_skip ?_ | refine hk_label ?_ | refine hk_exit ?_ | refine hk_ret ?_ | refine hk_block ?_ | refine hk_seq ?_)
      simp only [Try.results61, enA, ev0, evA, evB, evP, fl, gp, tab, simprocAttr, reduceCtorEq, reduceIte]
      all_goals (rw [hie])
    · (try simp only [nhs] at hC2)
      repeat (first | refine thn_n ?_ | refine thn_r ?_ | refine thn_x ?_ | refine inb_n ?_ | refine inb_r ?_ | refine inb_x ?_ | refine inb_y rfl ?_ | refine hk_skip ?_ | refine hk_label ?_ | refine hk_exit ?_ | refine hk_ret ?_ | refine hk_block ?_ | refine hk_seq ?_)
      have hie : i ≠ e := fun h => hC2 (by rw [(G.idem (show i < n by omega)).2 h])
      refine hk_region fun K hK => runs_eval tab_ok ?_
      simp only [ev0, evA, evB, evP, fl, gp, tab, simprocAttr, reduceCtorEq, reduceIte]
      refine fin_run ?_ (hK _ ?_) <;> clear hK <;> clear K
      · (first | exact trivial | omega | (simp only [In64] at *; omega) | (simp [In64] at *; omega) | (simp_all; done) | skip)
      repeat (first | refine thn_n ?_ | refine thn_r ?_ | refine thn_x ?_ | refine inb_n ?_ | refine inb_r ?_ | refine inb_x ?_ | refine inb_y rfl ?_ | refine hk_skip ?_ | refine hk_label ?_ | refine hk_exit ?_ | refine hk_ret ?_ | refine hk_block ?_ | refine hk_seq ?_)
      refine ⟨i + 1, [0], by omega, by omega, ?_⟩
      simp only [leq, leA, ev0, evA, evB, evP, fl, gp, tab, simprocAttr, reduceCtorEq, reduceIte] <;> first | trivial | omega
  · (try simp only [nhs] at hC1)
    omega

theorem ix_row {n e : Nat} {m : List Int} (h : GT n m n e) {a : Nat} (ha : a < n) : ix (row m n a) (e : Nat) = (iv n (op m n) e a : Nat) := by
  have G := h.2.2
  have T := h.2.1
  obtain ⟨i1, i2, i3, i4⟩ := G.iv_spec ha
  unfold ix
  rw [fst_some (a := iv n (op m n) e a) (by rw [row_len T ha]; exact i1) (decide_eq_true (by rw [row_get T ha i1, i2])) fun j hj => decide_eq_false fun hj2 => ?_]
  rw [row_get T ha (by omega)] at hj2
  have := i4 j (by omega) (.inl (by omega))
  omega

theorem invOf_c {n e : Nat} {m : List Int} (h : GT n m n e) {a : Nat} (ha : a < n) : FnC Try.prog 57 [gp n m, .int .i64 a] (.int .i64 (iv n (op m n) e a : Nat)) := by
  have G := h.2.2
  have T := h.2.1
  have hb := T.big
  have hr := ix_row h ha
  have hr1 := row_len T ha
  have hl := T.len
  have hsq := sq_le hb
  have hr2 : (a + 1) * n ≤ n * n := Nat.mul_le_mul_right _ ha
  have hr3 : a * n ≤ (a + 1) * n := Nat.mul_le_mul_right _ (by omega)
  have hr4 : (a : Int) * (n : Int) = ((a * n : Nat) : Int) := (Int.natCast_mul a n).symm
  have hr5 : ((a : Int) + 1) * (n : Int) = (((a + 1) * n : Nat) : Int) := by rw [Int.natCast_mul]; rfl
  refine fnc_of tab_ok Try.func57 rfl (by kernel_rfl) (by rw [Try.ntmps57]; exact Nat.le_add_left 2 _) ?_; rw [Try.ntmps57]; repeat (first | refine thn_n ?_ | refine thn_r ?_ | refine thn_x ?_ | refine inb_n ?_ | refine inb_r ?_ | refine inb_x ?_ | refine inb_y rfl ?_ | refine hk_skip ?_ | refine hk_label ?_ | refine hk_exit ?_ | refine hk_ret ?_ | refine hk_block ?_ | refine hk_seq ?_)
  refine hk_region fun K hK => runs_eval tab_ok ?_
  simp only [ev0, evA, evB, evP, fl, gp, tab, simprocAttr, reduceCtorEq, reduceIte]
  refine fin_run ?_ (hK _ ?_) <;> clear hK <;> clear K
  · (first | exact trivial | omega | (simp only [In64] at *; omega) | (simp [In64] at *; omega) | (simp_all; done) | skip)
  repeat (first | refine thn_n ?_ | refine thn_r ?_ | refine thn_x ?_ | refine inb_n ?_ | refine inb_r ?_ | refine inb_x ?_ | refine inb_y rfl ?_ | refine hk_skip ?_ | refine hk_label ?_ | refine hk_exit ?_ | refine hk_ret ?_ | refine hk_block ?_ | refine hk_seq ?_)
  refine hk_draw mixed (by kernel_rfl) fun K hK => runs_eval tab_ok ?_
  simp only [ev0, evA, evB, evP, fl, gp, tab, simprocAttr, reduceCtorEq, reduceIte, lo_nat, hi_nat, hi_sub]
  refine fin_stop ?_ (runs_call (oneOf_c h) rfl rfl rfl (by simp only [dstOk, Nat.reduceLT]) (by repeat (first | exact trivial | constructor)) (runs_eval tab_ok ?_))
  · rw [hr4, hr5]; simp only [In64]; omega
  simp only [ev0, evA, evB, evP, fl, gp, tab, simprocAttr, reduceCtorEq, reduceIte, lo_nat, hi_nat, hi_sub]
  refine fin_stop trivial (runs_call (index_c (row m n a) (e : Nat) (by omega)) rfl rfl rfl (by simp only [dstOk, Nat.reduceLT]) (by repeat (first | exact trivial | constructor)) (runs_eval tab_ok ?_))
  simp only [ev0, evA, evB, evP, fl, gp, tab, simprocAttr, reduceCtorEq, reduceIte, lo_nat, hi_nat, hi_sub]
  refine fin_run ?_ (hK _ ?_) <;> clear hK <;> clear K
  · (first | exact trivial | omega | (simp only [In64] at *; omega) | (simp [In64] at *; omega) | (simp_all; done) | skip)
  repeat (first | refine thn_n ?_ | refine thn_r ?_ | refine thn_x ?_ | refine inb_n ?_ | refine inb_r ?_ | refine inb_x ?_ | refine inb_y rfl ?_ | refine hk_skip ?_ | refine hk_label ?_ | refine hk_exit ?_ | refine hk_ret ?_ | refine hk_block ?_ | refine hk_seq ?_)
  simp only [Try.results57, enA, ev0, evA, evB, evP, fl, gp, tab, simprocAttr, reduceCtorEq, reduceIte]
  all_goals (rw [hr])

theorem thing_c (N : Int) (m l : List Int) (hm : m.length ≤ 1000000000000000) (hl : l.length ≤ 1000000000000000) : FnC Try.prog 56 [gp N m, .nn (il l)] (fl (tf N m l)) := by
  refine fnc_of tab_ok Try.func56 rfl (by kernel_rfl) (by rw [Try.ntmps56]; exact Nat.le_add_left 2 _) ?_; rw [Try.ntmps56]; repeat (first | refine thn_n ?_ | refine thn_r ?_ | refine thn_x ?_ | refine inb_n ?_ | refine inb_r ?_ | refine inb_x ?_ | refine inb_y rfl ?_ | refine hk_skip ?_ | refine hk_label ?_ | refine hk_exit ?_ | refine hk_ret ?_ | refine hk_block ?_ | refine hk_seq ?_)
  refine hk_region fun K hK => runs_eval tab_ok ?_
  simp only [ev0, evA, evB, evP, fl, gp, tab, simprocAttr, reduceCtorEq, reduceIte]
  refine fin_run ?_ (hK _ ?_) <;> clear hK <;> clear K
  · (first | exact trivial | omega | (simp only [In64] at *; omega) | (simp [In64] at *; omega) | (simp_all; done) | skip)
  repeat (first | refine thn_n ?_ | refine thn_r ?_ | refine thn_x ?_ | refine inb_n ?_ | refine inb_r ?_ | refine inb_x ?_ | refine inb_y rfl ?_ | refine hk_skip ?_ | refine hk_label ?_ | refine hk_exit ?_ | refine hk_ret ?_ | refine hk_block ?_ | refine hk_seq ?_)
  refine hk_region fun K hK => runs_eval tab_ok ?_
  simp only [ev0, evA, evB, evP, fl, gp, tab, simprocAttr, reduceCtorEq, reduceIte]
  refine fin_stop trivial (runs_call (check_c N m hm) rfl rfl rfl (by simp only [dstOk, Nat.reduceLT]) (by repeat (first | exact trivial | constructor)) (runs_eval tab_ok ?_))
  simp only [ev0, evA, evB, evP, fl, gp, tab, simprocAttr, reduceCtorEq, reduceIte]
  refine fin_run ?_ (hK _ ?_) <;> clear hK <;> clear K
  · (first | exact trivial | omega | (simp only [In64] at *; omega) | (simp [In64] at *; omega) | (simp_all; done) | skip)
  repeat (first | refine thn_n ?_ | refine thn_r ?_ | refine thn_x ?_ | refine inb_n ?_ | refine inb_r ?_ | refine inb_x ?_ | refine inb_y rfl ?_ | refine hk_skip ?_ | refine hk_label ?_ | refine hk_exit ?_ | refine hk_ret ?_ | refine hk_block ?_ | refine hk_seq ?_)
  refine hk_region fun K hK => runs_eval tab_ok ?_
  simp only [ev0, evA, evB, evP, fl, gp, tab, simprocAttr, reduceCtorEq, reduceIte]
  refine fin_run ?_ (hK _ ?_) <;> clear hK <;> clear K
  · (first | exact trivial | omega | (simp only [In64] at *; omega) | (simp [In64] at *; omega) | (simp_all; done) | skip)
  repeat (first | refine thn_n ?_ | refine thn_r ?_ | refine thn_x ?_ | refine inb_n ?_ | refine inb_r ?_ | refine inb_x ?_ | refine inb_y rfl ?_ | refine hk_skip ?_ | refine hk_label ?_ | refine hk_exit ?_ | refine hk_ret ?_ | refine hk_block ?_ | refine hk_seq ?_)
  refine hk_cond rfl (fun hC1 => ?_) (fun hC1 => ?_)
  · (try simp only [nhs] at hC1)
    repeat (first | refine thn_n ?_ | refine thn_r ?_ | refine thn_x ?_ | refine inb_n ?_ | refine inb_r ?_ | refine inb_x ?_ | refine inb_y rfl ?_ | refine hk_skip ?_ | refine hk_label ?_ | refine hk_exit ?_ | refine hk_ret ?_ | refine hk_block ?_ | refine hk_seq ?_)
    have e0 := tf_gf (l := l) hC1
    refine hk_region fun K hK => runs_eval tab_ok ?_
    simp only [ev0, evA, evB, evP, fl, gp, tab, simprocAttr, reduceCtorEq, reduceIte]
    refine fin_run ?_ (hK _ ?_) <;> clear hK <;> clear K
    · (first | exact trivial | omega | (simp only [In64] at *; omega) | (simp [In64] at *; omega) | (simp_all; done) | skip)
    repeat (first | refine thn_n ?_ | refine thn_r ?_ | refine thn_x ?_ | refine inb_n ?_ | refine inb_r ?_ | refine inb_x ?_ | refine inb_y rfl ?_ | refine hk_skip ?_ | refine hk_label ?_ | refine hk_exit ?_ | refine hk_ret ?_ | refine hk_block ?_ | refine hk_seq ?_)
    simp only [Try.results56, enA, ev0, evA, evB, evP, fl, gp, tab, simprocAttr, reduceCtorEq, reduceIte]
    all_goals (rw [e0]; simp)
  · (try simp only [nhs] at hC1)
    repeat (first | refine thn_n ?_ | refine thn_r ?_ | refine thn_x ?_ | refine inb_n ?_ | refine inb_r ?_ | refine inb_x ?_ | refine inb_y rfl ?_ | refine hk_skip ?_ | refine hk_label ?_ | refine hk_exit ?_ | refine hk_ret ?_ | refine hk_block ?_ | refine hk_seq ?_)
    refine hk_region fun K hK => runs_eval tab_ok ?_
    simp only [ev0, evA, evB, evP, fl, gp, tab, simprocAttr, reduceCtorEq, reduceIte]
    refine fin_run trivial (hK _ ?_) <;> clear hK <;> clear K
    repeat (first | refine thn_n ?_ | refine thn_r ?_ | refine thn_x ?_ | refine inb_n ?_ | refine inb_r ?_ | refine inb_x ?_ | refine inb_y rfl ?_ | refine hk_skip ?_ | refine hk_label ?_ | refine hk_exit ?_ | refine hk_ret ?_ | refine hk_block ?_ | refine hk_seq ?_)
    refine hk_loop (ι := Nat) (fun i => ⟨34, [(2, .ptr 0 0), (4, .ptr 1 0), (14, .p (.nn (il l))), (15, .p (.int .i64 l.length)), (16, .p (.int .i64 i))], [.own [.p (.int .i64 N), .p (.list (il m))], .own [.p (.int .i64 0), .p (.int .i64 0)]]⟩) (fun i => i ≤ l.length ∧ ∀ j, j < i → okT N l j) (fun i => l.length - i) 0 ⟨Nat.zero_le _, fun j hj => by omega⟩ [0, 1] (by simp only [leq, leA, ev0, evA, evB, evP, fl, gp, tab, simprocAttr, reduceCtorEq, reduceIte] <;> trivial) fun i hi => ?_
    obtain ⟨hi1, hi2⟩ := hi
    repeat (first | refine thn_n ?_ | refine thn_r ?_ | refine thn_x ?_ | refine inb_n ?_ | refine inb_r ?_ | refine inb_x ?_ | refine inb_y rfl ?_ | refine hk_skip ?_ | refine hk_label ?_ | refine hk_exit ?_ | refine hk_ret ?_ | refine hk_block ?_ | refine hk_seq ?_)
    refine hk_region fun K hK => runs_eval tab_ok ?_
    simp only [ev0, evA, evB, evP, fl, gp, tab, simprocAttr, reduceCtorEq, reduceIte]
    refine fin_run trivial (hK _ ?_) <;> clear hK <;> clear K
    repeat (first | refine thn_n ?_ | refine thn_r ?_ | refine thn_x ?_ | refine inb_n ?_ | refine inb_r ?_ | refine inb_x ?_ | refine inb_y rfl ?_ | refine hk_skip ?_ | refine hk_label ?_ | refine hk_exit ?_ | refine hk_ret ?_ | refine hk_block ?_ | refine hk_seq ?_)
    refine hk_cond rfl (fun hC2 => ?_) (fun hC2 => ?_)
    · (try simp only [nhs] at hC2)
      repeat (first | refine thn_n ?_ | refine thn_r ?_ | refine thn_x ?_ | refine inb_n ?_ | refine inb_r ?_ | refine inb_x ?_ | refine inb_y rfl ?_ | refine hk_skip ?_ | refine hk_label ?_ | refine hk_exit ?_ | refine hk_ret ?_ | refine hk_block ?_ | refine hk_seq ?_)
      have hlt : i < l.length := by omega
      refine hk_region fun K hK => runs_eval tab_ok ?_
      simp only [ev0, evA, evB, evP, fl, gp, tab, simprocAttr, reduceCtorEq, reduceIte, il_get hlt]
      refine fin_run ?_ (hK _ ?_) <;> clear hK <;> clear K
      · (first | exact trivial | omega | (simp only [In64] at *; omega) | (simp [In64] at *; omega) | (simp_all; done) | skip)
      repeat (first | refine thn_n ?_ | refine thn_r ?_ | refine thn_x ?_ | refine inb_n ?_ | refine inb_r ?_ | refine inb_x ?_ | refine inb_y rfl ?_ | refine hk_skip ?_ | refine hk_label ?_ | refine hk_exit ?_ | refine hk_ret ?_ | refine hk_block ?_ | refine hk_seq ?_)
      by_cases g7a : l.getD i 0 < 0
      · refine hk_region fun K hK => runs_eval tab_ok ?_
        simp only [ev0, evA, evB, evP, fl, gp, tab, simprocAttr, reduceCtorEq, reduceIte, decide_eq_true g7a]
        refine fin_run trivial (hK _ ?_) <;> clear hK <;> clear K
        repeat (first | refine thn_n ?_ | refine thn_r ?_ | refine thn_x ?_ | refine inb_n ?_ | refine inb_r ?_ | refine inb_x ?_ | refine inb_y rfl ?_ | refine hk_skip ?_ | refine hk_label ?_ | refine hk_exit ?_ | refine hk_ret ?_ | refine hk_block ?_ | refine hk_seq ?_)
        refine hk_cond rfl (fun hC3 => ?_) (fun hC3 => ?_)
        · repeat (first | refine thn_n ?_ | refine thn_r ?_ | refine thn_x ?_ | refine inb_n ?_ | refine inb_r ?_ | refine inb_x ?_ | refine inb_y rfl ?_ | refine hk_skip ?_ | refine hk_label ?_ | refine hk_exit ?_ | refine hk_ret ?_ | refine hk_block ?_ | refine hk_seq ?_)
          refine hk_region fun K hK => runs_eval tab_ok ?_
          simp only [ev0, evA, evB, evP, fl, gp, tab, simprocAttr, reduceCtorEq, reduceIte]
          refine fin_stop ?_ (runs_call (fault_c 3 ((i : Int) + 1)) rfl rfl rfl (by simp only [dstOk, Nat.reduceLT]) (by repeat (first | exact trivial | constructor)) (runs_eval tab_ok ?_))
          · (first | exact trivial | omega | (simp only [In64] at *; omega) | (simp [In64] at *; omega) | (simp_all; done) | skip)
          simp only [ev0, evA, evB, evP, fl, gp, tab, simprocAttr, reduceCtorEq, reduceIte]
          refine fin_run ?_ (hK _ ?_) <;> clear hK <;> clear K
          · (first | exact trivial | omega | (simp only [In64] at *; omega) | (simp [In64] at *; omega) | (simp_all; done) | skip)
          repeat (first | refine thn_n ?_ | refine thn_r ?_ | refine thn_x ?_ | refine inb_n ?_ | refine inb_r ?_ | refine inb_x ?_ | refine inb_y rfl ?_ | refine hk_skip ?_ | refine hk_label ?_ | refine hk_exit ?_ | refine hk_ret ?_ | refine hk_block ?_ | refine hk_seq ?_)
          simp only [Try.results56, enA, ev0, evA, evB, evP, fl, gp, tab, simprocAttr, reduceCtorEq, reduceIte]
          all_goals (rw [tf_at hC1 hlt (fun h => h (.inl g7a)) hi2]; simp)
        · cases hC3
      · refine hk_region fun K hK => runs_eval tab_ok ?_
        simp only [ev0, evA, evB, evP, fl, gp, tab, simprocAttr, reduceCtorEq, reduceIte, decide_eq_false g7a]
        refine fin_run ?_ (hK _ ?_) <;> clear hK <;> clear K
        · (first | exact trivial | omega | (simp only [In64] at *; omega) | (simp [In64] at *; omega) | (simp_all; done) | skip)
        repeat (first | refine thn_n ?_ | refine thn_r ?_ | refine thn_x ?_ | refine inb_n ?_ | refine inb_r ?_ | refine inb_x ?_ | refine inb_y rfl ?_ | refine hk_skip ?_ | refine hk_label ?_ | refine hk_exit ?_ | refine hk_ret ?_ | refine hk_block ?_ | refine hk_seq ?_)
        refine hk_cond rfl (fun hC3 => ?_) (fun hC3 => ?_)
        · (try simp only [nhs] at hC3)
          repeat (first | refine thn_n ?_ | refine thn_r ?_ | refine thn_x ?_ | refine inb_n ?_ | refine inb_r ?_ | refine inb_x ?_ | refine inb_y rfl ?_ | refine hk_skip ?_ | refine hk_label ?_ | refine hk_exit ?_ | refine hk_ret ?_ | refine hk_block ?_ | refine hk_seq ?_)
          refine hk_region fun K hK => runs_eval tab_ok ?_
          simp only [ev0, evA, evB, evP, fl, gp, tab, simprocAttr, reduceCtorEq, reduceIte]
          refine fin_stop ?_ (runs_call (fault_c 3 ((i : Int) + 1)) rfl rfl rfl (by simp only [dstOk, Nat.reduceLT]) (by repeat (first | exact trivial | constructor)) (runs_eval tab_ok ?_))
          · (first | exact trivial | omega | (simp only [In64] at *; omega) | (simp [In64] at *; omega) | (simp_all; done) | skip)
          simp only [ev0, evA, evB, evP, fl, gp, tab, simprocAttr, reduceCtorEq, reduceIte]
          refine fin_run ?_ (hK _ ?_) <;> clear hK <;> clear K
          · (first | exact trivial | omega | (simp only [In64] at *; omega) | (simp [In64] at *; omega) | (simp_all; done) | skip)
          repeat (first | refine thn_n ?_ | refine thn_r ?_ | refine thn_x ?_ | refine inb_n ?_ | refine inb_r ?_ | refine inb_x ?_ | refine inb_y rfl ?_ | refine hk_skip ?_ | refine hk_label ?_ | refine hk_exit ?_ | refine hk_ret ?_ | refine hk_block ?_ | refine hk_seq ?_)
          simp only [Try.results56, enA, ev0, evA, evB, evP, fl, gp, tab, simprocAttr, reduceCtorEq, reduceIte]
          all_goals (rw [tf_at hC1 hlt (fun h => h (.inr hC3)) hi2]; simp)
        · (try simp only [nhs] at hC3)
          repeat (first | refine thn_n ?_ | refine thn_r ?_ | refine thn_x ?_ | refine inb_n ?_ | refine inb_r ?_ | refine inb_x ?_ | refine inb_y rfl ?_ | refine hk_skip ?_ | refine hk_label ?_ | refine hk_exit ?_ | refine hk_ret ?_ | refine hk_block ?_ | refine hk_seq ?_)
          refine hk_region fun K hK => runs_eval tab_ok ?_
          simp only [ev0, evA, evB, evP, fl, gp, tab, simprocAttr, reduceCtorEq, reduceIte]
          refine fin_run ?_ (hK _ ?_) <;> clear hK <;> clear K
          · (first | exact trivial | omega | (simp only [In64] at *; omega) | (simp [In64] at *; omega) | (simp_all; done) | skip)
          repeat (first | refine thn_n ?_ | refine thn_r ?_ | refine thn_x ?_ | refine inb_n ?_ | refine inb_r ?_ | refine inb_x ?_ | refine inb_y rfl ?_ | refine hk_skip ?_ | refine hk_label ?_ | refine hk_exit ?_ | refine hk_ret ?_ | refine hk_block ?_ | refine hk_seq ?_)
          refine ⟨i + 1, [0, 1], ⟨by omega, fun j hj => ?_⟩, by omega, ?_⟩
          · by_cases hj : j = i
            · subst hj; intro h; rcases h with h | h
              · exact g7a h
              · exact hC3 h
            · exact hi2 j (by omega)
          · simp only [leq, leA, ev0, evA, evB, evP, fl, gp, tab, simprocAttr, reduceCtorEq, reduceIte] <;> first | trivial | omega
    · (try simp only [nhs] at hC2)
      repeat (first | refine thn_n ?_ | refine thn_r ?_ | refine thn_x ?_ | refine inb_n ?_ | refine inb_r ?_ | refine inb_x ?_ | refine inb_y rfl ?_ | refine hk_skip ?_ | refine hk_label ?_ | refine hk_exit ?_ | refine hk_ret ?_ | refine hk_block ?_ | refine hk_seq ?_)
      refine hk_region fun K hK => runs_eval tab_ok ?_
      simp only [ev0, evA, evB, evP, fl, gp, tab, simprocAttr, reduceCtorEq, reduceIte]
      refine fin_run ?_ (hK _ ?_) <;> clear hK <;> clear K
      · (first | exact trivial | omega | (simp only [In64] at *; omega) | (simp [In64] at *; omega) | (simp_all; done) | skip)
      repeat (first | refine thn_n ?_ | refine thn_r ?_ | refine thn_x ?_ | refine inb_n ?_ | refine inb_r ?_ | refine inb_x ?_ | refine inb_y rfl ?_ | refine hk_skip ?_ | refine hk_label ?_ | refine hk_exit ?_ | refine hk_ret ?_ | refine hk_block ?_ | refine hk_seq ?_)
      simp only [Try.results56, enA, ev0, evA, evB, evP, fl, gp, tab, simprocAttr, reduceCtorEq, reduceIte]
      all_goals (rw [tf_ok hC1 fun j hj => hi2 j (by omega)]; simp)

/-! ### With their faults -/

theorem one_no (N : Int) (m : List Int) (hm : m.length ≤ 1000000000000000) (hf : ¬ (gf N m).1 = 0) : FnC Try.prog 37 [gp N m] (.tup [.int .i64 0, fl (gf N m)]) := by
  refine fnc_of tab_ok Try.func37 rfl (by kernel_rfl) (by rw [Try.ntmps37]; exact Nat.le_add_left 1 _) ?_; rw [Try.ntmps37]; repeat (first | refine thn_n ?_ | refine thn_r ?_ | refine thn_x ?_ | refine inb_n ?_ | refine inb_r ?_ | refine inb_x ?_ | refine inb_y rfl ?_ | refine hk_skip ?_ | refine hk_label ?_ | refine hk_exit ?_ | refine hk_ret ?_ | refine hk_block ?_ | refine hk_seq ?_)
  refine hk_region fun K hK => runs_eval tab_ok ?_
  simp only [ev0, evA, evB, evP, fl, gp, tab, simprocAttr, reduceCtorEq, reduceIte]
  refine fin_run ?_ (hK _ ?_) <;> clear hK <;> clear K
  · (first | exact trivial | omega | (simp only [In64] at *; omega) | (simp [In64] at *; omega) | (simp_all; done) | skip)
  repeat (first | refine thn_n ?_ | refine thn_r ?_ | refine thn_x ?_ | refine inb_n ?_ | refine inb_r ?_ | refine inb_x ?_ | refine inb_y rfl ?_ | refine hk_skip ?_ | refine hk_label ?_ | refine hk_exit ?_ | refine hk_ret ?_ | refine hk_block ?_ | refine hk_seq ?_)
  refine hk_region fun K hK => runs_eval tab_ok ?_
  simp only [ev0, evA, evB, evP, fl, gp, tab, simprocAttr, reduceCtorEq, reduceIte]
  refine fin_stop trivial (runs_call (check_c N m hm) rfl rfl rfl (by simp only [dstOk, Nat.reduceLT]) (by repeat (first | exact trivial | constructor)) (runs_eval tab_ok ?_))
  simp only [ev0, evA, evB, evP, fl, gp, tab, simprocAttr, reduceCtorEq, reduceIte]
  refine fin_run ?_ (hK _ ?_) <;> clear hK <;> clear K
  · (first | exact trivial | omega | (simp only [In64] at *; omega) | (simp [In64] at *; omega) | (simp_all; done) | skip)
  repeat (first | refine thn_n ?_ | refine thn_r ?_ | refine thn_x ?_ | refine inb_n ?_ | refine inb_r ?_ | refine inb_x ?_ | refine inb_y rfl ?_ | refine hk_skip ?_ | refine hk_label ?_ | refine hk_exit ?_ | refine hk_ret ?_ | refine hk_block ?_ | refine hk_seq ?_)
  refine hk_region fun K hK => runs_eval tab_ok ?_
  simp only [ev0, evA, evB, evP, fl, gp, tab, simprocAttr, reduceCtorEq, reduceIte]
  refine fin_run ?_ (hK _ ?_) <;> clear hK <;> clear K
  · (first | exact trivial | omega | (simp only [In64] at *; omega) | (simp [In64] at *; omega) | (simp_all; done) | skip)
  repeat (first | refine thn_n ?_ | refine thn_r ?_ | refine thn_x ?_ | refine inb_n ?_ | refine inb_r ?_ | refine inb_x ?_ | refine inb_y rfl ?_ | refine hk_skip ?_ | refine hk_label ?_ | refine hk_exit ?_ | refine hk_ret ?_ | refine hk_block ?_ | refine hk_seq ?_)
  refine hk_cond rfl (fun hC1 => ?_) (fun hC1 => ?_)
  · (try simp only [nhs] at hC1)
    repeat (first | refine thn_n ?_ | refine thn_r ?_ | refine thn_x ?_ | refine inb_n ?_ | refine inb_r ?_ | refine inb_x ?_ | refine inb_y rfl ?_ | refine hk_skip ?_ | refine hk_label ?_ | refine hk_exit ?_ | refine hk_ret ?_ | refine hk_block ?_ | refine hk_seq ?_)
    refine hk_draw mixed (by kernel_rfl) fun K hK => runs_eval tab_ok ?_
    simp only [ev0, evA, evB, evP, fl, gp, tab, simprocAttr, reduceCtorEq, reduceIte]
    refine fin_run ?_ (hK _ ?_) <;> clear hK <;> clear K
    · (first | exact trivial | omega | (simp only [In64] at *; omega) | (simp [In64] at *; omega) | (simp_all; done) | skip)
    repeat (first | refine thn_n ?_ | refine thn_r ?_ | refine thn_x ?_ | refine inb_n ?_ | refine inb_r ?_ | refine inb_x ?_ | refine inb_y rfl ?_ | refine hk_skip ?_ | refine hk_label ?_ | refine hk_exit ?_ | refine hk_ret ?_ | refine hk_block ?_ | refine hk_seq ?_)
    simp only [Try.results37, enA, ev0, evA, evB, evP, fl, gp, tab, simprocAttr, reduceCtorEq, reduceIte]
    all_goals ((first | exact rfl | exact ⟨rfl, rfl⟩ | exact ⟨rfl, rfl, rfl⟩ | exact ⟨trivial, rfl⟩ | exact ⟨Nat.le_refl _, rfl⟩ | trivial | (simp; done)))
  · (try simp only [nhs] at hC1)
    exact absurd hC1 hf
theorem one_ok {n e : Nat} {m : List Int} (h : GT n m n e) : FnC Try.prog 37 [gp n m] (.tup [.int .i64 (e : Nat), fl (0, 0)]) := by
  have hm := h.2.1.len
  have hsq := sq_le h.2.1.big
  refine fnc_of tab_ok Try.func37 rfl (by kernel_rfl) (by rw [Try.ntmps37]; exact Nat.le_add_left 1 _) ?_; rw [Try.ntmps37]; repeat (first | refine thn_n ?_ | refine thn_r ?_ | refine thn_x ?_ | refine inb_n ?_ | refine inb_r ?_ | refine inb_x ?_ | refine inb_y rfl ?_ | refine hk_skip ?_ | refine hk_label ?_ | refine hk_exit ?_ | refine hk_ret ?_ | refine hk_block ?_ | refine hk_seq ?_)
  refine hk_region fun K hK => runs_eval tab_ok ?_
  simp only [ev0, evA, evB, evP, fl, gp, tab, simprocAttr, reduceCtorEq, reduceIte]
  refine fin_run ?_ (hK _ ?_) <;> clear hK <;> clear K
  · (first | exact trivial | omega | (simp only [In64] at *; omega) | (simp [In64] at *; omega) | (simp_all; done) | skip)
  repeat (first | refine thn_n ?_ | refine thn_r ?_ | refine thn_x ?_ | refine inb_n ?_ | refine inb_r ?_ | refine inb_x ?_ | refine inb_y rfl ?_ | refine hk_skip ?_ | refine hk_label ?_ | refine hk_exit ?_ | refine hk_ret ?_ | refine hk_block ?_ | refine hk_seq ?_)
  refine hk_region fun K hK => runs_eval tab_ok ?_
  simp only [ev0, evA, evB, evP, fl, gp, tab, simprocAttr, reduceCtorEq, reduceIte]
  refine fin_stop trivial (runs_call (check_c n m (by omega)) rfl rfl rfl (by simp only [dstOk, Nat.reduceLT]) (by repeat (first | exact trivial | constructor)) (runs_eval tab_ok ?_))
  simp only [ev0, evA, evB, evP, fl, gp, tab, simprocAttr, reduceCtorEq, reduceIte, gf_of h]
  refine fin_run ?_ (hK _ ?_) <;> clear hK <;> clear K
  · (first | exact trivial | omega | (simp only [In64] at *; omega) | (simp [In64] at *; omega) | (simp_all; done) | skip)
  repeat (first | refine thn_n ?_ | refine thn_r ?_ | refine thn_x ?_ | refine inb_n ?_ | refine inb_r ?_ | refine inb_x ?_ | refine inb_y rfl ?_ | refine hk_skip ?_ | refine hk_label ?_ | refine hk_exit ?_ | refine hk_ret ?_ | refine hk_block ?_ | refine hk_seq ?_)
  refine hk_region fun K hK => runs_eval tab_ok ?_
  simp only [ev0, evA, evB, evP, fl, gp, tab, simprocAttr, reduceCtorEq, reduceIte]
  refine fin_run ?_ (hK _ ?_) <;> clear hK <;> clear K
  · (first | exact trivial | omega | (simp only [In64] at *; omega) | (simp [In64] at *; omega) | (simp_all; done) | skip)
  repeat (first | refine thn_n ?_ | refine thn_r ?_ | refine thn_x ?_ | refine inb_n ?_ | refine inb_r ?_ | refine inb_x ?_ | refine inb_y rfl ?_ | refine hk_skip ?_ | refine hk_label ?_ | refine hk_exit ?_ | refine hk_ret ?_ | refine hk_block ?_ | refine hk_seq ?_)
  refine hk_cond rfl (fun hC1 => ?_) (fun hC1 => ?_)
  · cases hC1
  · (try simp only [nhs] at hC1)
    repeat (first | refine thn_n ?_ | refine thn_r ?_ | refine thn_x ?_ | refine inb_n ?_ | refine inb_r ?_ | refine inb_x ?_ | refine inb_y rfl ?_ | refine hk_skip ?_ | refine hk_label ?_ | refine hk_exit ?_ | refine hk_ret ?_ | refine hk_block ?_ | refine hk_seq ?_)
    refine hk_region fun K hK => runs_eval tab_ok ?_
    simp only [ev0, evA, evB, evP, fl, gp, tab, simprocAttr, reduceCtorEq, reduceIte]
    refine fin_stop trivial (runs_call (oneOf_c h) rfl rfl rfl (by simp only [dstOk, Nat.reduceLT]) (by repeat (first | exact trivial | constructor)) (runs_eval tab_ok ?_))
    simp only [ev0, evA, evB, evP, fl, gp, tab, simprocAttr, reduceCtorEq, reduceIte]
    refine fin_run ?_ (hK _ ?_) <;> clear hK <;> clear K
    · (first | exact trivial | omega | (simp only [In64] at *; omega) | (simp [In64] at *; omega) | (simp_all; done) | skip)
    repeat (first | refine thn_n ?_ | refine thn_r ?_ | refine thn_x ?_ | refine inb_n ?_ | refine inb_r ?_ | refine inb_x ?_ | refine inb_y rfl ?_ | refine hk_skip ?_ | refine hk_label ?_ | refine hk_exit ?_ | refine hk_ret ?_ | refine hk_block ?_ | refine hk_seq ?_)
    simp only [Try.results37, enA, ev0, evA, evB, evP, fl, gp, tab, simprocAttr, reduceCtorEq, reduceIte]
    all_goals ((first | exact rfl | exact ⟨rfl, rfl⟩ | exact ⟨rfl, rfl, rfl⟩ | exact ⟨trivial, rfl⟩ | exact ⟨Nat.le_refl _, rfl⟩ | trivial | (simp; done)))

theorem inv_no (N : Int) (m : List Int) (a : Int) (hm : m.length ≤ 1000000000000000) (hf : ¬ (tf N m [a]).1 = 0) : FnC Try.prog 31 [gp N m, .int .i64 a] (.tup [.int .i64 0, fl (tf N m [a])]) := by
  refine fnc_of tab_ok Try.func31 rfl (by kernel_rfl) (by rw [Try.ntmps31]; exact Nat.le_add_left 2 _) ?_; rw [Try.ntmps31]; repeat (first | refine thn_n ?_ | refine thn_r ?_ | refine thn_x ?_ | refine inb_n ?_ | refine inb_r ?_ | refine inb_x ?_ | refine inb_y rfl ?_ | refine hk_skip ?_ | refine hk_label ?_ | refine hk_exit ?_ | refine hk_ret ?_ | refine hk_block ?_ | refine hk_seq ?_)
  refine hk_region fun K hK => runs_eval tab_ok ?_
  simp only [ev0, evA, evB, evP, fl, gp, tab, simprocAttr, reduceCtorEq, reduceIte]
  refine fin_run ?_ (hK _ ?_) <;> clear hK <;> clear K
  · (first | exact trivial | omega | (simp only [In64] at *; omega) | (simp [In64] at *; omega) | (simp_all; done) | skip)
  repeat (first | refine thn_n ?_ | refine thn_r ?_ | refine thn_x ?_ | refine inb_n ?_ | refine inb_r ?_ | refine inb_x ?_ | refine inb_y rfl ?_ | refine hk_skip ?_ | refine hk_label ?_ | refine hk_exit ?_ | refine hk_ret ?_ | refine hk_block ?_ | refine hk_seq ?_)
  refine hk_region fun K hK => runs_eval tab_ok ?_
  simp only [ev0, evA, evB, evP, fl, gp, tab, simprocAttr, reduceCtorEq, reduceIte]
  refine fin_stop trivial (runs_call (thing_c N m [a] hm (by simp)) rfl rfl rfl (by simp only [dstOk, Nat.reduceLT]) (by repeat (first | exact trivial | constructor)) (runs_eval tab_ok ?_))
  simp only [ev0, evA, evB, evP, fl, gp, tab, simprocAttr, reduceCtorEq, reduceIte]
  refine fin_run ?_ (hK _ ?_) <;> clear hK <;> clear K
  · (first | exact trivial | omega | (simp only [In64] at *; omega) | (simp [In64] at *; omega) | (simp_all; done) | skip)
  repeat (first | refine thn_n ?_ | refine thn_r ?_ | refine thn_x ?_ | refine inb_n ?_ | refine inb_r ?_ | refine inb_x ?_ | refine inb_y rfl ?_ | refine hk_skip ?_ | refine hk_label ?_ | refine hk_exit ?_ | refine hk_ret ?_ | refine hk_block ?_ | refine hk_seq ?_)
  refine hk_region fun K hK => runs_eval tab_ok ?_
  simp only [ev0, evA, evB, evP, fl, gp, tab, simprocAttr, reduceCtorEq, reduceIte]
  refine fin_run ?_ (hK _ ?_) <;> clear hK <;> clear K
  · (first | exact trivial | omega | (simp only [In64] at *; omega) | (simp [In64] at *; omega) | (simp_all; done) | skip)
  repeat (first | refine thn_n ?_ | refine thn_r ?_ | refine thn_x ?_ | refine inb_n ?_ | refine inb_r ?_ | refine inb_x ?_ | refine inb_y rfl ?_ | refine hk_skip ?_ | refine hk_label ?_ | refine hk_exit ?_ | refine hk_ret ?_ | refine hk_block ?_ | refine hk_seq ?_)
  refine hk_cond rfl (fun hC1 => ?_) (fun hC1 => ?_)
  · (try simp only [nhs] at hC1)
    repeat (first | refine thn_n ?_ | refine thn_r ?_ | refine thn_x ?_ | refine inb_n ?_ | refine inb_r ?_ | refine inb_x ?_ | refine inb_y rfl ?_ | refine hk_skip ?_ | refine hk_label ?_ | refine hk_exit ?_ | refine hk_ret ?_ | refine hk_block ?_ | refine hk_seq ?_)
    refine hk_draw mixed (by kernel_rfl) fun K hK => runs_eval tab_ok ?_
    simp only [ev0, evA, evB, evP, fl, gp, tab, simprocAttr, reduceCtorEq, reduceIte]
    refine fin_run ?_ (hK _ ?_) <;> clear hK <;> clear K
    · (first | exact trivial | omega | (simp only [In64] at *; omega) | (simp [In64] at *; omega) | (simp_all; done) | skip)
    repeat (first | refine thn_n ?_ | refine thn_r ?_ | refine thn_x ?_ | refine inb_n ?_ | refine inb_r ?_ | refine inb_x ?_ | refine inb_y rfl ?_ | refine hk_skip ?_ | refine hk_label ?_ | refine hk_exit ?_ | refine hk_ret ?_ | refine hk_block ?_ | refine hk_seq ?_)
    simp only [Try.results31, enA, ev0, evA, evB, evP, fl, gp, tab, simprocAttr, reduceCtorEq, reduceIte]
    all_goals ((first | exact rfl | exact ⟨rfl, rfl⟩ | exact ⟨rfl, rfl, rfl⟩ | exact ⟨trivial, rfl⟩ | exact ⟨Nat.le_refl _, rfl⟩ | trivial | (simp; done)))
  · (try simp only [nhs] at hC1)
    exact absurd hC1 hf
theorem tf_one {n e a : Nat} {m : List Int} (h : GT n m n e) (ha : a < n) : tf n m [(a : Int)] = (0, 0) := by
  refine tf_ok (by rw [gf_of h]) fun j hj => ?_
  have : j = 0 := by simp at hj; exact hj
  subst this
  intro h
  simp at h
  omega
theorem inv_ok {n e : Nat} {m : List Int} (h : GT n m n e) {a : Nat} (ha : a < n) : FnC Try.prog 31 [gp n m, .int .i64 a] (.tup [.int .i64 (iv n (op m n) e a : Nat), fl (0, 0)]) := by
  have hm := h.2.1.len
  have hsq := sq_le h.2.1.big
  refine fnc_of tab_ok Try.func31 rfl (by kernel_rfl) (by rw [Try.ntmps31]; exact Nat.le_add_left 2 _) ?_; rw [Try.ntmps31]; repeat (first | refine thn_n ?_ | refine thn_r ?_ | refine thn_x ?_ | refine inb_n ?_ | refine inb_r ?_ | refine inb_x ?_ | refine inb_y rfl ?_ | refine hk_skip ?_ | refine hk_label ?_ | refine hk_exit ?_ | refine hk_ret ?_ | refine hk_block ?_ | refine hk_seq ?_)
  refine hk_region fun K hK => runs_eval tab_ok ?_
  simp only [ev0, evA, evB, evP, fl, gp, tab, simprocAttr, reduceCtorEq, reduceIte]
  refine fin_run ?_ (hK _ ?_) <;> clear hK <;> clear K
  · (first | exact trivial | omega | (simp only [In64] at *; omega) | (simp [In64] at *; omega) | (simp_all; done) | skip)
  repeat (first | refine thn_n ?_ | refine thn_r ?_ | refine thn_x ?_ | refine inb_n ?_ | refine inb_r ?_ | refine inb_x ?_ | refine inb_y rfl ?_ | refine hk_skip ?_ | refine hk_label ?_ | refine hk_exit ?_ | refine hk_ret ?_ | refine hk_block ?_ | refine hk_seq ?_)
  refine hk_region fun K hK => runs_eval tab_ok ?_
  simp only [ev0, evA, evB, evP, fl, gp, tab, simprocAttr, reduceCtorEq, reduceIte]
  refine fin_stop trivial (runs_call (thing_c n m [(a : Int)] (by omega) (by simp)) rfl rfl rfl (by simp only [dstOk, Nat.reduceLT]) (by repeat (first | exact trivial | constructor)) (runs_eval tab_ok ?_))
  simp only [ev0, evA, evB, evP, fl, gp, tab, simprocAttr, reduceCtorEq, reduceIte, tf_one h ha]
  refine fin_run ?_ (hK _ ?_) <;> clear hK <;> clear K
  · (first | exact trivial | omega | (simp only [In64] at *; omega) | (simp [In64] at *; omega) | (simp_all; done) | skip)
  repeat (first | refine thn_n ?_ | refine thn_r ?_ | refine thn_x ?_ | refine inb_n ?_ | refine inb_r ?_ | refine inb_x ?_ | refine inb_y rfl ?_ | refine hk_skip ?_ | refine hk_label ?_ | refine hk_exit ?_ | refine hk_ret ?_ | refine hk_block ?_ | refine hk_seq ?_)
  refine hk_region fun K hK => runs_eval tab_ok ?_
  simp only [ev0, evA, evB, evP, fl, gp, tab, simprocAttr, reduceCtorEq, reduceIte]
  refine fin_run ?_ (hK _ ?_) <;> clear hK <;> clear K
  · (first | exact trivial | omega | (simp only [In64] at *; omega) | (simp [In64] at *; omega) | (simp_all; done) | skip)
  repeat (first | refine thn_n ?_ | refine thn_r ?_ | refine thn_x ?_ | refine inb_n ?_ | refine inb_r ?_ | refine inb_x ?_ | refine inb_y rfl ?_ | refine hk_skip ?_ | refine hk_label ?_ | refine hk_exit ?_ | refine hk_ret ?_ | refine hk_block ?_ | refine hk_seq ?_)
  refine hk_cond rfl (fun hC1 => ?_) (fun hC1 => ?_)
  · cases hC1
  · (try simp only [nhs] at hC1)
    repeat (first | refine thn_n ?_ | refine thn_r ?_ | refine thn_x ?_ | refine inb_n ?_ | refine inb_r ?_ | refine inb_x ?_ | refine inb_y rfl ?_ | refine hk_skip ?_ | refine hk_label ?_ | refine hk_exit ?_ | refine hk_ret ?_ | refine hk_block ?_ | refine hk_seq ?_)
    refine hk_region fun K hK => runs_eval tab_ok ?_
    simp only [ev0, evA, evB, evP, fl, gp, tab, simprocAttr, reduceCtorEq, reduceIte]
    refine fin_stop trivial (runs_call (invOf_c h ha) rfl rfl rfl (by simp only [dstOk, Nat.reduceLT]) (by repeat (first | exact trivial | constructor)) (runs_eval tab_ok ?_))
    simp only [ev0, evA, evB, evP, fl, gp, tab, simprocAttr, reduceCtorEq, reduceIte]
    refine fin_run ?_ (hK _ ?_) <;> clear hK <;> clear K
    · (first | exact trivial | omega | (simp only [In64] at *; omega) | (simp [In64] at *; omega) | (simp_all; done) | skip)
    repeat (first | refine thn_n ?_ | refine thn_r ?_ | refine thn_x ?_ | refine inb_n ?_ | refine inb_r ?_ | refine inb_x ?_ | refine inb_y rfl ?_ | refine hk_skip ?_ | refine hk_label ?_ | refine hk_exit ?_ | refine hk_ret ?_ | refine hk_block ?_ | refine hk_seq ?_)
    simp only [Try.results31, enA, ev0, evA, evB, evP, fl, gp, tab, simprocAttr, reduceCtorEq, reduceIte]
    all_goals ((first | exact rfl | exact ⟨rfl, rfl⟩ | exact ⟨rfl, rfl, rfl⟩ | exact ⟨trivial, rfl⟩ | exact ⟨Nat.le_refl _, rfl⟩ | trivial | (simp; done)))

theorem pw_half {n e : Nat} {f : Nat → Nat → Nat} (G : Grp n f e) {x out : Nat} (hx : x < n) (ho : out < n) (k : Nat) :
    (k % 2 = 1 → f (f out x) (pw f e (f x x) (k / 2)) = f out (pw f e x k)) ∧ (¬ k % 2 = 1 → f out (pw f e (f x x) (k / 2)) = f out (pw f e x k)) := by
  have h2 : f x x = pw f e x 2 := by
    show f x x = f (f e x) x
    rw [G.one_l x hx]
  have hp : pw f e (f x x) (k / 2) = pw f e x (2 * (k / 2)) := by rw [h2, G.pw_mul hx]
  have hd := Nat.div_add_mod k 2
  constructor
  · intro hk
    rw [hp, G.assoc _ _ _ ho hx (G.pw_lt hx _), ← G.pw_succ' hx]
    congr 2; omega
  · intro hk
    rw [hp]
    congr 2; omega

theorem tm2 (i : Nat) : Int.tmod (i : Int) 2 = ((i % 2 : Nat) : Int) := rfl
theorem td2 (i : Nat) : Int.tdiv (i : Int) 2 = ((i / 2 : Nat) : Int) := rfl

theorem powOf_c {n e : Nat} {m : List Int} (h : GT n m n e) {a : Nat} (ha : a < n) (k : Nat) (hk : k ≤ 1000000) : FnC Try.prog 59 [gp n m, .int .i64 a, .int .i64 k] (.int .i64 (pw (op m n) e a k : Nat)) := by
  have G := h.2.2
  have T := h.2.1
  refine fnc_of tab_ok Try.func59 rfl (by kernel_rfl) (by rw [Try.ntmps59]; exact Nat.le_add_left 3 _) ?_; rw [Try.ntmps59]; repeat (first | refine thn_n ?_ | refine thn_r ?_ | refine thn_x ?_ | refine inb_n ?_ | refine inb_r ?_ | refine inb_x ?_ | refine inb_y rfl ?_ | refine hk_skip ?_ | refine hk_label ?_ | refine hk_exit ?_ | refine hk_ret ?_ | refine hk_block ?_ | refine hk_seq ?_)
  refine hk_region fun K hK => runs_eval tab_ok ?_
  simp only [ev0, evA, evB, evP, fl, gp, tab, simprocAttr, reduceCtorEq, reduceIte]
  refine fin_run ?_ (hK _ ?_) <;> clear hK <;> clear K
  · (first | exact trivial | omega | (simp only [In64] at *; omega) | (simp [In64] at *; omega) | (simp_all; done) | skip)
  repeat (first | refine thn_n ?_ | refine thn_r ?_ | refine thn_x ?_ | refine inb_n ?_ | refine inb_r ?_ | refine inb_x ?_ | refine inb_y rfl ?_ | refine hk_skip ?_ | refine hk_label ?_ | refine hk_exit ?_ | refine hk_ret ?_ | refine hk_block ?_ | refine hk_seq ?_)
  refine hk_region fun K hK => runs_eval tab_ok ?_
  simp only [ev0, evA, evB, evP, fl, gp, tab, simprocAttr, reduceCtorEq, reduceIte]
  refine fin_stop trivial (runs_call (oneOf_c h) rfl rfl rfl (by simp only [dstOk, Nat.reduceLT]) (by repeat (first | exact trivial | constructor)) (runs_eval tab_ok ?_))
  simp only [ev0, evA, evB, evP, fl, gp, tab, simprocAttr, reduceCtorEq, reduceIte]
  refine fin_run ?_ (hK _ ?_) <;> clear hK <;> clear K
  · (first | exact trivial | omega | (simp only [In64] at *; omega) | (simp [In64] at *; omega) | (simp_all; done) | skip)
  repeat (first | refine thn_n ?_ | refine thn_r ?_ | refine thn_x ?_ | refine inb_n ?_ | refine inb_r ?_ | refine inb_x ?_ | refine inb_y rfl ?_ | refine hk_skip ?_ | refine hk_label ?_ | refine hk_exit ?_ | refine hk_ret ?_ | refine hk_block ?_ | refine hk_seq ?_)
  refine hk_loop (ι := Nat × Nat × Nat) (fun p => ⟨26, [(1, .p (.int .i64 p.1)), (2, .p (.int .i64 p.2.1)), (3, .ptr 0 0), (7, .p (.int .i64 p.2.2))], [.own [.p (.int .i64 n), .p (.list (il m))]]⟩) (fun p => p.1 < n ∧ p.2.2 < n ∧ p.2.1 ≤ 1000000 ∧ op m n p.2.2 (pw (op m n) e p.1 p.2.1) = pw (op m n) e a k) (fun p => p.2.1) (a, k, e) ⟨ha, G.el, hk, G.one_l _ (G.pw_lt ha k)⟩ [0] (by simp only [leq, leA, ev0, evA, evB, evP, fl, gp, tab, simprocAttr, reduceCtorEq, reduceIte] <;> trivial) fun p hp => ?_
  obtain ⟨x, i, out⟩ := p
  obtain ⟨hx, ho, hi, hv⟩ := hp
  simp only at hx ho hi hv
  have hh := pw_half G hx ho i
  repeat (first | refine thn_n ?_ | refine thn_r ?_ | refine thn_x ?_ | refine inb_n ?_ | refine inb_r ?_ | refine inb_x ?_ | refine inb_y rfl ?_ | refine hk_skip ?_ | refine hk_label ?_ | refine hk_exit ?_ | refine hk_ret ?_ | refine hk_block ?_ | refine hk_seq ?_)
  refine hk_region fun K hK => runs_eval tab_ok ?_
  simp only [ev0, evA, evB, evP, fl, gp, tab, simprocAttr, reduceCtorEq, reduceIte]
  refine fin_run trivial (hK _ ?_) <;> clear hK <;> clear K
  repeat (first | refine thn_n ?_ | refine thn_r ?_ | refine thn_x ?_ | refine inb_n ?_ | refine inb_r ?_ | refine inb_x ?_ | refine inb_y rfl ?_ | refine hk_skip ?_ | refine hk_label ?_ | refine hk_exit ?_ | refine hk_ret ?_ | refine hk_block ?_ | refine hk_seq ?_)
  refine hk_cond rfl (fun hC1 => ?_) (fun hC1 => ?_)
  · (try simp only [nhs] at hC1)
    repeat (first | refine thn_n ?_ | refine thn_r ?_ | refine thn_x ?_ | refine inb_n ?_ | refine inb_r ?_ | refine inb_x ?_ | refine inb_y rfl ?_ | refine hk_skip ?_ | refine hk_label ?_ | refine hk_exit ?_ | refine hk_ret ?_ | refine hk_block ?_ | refine hk_seq ?_)
    have hpos : 0 < i := by omega
    refine hk_region fun K hK => runs_eval tab_ok ?_
    simp only [ev0, evA, evB, evP, fl, gp, tab, simprocAttr, reduceCtorEq, reduceIte, tm2]
    refine fin_run ?_ (hK _ ?_) <;> clear hK <;> clear K
    · (first | exact trivial | omega | (simp only [In64] at *; omega) | (simp [In64] at *; omega) | (simp_all; done) | skip)
    repeat (first | refine thn_n ?_ | refine thn_r ?_ | refine thn_x ?_ | refine inb_n ?_ | refine inb_r ?_ | refine inb_x ?_ | refine inb_y rfl ?_ | refine hk_skip ?_ | refine hk_label ?_ | refine hk_exit ?_ | refine hk_ret ?_ | refine hk_block ?_ | refine hk_seq ?_)
    refine hk_cond rfl (fun hC2 => ?_) (fun hC2 => ?_)
    · (try simp only [nhs] at hC2)
      repeat (first | refine thn_n ?_ | refine thn_r ?_ | refine thn_x ?_ | refine inb_n ?_ | refine inb_r ?_ | refine inb_x ?_ | refine inb_y rfl ?_ | refine hk_skip ?_ | refine hk_label ?_ | refine hk_exit ?_ | refine hk_ret ?_ | refine hk_block ?_ | refine hk_seq ?_)
      have hodd : i % 2 = 1 := by omega
      refine hk_region fun K hK => runs_eval tab_ok ?_
      simp only [ev0, evA, evB, evP, fl, gp, tab, simprocAttr, reduceCtorEq, reduceIte]
      refine fin_stop trivial (runs_call (of_c T ho hx) rfl rfl rfl (by simp only [dstOk, Nat.reduceLT]) (by repeat (first | exact trivial | constructor)) (runs_eval tab_ok ?_))
      simp only [ev0, evA, evB, evP, fl, gp, tab, simprocAttr, reduceCtorEq, reduceIte]
      refine fin_run ?_ (hK _ ?_) <;> clear hK <;> clear K
      · (first | exact trivial | omega | (simp only [In64] at *; omega) | (simp [In64] at *; omega) | (simp_all; done) | skip)
      repeat (first | refine thn_n ?_ | refine thn_r ?_ | refine thn_x ?_ | refine inb_n ?_ | refine inb_r ?_ | refine inb_x ?_ | refine inb_y rfl ?_ | refine hk_skip ?_ | refine hk_label ?_ | refine hk_exit ?_ | refine hk_ret ?_ | refine hk_block ?_ | refine hk_seq ?_)
      refine hk_region fun K hK => runs_eval tab_ok ?_
      simp only [ev0, evA, evB, evP, fl, gp, tab, simprocAttr, reduceCtorEq, reduceIte]
      refine fin_stop trivial (runs_call (of_c T hx hx) rfl rfl rfl (by simp only [dstOk, Nat.reduceLT]) (by repeat (first | exact trivial | constructor)) (runs_eval tab_ok ?_))
      simp only [ev0, evA, evB, evP, fl, gp, tab, simprocAttr, reduceCtorEq, reduceIte]
      refine fin_run ?_ (hK _ ?_) <;> clear hK <;> clear K
      · (first | exact trivial | omega | (simp only [In64] at *; omega) | (simp [In64] at *; omega) | (simp_all; done) | skip)
      repeat (first | refine thn_n ?_ | refine thn_r ?_ | refine thn_x ?_ | refine inb_n ?_ | refine inb_r ?_ | refine inb_x ?_ | refine inb_y rfl ?_ | refine hk_skip ?_ | refine hk_label ?_ | refine hk_exit ?_ | refine hk_ret ?_ | refine hk_block ?_ | refine hk_seq ?_)
      refine hk_region fun K hK => runs_eval tab_ok ?_
      simp only [ev0, evA, evB, evP, fl, gp, tab, simprocAttr, reduceCtorEq, reduceIte, td2]
      refine fin_run ?_ (hK _ ?_) <;> clear hK <;> clear K
      · (first | exact trivial | omega | (simp only [In64] at *; omega) | (simp [In64] at *; omega) | (simp_all; done) | skip)
      repeat (first | refine thn_n ?_ | refine thn_r ?_ | refine thn_x ?_ | refine inb_n ?_ | refine inb_r ?_ | refine inb_x ?_ | refine inb_y rfl ?_ | refine hk_skip ?_ | refine hk_label ?_ | refine hk_exit ?_ | refine hk_ret ?_ | refine hk_block ?_ | refine hk_seq ?_)
      refine ⟨(op m n x x, i / 2, op m n out x), [0], ⟨T.lt hx hx, T.lt ho hx, by simp only; omega, by rw [← hv]; exact hh.1 hodd⟩, by simp only; omega, ?_⟩
      simp only [leq, leA, ev0, evA, evB, evP, fl, gp, tab, simprocAttr, reduceCtorEq, reduceIte] <;> first | trivial | omega
    · (try simp only [nhs] at hC2)
      repeat (first | refine thn_n ?_ | refine thn_r ?_ | refine thn_x ?_ | refine inb_n ?_ | refine inb_r ?_ | refine inb_x ?_ | refine inb_y rfl ?_ | refine hk_skip ?_ | refine hk_label ?_ | refine hk_exit ?_ | refine hk_ret ?_ | refine hk_block ?_ | refine hk_seq ?_)
      have hodd : ¬ i % 2 = 1 := by omega
      refine hk_region fun K hK => runs_eval tab_ok ?_
      simp only [ev0, evA, evB, evP, fl, gp, tab, simprocAttr, reduceCtorEq, reduceIte]
      refine fin_stop trivial (runs_call (of_c T hx hx) rfl rfl rfl (by simp only [dstOk, Nat.reduceLT]) (by repeat (first | exact trivial | constructor)) (runs_eval tab_ok ?_))
      simp only [ev0, evA, evB, evP, fl, gp, tab, simprocAttr, reduceCtorEq, reduceIte]
      refine fin_run ?_ (hK _ ?_) <;> clear hK <;> clear K
      · (first | exact trivial | omega | (simp only [In64] at *; omega) | (simp [In64] at *; omega) | (simp_all; done) | skip)
      repeat (first | refine thn_n ?_ | refine thn_r ?_ | refine thn_x ?_ | refine inb_n ?_ | refine inb_r ?_ | refine inb_x ?_ | refine inb_y rfl ?_ | refine hk_skip ?_ | refine hk_label ?_ | refine hk_exit ?_ | refine hk_ret ?_ | refine hk_block ?_ | refine hk_seq ?_)
      refine hk_region fun K hK => runs_eval tab_ok ?_
      simp only [ev0, evA, evB, evP, fl, gp, tab, simprocAttr, reduceCtorEq, reduceIte, td2]
      refine fin_run ?_ (hK _ ?_) <;> clear hK <;> clear K
      · (first | exact trivial | omega | (simp only [In64] at *; omega) | (simp [In64] at *; omega) | (simp_all; done) | skip)
      repeat (first | refine thn_n ?_ | refine thn_r ?_ | refine thn_x ?_ | refine inb_n ?_ | refine inb_r ?_ | refine inb_x ?_ | refine inb_y rfl ?_ | refine hk_skip ?_ | refine hk_label ?_ | refine hk_exit ?_ | refine hk_ret ?_ | refine hk_block ?_ | refine hk_seq ?_)
      refine ⟨(op m n x x, i / 2, out), [0], ⟨T.lt hx hx, ho, by simp only; omega, by rw [← hv]; exact hh.2 hodd⟩, by simp only; omega, ?_⟩
      simp only [leq, leA, ev0, evA, evB, evP, fl, gp, tab, simprocAttr, reduceCtorEq, reduceIte] <;> first | trivial | omega
  · (try simp only [nhs] at hC1)
    repeat (first | refine thn_n ?_ | refine thn_r ?_ | refine thn_x ?_ | refine inb_n ?_ | refine inb_r ?_ | refine inb_x ?_ | refine inb_y rfl ?_ | refine hk_skip ?_ | refine hk_label ?_ | refine hk_exit ?_ | refine hk_ret ?_ | refine hk_block ?_ | refine hk_seq ?_)
    have hz : i = 0 := by omega
    subst hz
    have hv2 : out = pw (op m n) e a k := by rw [← hv]; exact (G.one_r out ho).symm
    refine hk_region fun K hK => runs_eval tab_ok ?_
    simp only [ev0, evA, evB, evP, fl, gp, tab, simprocAttr, reduceCtorEq, reduceIte]
    refine fin_run trivial (hK _ ?_) <;> clear hK <;> clear K
    repeat (first | refine thn_n ?_ | refine thn_r ?_ | refine thn_x ?_ | refine inb_n ?_ | refine inb_r ?_ | refine inb_x ?_ | refine inb_y rfl ?_ | refine hk_skip ?_ | refine hk_label ?_ | refine hk_exit ?_ | refine hk_ret ?_ | refine hk_block ?_ | refine hk_seq ?_)
    simp only [Try.results59, enA, ev0, evA, evB, evP, fl, gp, tab, simprocAttr, reduceCtorEq, reduceIte]
    all_goals (rw [hv2])

theorem pow_no (N : Int) (m : List Int) (a k : Int) (hm : m.length ≤ 1000000000000000) (hf : ¬ (tf N m [a]).1 = 0) : FnC Try.prog 34 [gp N m, .int .i64 a, .int .i64 k] (.tup [.int .i64 0, fl (tf N m [a])]) := by
  refine fnc_of tab_ok Try.func34 rfl (by kernel_rfl) (by rw [Try.ntmps34]; exact Nat.le_add_left 3 _) ?_; rw [Try.ntmps34]; repeat (first | refine thn_n ?_ | refine thn_r ?_ | refine thn_x ?_ | refine inb_n ?_ | refine inb_r ?_ | refine inb_x ?_ | refine inb_y rfl ?_ | refine hk_skip ?_ | refine hk_label ?_ | refine hk_exit ?_ | refine hk_ret ?_ | refine hk_block ?_ | refine hk_seq ?_)
  refine hk_region fun K hK => runs_eval tab_ok ?_
  simp only [ev0, evA, evB, evP, fl, gp, tab, simprocAttr, reduceCtorEq, reduceIte]
  refine fin_run ?_ (hK _ ?_) <;> clear hK <;> clear K
  · (first | exact trivial | omega | (simp only [In64] at *; omega) | (simp [In64] at *; omega) | (simp_all; done) | skip)
  repeat (first | refine thn_n ?_ | refine thn_r ?_ | refine thn_x ?_ | refine inb_n ?_ | refine inb_r ?_ | refine inb_x ?_ | refine inb_y rfl ?_ | refine hk_skip ?_ | refine hk_label ?_ | refine hk_exit ?_ | refine hk_ret ?_ | refine hk_block ?_ | refine hk_seq ?_)
  refine hk_region fun K hK => runs_eval tab_ok ?_
  simp only [ev0, evA, evB, evP, fl, gp, tab, simprocAttr, reduceCtorEq, reduceIte]
  refine fin_stop trivial (runs_call (thing_c N m [a] hm (by simp)) rfl rfl rfl (by simp only [dstOk, Nat.reduceLT]) (by repeat (first | exact trivial | constructor)) (runs_eval tab_ok ?_))
  simp only [ev0, evA, evB, evP, fl, gp, tab, simprocAttr, reduceCtorEq, reduceIte]
  refine fin_run ?_ (hK _ ?_) <;> clear hK <;> clear K
  · (first | exact trivial | omega | (simp only [In64] at *; omega) | (simp [In64] at *; omega) | (simp_all; done) | skip)
  repeat (first | refine thn_n ?_ | refine thn_r ?_ | refine thn_x ?_ | refine inb_n ?_ | refine inb_r ?_ | refine inb_x ?_ | refine inb_y rfl ?_ | refine hk_skip ?_ | refine hk_label ?_ | refine hk_exit ?_ | refine hk_ret ?_ | refine hk_block ?_ | refine hk_seq ?_)
  refine hk_region fun K hK => runs_eval tab_ok ?_
  simp only [ev0, evA, evB, evP, fl, gp, tab, simprocAttr, reduceCtorEq, reduceIte]
  refine fin_run ?_ (hK _ ?_) <;> clear hK <;> clear K
  · (first | exact trivial | omega | (simp only [In64] at *; omega) | (simp [In64] at *; omega) | (simp_all; done) | skip)
  repeat (first | refine thn_n ?_ | refine thn_r ?_ | refine thn_x ?_ | refine inb_n ?_ | refine inb_r ?_ | refine inb_x ?_ | refine inb_y rfl ?_ | refine hk_skip ?_ | refine hk_label ?_ | refine hk_exit ?_ | refine hk_ret ?_ | refine hk_block ?_ | refine hk_seq ?_)
  refine hk_cond rfl (fun hC1 => ?_) (fun hC1 => ?_)
  · (try simp only [nhs] at hC1)
    repeat (first | refine thn_n ?_ | refine thn_r ?_ | refine thn_x ?_ | refine inb_n ?_ | refine inb_r ?_ | refine inb_x ?_ | refine inb_y rfl ?_ | refine hk_skip ?_ | refine hk_label ?_ | refine hk_exit ?_ | refine hk_ret ?_ | refine hk_block ?_ | refine hk_seq ?_)
    refine hk_draw mixed (by kernel_rfl) fun K hK => runs_eval tab_ok ?_
    simp only [ev0, evA, evB, evP, fl, gp, tab, simprocAttr, reduceCtorEq, reduceIte]
    refine fin_run ?_ (hK _ ?_) <;> clear hK <;> clear K
    · (first | exact trivial | omega | (simp only [In64] at *; omega) | (simp [In64] at *; omega) | (simp_all; done) | skip)
    repeat (first | refine thn_n ?_ | refine thn_r ?_ | refine thn_x ?_ | refine inb_n ?_ | refine inb_r ?_ | refine inb_x ?_ | refine inb_y rfl ?_ | refine hk_skip ?_ | refine hk_label ?_ | refine hk_exit ?_ | refine hk_ret ?_ | refine hk_block ?_ | refine hk_seq ?_)
    simp only [Try.results34, enA, ev0, evA, evB, evP, fl, gp, tab, simprocAttr, reduceCtorEq, reduceIte]
    all_goals ((first | exact rfl | exact ⟨rfl, rfl⟩ | exact ⟨rfl, rfl, rfl⟩ | exact ⟨trivial, rfl⟩ | exact ⟨Nat.le_refl _, rfl⟩ | trivial | (simp; done)))
  · (try simp only [nhs] at hC1)
    exact absurd hC1 hf
theorem pow_ok {n e : Nat} {m : List Int} (h : GT n m n e) {a : Nat} (ha : a < n) (k : Int) : FnC Try.prog 34 [gp n m, .int .i64 a, .int .i64 k] (.tup [.int .i64 (pw (op m n) e a (k % (n : Int)).toNat : Nat), fl (0, 0)]) := by
  have hm := h.2.1.len
  have hsq := sq_le h.2.1.big
  have hb := h.2.1.big
  have hpos := h.2.1.pos
  have hadj := emod_adj (n := k) (o := (n : Int)) (by omega)
  have hem1 := Int.emod_nonneg k (show (n : Int) ≠ 0 by omega)
  have hem2 := Int.emod_lt_of_pos k (show (0 : Int) < n by omega)
  obtain ⟨r, hr⟩ := Int.eq_ofNat_of_zero_le hem1
  rw [hr] at hadj hem2 ⊢
  refine fnc_of tab_ok Try.func34 rfl (by kernel_rfl) (by rw [Try.ntmps34]; exact Nat.le_add_left 3 _) ?_; rw [Try.ntmps34]; repeat (first | refine thn_n ?_ | refine thn_r ?_ | refine thn_x ?_ | refine inb_n ?_ | refine inb_r ?_ | refine inb_x ?_ | refine inb_y rfl ?_ | refine hk_skip ?_ | refine hk_label ?_ | refine hk_exit ?_ | refine hk_ret ?_ | refine hk_block ?_ | refine hk_seq ?_)
  refine hk_region fun K hK => runs_eval tab_ok ?_
  simp only [ev0, evA, evB, evP, fl, gp, tab, simprocAttr, reduceCtorEq, reduceIte]
  refine fin_run ?_ (hK _ ?_) <;> clear hK <;> clear K
  · (first | exact trivial | omega | (simp only [In64] at *; omega) | (simp [In64] at *; omega) | (simp_all; done) | skip)
  repeat (first | refine thn_n ?_ | refine thn_r ?_ | refine thn_x ?_ | refine inb_n ?_ | refine inb_r ?_ | refine inb_x ?_ | refine inb_y rfl ?_ | refine hk_skip ?_ | refine hk_label ?_ | refine hk_exit ?_ | refine hk_ret ?_ | refine hk_block ?_ | refine hk_seq ?_)
  refine hk_region fun K hK => runs_eval tab_ok ?_
  simp only [ev0, evA, evB, evP, fl, gp, tab, simprocAttr, reduceCtorEq, reduceIte]
  refine fin_stop trivial (runs_call (thing_c n m [(a : Int)] (by omega) (by simp)) rfl rfl rfl (by simp only [dstOk, Nat.reduceLT]) (by repeat (first | exact trivial | constructor)) (runs_eval tab_ok ?_))
  simp only [ev0, evA, evB, evP, fl, gp, tab, simprocAttr, reduceCtorEq, reduceIte, tf_one h ha]
  refine fin_run ?_ (hK _ ?_) <;> clear hK <;> clear K
  · (first | exact trivial | omega | (simp only [In64] at *; omega) | (simp [In64] at *; omega) | (simp_all; done) | skip)
  repeat (first | refine thn_n ?_ | refine thn_r ?_ | refine thn_x ?_ | refine inb_n ?_ | refine inb_r ?_ | refine inb_x ?_ | refine inb_y rfl ?_ | refine hk_skip ?_ | refine hk_label ?_ | refine hk_exit ?_ | refine hk_ret ?_ | refine hk_block ?_ | refine hk_seq ?_)
  refine hk_region fun K hK => runs_eval tab_ok ?_
  simp only [ev0, evA, evB, evP, fl, gp, tab, simprocAttr, reduceCtorEq, reduceIte]
  refine fin_run ?_ (hK _ ?_) <;> clear hK <;> clear K
  · (first | exact trivial | omega | (simp only [In64] at *; omega) | (simp [In64] at *; omega) | (simp_all; done) | skip)
  repeat (first | refine thn_n ?_ | refine thn_r ?_ | refine thn_x ?_ | refine inb_n ?_ | refine inb_r ?_ | refine inb_x ?_ | refine inb_y rfl ?_ | refine hk_skip ?_ | refine hk_label ?_ | refine hk_exit ?_ | refine hk_ret ?_ | refine hk_block ?_ | refine hk_seq ?_)
  refine hk_cond rfl (fun hC1 => ?_) (fun hC1 => ?_)
  · cases hC1
  · (try simp only [nhs] at hC1)
    repeat (first | refine thn_n ?_ | refine thn_r ?_ | refine thn_x ?_ | refine inb_n ?_ | refine inb_r ?_ | refine inb_x ?_ | refine inb_y rfl ?_ | refine hk_skip ?_ | refine hk_label ?_ | refine hk_exit ?_ | refine hk_ret ?_ | refine hk_block ?_ | refine hk_seq ?_)
    refine hk_region fun K hK => runs_eval tab_ok ?_
    simp only [ev0, evA, evB, evP, fl, gp, tab, simprocAttr, reduceCtorEq, reduceIte]
    refine fin_run ?_ (hK _ ?_) <;> clear hK <;> clear K
    · (first | exact trivial | omega | (simp only [In64] at *; omega) | (simp [In64] at *; omega) | (simp_all; done) | skip)
    repeat (first | refine thn_n ?_ | refine thn_r ?_ | refine thn_x ?_ | refine inb_n ?_ | refine inb_r ?_ | refine inb_x ?_ | refine inb_y rfl ?_ | refine hk_skip ?_ | refine hk_label ?_ | refine hk_exit ?_ | refine hk_ret ?_ | refine hk_block ?_ | refine hk_seq ?_)
    refine hk_region fun K hK => runs_eval tab_ok ?_
    simp only [ev0, evA, evB, evP, fl, gp, tab, simprocAttr, reduceCtorEq, reduceIte]
    refine fin_run trivial (hK _ ?_) <;> clear hK <;> clear K
    repeat (first | refine thn_n ?_ | refine thn_r ?_ | refine thn_x ?_ | refine inb_n ?_ | refine inb_r ?_ | refine inb_x ?_ | refine inb_y rfl ?_ | refine hk_skip ?_ | refine hk_label ?_ | refine hk_exit ?_ | refine hk_ret ?_ | refine hk_block ?_ | refine hk_seq ?_)
    refine hk_cond rfl (fun hC2 => ?_) (fun hC2 => ?_)
    · (try simp only [nhs] at hC2)
      repeat (first | refine thn_n ?_ | refine thn_r ?_ | refine thn_x ?_ | refine inb_n ?_ | refine inb_r ?_ | refine inb_x ?_ | refine inb_y rfl ?_ | refine hk_skip ?_ | refine hk_label ?_ | refine hk_exit ?_ | refine hk_ret ?_ | refine hk_block ?_ | refine hk_seq ?_)
      refine hk_region fun K hK => runs_eval tab_ok ?_
      simp only [ev0, evA, evB, evP, fl, gp, tab, simprocAttr, reduceCtorEq, reduceIte]
      refine fin_run ?_ (hK _ ?_) <;> clear hK <;> clear K
      · rw [if_pos hC2] at hadj; simp only [In64]; omega
      repeat (first | refine thn_n ?_ | refine thn_r ?_ | refine thn_x ?_ | refine inb_n ?_ | refine inb_r ?_ | refine inb_x ?_ | refine inb_y rfl ?_ | refine hk_skip ?_ | refine hk_label ?_ | refine hk_exit ?_ | refine hk_ret ?_ | refine hk_block ?_ | refine hk_seq ?_)
      rw [if_pos hC2] at hadj
      rw [hadj]
      refine hk_region fun K hK => runs_eval tab_ok ?_
      simp only [ev0, evA, evB, evP, fl, gp, tab, simprocAttr, reduceCtorEq, reduceIte]
      refine fin_stop trivial (runs_call (powOf_c h ha r (by omega)) rfl rfl rfl (by simp only [dstOk, Nat.reduceLT]) (by repeat (first | exact trivial | constructor)) (runs_eval tab_ok ?_))
      simp only [ev0, evA, evB, evP, fl, gp, tab, simprocAttr, reduceCtorEq, reduceIte]
      refine fin_run ?_ (hK _ ?_) <;> clear hK <;> clear K
      · (first | exact trivial | omega | (simp only [In64] at *; omega) | (simp [In64] at *; omega) | (simp_all; done) | skip)
      repeat (first | refine thn_n ?_ | refine thn_r ?_ | refine thn_x ?_ | refine inb_n ?_ | refine inb_r ?_ | refine inb_x ?_ | refine inb_y rfl ?_ | refine hk_skip ?_ | refine hk_label ?_ | refine hk_exit ?_ | refine hk_ret ?_ | refine hk_block ?_ | refine hk_seq ?_)
      simp only [Try.results34, enA, ev0, evA, evB, evP, fl, gp, tab, simprocAttr, reduceCtorEq, reduceIte]
      all_goals ((first | exact rfl | exact ⟨rfl, rfl⟩ | exact ⟨rfl, rfl, rfl⟩ | exact ⟨trivial, rfl⟩ | exact ⟨Nat.le_refl _, rfl⟩ | trivial | (simp; done)))
    · (try simp only [nhs] at hC2)
      repeat (first | refine thn_n ?_ | refine thn_r ?_ | refine thn_x ?_ | refine inb_n ?_ | refine inb_r ?_ | refine inb_x ?_ | refine inb_y rfl ?_ | refine hk_skip ?_ | refine hk_label ?_ | refine hk_exit ?_ | refine hk_ret ?_ | refine hk_block ?_ | refine hk_seq ?_)
      rw [if_neg hC2] at hadj
      rw [hadj]
      refine hk_region fun K hK => runs_eval tab_ok ?_
      simp only [ev0, evA, evB, evP, fl, gp, tab, simprocAttr, reduceCtorEq, reduceIte]
      refine fin_stop trivial (runs_call (powOf_c h ha r (by omega)) rfl rfl rfl (by simp only [dstOk, Nat.reduceLT]) (by repeat (first | exact trivial | constructor)) (runs_eval tab_ok ?_))
      simp only [ev0, evA, evB, evP, fl, gp, tab, simprocAttr, reduceCtorEq, reduceIte]
      refine fin_run ?_ (hK _ ?_) <;> clear hK <;> clear K
      · (first | exact trivial | omega | (simp only [In64] at *; omega) | (simp [In64] at *; omega) | (simp_all; done) | skip)
      repeat (first | refine thn_n ?_ | refine thn_r ?_ | refine thn_x ?_ | refine inb_n ?_ | refine inb_r ?_ | refine inb_x ?_ | refine inb_y rfl ?_ | refine hk_skip ?_ | refine hk_label ?_ | refine hk_exit ?_ | refine hk_ret ?_ | refine hk_block ?_ | refine hk_seq ?_)
      simp only [Try.results34, enA, ev0, evA, evB, evP, fl, gp, tab, simprocAttr, reduceCtorEq, reduceIte]
      all_goals ((first | exact rfl | exact ⟨rfl, rfl⟩ | exact ⟨rfl, rfl, rfl⟩ | exact ⟨trivial, rfl⟩ | exact ⟨Nat.le_refl _, rfl⟩ | trivial | (simp; done)))

theorem orderOf_c {n e : Nat} {m : List Int} (h : GT n m n e) {a : Nat} (ha : a < n) : FnC Try.prog 47 [gp n m, .int .i64 a] (.int .i64 (ord n (op m n) e a : Nat)) := by
  have G := h.2.2
  have T := h.2.1
  have hb := T.big
  obtain ⟨o1, o2, o3, o4⟩ := G.ord_spec ha
  refine fnc_of tab_ok Try.func47 rfl (by kernel_rfl) (by rw [Try.ntmps47]; exact Nat.le_add_left 2 _) ?_; rw [Try.ntmps47]; repeat (first | refine thn_n ?_ | refine thn_r ?_ | refine thn_x ?_ | refine inb_n ?_ | refine inb_r ?_ | refine inb_x ?_ | refine inb_y rfl ?_ | refine hk_skip ?_ | refine hk_label ?_ | refine hk_exit ?_ | refine hk_ret ?_ | refine hk_block ?_ | refine hk_seq ?_)
  refine hk_region fun K hK => runs_eval tab_ok ?_
  simp only [ev0, evA, evB, evP, fl, gp, tab, simprocAttr, reduceCtorEq, reduceIte]
  refine fin_run ?_ (hK _ ?_) <;> clear hK <;> clear K
  · (first | exact trivial | omega | (simp only [In64] at *; omega) | (simp [In64] at *; omega) | (simp_all; done) | skip)
  repeat (first | refine thn_n ?_ | refine thn_r ?_ | refine thn_x ?_ | refine inb_n ?_ | refine inb_r ?_ | refine inb_x ?_ | refine inb_y rfl ?_ | refine hk_skip ?_ | refine hk_label ?_ | refine hk_exit ?_ | refine hk_ret ?_ | refine hk_block ?_ | refine hk_seq ?_)
  refine hk_region fun K hK => runs_eval tab_ok ?_
  simp only [ev0, evA, evB, evP, fl, gp, tab, simprocAttr, reduceCtorEq, reduceIte]
  refine fin_run trivial (hK _ ?_) <;> clear hK <;> clear K
  repeat (first | refine thn_n ?_ | refine thn_r ?_ | refine thn_x ?_ | refine inb_n ?_ | refine inb_r ?_ | refine inb_x ?_ | refine inb_y rfl ?_ | refine hk_skip ?_ | refine hk_label ?_ | refine hk_exit ?_ | refine hk_ret ?_ | refine hk_block ?_ | refine hk_seq ?_)
  refine hk_region fun K hK => runs_eval tab_ok ?_
  simp only [ev0, evA, evB, evP, fl, gp, tab, simprocAttr, reduceCtorEq, reduceIte]
  refine fin_run trivial (hK _ ?_) <;> clear hK <;> clear K
  repeat (first | refine thn_n ?_ | refine thn_r ?_ | refine thn_x ?_ | refine inb_n ?_ | refine inb_r ?_ | refine inb_x ?_ | refine inb_y rfl ?_ | refine hk_skip ?_ | refine hk_label ?_ | refine hk_exit ?_ | refine hk_ret ?_ | refine hk_block ?_ | refine hk_seq ?_)
  refine hk_loop (ι := Nat) (fun k => ⟨19, [(1, .p (.int .i64 a)), (2, .ptr 0 0), (5, .p (.int .i64 k)), (6, .p (.int .i64 (pw (op m n) e a k : Nat)))], [.own [.p (.int .i64 n), .p (.list (il m))]]⟩) (fun k => 1 ≤ k ∧ k ≤ ord n (op m n) e a) (fun k => ord n (op m n) e a - k) 1 ⟨Nat.le_refl _, o1⟩ [0] (by rw [G.pw_one ha]; simp only [leq, leA, ev0, evA, evB, evP, fl, gp, tab, simprocAttr, reduceCtorEq, reduceIte] <;> trivial) fun k hk => ?_
  obtain ⟨hk1, hk2⟩ := hk
  repeat (first | refine thn_n ?_ | refine thn_r ?_ | refine thn_x ?_ | refine inb_n ?_ | refine inb_r ?_ | refine inb_x ?_ | refine inb_y rfl ?_ | refine hk_skip ?_ | refine hk_label ?_ | refine hk_exit ?_ | refine hk_ret ?_ | refine hk_block ?_ | refine hk_seq ?_)
  refine hk_region fun K hK => runs_eval tab_ok ?_
  simp only [ev0, evA, evB, evP, fl, gp, tab, simprocAttr, reduceCtorEq, reduceIte]
  refine fin_stop trivial (runs_call (oneOf_c h) rfl rfl rfl (by simp only [dstOk, Nat.reduceLT]) (by repeat (first | exact trivial | constructor)) (runs_eval tab_ok ?_))
  simp only [ev0, evA, evB, evP, fl, gp, tab, simprocAttr, reduceCtorEq, reduceIte]
  refine fin_run ?_ (hK _ ?_) <;> clear hK <;> clear K
  · (first | exact trivial | omega | (simp only [In64] at *; omega) | (simp [In64] at *; omega) | (simp_all; done) | skip)
  repeat (first | refine thn_n ?_ | refine thn_r ?_ | refine thn_x ?_ | refine inb_n ?_ | refine inb_r ?_ | refine inb_x ?_ | refine inb_y rfl ?_ | refine hk_skip ?_ | refine hk_label ?_ | refine hk_exit ?_ | refine hk_ret ?_ | refine hk_block ?_ | refine hk_seq ?_)
  refine hk_cond rfl (fun hC1 => ?_) (fun hC1 => ?_)
  · (try simp only [nhs] at hC1)
    repeat (first | refine thn_n ?_ | refine thn_r ?_ | refine thn_x ?_ | refine inb_n ?_ | refine inb_r ?_ | refine inb_x ?_ | refine inb_y rfl ?_ | refine hk_skip ?_ | refine hk_label ?_ | refine hk_exit ?_ | refine hk_ret ?_ | refine hk_block ?_ | refine hk_seq ?_)
    have hne : k ≠ ord n (op m n) e a := fun h => hC1 (by rw [h, o3])
    refine hk_region fun K hK => runs_eval tab_ok ?_
    simp only [ev0, evA, evB, evP, fl, gp, tab, simprocAttr, reduceCtorEq, reduceIte]
    refine fin_run ?_ (hK _ ?_) <;> clear hK <;> clear K
    · (first | exact trivial | omega | (simp only [In64] at *; omega) | (simp [In64] at *; omega) | (simp_all; done) | skip)
    repeat (first | refine thn_n ?_ | refine thn_r ?_ | refine thn_x ?_ | refine inb_n ?_ | refine inb_r ?_ | refine inb_x ?_ | refine inb_y rfl ?_ | refine hk_skip ?_ | refine hk_label ?_ | refine hk_exit ?_ | refine hk_ret ?_ | refine hk_block ?_ | refine hk_seq ?_)
    refine hk_region fun K hK => runs_eval tab_ok ?_
    simp only [ev0, evA, evB, evP, fl, gp, tab, simprocAttr, reduceCtorEq, reduceIte]
    refine fin_stop trivial (runs_call (of_c T (G.pw_lt ha k) ha) rfl rfl rfl (by simp only [dstOk, Nat.reduceLT]) (by repeat (first | exact trivial | constructor)) (runs_eval tab_ok ?_))
    simp only [ev0, evA, evB, evP, fl, gp, tab, simprocAttr, reduceCtorEq, reduceIte]
    refine fin_run ?_ (hK _ ?_) <;> clear hK <;> clear K
    · (first | exact trivial | omega | (simp only [In64] at *; omega) | (simp [In64] at *; omega) | (simp_all; done) | skip)
    repeat (first | refine thn_n ?_ | refine thn_r ?_ | refine thn_x ?_ | refine inb_n ?_ | refine inb_r ?_ | refine inb_x ?_ | refine inb_y rfl ?_ | refine hk_skip ?_ | refine hk_label ?_ | refine hk_exit ?_ | refine hk_ret ?_ | refine hk_block ?_ | refine hk_seq ?_)
    refine ⟨k + 1, [0], ⟨by omega, by omega⟩, by omega, ?_⟩
    simp only [leq, leA, ev0, evA, evB, evP, fl, gp, tab, simprocAttr, reduceCtorEq, reduceIte] <;> first | trivial | omega
  · (try simp only [nhs] at hC1)
    repeat (first | refine thn_n ?_ | refine thn_r ?_ | refine thn_x ?_ | refine inb_n ?_ | refine inb_r ?_ | refine inb_x ?_ | refine inb_y rfl ?_ | refine hk_skip ?_ | refine hk_label ?_ | refine hk_exit ?_ | refine hk_ret ?_ | refine hk_block ?_ | refine hk_seq ?_)
    have hek : k = ord n (op m n) e a := by
      rcases Nat.lt_or_ge k (ord n (op m n) e a) with hlt | hge
      · exact absurd (by omega) (o4 k hk1 hlt)
      · omega
    refine hk_region fun K hK => runs_eval tab_ok ?_
    simp only [ev0, evA, evB, evP, fl, gp, tab, simprocAttr, reduceCtorEq, reduceIte]
    refine fin_run trivial (hK _ ?_) <;> clear hK <;> clear K
    repeat (first | refine thn_n ?_ | refine thn_r ?_ | refine thn_x ?_ | refine inb_n ?_ | refine inb_r ?_ | refine inb_x ?_ | refine inb_y rfl ?_ | refine hk_skip ?_ | refine hk_label ?_ | refine hk_exit ?_ | refine hk_ret ?_ | refine hk_block ?_ | refine hk_seq ?_)
    simp only [Try.results47, enA, ev0, evA, evB, evP, fl, gp, tab, simprocAttr, reduceCtorEq, reduceIte]
    all_goals (rw [hek])

/-- A row by a rule. -/
def rg (g : Nat → Int) (i : Nat) : List Int := (List.range i).map g
theorem rg_succ (g : Nat → Int) (i : Nat) : rg g (i + 1) = rg g i ++ [g i] := by simp [rg, List.range_succ]
theorem rg_len (g : Nat → Int) (i : Nat) : (rg g i).length = i := by simp [rg]
theorem rg_get (g : Nat → Int) {n i : Nat} (h : i < n) : (rg g n).getD i 0 = g i := by
  simp [rg, List.getD, List.getElem?_range h]

def ordl (m : List Int) (n e : Nat) : List Int := rg (fun a => ((ord n (op m n) e a : Nat) : Int)) n

theorem orders_no (N : Int) (m : List Int) (hm : m.length ≤ 1000000000000000) (hf : ¬ (gf N m).1 = 0) : FnC Try.prog 13 [gp N m] (.tup [.list [], fl (gf N m)]) := by
  refine fnc_of tab_ok Try.func13 rfl (by kernel_rfl) (by rw [Try.ntmps13]; exact Nat.le_add_left 1 _) ?_; rw [Try.ntmps13]; repeat (first | refine thn_n ?_ | refine thn_r ?_ | refine thn_x ?_ | refine inb_n ?_ | refine inb_r ?_ | refine inb_x ?_ | refine inb_y rfl ?_ | refine hk_skip ?_ | refine hk_label ?_ | refine hk_exit ?_ | refine hk_ret ?_ | refine hk_block ?_ | refine hk_seq ?_)
  refine hk_region fun K hK => runs_eval tab_ok ?_
  simp only [ev0, evA, evB, evP, fl, gp, tab, simprocAttr, reduceCtorEq, reduceIte]
  refine fin_run ?_ (hK _ ?_) <;> clear hK <;> clear K
  · (first | exact trivial | omega | (simp only [In64] at *; omega) | (simp [In64] at *; omega) | (simp_all; done) | skip)
  repeat (first | refine thn_n ?_ | refine thn_r ?_ | refine thn_x ?_ | refine inb_n ?_ | refine inb_r ?_ | refine inb_x ?_ | refine inb_y rfl ?_ | refine hk_skip ?_ | refine hk_label ?_ | refine hk_exit ?_ | refine hk_ret ?_ | refine hk_block ?_ | refine hk_seq ?_)
  refine hk_region fun K hK => runs_eval tab_ok ?_
  simp only [ev0, evA, evB, evP, fl, gp, tab, simprocAttr, reduceCtorEq, reduceIte]
  refine fin_stop trivial (runs_call (check_c N m hm) rfl rfl rfl (by simp only [dstOk, Nat.reduceLT]) (by repeat (first | exact trivial | constructor)) (runs_eval tab_ok ?_))
  simp only [ev0, evA, evB, evP, fl, gp, tab, simprocAttr, reduceCtorEq, reduceIte]
  refine fin_run ?_ (hK _ ?_) <;> clear hK <;> clear K
  · (first | exact trivial | omega | (simp only [In64] at *; omega) | (simp [In64] at *; omega) | (simp_all; done) | skip)
  repeat (first | refine thn_n ?_ | refine thn_r ?_ | refine thn_x ?_ | refine inb_n ?_ | refine inb_r ?_ | refine inb_x ?_ | refine inb_y rfl ?_ | refine hk_skip ?_ | refine hk_label ?_ | refine hk_exit ?_ | refine hk_ret ?_ | refine hk_block ?_ | refine hk_seq ?_)
  refine hk_region fun K hK => runs_eval tab_ok ?_
  simp only [ev0, evA, evB, evP, fl, gp, tab, simprocAttr, reduceCtorEq, reduceIte]
  refine fin_run ?_ (hK _ ?_) <;> clear hK <;> clear K
  · (first | exact trivial | omega | (simp only [In64] at *; omega) | (simp [In64] at *; omega) | (simp_all; done) | skip)
  repeat (first | refine thn_n ?_ | refine thn_r ?_ | refine thn_x ?_ | refine inb_n ?_ | refine inb_r ?_ | refine inb_x ?_ | refine inb_y rfl ?_ | refine hk_skip ?_ | refine hk_label ?_ | refine hk_exit ?_ | refine hk_ret ?_ | refine hk_block ?_ | refine hk_seq ?_)
  refine hk_cond rfl (fun hC1 => ?_) (fun hC1 => ?_)
  · (try simp only [nhs] at hC1)
    repeat (first | refine thn_n ?_ | refine thn_r ?_ | refine thn_x ?_ | refine inb_n ?_ | refine inb_r ?_ | refine inb_x ?_ | refine inb_y rfl ?_ | refine hk_skip ?_ | refine hk_label ?_ | refine hk_exit ?_ | refine hk_ret ?_ | refine hk_block ?_ | refine hk_seq ?_)
    refine hk_draw mixed (by kernel_rfl) fun K hK => runs_eval tab_ok ?_
    simp only [ev0, evA, evB, evP, fl, gp, tab, simprocAttr, reduceCtorEq, reduceIte]
    refine fin_run ?_ (hK _ ?_) <;> clear hK <;> clear K
    · (first | exact trivial | omega | (simp only [In64] at *; omega) | (simp [In64] at *; omega) | (simp_all; done) | skip)
    repeat (first | refine thn_n ?_ | refine thn_r ?_ | refine thn_x ?_ | refine inb_n ?_ | refine inb_r ?_ | refine inb_x ?_ | refine inb_y rfl ?_ | refine hk_skip ?_ | refine hk_label ?_ | refine hk_exit ?_ | refine hk_ret ?_ | refine hk_block ?_ | refine hk_seq ?_)
    simp only [Try.results13, enA, ev0, evA, evB, evP, fl, gp, tab, simprocAttr, reduceCtorEq, reduceIte]
    all_goals ((first | exact rfl | exact ⟨rfl, rfl⟩ | exact ⟨rfl, rfl, rfl⟩ | exact ⟨trivial, rfl⟩ | exact ⟨Nat.le_refl _, rfl⟩ | trivial | (simp; done)))
  · (try simp only [nhs] at hC1)
    exact absurd hC1 hf
theorem orders_ok {n e : Nat} {m : List Int} (h : GT n m n e) : FnC Try.prog 13 [gp n m] (.tup [.list (il (ordl m n e)), fl (0, 0)]) := by
  have hm := h.2.1.len
  have hsq := sq_le h.2.1.big
  have hb := h.2.1.big
  have hlen := rg_len (fun a => ((ord n (op m n) e a : Nat) : Int))
  have hsuc := rg_succ (fun a => ((ord n (op m n) e a : Nat) : Int))
  refine fnc_of tab_ok Try.func13 rfl (by kernel_rfl) (by rw [Try.ntmps13]; exact Nat.le_add_left 1 _) ?_; rw [Try.ntmps13]; repeat (first | refine thn_n ?_ | refine thn_r ?_ | refine thn_x ?_ | refine inb_n ?_ | refine inb_r ?_ | refine inb_x ?_ | refine inb_y rfl ?_ | refine hk_skip ?_ | refine hk_label ?_ | refine hk_exit ?_ | refine hk_ret ?_ | refine hk_block ?_ | refine hk_seq ?_)
  refine hk_region fun K hK => runs_eval tab_ok ?_
  simp only [ev0, evA, evB, evP, fl, gp, tab, simprocAttr, reduceCtorEq, reduceIte]
  refine fin_run ?_ (hK _ ?_) <;> clear hK <;> clear K
  · (first | exact trivial | omega | (simp only [In64] at *; omega) | (simp [In64] at *; omega) | (simp_all; done) | skip)
  repeat (first | refine thn_n ?_ | refine thn_r ?_ | refine thn_x ?_ | refine inb_n ?_ | refine inb_r ?_ | refine inb_x ?_ | refine inb_y rfl ?_ | refine hk_skip ?_ | refine hk_label ?_ | refine hk_exit ?_ | refine hk_ret ?_ | refine hk_block ?_ | refine hk_seq ?_)
  refine hk_region fun K hK => runs_eval tab_ok ?_
  simp only [ev0, evA, evB, evP, fl, gp, tab, simprocAttr, reduceCtorEq, reduceIte]
  refine fin_stop trivial (runs_call (check_c n m (by omega)) rfl rfl rfl (by simp only [dstOk, Nat.reduceLT]) (by repeat (first | exact trivial | constructor)) (runs_eval tab_ok ?_))
  simp only [ev0, evA, evB, evP, fl, gp, tab, simprocAttr, reduceCtorEq, reduceIte, gf_of h]
  refine fin_run ?_ (hK _ ?_) <;> clear hK <;> clear K
  · (first | exact trivial | omega | (simp only [In64] at *; omega) | (simp [In64] at *; omega) | (simp_all; done) | skip)
  repeat (first | refine thn_n ?_ | refine thn_r ?_ | refine thn_x ?_ | refine inb_n ?_ | refine inb_r ?_ | refine inb_x ?_ | refine inb_y rfl ?_ | refine hk_skip ?_ | refine hk_label ?_ | refine hk_exit ?_ | refine hk_ret ?_ | refine hk_block ?_ | refine hk_seq ?_)
  refine hk_region fun K hK => runs_eval tab_ok ?_
  simp only [ev0, evA, evB, evP, fl, gp, tab, simprocAttr, reduceCtorEq, reduceIte]
  refine fin_run ?_ (hK _ ?_) <;> clear hK <;> clear K
  · (first | exact trivial | omega | (simp only [In64] at *; omega) | (simp [In64] at *; omega) | (simp_all; done) | skip)
  repeat (first | refine thn_n ?_ | refine thn_r ?_ | refine thn_x ?_ | refine inb_n ?_ | refine inb_r ?_ | refine inb_x ?_ | refine inb_y rfl ?_ | refine hk_skip ?_ | refine hk_label ?_ | refine hk_exit ?_ | refine hk_ret ?_ | refine hk_block ?_ | refine hk_seq ?_)
  refine hk_cond rfl (fun hC1 => ?_) (fun hC1 => ?_)
  · cases hC1
  · (try simp only [nhs] at hC1)
    repeat (first | refine thn_n ?_ | refine thn_r ?_ | refine thn_x ?_ | refine inb_n ?_ | refine inb_r ?_ | refine inb_x ?_ | refine inb_y rfl ?_ | refine hk_skip ?_ | refine hk_label ?_ | refine hk_exit ?_ | refine hk_ret ?_ | refine hk_block ?_ | refine hk_seq ?_)
    refine hk_region fun K hK => runs_eval tab_ok ?_
    simp only [ev0, evA, evB, evP, fl, gp, tab, simprocAttr, reduceCtorEq, reduceIte]
    refine fin_run trivial (hK _ ?_) <;> clear hK <;> clear K
    repeat (first | refine thn_n ?_ | refine thn_r ?_ | refine thn_x ?_ | refine inb_n ?_ | refine inb_r ?_ | refine inb_x ?_ | refine inb_y rfl ?_ | refine hk_skip ?_ | refine hk_label ?_ | refine hk_exit ?_ | refine hk_ret ?_ | refine hk_block ?_ | refine hk_seq ?_)
    refine hk_own0 5 rfl ?_
    refine hk_region fun K hK => runs_eval tab_ok ?_
    simp only [ev0, evA, evB, evP, fl, gp, tab, simprocAttr, reduceCtorEq, reduceIte]
    refine fin_run ?_ (hK _ ?_) <;> clear hK <;> clear K
    · (first | exact trivial | omega | (simp only [In64] at *; omega) | (simp [In64] at *; omega) | (simp_all; done) | skip)
    repeat (first | refine thn_n ?_ | refine thn_r ?_ | refine thn_x ?_ | refine inb_n ?_ | refine inb_r ?_ | refine inb_x ?_ | refine inb_y rfl ?_ | refine hk_skip ?_ | refine hk_label ?_ | refine hk_exit ?_ | refine hk_ret ?_ | refine hk_block ?_ | refine hk_seq ?_)
    refine hk_loop (ι := Nat) (fun i => ⟨27, [(1, .ptr 0 0), (3, .ptr 1 0), (5, .sl 2 0 (rg (fun a => ((ord n (op m n) e a : Nat) : Int)) i).length), (14, .p (.int .i64 n)), (15, .p (.int .i64 i))], [.own [.p (.int .i64 n), .p (.list (il m))], .own [.p (.int .i64 0), .p (.int .i64 0)], .own (ol (rg (fun a => ((ord n (op m n) e a : Nat) : Int)) i))]⟩) (fun i => i ≤ n) (fun i => n - i) 0 (Nat.zero_le _) [0, 1, 3] (by simp only [leq, leA, ev0, evA, evB, evP, fl, gp, tab, simprocAttr, reduceCtorEq, reduceIte] <;> simp [rg, ol_nil]) fun i hi => ?_
    have hli := hlen i
    repeat (first | refine thn_n ?_ | refine thn_r ?_ | refine thn_x ?_ | refine inb_n ?_ | refine inb_r ?_ | refine inb_x ?_ | refine inb_y rfl ?_ | refine hk_skip ?_ | refine hk_label ?_ | refine hk_exit ?_ | refine hk_ret ?_ | refine hk_block ?_ | refine hk_seq ?_)
    refine hk_region fun K hK => runs_eval tab_ok ?_
    simp only [ev0, evA, evB, evP, fl, gp, tab, simprocAttr, reduceCtorEq, reduceIte]
    refine fin_run trivial (hK _ ?_) <;> clear hK <;> clear K
    repeat (first | refine thn_n ?_ | refine thn_r ?_ | refine thn_x ?_ | refine inb_n ?_ | refine inb_r ?_ | refine inb_x ?_ | refine inb_y rfl ?_ | refine hk_skip ?_ | refine hk_label ?_ | refine hk_exit ?_ | refine hk_ret ?_ | refine hk_block ?_ | refine hk_seq ?_)
    refine hk_cond rfl (fun hC2 => ?_) (fun hC2 => ?_)
    · (try simp only [nhs] at hC2)
      repeat (first | refine thn_n ?_ | refine thn_r ?_ | refine thn_x ?_ | refine inb_n ?_ | refine inb_r ?_ | refine inb_x ?_ | refine inb_y rfl ?_ | refine hk_skip ?_ | refine hk_label ?_ | refine hk_exit ?_ | refine hk_ret ?_ | refine hk_block ?_ | refine hk_seq ?_)
      have hlt : i < n := by omega
      refine hk_region fun K hK => runs_eval tab_ok ?_
      simp only [ev0, evA, evB, evP, fl, gp, tab, simprocAttr, reduceCtorEq, reduceIte]
      refine fin_run trivial (hK _ ?_) <;> clear hK <;> clear K
      repeat (first | refine thn_n ?_ | refine thn_r ?_ | refine thn_x ?_ | refine inb_n ?_ | refine inb_r ?_ | refine inb_x ?_ | refine inb_y rfl ?_ | refine hk_skip ?_ | refine hk_label ?_ | refine hk_exit ?_ | refine hk_ret ?_ | refine hk_block ?_ | refine hk_seq ?_)
      refine hk_region fun K hK => runs_eval tab_ok ?_
      simp only [ev0, evA, evB, evP, fl, gp, tab, simprocAttr, reduceCtorEq, reduceIte]
      refine fin_stop trivial (runs_call (orderOf_c h hlt) rfl rfl rfl (by simp only [dstOk, Nat.reduceLT]) (by repeat (first | exact trivial | constructor)) (runs_eval tab_ok ?_))
      simp only [ev0, evA, evB, evP, fl, gp, tab, simprocAttr, reduceCtorEq, reduceIte]
      refine fin_run ?_ (hK _ ?_) <;> clear hK <;> clear K
      · (first | exact trivial | omega | (simp only [In64] at *; omega) | (simp [In64] at *; omega) | (simp_all; done) | skip)
      repeat (first | refine thn_n ?_ | refine thn_r ?_ | refine thn_x ?_ | refine inb_n ?_ | refine inb_r ?_ | refine inb_x ?_ | refine inb_y rfl ?_ | refine hk_skip ?_ | refine hk_label ?_ | refine hk_exit ?_ | refine hk_ret ?_ | refine hk_block ?_ | refine hk_seq ?_)
      refine hk_region fun K hK => runs_eval tab_ok ?_
      simp only [ev0, evA, evB, evP, fl, gp, tab, simprocAttr, reduceCtorEq, reduceIte]
      refine fin_run ?_ (hK _ ?_) <;> clear hK <;> clear K
      · (first | exact trivial | omega | (simp only [In64] at *; omega) | (simp [In64] at *; omega) | (simp_all; done) | skip)
      repeat (first | refine thn_n ?_ | refine thn_r ?_ | refine thn_x ?_ | refine inb_n ?_ | refine inb_r ?_ | refine inb_x ?_ | refine inb_y rfl ?_ | refine hk_skip ?_ | refine hk_label ?_ | refine hk_exit ?_ | refine hk_ret ?_ | refine hk_block ?_ | refine hk_seq ?_)
      refine ⟨i + 1, [0, 1, 3], by omega, by omega, ?_⟩
      rw [hsuc]
      simp only [leq, leA, ev0, evA, evB, evP, fl, gp, tab, simprocAttr, reduceCtorEq, reduceIte] <;> first | trivial | omega
    · (try simp only [nhs] at hC2)
      repeat (first | refine thn_n ?_ | refine thn_r ?_ | refine thn_x ?_ | refine inb_n ?_ | refine inb_r ?_ | refine inb_x ?_ | refine inb_y rfl ?_ | refine hk_skip ?_ | refine hk_label ?_ | refine hk_exit ?_ | refine hk_ret ?_ | refine hk_block ?_ | refine hk_seq ?_)
      have hin : i = n := by omega
      subst hin
      refine hk_seal 5 2 rfl rfl ?_
      refine hk_region fun K hK => runs_eval tab_ok ?_
      simp only [ev0, evA, evB, evP, fl, gp, tab, simprocAttr, reduceCtorEq, reduceIte]
      refine fin_run ?_ (hK _ ?_) <;> clear hK <;> clear K
      · (first | exact trivial | omega | (simp only [In64] at *; omega) | (simp [In64] at *; omega) | (simp_all; done) | skip)
      repeat (first | refine thn_n ?_ | refine thn_r ?_ | refine thn_x ?_ | refine inb_n ?_ | refine inb_r ?_ | refine inb_x ?_ | refine inb_y rfl ?_ | refine hk_skip ?_ | refine hk_label ?_ | refine hk_exit ?_ | refine hk_ret ?_ | refine hk_block ?_ | refine hk_seq ?_)
      simp only [Try.results13, enA, ev0, evA, evB, evP, fl, gp, tab, simprocAttr, reduceCtorEq, reduceIte]
      all_goals (rfl)

def abel' (m : List Int) (n : Nat) : Prop := ∀ a, a < n → ∀ b, b < a → op m n a b = op m n b a
theorem abel_iff (m : List Int) (n : Nat) : abel' m n ↔ abel m n := by
  constructor
  · intro h a ha b hb
    rcases Nat.lt_trichotomy a b with h1 | h1 | h1
    · exact (h b hb a h1).symm
    · rw [h1]
    · exact h a ha b h1
  · exact fun h a ha b hb => h a ha b (by omega)

theorem abelianOf_c {n : Nat} {m : List Int} (T : Tab n m) : FnC Try.prog 58 [gp n m] (.bool (decide (abel m n))) := by
  have hb := T.big
  refine fnc_of tab_ok Try.func58 rfl (by kernel_rfl) (by rw [Try.ntmps58]; exact Nat.le_add_left 1 _) ?_; rw [Try.ntmps58]; repeat (first | refine thn_n ?_ | refine thn_r ?_ | refine thn_x ?_ | refine inb_n ?_ | refine inb_r ?_ | refine inb_x ?_ | refine inb_y rfl ?_ | refine hk_skip ?_ | refine hk_label ?_ | refine hk_exit ?_ | refine hk_ret ?_ | refine hk_block ?_ | refine hk_seq ?_)
  refine hk_region fun K hK => runs_eval tab_ok ?_
  simp only [ev0, evA, evB, evP, fl, gp, tab, simprocAttr, reduceCtorEq, reduceIte]
  refine fin_run ?_ (hK _ ?_) <;> clear hK <;> clear K
  · (first | exact trivial | omega | (simp only [In64] at *; omega) | (simp [In64] at *; omega) | (simp_all; done) | skip)
  repeat (first | refine thn_n ?_ | refine thn_r ?_ | refine thn_x ?_ | refine inb_n ?_ | refine inb_r ?_ | refine inb_x ?_ | refine inb_y rfl ?_ | refine hk_skip ?_ | refine hk_label ?_ | refine hk_exit ?_ | refine hk_ret ?_ | refine hk_block ?_ | refine hk_seq ?_)
  refine hk_region fun K hK => runs_eval tab_ok ?_
  simp only [ev0, evA, evB, evP, fl, gp, tab, simprocAttr, reduceCtorEq, reduceIte]
  refine fin_run ?_ (hK _ ?_) <;> clear hK <;> clear K
  · (first | exact trivial | omega | (simp only [In64] at *; omega) | (simp [In64] at *; omega) | (simp_all; done) | skip)
  repeat (first | refine thn_n ?_ | refine thn_r ?_ | refine thn_x ?_ | refine inb_n ?_ | refine inb_r ?_ | refine inb_x ?_ | refine inb_y rfl ?_ | refine hk_skip ?_ | refine hk_label ?_ | refine hk_exit ?_ | refine hk_ret ?_ | refine hk_block ?_ | refine hk_seq ?_)
  refine hk_loop (ι := Nat) (fun i => ⟨25, [(1, .ptr 0 0), (6, .p (.int .i64 n)), (7, .p (.int .i64 i))], [.own [.p (.int .i64 n), .p (.list (il m))]]⟩) (fun i => i ≤ n ∧ ∀ j, j < i → ∀ b, b < j → op m n j b = op m n b j) (fun i => n - i) 0 ⟨Nat.zero_le _, fun j hj => by omega⟩ [0] (by simp only [leq, leA, ev0, evA, evB, evP, fl, gp, tab, simprocAttr, reduceCtorEq, reduceIte] <;> trivial) fun i hi => ?_
  obtain ⟨hi1, hi2⟩ := hi
  repeat (first | refine thn_n ?_ | refine thn_r ?_ | refine thn_x ?_ | refine inb_n ?_ | refine inb_r ?_ | refine inb_x ?_ | refine inb_y rfl ?_ | refine hk_skip ?_ | refine hk_label ?_ | refine hk_exit ?_ | refine hk_ret ?_ | refine hk_block ?_ | refine hk_seq ?_)
  refine hk_region fun K hK => runs_eval tab_ok ?_
  simp only [ev0, evA, evB, evP, fl, gp, tab, simprocAttr, reduceCtorEq, reduceIte]
  refine fin_run trivial (hK _ ?_) <;> clear hK <;> clear K
  repeat (first | refine thn_n ?_ | refine thn_r ?_ | refine thn_x ?_ | refine inb_n ?_ | refine inb_r ?_ | refine inb_x ?_ | refine inb_y rfl ?_ | refine hk_skip ?_ | refine hk_label ?_ | refine hk_exit ?_ | refine hk_ret ?_ | refine hk_block ?_ | refine hk_seq ?_)
  refine hk_cond rfl (fun hC1 => ?_) (fun hC1 => ?_)
  · (try simp only [nhs] at hC1)
    repeat (first | refine thn_n ?_ | refine thn_r ?_ | refine thn_x ?_ | refine inb_n ?_ | refine inb_r ?_ | refine inb_x ?_ | refine inb_y rfl ?_ | refine hk_skip ?_ | refine hk_label ?_ | refine hk_exit ?_ | refine hk_ret ?_ | refine hk_block ?_ | refine hk_seq ?_)
    have hlt : i < n := by omega
    refine hk_region fun K hK => runs_eval tab_ok ?_
    simp only [ev0, evA, evB, evP, fl, gp, tab, simprocAttr, reduceCtorEq, reduceIte]
    refine fin_run trivial (hK _ ?_) <;> clear hK <;> clear K
    repeat (first | refine thn_n ?_ | refine thn_r ?_ | refine thn_x ?_ | refine inb_n ?_ | refine inb_r ?_ | refine inb_x ?_ | refine inb_y rfl ?_ | refine hk_skip ?_ | refine hk_label ?_ | refine hk_exit ?_ | refine hk_ret ?_ | refine hk_block ?_ | refine hk_seq ?_)
    refine hk_region fun K hK => runs_eval tab_ok ?_
    simp only [ev0, evA, evB, evP, fl, gp, tab, simprocAttr, reduceCtorEq, reduceIte]
    refine fin_run trivial (hK _ ?_) <;> clear hK <;> clear K
    repeat (first | refine thn_n ?_ | refine thn_r ?_ | refine thn_x ?_ | refine inb_n ?_ | refine inb_r ?_ | refine inb_x ?_ | refine inb_y rfl ?_ | refine hk_skip ?_ | refine hk_label ?_ | refine hk_exit ?_ | refine hk_ret ?_ | refine hk_block ?_ | refine hk_seq ?_)
    refine hk_loop (ι := Nat) (fun b => ⟨25, [(1, .ptr 0 0), (3, .p (.int .i64 i)), (6, .p (.int .i64 n)), (7, .p (.int .i64 i)), (10, .p (.int .i64 i)), (11, .p (.int .i64 b))], [.own [.p (.int .i64 n), .p (.list (il m))]]⟩) (fun b => b ≤ i ∧ ∀ c, c < b → op m n i c = op m n c i) (fun b => i - b) 0 ⟨Nat.zero_le _, fun j hj => by omega⟩ [0] (by simp only [leq, leA, ev0, evA, evB, evP, fl, gp, tab, simprocAttr, reduceCtorEq, reduceIte] <;> trivial) fun b hb => ?_
    obtain ⟨hb1, hb2⟩ := hb
    repeat (first | refine thn_n ?_ | refine thn_r ?_ | refine thn_x ?_ | refine inb_n ?_ | refine inb_r ?_ | refine inb_x ?_ | refine inb_y rfl ?_ | refine hk_skip ?_ | refine hk_label ?_ | refine hk_exit ?_ | refine hk_ret ?_ | refine hk_block ?_ | refine hk_seq ?_)
    refine hk_region fun K hK => runs_eval tab_ok ?_
    simp only [ev0, evA, evB, evP, fl, gp, tab, simprocAttr, reduceCtorEq, reduceIte]
    refine fin_run trivial (hK _ ?_) <;> clear hK <;> clear K
    repeat (first | refine thn_n ?_ | refine thn_r ?_ | refine thn_x ?_ | refine inb_n ?_ | refine inb_r ?_ | refine inb_x ?_ | refine inb_y rfl ?_ | refine hk_skip ?_ | refine hk_label ?_ | refine hk_exit ?_ | refine hk_ret ?_ | refine hk_block ?_ | refine hk_seq ?_)
    refine hk_cond rfl (fun hC2 => ?_) (fun hC2 => ?_)
    · (try simp only [nhs] at hC2)
      repeat (first | refine thn_n ?_ | refine thn_r ?_ | refine thn_x ?_ | refine inb_n ?_ | refine inb_r ?_ | refine inb_x ?_ | refine inb_y rfl ?_ | refine hk_skip ?_ | refine hk_label ?_ | refine hk_exit ?_ | refine hk_ret ?_ | refine hk_block ?_ | refine hk_seq ?_)
      have hbl : b < n := by omega
      refine hk_region fun K hK => runs_eval tab_ok ?_
      simp only [ev0, evA, evB, evP, fl, gp, tab, simprocAttr, reduceCtorEq, reduceIte]
      refine fin_run trivial (hK _ ?_) <;> clear hK <;> clear K
      repeat (first | refine thn_n ?_ | refine thn_r ?_ | refine thn_x ?_ | refine inb_n ?_ | refine inb_r ?_ | refine inb_x ?_ | refine inb_y rfl ?_ | refine hk_skip ?_ | refine hk_label ?_ | refine hk_exit ?_ | refine hk_ret ?_ | refine hk_block ?_ | refine hk_seq ?_)
      refine hk_draw mixed (by kernel_rfl) fun K hK => runs_eval tab_ok ?_
      simp only [ev0, evA, evB, evP, fl, gp, tab, simprocAttr, reduceCtorEq, reduceIte]
      refine fin_stop trivial (runs_call (of_c T hlt hbl) rfl rfl rfl (by simp only [dstOk, Nat.reduceLT]) (by repeat (first | exact trivial | constructor)) (runs_eval tab_ok ?_))
      simp only [ev0, evA, evB, evP, fl, gp, tab, simprocAttr, reduceCtorEq, reduceIte]
      refine fin_stop trivial (runs_call (of_c T hbl hlt) rfl rfl rfl (by simp only [dstOk, Nat.reduceLT]) (by repeat (first | exact trivial | constructor)) (runs_eval tab_ok ?_))
      simp only [ev0, evA, evB, evP, fl, gp, tab, simprocAttr, reduceCtorEq, reduceIte]
      refine fin_run ?_ (hK _ ?_) <;> clear hK <;> clear K
      · (first | exact trivial | omega | (simp only [In64] at *; omega) | (simp [In64] at *; omega) | (simp_all; done) | skip)
      repeat (first | refine thn_n ?_ | refine thn_r ?_ | refine thn_x ?_ | refine inb_n ?_ | refine inb_r ?_ | refine inb_x ?_ | refine inb_y rfl ?_ | refine hk_skip ?_ | refine hk_label ?_ | refine hk_exit ?_ | refine hk_ret ?_ | refine hk_block ?_ | refine hk_seq ?_)
      refine hk_cond rfl (fun hC3 => ?_) (fun hC3 => ?_)
      · (try simp only [nhs] at hC3)
        repeat (first | refine thn_n ?_ | refine thn_r ?_ | refine thn_x ?_ | refine inb_n ?_ | refine inb_r ?_ | refine inb_x ?_ | refine inb_y rfl ?_ | refine hk_skip ?_ | refine hk_label ?_ | refine hk_exit ?_ | refine hk_ret ?_ | refine hk_block ?_ | refine hk_seq ?_)
        refine hk_region fun K hK => runs_eval tab_ok ?_
        simp only [ev0, evA, evB, evP, fl, gp, tab, simprocAttr, reduceCtorEq, reduceIte]
        refine fin_run trivial (hK _ ?_) <;> clear hK <;> clear K
        repeat (first | refine thn_n ?_ | refine thn_r ?_ | refine thn_x ?_ | refine inb_n ?_ | refine inb_r ?_ | refine inb_x ?_ | refine inb_y rfl ?_ | refine hk_skip ?_ | refine hk_label ?_ | refine hk_exit ?_ | refine hk_ret ?_ | refine hk_block ?_ | refine hk_seq ?_)
        simp only [Try.results58, enA, ev0, evA, evB, evP, fl, gp, tab, simprocAttr, reduceCtorEq, reduceIte]
        all_goals (simp only [decide_eq_false_iff_not, eq_comm (a := false)]; exact fun h => hC3 (by rw [h i hlt b hbl]))
      · (try simp only [nhs] at hC3)
        repeat (first | refine thn_n ?_ | refine thn_r ?_ | refine thn_x ?_ | refine inb_n ?_ | refine inb_r ?_ | refine inb_x ?_ | refine inb_y rfl ?_ | refine hk_skip ?_ | refine hk_label ?_ | refine hk_exit ?_ | refine hk_ret ?_ | refine hk_block ?_ | refine hk_seq ?_)
        refine hk_region fun K hK => runs_eval tab_ok ?_
        simp only [ev0, evA, evB, evP, fl, gp, tab, simprocAttr, reduceCtorEq, reduceIte]
        refine fin_run ?_ (hK _ ?_) <;> clear hK <;> clear K
        · (first | exact trivial | omega | (simp only [In64] at *; omega) | (simp [In64] at *; omega) | (simp_all; done) | skip)
        repeat (first | refine thn_n ?_ | refine thn_r ?_ | refine thn_x ?_ | refine inb_n ?_ | refine inb_r ?_ | refine inb_x ?_ | refine inb_y rfl ?_ | refine hk_skip ?_ | refine hk_label ?_ | refine hk_exit ?_ | refine hk_ret ?_ | refine hk_block ?_ | refine hk_seq ?_)
        refine ⟨b + 1, [0], ⟨by omega, fun j hj => ?_⟩, by omega, ?_⟩
        · by_cases hj : j = b
          · subst hj; omega
          · exact hb2 j (by omega)
        · simp only [leq, leA, ev0, evA, evB, evP, fl, gp, tab, simprocAttr, reduceCtorEq, reduceIte] <;> first | trivial | omega
    · (try simp only [nhs] at hC2)
      repeat (first | refine thn_n ?_ | refine thn_r ?_ | refine thn_x ?_ | refine inb_n ?_ | refine inb_r ?_ | refine inb_x ?_ | refine inb_y rfl ?_ | refine hk_skip ?_ | refine hk_label ?_ | refine hk_exit ?_ | refine hk_ret ?_ | refine hk_block ?_ | refine hk_seq ?_)
      refine hk_region fun K hK => runs_eval tab_ok ?_
      simp only [ev0, evA, evB, evP, fl, gp, tab, simprocAttr, reduceCtorEq, reduceIte]
      refine fin_run ?_ (hK _ ?_) <;> clear hK <;> clear K
      · (first | exact trivial | omega | (simp only [In64] at *; omega) | (simp [In64] at *; omega) | (simp_all; done) | skip)
      repeat (first | refine thn_n ?_ | refine thn_r ?_ | refine thn_x ?_ | refine inb_n ?_ | refine inb_r ?_ | refine inb_x ?_ | refine inb_y rfl ?_ | refine hk_skip ?_ | refine hk_label ?_ | refine hk_exit ?_ | refine hk_ret ?_ | refine hk_block ?_ | refine hk_seq ?_)
      refine ⟨i + 1, [0], ⟨by omega, fun j hj => ?_⟩, by omega, ?_⟩
      · by_cases hj : j = i
        · subst hj; exact fun c' hc' => hb2 c' (by omega)
        · exact hi2 j (by omega)
      · simp only [leq, leA, ev0, evA, evB, evP, fl, gp, tab, simprocAttr, reduceCtorEq, reduceIte] <;> first | trivial | omega
  · (try simp only [nhs] at hC1)
    repeat (first | refine thn_n ?_ | refine thn_r ?_ | refine thn_x ?_ | refine inb_n ?_ | refine inb_r ?_ | refine inb_x ?_ | refine inb_y rfl ?_ | refine hk_skip ?_ | refine hk_label ?_ | refine hk_exit ?_ | refine hk_ret ?_ | refine hk_block ?_ | refine hk_seq ?_)
    refine hk_region fun K hK => runs_eval tab_ok ?_
    simp only [ev0, evA, evB, evP, fl, gp, tab, simprocAttr, reduceCtorEq, reduceIte]
    refine fin_run trivial (hK _ ?_) <;> clear hK <;> clear K
    repeat (first | refine thn_n ?_ | refine thn_r ?_ | refine thn_x ?_ | refine inb_n ?_ | refine inb_r ?_ | refine inb_x ?_ | refine inb_y rfl ?_ | refine hk_skip ?_ | refine hk_label ?_ | refine hk_exit ?_ | refine hk_ret ?_ | refine hk_block ?_ | refine hk_seq ?_)
    simp only [Try.results58, enA, ev0, evA, evB, evP, fl, gp, tab, simprocAttr, reduceCtorEq, reduceIte]
    all_goals (simp only [decide_eq_true_eq, eq_comm (a := true)]; exact (abel_iff m n).1 fun a ha => hi2 a (by omega))

theorem abelian_no (N : Int) (m : List Int) (hm : m.length ≤ 1000000000000000) (hf : ¬ (gf N m).1 = 0) : FnC Try.prog 32 [gp N m] (.tup [.bool false, fl (gf N m)]) := by
  refine fnc_of tab_ok Try.func32 rfl (by kernel_rfl) (by rw [Try.ntmps32]; exact Nat.le_add_left 1 _) ?_; rw [Try.ntmps32]; repeat (first | refine thn_n ?_ | refine thn_r ?_ | refine thn_x ?_ | refine inb_n ?_ | refine inb_r ?_ | refine inb_x ?_ | refine inb_y rfl ?_ | refine hk_skip ?_ | refine hk_label ?_ | refine hk_exit ?_ | refine hk_ret ?_ | refine hk_block ?_ | refine hk_seq ?_)
  refine hk_region fun K hK => runs_eval tab_ok ?_
  simp only [ev0, evA, evB, evP, fl, gp, tab, simprocAttr, reduceCtorEq, reduceIte]
  refine fin_run ?_ (hK _ ?_) <;> clear hK <;> clear K
  · (first | exact trivial | omega | (simp only [In64] at *; omega) | (simp [In64] at *; omega) | (simp_all; done) | skip)
  repeat (first | refine thn_n ?_ | refine thn_r ?_ | refine thn_x ?_ | refine inb_n ?_ | refine inb_r ?_ | refine inb_x ?_ | refine inb_y rfl ?_ | refine hk_skip ?_ | refine hk_label ?_ | refine hk_exit ?_ | refine hk_ret ?_ | refine hk_block ?_ | refine hk_seq ?_)
  refine hk_region fun K hK => runs_eval tab_ok ?_
  simp only [ev0, evA, evB, evP, fl, gp, tab, simprocAttr, reduceCtorEq, reduceIte]
  refine fin_stop trivial (runs_call (check_c N m hm) rfl rfl rfl (by simp only [dstOk, Nat.reduceLT]) (by repeat (first | exact trivial | constructor)) (runs_eval tab_ok ?_))
  simp only [ev0, evA, evB, evP, fl, gp, tab, simprocAttr, reduceCtorEq, reduceIte]
  refine fin_run ?_ (hK _ ?_) <;> clear hK <;> clear K
  · (first | exact trivial | omega | (simp only [In64] at *; omega) | (simp [In64] at *; omega) | (simp_all; done) | skip)
  repeat (first | refine thn_n ?_ | refine thn_r ?_ | refine thn_x ?_ | refine inb_n ?_ | refine inb_r ?_ | refine inb_x ?_ | refine inb_y rfl ?_ | refine hk_skip ?_ | refine hk_label ?_ | refine hk_exit ?_ | refine hk_ret ?_ | refine hk_block ?_ | refine hk_seq ?_)
  refine hk_region fun K hK => runs_eval tab_ok ?_
  simp only [ev0, evA, evB, evP, fl, gp, tab, simprocAttr, reduceCtorEq, reduceIte]
  refine fin_run ?_ (hK _ ?_) <;> clear hK <;> clear K
  · (first | exact trivial | omega | (simp only [In64] at *; omega) | (simp [In64] at *; omega) | (simp_all; done) | skip)
  repeat (first | refine thn_n ?_ | refine thn_r ?_ | refine thn_x ?_ | refine inb_n ?_ | refine inb_r ?_ | refine inb_x ?_ | refine inb_y rfl ?_ | refine hk_skip ?_ | refine hk_label ?_ | refine hk_exit ?_ | refine hk_ret ?_ | refine hk_block ?_ | refine hk_seq ?_)
  refine hk_cond rfl (fun hC1 => ?_) (fun hC1 => ?_)
  · (try simp only [nhs] at hC1)
    repeat (first | refine thn_n ?_ | refine thn_r ?_ | refine thn_x ?_ | refine inb_n ?_ | refine inb_r ?_ | refine inb_x ?_ | refine inb_y rfl ?_ | refine hk_skip ?_ | refine hk_label ?_ | refine hk_exit ?_ | refine hk_ret ?_ | refine hk_block ?_ | refine hk_seq ?_)
    refine hk_draw mixed (by kernel_rfl) fun K hK => runs_eval tab_ok ?_
    simp only [ev0, evA, evB, evP, fl, gp, tab, simprocAttr, reduceCtorEq, reduceIte]
    refine fin_run ?_ (hK _ ?_) <;> clear hK <;> clear K
    · (first | exact trivial | omega | (simp only [In64] at *; omega) | (simp [In64] at *; omega) | (simp_all; done) | skip)
    repeat (first | refine thn_n ?_ | refine thn_r ?_ | refine thn_x ?_ | refine inb_n ?_ | refine inb_r ?_ | refine inb_x ?_ | refine inb_y rfl ?_ | refine hk_skip ?_ | refine hk_label ?_ | refine hk_exit ?_ | refine hk_ret ?_ | refine hk_block ?_ | refine hk_seq ?_)
    simp only [Try.results32, enA, ev0, evA, evB, evP, fl, gp, tab, simprocAttr, reduceCtorEq, reduceIte]
    all_goals ((first | exact rfl | exact ⟨rfl, rfl⟩ | exact ⟨rfl, rfl, rfl⟩ | exact ⟨trivial, rfl⟩ | exact ⟨Nat.le_refl _, rfl⟩ | trivial | (simp; done)))
  · (try simp only [nhs] at hC1)
    exact absurd hC1 hf
theorem abelian_ok {n e : Nat} {m : List Int} (h : GT n m n e) : FnC Try.prog 32 [gp n m] (.tup [.bool (decide (abel m n)), fl (0, 0)]) := by
  have hm := h.2.1.len
  have hsq := sq_le h.2.1.big
  refine fnc_of tab_ok Try.func32 rfl (by kernel_rfl) (by rw [Try.ntmps32]; exact Nat.le_add_left 1 _) ?_; rw [Try.ntmps32]; repeat (first | refine thn_n ?_ | refine thn_r ?_ | refine thn_x ?_ | refine inb_n ?_ | refine inb_r ?_ | refine inb_x ?_ | refine inb_y rfl ?_ | refine hk_skip ?_ | refine hk_label ?_ | refine hk_exit ?_ | refine hk_ret ?_ | refine hk_block ?_ | refine hk_seq ?_)
  refine hk_region fun K hK => runs_eval tab_ok ?_
  simp only [ev0, evA, evB, evP, fl, gp, tab, simprocAttr, reduceCtorEq, reduceIte]
  refine fin_run ?_ (hK _ ?_) <;> clear hK <;> clear K
  · (first | exact trivial | omega | (simp only [In64] at *; omega) | (simp [In64] at *; omega) | (simp_all; done) | skip)
  repeat (first | refine thn_n ?_ | refine thn_r ?_ | refine thn_x ?_ | refine inb_n ?_ | refine inb_r ?_ | refine inb_x ?_ | refine inb_y rfl ?_ | refine hk_skip ?_ | refine hk_label ?_ | refine hk_exit ?_ | refine hk_ret ?_ | refine hk_block ?_ | refine hk_seq ?_)
  refine hk_region fun K hK => runs_eval tab_ok ?_
  simp only [ev0, evA, evB, evP, fl, gp, tab, simprocAttr, reduceCtorEq, reduceIte]
  refine fin_stop trivial (runs_call (check_c n m (by omega)) rfl rfl rfl (by simp only [dstOk, Nat.reduceLT]) (by repeat (first | exact trivial | constructor)) (runs_eval tab_ok ?_))
  simp only [ev0, evA, evB, evP, fl, gp, tab, simprocAttr, reduceCtorEq, reduceIte, gf_of h]
  refine fin_run ?_ (hK _ ?_) <;> clear hK <;> clear K
  · (first | exact trivial | omega | (simp only [In64] at *; omega) | (simp [In64] at *; omega) | (simp_all; done) | skip)
  repeat (first | refine thn_n ?_ | refine thn_r ?_ | refine thn_x ?_ | refine inb_n ?_ | refine inb_r ?_ | refine inb_x ?_ | refine inb_y rfl ?_ | refine hk_skip ?_ | refine hk_label ?_ | refine hk_exit ?_ | refine hk_ret ?_ | refine hk_block ?_ | refine hk_seq ?_)
  refine hk_region fun K hK => runs_eval tab_ok ?_
  simp only [ev0, evA, evB, evP, fl, gp, tab, simprocAttr, reduceCtorEq, reduceIte]
  refine fin_run ?_ (hK _ ?_) <;> clear hK <;> clear K
  · (first | exact trivial | omega | (simp only [In64] at *; omega) | (simp [In64] at *; omega) | (simp_all; done) | skip)
  repeat (first | refine thn_n ?_ | refine thn_r ?_ | refine thn_x ?_ | refine inb_n ?_ | refine inb_r ?_ | refine inb_x ?_ | refine inb_y rfl ?_ | refine hk_skip ?_ | refine hk_label ?_ | refine hk_exit ?_ | refine hk_ret ?_ | refine hk_block ?_ | refine hk_seq ?_)
  refine hk_cond rfl (fun hC1 => ?_) (fun hC1 => ?_)
  · cases hC1
  · (try simp only [nhs] at hC1)
    repeat (first | refine thn_n ?_ | refine thn_r ?_ | refine thn_x ?_ | refine inb_n ?_ | refine inb_r ?_ | refine inb_x ?_ | refine inb_y rfl ?_ | refine hk_skip ?_ | refine hk_label ?_ | refine hk_exit ?_ | refine hk_ret ?_ | refine hk_block ?_ | refine hk_seq ?_)
    refine hk_region fun K hK => runs_eval tab_ok ?_
    simp only [ev0, evA, evB, evP, fl, gp, tab, simprocAttr, reduceCtorEq, reduceIte]
    refine fin_stop trivial (runs_call (abelianOf_c h.2.1) rfl rfl rfl (by simp only [dstOk, Nat.reduceLT]) (by repeat (first | exact trivial | constructor)) (runs_eval tab_ok ?_))
    simp only [ev0, evA, evB, evP, fl, gp, tab, simprocAttr, reduceCtorEq, reduceIte]
    refine fin_run ?_ (hK _ ?_) <;> clear hK <;> clear K
    · (first | exact trivial | omega | (simp only [In64] at *; omega) | (simp [In64] at *; omega) | (simp_all; done) | skip)
    repeat (first | refine thn_n ?_ | refine thn_r ?_ | refine thn_x ?_ | refine inb_n ?_ | refine inb_r ?_ | refine inb_x ?_ | refine inb_y rfl ?_ | refine hk_skip ?_ | refine hk_label ?_ | refine hk_exit ?_ | refine hk_ret ?_ | refine hk_block ?_ | refine hk_seq ?_)
    simp only [Try.results32, enA, ev0, evA, evB, evP, fl, gp, tab, simprocAttr, reduceCtorEq, reduceIte]
    all_goals ((first | exact rfl | exact ⟨rfl, rfl⟩ | exact ⟨rfl, rfl, rfl⟩ | exact ⟨trivial, rfl⟩ | exact ⟨Nat.le_refl _, rfl⟩ | trivial | (simp; done)))
end Go.Proofs.Ytmkebnaedgdeaaa
