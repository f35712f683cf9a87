/-
  Walks: permutations; Cayley's rows. Conditions: none.
-/
import Derived.Test.YtmkebnaedgdeaaaT8
import Derived.Test.YtmkebnaedgdeaaaG3
set_option linter.all false
namespace Go.Proofs.Ytmkebnaedgdeaaa
open Go.Pv

/-! ### Rows of rows -/

def crow (m : List Int) (n a : Nat) : List Int := rg (fun x => ((op m n x a : Nat) : Int)) n
def crows (m : List Int) (n i : Nat) : List (List Int) := (List.range i).map (crow m n)
theorem crows_succ (m : List Int) (n i : Nat) : crows m n (i + 1) = crows m n i ++ [crow m n i] := by simp [crows, List.range_succ]
theorem crows_len (m : List Int) (n i : Nat) : (crows m n i).length = i := by simp [crows]
theorem crows_get (m : List Int) {n i a : Nat} (h : a < i) : (crows m n i).getD a [] = crow m n a := by simp [crows, List.getD, List.getElem?_range h]
theorem crow_len (m : List Int) (n a : Nat) : (crow m n a).length = n := rg_len _ _
theorem crow_get (m : List Int) {n a x : Nat} (h : x < n) : (crow m n a).getD x 0 = ((op m n x a : Nat) : Int) := rg_get _ h

theorem ll_take (l : List (List Int)) (n : Nat) : (ll l).take n = ll (l.take n) := by simp [ll]

theorem cayley_no (N : Int) (m : List Int) (hm : m.length ≤ 1000000000000000) (hf : ¬ (gf N m).1 = 0) : FnC Try.prog 44 [gp N m] (.tup [.list (ll []), fl (gf N m)]) := by
  refine fnc_of tab_ok Try.func44 rfl (by kernel_rfl) (by rw [Try.ntmps44]; exact Nat.le_add_left 1 _) ?_; rw [Try.ntmps44]; repeat (first | refine thn_n ?_ | refine thn_r ?_ | refine thn_x ?_ | refine inb_n ?_ | refine inb_r ?_ | refine inb_x ?_ | refine inb_y rfl ?_ | refine hk_skip ?_ | refine hk_label ?_ | refine hk_exit ?_ | refine hk_ret ?_ | refine hk_block ?_ | refine hk_seq ?_)
  refine hk_region fun K hK => runs_eval tab_ok ?_
  simp only [ev0, evA, evB, evP, fl, gp, tab, simprocAttr, reduceCtorEq, reduceIte]
  refine fin_run ?_ (hK _ ?_) <;> clear hK <;> clear K
  · (first | exact trivial | omega | (simp only [In64] at *; omega) | (simp [In64] at *; omega) | (simp_all; done) | skip)
  repeat (first | refine thn_n ?_ | refine thn_r ?_ | refine thn_x ?_ | refine inb_n ?_ | refine inb_r ?_ | refine inb_x ?_ | refine inb_y rfl ?_ | refine hk_skip ?_ | refine hk_label ?_ | refine hk_exit ?_ | refine hk_ret ?_ | refine hk_block ?_ | refine hk_seq ?_)
  refine hk_region fun K hK => runs_eval tab_ok ?_
  simp only [ev0, evA, evB, evP, fl, gp, tab, simprocAttr, reduceCtorEq, reduceIte]
  refine fin_stop trivial (runs_call (check_c N m hm) rfl rfl rfl (by simp only [dstOk, Nat.reduceLT]) (by repeat (first | exact trivial | constructor)) (runs_eval tab_ok ?_))
  simp only [ev0, evA, evB, evP, fl, gp, tab, simprocAttr, reduceCtorEq, reduceIte]
  refine fin_run ?_ (hK _ ?_) <;> clear hK <;> clear K
  · (first | exact trivial | omega | (simp only [In64] at *; omega) | (simp [In64] at *; omega) | (simp_all; done) | skip)
  repeat (first | refine thn_n ?_ | refine thn_r ?_ | refine thn_x ?_ | refine inb_n ?_ | refine inb_r ?_ | refine inb_x ?_ | refine inb_y rfl ?_ | refine hk_skip ?_ | refine hk_label ?_ | refine hk_exit ?_ | refine hk_ret ?_ | refine hk_block ?_ | refine hk_seq ?_)
  refine hk_region fun K hK => runs_eval tab_ok ?_
  simp only [ev0, evA, evB, evP, fl, gp, tab, simprocAttr, reduceCtorEq, reduceIte]
  refine fin_run ?_ (hK _ ?_) <;> clear hK <;> clear K
  · (first | exact trivial | omega | (simp only [In64] at *; omega) | (simp [In64] at *; omega) | (simp_all; done) | skip)
  repeat (first | refine thn_n ?_ | refine thn_r ?_ | refine thn_x ?_ | refine inb_n ?_ | refine inb_r ?_ | refine inb_x ?_ | refine inb_y rfl ?_ | refine hk_skip ?_ | refine hk_label ?_ | refine hk_exit ?_ | refine hk_ret ?_ | refine hk_block ?_ | refine hk_seq ?_)
  refine hk_cond rfl (fun hC1 => ?_) (fun hC1 => ?_)
  · (try simp only [nhs] at hC1)
    repeat (first | refine thn_n ?_ | refine thn_r ?_ | refine thn_x ?_ | refine inb_n ?_ | refine inb_r ?_ | refine inb_x ?_ | refine inb_y rfl ?_ | refine hk_skip ?_ | refine hk_label ?_ | refine hk_exit ?_ | refine hk_ret ?_ | refine hk_block ?_ | refine hk_seq ?_)
    refine hk_draw mixed (by kernel_rfl) fun K hK => runs_eval tab_ok ?_
    simp only [ev0, evA, evB, evP, fl, gp, tab, simprocAttr, reduceCtorEq, reduceIte]
    refine fin_run ?_ (hK _ ?_) <;> clear hK <;> clear K
    · (first | exact trivial | omega | (simp only [In64] at *; omega) | (simp [In64] at *; omega) | (simp_all; done) | skip)
    repeat (first | refine thn_n ?_ | refine thn_r ?_ | refine thn_x ?_ | refine inb_n ?_ | refine inb_r ?_ | refine inb_x ?_ | refine inb_y rfl ?_ | refine hk_skip ?_ | refine hk_label ?_ | refine hk_exit ?_ | refine hk_ret ?_ | refine hk_block ?_ | refine hk_seq ?_)
    simp only [Try.results44, enA, ev0, evA, evB, evP, fl, gp, tab, simprocAttr, reduceCtorEq, reduceIte]
    all_goals ((first | exact rfl | exact ⟨rfl, rfl⟩ | exact ⟨rfl, rfl, rfl⟩ | exact ⟨trivial, rfl⟩ | exact ⟨Nat.le_refl _, rfl⟩ | trivial | (simp; done)))
  · (try simp only [nhs] at hC1)
    exact absurd hC1 hf
theorem cayley_ok {n e : Nat} {m : List Int} (h : GT n m n e) : FnC Try.prog 44 [gp n m] (.tup [.list (ll (crows m n n)), fl (0, 0)]) := by
  have hm := h.2.1.len
  have T := h.2.1
  have hsq := sq_le h.2.1.big
  have hb := h.2.1.big
  have hcl := crows_len m n
  refine fnc_of tab_ok Try.func44 rfl (by kernel_rfl) (by rw [Try.ntmps44]; exact Nat.le_add_left 1 _) ?_; rw [Try.ntmps44]; repeat (first | refine thn_n ?_ | refine thn_r ?_ | refine thn_x ?_ | refine inb_n ?_ | refine inb_r ?_ | refine inb_x ?_ | refine inb_y rfl ?_ | refine hk_skip ?_ | refine hk_label ?_ | refine hk_exit ?_ | refine hk_ret ?_ | refine hk_block ?_ | refine hk_seq ?_)
  refine hk_region fun K hK => runs_eval tab_ok ?_
  simp only [ev0, evA, evB, evP, fl, gp, tab, simprocAttr, reduceCtorEq, reduceIte]
  refine fin_run ?_ (hK _ ?_) <;> clear hK <;> clear K
  · (first | exact trivial | omega | (simp only [In64] at *; omega) | (simp [In64] at *; omega) | (simp_all; done) | skip)
  repeat (first | refine thn_n ?_ | refine thn_r ?_ | refine thn_x ?_ | refine inb_n ?_ | refine inb_r ?_ | refine inb_x ?_ | refine inb_y rfl ?_ | refine hk_skip ?_ | refine hk_label ?_ | refine hk_exit ?_ | refine hk_ret ?_ | refine hk_block ?_ | refine hk_seq ?_)
  refine hk_region fun K hK => runs_eval tab_ok ?_
  simp only [ev0, evA, evB, evP, fl, gp, tab, simprocAttr, reduceCtorEq, reduceIte]
  refine fin_stop trivial (runs_call (check_c n m (by omega)) rfl rfl rfl (by simp only [dstOk, Nat.reduceLT]) (by repeat (first | exact trivial | constructor)) (runs_eval tab_ok ?_))
  simp only [ev0, evA, evB, evP, fl, gp, tab, simprocAttr, reduceCtorEq, reduceIte, gf_of h]
  refine fin_run ?_ (hK _ ?_) <;> clear hK <;> clear K
  · (first | exact trivial | omega | (simp only [In64] at *; omega) | (simp [In64] at *; omega) | (simp_all; done) | skip)
  repeat (first | refine thn_n ?_ | refine thn_r ?_ | refine thn_x ?_ | refine inb_n ?_ | refine inb_r ?_ | refine inb_x ?_ | refine inb_y rfl ?_ | refine hk_skip ?_ | refine hk_label ?_ | refine hk_exit ?_ | refine hk_ret ?_ | refine hk_block ?_ | refine hk_seq ?_)
  refine hk_region fun K hK => runs_eval tab_ok ?_
  simp only [ev0, evA, evB, evP, fl, gp, tab, simprocAttr, reduceCtorEq, reduceIte]
  refine fin_run ?_ (hK _ ?_) <;> clear hK <;> clear K
  · (first | exact trivial | omega | (simp only [In64] at *; omega) | (simp [In64] at *; omega) | (simp_all; done) | skip)
  repeat (first | refine thn_n ?_ | refine thn_r ?_ | refine thn_x ?_ | refine inb_n ?_ | refine inb_r ?_ | refine inb_x ?_ | refine inb_y rfl ?_ | refine hk_skip ?_ | refine hk_label ?_ | refine hk_exit ?_ | refine hk_ret ?_ | refine hk_block ?_ | refine hk_seq ?_)
  refine hk_cond rfl (fun hC1 => ?_) (fun hC1 => ?_)
  · cases hC1
  · (try simp only [nhs] at hC1)
    repeat (first | refine thn_n ?_ | refine thn_r ?_ | refine thn_x ?_ | refine inb_n ?_ | refine inb_r ?_ | refine inb_x ?_ | refine inb_y rfl ?_ | refine hk_skip ?_ | refine hk_label ?_ | refine hk_exit ?_ | refine hk_ret ?_ | refine hk_block ?_ | refine hk_seq ?_)
    refine hk_region fun K hK => runs_eval tab_ok ?_
    simp only [ev0, evA, evB, evP, fl, gp, tab, simprocAttr, reduceCtorEq, reduceIte]
    refine fin_run trivial (hK _ ?_) <;> clear hK <;> clear K
    repeat (first | refine thn_n ?_ | refine thn_r ?_ | refine thn_x ?_ | refine inb_n ?_ | refine inb_r ?_ | refine inb_x ?_ | refine inb_y rfl ?_ | refine hk_skip ?_ | refine hk_label ?_ | refine hk_exit ?_ | refine hk_ret ?_ | refine hk_block ?_ | refine hk_seq ?_)
    refine hk_own0 5 rfl ?_
    refine hk_region fun K hK => runs_eval tab_ok ?_
    simp only [ev0, evA, evB, evP, fl, gp, tab, simprocAttr, reduceCtorEq, reduceIte]
    refine fin_run ?_ (hK _ ?_) <;> clear hK <;> clear K
    · (first | exact trivial | omega | (simp only [In64] at *; omega) | (simp [In64] at *; omega) | (simp_all; done) | skip)
    repeat (first | refine thn_n ?_ | refine thn_r ?_ | refine thn_x ?_ | refine inb_n ?_ | refine inb_r ?_ | refine inb_x ?_ | refine inb_y rfl ?_ | refine hk_skip ?_ | refine hk_label ?_ | refine hk_exit ?_ | refine hk_ret ?_ | refine hk_block ?_ | refine hk_seq ?_)
    refine hk_loop (ι := Nat) (fun i => ⟨40, [(1, .ptr 0 0), (3, .ptr 1 0), (5, .sl 2 0 (crows m n i).length), (16, .p (.int .i64 n)), (17, .p (.int .i64 i))], [.own [.p (.int .i64 n), .p (.list (il m))], .own [.p (.int .i64 0), .p (.int .i64 0)], .own (opl (ll (crows m n i)))]⟩) (fun i => i ≤ n) (fun i => n - i) 0 (Nat.zero_le _) [0, 1, 3] (by simp only [leq, leA, ev0, evA, evB, evP, fl, gp, tab, simprocAttr, reduceCtorEq, reduceIte] <;> simp [crows, ll, opl]) fun i hi => ?_
    have hli := hcl i
    repeat (first | refine thn_n ?_ | refine thn_r ?_ | refine thn_x ?_ | refine inb_n ?_ | refine inb_r ?_ | refine inb_x ?_ | refine inb_y rfl ?_ | refine hk_skip ?_ | refine hk_label ?_ | refine hk_exit ?_ | refine hk_ret ?_ | refine hk_block ?_ | refine hk_seq ?_)
    refine hk_region fun K hK => runs_eval tab_ok ?_
    simp only [ev0, evA, evB, evP, fl, gp, tab, simprocAttr, reduceCtorEq, reduceIte]
    refine fin_run trivial (hK _ ?_) <;> clear hK <;> clear K
    repeat (first | refine thn_n ?_ | refine thn_r ?_ | refine thn_x ?_ | refine inb_n ?_ | refine inb_r ?_ | refine inb_x ?_ | refine inb_y rfl ?_ | refine hk_skip ?_ | refine hk_label ?_ | refine hk_exit ?_ | refine hk_ret ?_ | refine hk_block ?_ | refine hk_seq ?_)
    refine hk_cond rfl (fun hC2 => ?_) (fun hC2 => ?_)
    · (try simp only [nhs] at hC2)
      repeat (first | refine thn_n ?_ | refine thn_r ?_ | refine thn_x ?_ | refine inb_n ?_ | refine inb_r ?_ | refine inb_x ?_ | refine inb_y rfl ?_ | refine hk_skip ?_ | refine hk_label ?_ | refine hk_exit ?_ | refine hk_ret ?_ | refine hk_block ?_ | refine hk_seq ?_)
      have hlt : i < n := by omega
      refine hk_region fun K hK => runs_eval tab_ok ?_
      simp only [ev0, evA, evB, evP, fl, gp, tab, simprocAttr, reduceCtorEq, reduceIte]
      refine fin_run trivial (hK _ ?_) <;> clear hK <;> clear K
      repeat (first | refine thn_n ?_ | refine thn_r ?_ | refine thn_x ?_ | refine inb_n ?_ | refine inb_r ?_ | refine inb_x ?_ | refine inb_y rfl ?_ | refine hk_skip ?_ | refine hk_label ?_ | refine hk_exit ?_ | refine hk_ret ?_ | refine hk_block ?_ | refine hk_seq ?_)
      refine hk_region fun K hK => runs_eval tab_ok ?_
      simp only [ev0, evA, evB, evP, fl, gp, tab, simprocAttr, reduceCtorEq, reduceIte]
      refine fin_run trivial (hK _ ?_) <;> clear hK <;> clear K
      repeat (first | refine thn_n ?_ | refine thn_r ?_ | refine thn_x ?_ | refine inb_n ?_ | refine inb_r ?_ | refine inb_x ?_ | refine inb_y rfl ?_ | refine hk_skip ?_ | refine hk_label ?_ | refine hk_exit ?_ | refine hk_ret ?_ | refine hk_block ?_ | refine hk_seq ?_)
      refine hk_own0 7 rfl ?_
      refine hk_region fun K hK => runs_eval tab_ok ?_
      simp only [ev0, evA, evB, evP, fl, gp, tab, simprocAttr, reduceCtorEq, reduceIte]
      refine fin_run ?_ (hK _ ?_) <;> clear hK <;> clear K
      · (first | exact trivial | omega | (simp only [In64] at *; omega) | (simp [In64] at *; omega) | (simp_all; done) | skip)
      repeat (first | refine thn_n ?_ | refine thn_r ?_ | refine thn_x ?_ | refine inb_n ?_ | refine inb_r ?_ | refine inb_x ?_ | refine inb_y rfl ?_ | refine hk_skip ?_ | refine hk_label ?_ | refine hk_exit ?_ | refine hk_ret ?_ | refine hk_block ?_ | refine hk_seq ?_)
      refine hk_loop (ι := Nat) (fun x => ⟨40, [(1, .ptr 0 0), (3, .ptr 1 0), (5, .sl 2 0 (crows m n i).length), (6, .p (.int .i64 i)), (7, .sl 3 0 (rg (fun x => ((op m n x i : Nat) : Int)) x).length), (16, .p (.int .i64 n)), (17, .p (.int .i64 i)), (21, .p (.int .i64 n)), (22, .p (.int .i64 x))], [.own [.p (.int .i64 n), .p (.list (il m))], .own [.p (.int .i64 0), .p (.int .i64 0)], .own (opl (ll (crows m n i))), .own (ol (rg (fun x => ((op m n x i : Nat) : Int)) x))]⟩) (fun x => x ≤ n) (fun x => n - x) 0 (Nat.zero_le _) [0, 1, 2, 3] (by simp only [leq, leA, ev0, evA, evB, evP, fl, gp, tab, simprocAttr, reduceCtorEq, reduceIte, ll_take] <;> simp [rg, ol_nil]) fun x hx => ?_
      have hlx := rg_len (fun x => ((op m n x i : Nat) : Int)) x
      repeat (first | refine thn_n ?_ | refine thn_r ?_ | refine thn_x ?_ | refine inb_n ?_ | refine inb_r ?_ | refine inb_x ?_ | refine inb_y rfl ?_ | refine hk_skip ?_ | refine hk_label ?_ | refine hk_exit ?_ | refine hk_ret ?_ | refine hk_block ?_ | refine hk_seq ?_)
      refine hk_region fun K hK => runs_eval tab_ok ?_
      simp only [ev0, evA, evB, evP, fl, gp, tab, simprocAttr, reduceCtorEq, reduceIte]
      refine fin_run trivial (hK _ ?_) <;> clear hK <;> clear K
      repeat (first | refine thn_n ?_ | refine thn_r ?_ | refine thn_x ?_ | refine inb_n ?_ | refine inb_r ?_ | refine inb_x ?_ | refine inb_y rfl ?_ | refine hk_skip ?_ | refine hk_label ?_ | refine hk_exit ?_ | refine hk_ret ?_ | refine hk_block ?_ | refine hk_seq ?_)
      refine hk_cond rfl (fun hC3 => ?_) (fun hC3 => ?_)
      · (try simp only [nhs] at hC3)
        repeat (first | refine thn_n ?_ | refine thn_r ?_ | refine thn_x ?_ | refine inb_n ?_ | refine inb_r ?_ | refine inb_x ?_ | refine inb_y rfl ?_ | refine hk_skip ?_ | refine hk_label ?_ | refine hk_exit ?_ | refine hk_ret ?_ | refine hk_block ?_ | refine hk_seq ?_)
        have hxl : x < n := by omega
        refine hk_region fun K hK => runs_eval tab_ok ?_
        simp only [ev0, evA, evB, evP, fl, gp, tab, simprocAttr, reduceCtorEq, reduceIte]
        refine fin_run trivial (hK _ ?_) <;> clear hK <;> clear K
        repeat (first | refine thn_n ?_ | refine thn_r ?_ | refine thn_x ?_ | refine inb_n ?_ | refine inb_r ?_ | refine inb_x ?_ | refine inb_y rfl ?_ | refine hk_skip ?_ | refine hk_label ?_ | refine hk_exit ?_ | refine hk_ret ?_ | refine hk_block ?_ | refine hk_seq ?_)
        refine hk_region fun K hK => runs_eval tab_ok ?_
        simp only [ev0, evA, evB, evP, fl, gp, tab, simprocAttr, reduceCtorEq, reduceIte]
        refine fin_stop trivial (runs_call (of_c T hxl hlt) rfl rfl rfl (by simp only [dstOk, Nat.reduceLT]) (by repeat (first | exact trivial | constructor)) (runs_eval tab_ok ?_))
        simp only [ev0, evA, evB, evP, fl, gp, tab, simprocAttr, reduceCtorEq, reduceIte]
        refine fin_run ?_ (hK _ ?_) <;> clear hK <;> clear K
        · (first | exact trivial | omega | (simp only [In64] at *; omega) | (simp [In64] at *; omega) | (simp_all; done) | skip)
        repeat (first | refine thn_n ?_ | refine thn_r ?_ | refine thn_x ?_ | refine inb_n ?_ | refine inb_r ?_ | refine inb_x ?_ | refine inb_y rfl ?_ | refine hk_skip ?_ | refine hk_label ?_ | refine hk_exit ?_ | refine hk_ret ?_ | refine hk_block ?_ | refine hk_seq ?_)
        refine hk_region fun K hK => runs_eval tab_ok ?_
        simp only [ev0, evA, evB, evP, fl, gp, tab, simprocAttr, reduceCtorEq, reduceIte]
        refine fin_run ?_ (hK _ ?_) <;> clear hK <;> clear K
        · (first | exact trivial | omega | (simp only [In64] at *; omega) | (simp [In64] at *; omega) | (simp_all; done) | skip)
        repeat (first | refine thn_n ?_ | refine thn_r ?_ | refine thn_x ?_ | refine inb_n ?_ | refine inb_r ?_ | refine inb_x ?_ | refine inb_y rfl ?_ | refine hk_skip ?_ | refine hk_label ?_ | refine hk_exit ?_ | refine hk_ret ?_ | refine hk_block ?_ | refine hk_seq ?_)
        refine ⟨x + 1, [0, 1, 2, 4], by omega, by omega, ?_⟩
        rw [rg_succ]
        simp only [leq, leA, ev0, evA, evB, evP, fl, gp, tab, simprocAttr, reduceCtorEq, reduceIte, ll_take] <;> first | trivial | omega
      · (try simp only [nhs] at hC3)
        repeat (first | refine thn_n ?_ | refine thn_r ?_ | refine thn_x ?_ | refine inb_n ?_ | refine inb_r ?_ | refine inb_x ?_ | refine inb_y rfl ?_ | refine hk_skip ?_ | refine hk_label ?_ | refine hk_exit ?_ | refine hk_ret ?_ | refine hk_block ?_ | refine hk_seq ?_)
        have hxn : x = n := by omega
        subst hxn
        refine hk_seal 7 3 rfl rfl ?_
        refine hk_region fun K hK => runs_eval tab_ok ?_
        simp only [ev0, evA, evB, evP, fl, gp, tab, simprocAttr, reduceCtorEq, reduceIte, ll_take]
        refine fin_run ?_ (hK _ ?_) <;> clear hK <;> clear K
        · omega
        repeat (first | refine thn_n ?_ | refine thn_r ?_ | refine thn_x ?_ | refine inb_n ?_ | refine inb_r ?_ | refine inb_x ?_ | refine inb_y rfl ?_ | refine hk_skip ?_ | refine hk_label ?_ | refine hk_exit ?_ | refine hk_ret ?_ | refine hk_block ?_ | refine hk_seq ?_)
        refine hk_region fun K hK => runs_eval tab_ok ?_
        simp only [ev0, evA, evB, evP, fl, gp, tab, simprocAttr, reduceCtorEq, reduceIte]
        refine fin_run ?_ (hK _ ?_) <;> clear hK <;> clear K
        · (first | exact trivial | omega | (simp only [In64] at *; omega) | (simp [In64] at *; omega) | (simp_all; done) | skip)
        repeat (first | refine thn_n ?_ | refine thn_r ?_ | refine thn_x ?_ | refine inb_n ?_ | refine inb_r ?_ | refine inb_x ?_ | refine inb_y rfl ?_ | refine hk_skip ?_ | refine hk_label ?_ | refine hk_exit ?_ | refine hk_ret ?_ | refine hk_block ?_ | refine hk_seq ?_)
        refine ⟨i + 1, [0, 1, 4], by omega, by omega, ?_⟩
        rw [crows_succ]
        simp only [leq, leA, ev0, evA, evB, evP, fl, gp, tab, simprocAttr, reduceCtorEq, reduceIte, ll_take] <;> first | trivial | omega
    · (try simp only [nhs] at hC2)
      repeat (first | refine thn_n ?_ | refine thn_r ?_ | refine thn_x ?_ | refine inb_n ?_ | refine inb_r ?_ | refine inb_x ?_ | refine inb_y rfl ?_ | refine hk_skip ?_ | refine hk_label ?_ | refine hk_exit ?_ | refine hk_ret ?_ | refine hk_block ?_ | refine hk_seq ?_)
      have hin : i = n := by omega
      subst hin
      refine hk_sealp 5 2 (ll_all (crows m i i)) (by show AV.sl 2 0 _ = AV.sl 2 0 _; rw [ll_length]) rfl ?_
      refine hk_region fun K hK => runs_eval tab_ok ?_
      simp only [ev0, evA, evB, evP, fl, gp, tab, simprocAttr, reduceCtorEq, reduceIte]
      refine fin_run ?_ (hK _ ?_) <;> clear hK <;> clear K
      · (first | exact trivial | omega | (simp only [In64] at *; omega) | (simp [In64] at *; omega) | (simp_all; done) | skip)
      repeat (first | refine thn_n ?_ | refine thn_r ?_ | refine thn_x ?_ | refine inb_n ?_ | refine inb_r ?_ | refine inb_x ?_ | refine inb_y rfl ?_ | refine hk_skip ?_ | refine hk_label ?_ | refine hk_exit ?_ | refine hk_ret ?_ | refine hk_block ?_ | refine hk_seq ?_)
      simp only [Try.results44, enA, ev0, evA, evB, evP, fl, gp, tab, simprocAttr, reduceCtorEq, reduceIte]
      all_goals ((first | exact rfl | exact ⟨rfl, rfl⟩ | exact ⟨rfl, rfl, rfl⟩ | exact ⟨trivial, rfl⟩ | exact ⟨Nat.le_refl _, rfl⟩ | trivial | (simp; done)))

/-! ### Permutations -/

structure PermOk (p : List Int) : Prop where
  len : p.length ≤ 1000
  rng : ∀ i, i < p.length → 0 ≤ p.getD i 0 ∧ p.getD i 0 < p.length
  inj : ∀ i j, i < p.length → j < p.length → p.getD i 0 = p.getD j 0 → i = j

theorem has_c (l : List Int) (x : Int) (hl : l.length ≤ 1000000000000) (hn : ∀ j, j < l.length → ¬ l.getD j 0 = x) : FnC Try.prog 62 [.list (il l), .int .i64 x] (.bool false) := by
  refine fnc_of tab_ok Try.func62 rfl (by kernel_rfl) (by rw [Try.ntmps62]; exact Nat.le_add_left 2 _) ?_; rw [Try.ntmps62]; repeat (first | refine thn_n ?_ | refine thn_r ?_ | refine thn_x ?_ | refine inb_n ?_ | refine inb_r ?_ | refine inb_x ?_ | refine inb_y rfl ?_ | refine hk_skip ?_ | refine hk_label ?_ | refine hk_exit ?_ | refine hk_ret ?_ | refine hk_block ?_ | refine hk_seq ?_)
  refine hk_region fun K hK => runs_eval tab_ok ?_
  simp only [ev0, evA, evB, evP, fl, gp, tab, simprocAttr, reduceCtorEq, reduceIte]
  refine fin_run trivial (hK _ ?_) <;> clear hK <;> clear K
  repeat (first | refine thn_n ?_ | refine thn_r ?_ | refine thn_x ?_ | refine inb_n ?_ | refine inb_r ?_ | refine inb_x ?_ | refine inb_y rfl ?_ | refine hk_skip ?_ | refine hk_label ?_ | refine hk_exit ?_ | refine hk_ret ?_ | refine hk_block ?_ | refine hk_seq ?_)
  refine hk_region fun K hK => runs_eval tab_ok ?_
  simp only [ev0, evA, evB, evP, fl, gp, tab, simprocAttr, reduceCtorEq, reduceIte]
  refine fin_run trivial (hK _ ?_) <;> clear hK <;> clear K
  repeat (first | refine thn_n ?_ | refine thn_r ?_ | refine thn_x ?_ | refine inb_n ?_ | refine inb_r ?_ | refine inb_x ?_ | refine inb_y rfl ?_ | refine hk_skip ?_ | refine hk_label ?_ | refine hk_exit ?_ | refine hk_ret ?_ | refine hk_block ?_ | refine hk_seq ?_)
  refine hk_loop (ι := Nat) (fun i => ⟨18, [(0, .p (.list (il l))), (1, .p (.int .i64 x)), (5, .p (.int .i64 i))], []⟩) (fun i => i ≤ l.length) (fun i => l.length - i) 0 (Nat.zero_le _) [] (by simp only [leq, leA, ev0, evA, evB, evP, fl, gp, tab, simprocAttr, reduceCtorEq, reduceIte] <;> trivial) fun i hi => ?_
  repeat (first | refine thn_n ?_ | refine thn_r ?_ | refine thn_x ?_ | refine inb_n ?_ | refine inb_r ?_ | refine inb_x ?_ | refine inb_y rfl ?_ | refine hk_skip ?_ | refine hk_label ?_ | refine hk_exit ?_ | refine hk_ret ?_ | refine hk_block ?_ | refine hk_seq ?_)
  refine hk_region fun K hK => runs_eval tab_ok ?_
  simp only [ev0, evA, evB, evP, fl, gp, tab, simprocAttr, reduceCtorEq, reduceIte]
  refine fin_run trivial (hK _ ?_) <;> clear hK <;> clear K
  repeat (first | refine thn_n ?_ | refine thn_r ?_ | refine thn_x ?_ | refine inb_n ?_ | refine inb_r ?_ | refine inb_x ?_ | refine inb_y rfl ?_ | refine hk_skip ?_ | refine hk_label ?_ | refine hk_exit ?_ | refine hk_ret ?_ | refine hk_block ?_ | refine hk_seq ?_)
  refine hk_cond rfl (fun hC1 => ?_) (fun hC1 => ?_)
  · (try simp only [nhs] at hC1)
    repeat (first | refine thn_n ?_ | refine thn_r ?_ | refine thn_x ?_ | refine inb_n ?_ | refine inb_r ?_ | refine inb_x ?_ | refine inb_y rfl ?_ | refine hk_skip ?_ | refine hk_label ?_ | refine hk_exit ?_ | refine hk_ret ?_ | refine hk_block ?_ | refine hk_seq ?_)
    have hlt : i < l.length := by omega
    refine hk_region fun K hK => runs_eval tab_ok ?_
    simp only [ev0, evA, evB, evP, fl, gp, tab, simprocAttr, reduceCtorEq, reduceIte, il_get hlt]
    refine fin_run ?_ (hK _ ?_) <;> clear hK <;> clear K
    · (first | exact trivial | omega | (simp only [In64] at *; omega) | (simp [In64] at *; omega) | (simp_all; done) | skip)
    repeat (first | refine thn_n ?_ | refine thn_r ?_ | refine thn_x ?_ | refine inb_n ?_ | refine inb_r ?_ | refine inb_x ?_ | refine inb_y rfl ?_ | refine hk_skip ?_ | refine hk_label ?_ | refine hk_exit ?_ | refine hk_ret ?_ | refine hk_block ?_ | refine hk_seq ?_)
    refine hk_cond rfl (fun hC2 => ?_) (fun hC2 => ?_)
    · (try simp only [nhs] at hC2)
      exact absurd hC2 (hn i hlt)
    · (try simp only [nhs] at hC2)
      repeat (first | refine thn_n ?_ | refine thn_r ?_ | refine thn_x ?_ | refine inb_n ?_ | refine inb_r ?_ | refine inb_x ?_ | refine inb_y rfl ?_ | refine hk_skip ?_ | refine hk_label ?_ | refine hk_exit ?_ | refine hk_ret ?_ | refine hk_block ?_ | refine hk_seq ?_)
      refine hk_region fun K hK => runs_eval tab_ok ?_
      simp only [ev0, evA, evB, evP, fl, gp, tab, simprocAttr, reduceCtorEq, reduceIte]
      refine fin_run ?_ (hK _ ?_) <;> clear hK <;> clear K
      · (first | exact trivial | omega | (simp only [In64] at *; omega) | (simp [In64] at *; omega) | (simp_all; done) | skip)
      repeat (first | refine thn_n ?_ | refine thn_r ?_ | refine thn_x ?_ | refine inb_n ?_ | refine inb_r ?_ | refine inb_x ?_ | refine inb_y rfl ?_ | refine hk_skip ?_ | refine hk_label ?_ | refine hk_exit ?_ | refine hk_ret ?_ | refine hk_block ?_ | refine hk_seq ?_)
      refine ⟨i + 1, [], by omega, by omega, ?_⟩
      simp only [leq, leA, ev0, evA, evB, evP, fl, gp, tab, simprocAttr, reduceCtorEq, reduceIte] <;> first | trivial | omega
  · (try simp only [nhs] at hC1)
    repeat (first | refine thn_n ?_ | refine thn_r ?_ | refine thn_x ?_ | refine inb_n ?_ | refine inb_r ?_ | refine inb_x ?_ | refine inb_y rfl ?_ | refine hk_skip ?_ | refine hk_label ?_ | refine hk_exit ?_ | refine hk_ret ?_ | refine hk_block ?_ | refine hk_seq ?_)
    refine hk_region fun K hK => runs_eval tab_ok ?_
    simp only [ev0, evA, evB, evP, fl, gp, tab, simprocAttr, reduceCtorEq, reduceIte]
    refine fin_run trivial (hK _ ?_) <;> clear hK <;> clear K
    repeat (first | refine thn_n ?_ | refine thn_r ?_ | refine thn_x ?_ | refine inb_n ?_ | refine inb_r ?_ | refine inb_x ?_ | refine inb_y rfl ?_ | refine hk_skip ?_ | refine hk_label ?_ | refine hk_exit ?_ | refine hk_ret ?_ | refine hk_block ?_ | refine hk_seq ?_)
    simp only [Try.results62, enA, ev0, evA, evB, evP, fl, gp, tab, simprocAttr, reduceCtorEq, reduceIte]
    all_goals ((first | exact rfl | exact ⟨rfl, rfl⟩ | exact ⟨rfl, rfl, rfl⟩ | exact ⟨trivial, rfl⟩ | exact ⟨Nat.le_refl _, rfl⟩ | trivial | (simp; done)))

theorem getD_take' {o : List Int} {n i : Nat} (h : i < n) : (o.take n).getD i 0 = o.getD i 0 := by
  simp [List.getD, List.getElem?_take, h]

theorem permFault_c {p : List Int} (h : PermOk p) : FnC Try.prog 45 [.list (il p)] (fl (0, 0)) := by
  have hl := h.len
  refine fnc_of tab_ok Try.func45 rfl (by kernel_rfl) (by rw [Try.ntmps45]; exact Nat.le_add_left 1 _) ?_; rw [Try.ntmps45]; repeat (first | refine thn_n ?_ | refine thn_r ?_ | refine thn_x ?_ | refine inb_n ?_ | refine inb_r ?_ | refine inb_x ?_ | refine inb_y rfl ?_ | refine hk_skip ?_ | refine hk_label ?_ | refine hk_exit ?_ | refine hk_ret ?_ | refine hk_block ?_ | refine hk_seq ?_)
  refine hk_region fun K hK => runs_eval tab_ok ?_
  simp only [ev0, evA, evB, evP, fl, gp, tab, simprocAttr, reduceCtorEq, reduceIte]
  refine fin_run ?_ (hK _ ?_) <;> clear hK <;> clear K
  · (first | exact trivial | omega | (simp only [In64] at *; omega) | (simp [In64] at *; omega) | (simp_all; done) | skip)
  repeat (first | refine thn_n ?_ | refine thn_r ?_ | refine thn_x ?_ | refine inb_n ?_ | refine inb_r ?_ | refine inb_x ?_ | refine inb_y rfl ?_ | refine hk_skip ?_ | refine hk_label ?_ | refine hk_exit ?_ | refine hk_ret ?_ | refine hk_block ?_ | refine hk_seq ?_)
  refine hk_region fun K hK => runs_eval tab_ok ?_
  simp only [ev0, evA, evB, evP, fl, gp, tab, simprocAttr, reduceCtorEq, reduceIte]
  refine fin_run trivial (hK _ ?_) <;> clear hK <;> clear K
  repeat (first | refine thn_n ?_ | refine thn_r ?_ | refine thn_x ?_ | refine inb_n ?_ | refine inb_r ?_ | refine inb_x ?_ | refine inb_y rfl ?_ | refine hk_skip ?_ | refine hk_label ?_ | refine hk_exit ?_ | refine hk_ret ?_ | refine hk_block ?_ | refine hk_seq ?_)
  refine hk_cond rfl (fun hC1 => ?_) (fun hC1 => ?_)
  · (try simp only [nhs] at hC1)
    omega
  · (try simp only [nhs] at hC1)
    repeat (first | refine thn_n ?_ | refine thn_r ?_ | refine thn_x ?_ | refine inb_n ?_ | refine inb_r ?_ | refine inb_x ?_ | refine inb_y rfl ?_ | refine hk_skip ?_ | refine hk_label ?_ | refine hk_exit ?_ | refine hk_ret ?_ | refine hk_block ?_ | refine hk_seq ?_)
    refine hk_region fun K hK => runs_eval tab_ok ?_
    simp only [ev0, evA, evB, evP, fl, gp, tab, simprocAttr, reduceCtorEq, reduceIte]
    refine fin_run trivial (hK _ ?_) <;> clear hK <;> clear K
    repeat (first | refine thn_n ?_ | refine thn_r ?_ | refine thn_x ?_ | refine inb_n ?_ | refine inb_r ?_ | refine inb_x ?_ | refine inb_y rfl ?_ | refine hk_skip ?_ | refine hk_label ?_ | refine hk_exit ?_ | refine hk_ret ?_ | refine hk_block ?_ | refine hk_seq ?_)
    refine hk_loop (ι := Nat) (fun i => ⟨41, [(0, .p (.list (il p))), (2, .ptr 0 0), (3, .p (.int .i64 i))], [.own [.p (.int .i64 0), .p (.int .i64 0)]]⟩) (fun i => i ≤ p.length) (fun i => p.length - i) 0 (Nat.zero_le _) [0] (by simp only [leq, leA, ev0, evA, evB, evP, fl, gp, tab, simprocAttr, reduceCtorEq, reduceIte] <;> trivial) fun i hi => ?_
    repeat (first | refine thn_n ?_ | refine thn_r ?_ | refine thn_x ?_ | refine inb_n ?_ | refine inb_r ?_ | refine inb_x ?_ | refine inb_y rfl ?_ | refine hk_skip ?_ | refine hk_label ?_ | refine hk_exit ?_ | refine hk_ret ?_ | refine hk_block ?_ | refine hk_seq ?_)
    refine hk_region fun K hK => runs_eval tab_ok ?_
    simp only [ev0, evA, evB, evP, fl, gp, tab, simprocAttr, reduceCtorEq, reduceIte]
    refine fin_run trivial (hK _ ?_) <;> clear hK <;> clear K
    repeat (first | refine thn_n ?_ | refine thn_r ?_ | refine thn_x ?_ | refine inb_n ?_ | refine inb_r ?_ | refine inb_x ?_ | refine inb_y rfl ?_ | refine hk_skip ?_ | refine hk_label ?_ | refine hk_exit ?_ | refine hk_ret ?_ | refine hk_block ?_ | refine hk_seq ?_)
    refine hk_cond rfl (fun hC2 => ?_) (fun hC2 => ?_)
    · (try simp only [nhs] at hC2)
      repeat (first | refine thn_n ?_ | refine thn_r ?_ | refine thn_x ?_ | refine inb_n ?_ | refine inb_r ?_ | refine inb_x ?_ | refine inb_y rfl ?_ | refine hk_skip ?_ | refine hk_label ?_ | refine hk_exit ?_ | refine hk_ret ?_ | refine hk_block ?_ | refine hk_seq ?_)
      have hlt : i < p.length := by omega
      obtain ⟨r1, r2⟩ := h.rng i hlt
      refine hk_region fun K hK => runs_eval tab_ok ?_
      simp only [ev0, evA, evB, evP, fl, gp, tab, simprocAttr, reduceCtorEq, reduceIte, il_get hlt, decide_eq_false (show ¬ p.getD i 0 < 0 by omega), decide_eq_false (show ¬ p.getD i 0 ≥ p.length by omega)]
      refine fin_run ?_ (hK _ ?_) <;> clear hK <;> clear K
      · (first | exact trivial | omega | (simp only [In64] at *; omega) | (simp [In64] at *; omega) | (simp_all; done) | skip)
      repeat (first | refine thn_n ?_ | refine thn_r ?_ | refine thn_x ?_ | refine inb_n ?_ | refine inb_r ?_ | refine inb_x ?_ | refine inb_y rfl ?_ | refine hk_skip ?_ | refine hk_label ?_ | refine hk_exit ?_ | refine hk_ret ?_ | refine hk_block ?_ | refine hk_seq ?_)
      refine hk_cond rfl (fun hC3 => ?_) (fun hC3 => ?_)
      · cases hC3
      · (try simp only [nhs] at hC3)
        repeat (first | refine thn_n ?_ | refine thn_r ?_ | refine thn_x ?_ | refine inb_n ?_ | refine inb_r ?_ | refine inb_x ?_ | refine inb_y rfl ?_ | refine hk_skip ?_ | refine hk_label ?_ | refine hk_exit ?_ | refine hk_ret ?_ | refine hk_block ?_ | refine hk_seq ?_)
        refine hk_draw mixed (by kernel_rfl) fun K hK => runs_eval tab_ok ?_
        simp only [ev0, evA, evB, evP, fl, gp, tab, simprocAttr, reduceCtorEq, reduceIte, il_get hlt]
        refine fin_stop ?_ (runs_call (has_c (p.take i) (p.getD i 0) (by rw [List.length_take]; omega) (fun j hj he => by
          rw [List.length_take] at hj
          rw [getD_take' (by omega)] at he
          have := h.inj j i (by omega) hlt he
          omega)) rfl rfl rfl (by simp only [dstOk, Nat.reduceLT]) (by repeat (first | exact trivial | constructor)) (runs_eval tab_ok ?_))
        · (first | exact trivial | omega | (simp only [In64] at *; omega) | (simp [In64] at *; omega) | (simp_all; done) | skip)
        simp only [ev0, evA, evB, evP, fl, gp, tab, simprocAttr, reduceCtorEq, reduceIte, il_get hlt]
        refine fin_run ?_ (hK _ ?_) <;> clear hK <;> clear K
        · (first | exact trivial | omega | (simp only [In64] at *; omega) | (simp [In64] at *; omega) | (simp_all; done) | skip)
        repeat (first | refine thn_n ?_ | refine thn_r ?_ | refine thn_x ?_ | refine inb_n ?_ | refine inb_r ?_ | refine inb_x ?_ | refine inb_y rfl ?_ | refine hk_skip ?_ | refine hk_label ?_ | refine hk_exit ?_ | refine hk_ret ?_ | refine hk_block ?_ | refine hk_seq ?_)
        refine hk_cond rfl (fun hC4 => ?_) (fun hC4 => ?_)
        · cases hC4
        · (try simp only [nhs] at hC4)
          repeat (first | refine thn_n ?_ | refine thn_r ?_ | refine thn_x ?_ | refine inb_n ?_ | refine inb_r ?_ | refine inb_x ?_ | refine inb_y rfl ?_ | refine hk_skip ?_ | refine hk_label ?_ | refine hk_exit ?_ | refine hk_ret ?_ | refine hk_block ?_ | refine hk_seq ?_)
          refine hk_region fun K hK => runs_eval tab_ok ?_
          simp only [ev0, evA, evB, evP, fl, gp, tab, simprocAttr, reduceCtorEq, reduceIte]
          refine fin_run ?_ (hK _ ?_) <;> clear hK <;> clear K
          · (first | exact trivial | omega | (simp only [In64] at *; omega) | (simp [In64] at *; omega) | (simp_all; done) | skip)
          repeat (first | refine thn_n ?_ | refine thn_r ?_ | refine thn_x ?_ | refine inb_n ?_ | refine inb_r ?_ | refine inb_x ?_ | refine inb_y rfl ?_ | refine hk_skip ?_ | refine hk_label ?_ | refine hk_exit ?_ | refine hk_ret ?_ | refine hk_block ?_ | refine hk_seq ?_)
          refine ⟨i + 1, [0], by omega, by omega, ?_⟩
          simp only [leq, leA, ev0, evA, evB, evP, fl, gp, tab, simprocAttr, reduceCtorEq, reduceIte] <;> first | trivial | omega
    · (try simp only [nhs] at hC2)
      repeat (first | refine thn_n ?_ | refine thn_r ?_ | refine thn_x ?_ | refine inb_n ?_ | refine inb_r ?_ | refine inb_x ?_ | refine inb_y rfl ?_ | refine hk_skip ?_ | refine hk_label ?_ | refine hk_exit ?_ | refine hk_ret ?_ | refine hk_block ?_ | refine hk_seq ?_)
      refine hk_region fun K hK => runs_eval tab_ok ?_
      simp only [ev0, evA, evB, evP, fl, gp, tab, simprocAttr, reduceCtorEq, reduceIte]
      refine fin_run ?_ (hK _ ?_) <;> clear hK <;> clear K
      · (first | exact trivial | omega | (simp only [In64] at *; omega) | (simp [In64] at *; omega) | (simp_all; done) | skip)
      repeat (first | refine thn_n ?_ | refine thn_r ?_ | refine thn_x ?_ | refine inb_n ?_ | refine inb_r ?_ | refine inb_x ?_ | refine inb_y rfl ?_ | refine hk_skip ?_ | refine hk_label ?_ | refine hk_exit ?_ | refine hk_ret ?_ | refine hk_block ?_ | refine hk_seq ?_)
      simp only [Try.results45, enA, ev0, evA, evB, evP, fl, gp, tab, simprocAttr, reduceCtorEq, reduceIte]
      all_goals ((first | exact rfl | exact ⟨rfl, rfl⟩ | exact ⟨rfl, rfl, rfl⟩ | exact ⟨trivial, rfl⟩ | exact ⟨Nat.le_refl _, rfl⟩ | trivial | (simp; done)))

/-- A row of marks. -/
def bl (f : Nat → Bool) (n : Nat) : List AV := (List.range n).map fun v => .p (.bool (f v))
theorem bl_len (f : Nat → Bool) (n : Nat) : (bl f n).length = n := by simp [bl]
theorem bl_get (f : Nat → Bool) {n i : Nat} (h : i < n) (d : AV) : (bl f n).getD i d = .p (.bool (f i)) := by simp [bl, List.getD, List.getElem?_range h]
theorem bl_rep (n : Nat) : List.replicate n (AV.p (.bool false)) = bl (fun _ => false) n := by
  apply List.ext_getElem
  · simp [bl]
  · intro i h1 h2; simp [bl]
theorem bl_set (f : Nat → Bool) (n i : Nat) : (bl f n).set i (.p (.bool true)) = bl (fun v => f v || v == i) n := by
  apply List.ext_getElem
  · simp [bl]
  · intro j h1 h2
    simp only [bl, List.getElem_set, List.getElem_map, List.getElem_range]
    by_cases e : i = j
    · subst e; simp
    · rw [if_neg e, show (j == i) = false by simpa using fun h => e h.symm, Bool.or_false]
theorem bl_ren (f : Nat → Bool) (n : Nat) (π : List Nat) : (bl f n).map (Go.Pv.ren π) = bl f n := by simp [bl, Go.Pv.ren, ren1]
theorem bl_sc (f : Nat → Bool) (n k : Nat) : (bl f n).all (scA k) = true := by simp [bl, scA, sc1]
theorem bl_take (f : Nat → Bool) (n : Nat) : (bl f n).take n = bl f n := List.take_of_length_le (by simp [bl])

theorem permCheck_c {p : List Int} (h : PermOk p) : FnC Try.prog 66 [.list (il p)] (fl (0, 0)) := by
  have hl := h.len
  refine fnc_of tab_ok Try.func66 rfl (by kernel_rfl) (by rw [Try.ntmps66]; exact Nat.le_add_left 1 _) ?_; rw [Try.ntmps66]; repeat (first | refine thn_n ?_ | refine thn_r ?_ | refine thn_x ?_ | refine inb_n ?_ | refine inb_r ?_ | refine inb_x ?_ | refine inb_y rfl ?_ | refine hk_skip ?_ | refine hk_label ?_ | refine hk_exit ?_ | refine hk_ret ?_ | refine hk_block ?_ | refine hk_seq ?_)
  refine hk_region fun K hK => runs_eval tab_ok ?_
  simp only [ev0, evA, evB, evP, fl, gp, tab, simprocAttr, reduceCtorEq, reduceIte]
  refine fin_run ?_ (hK _ ?_) <;> clear hK <;> clear K
  · (first | exact trivial | omega | (simp only [In64] at *; omega) | (simp [In64] at *; omega) | (simp_all; done) | skip)
  repeat (first | refine thn_n ?_ | refine thn_r ?_ | refine thn_x ?_ | refine inb_n ?_ | refine inb_r ?_ | refine inb_x ?_ | refine inb_y rfl ?_ | refine hk_skip ?_ | refine hk_label ?_ | refine hk_exit ?_ | refine hk_ret ?_ | refine hk_block ?_ | refine hk_seq ?_)
  refine hk_region fun K hK => runs_eval tab_ok ?_
  simp only [ev0, evA, evB, evP, fl, gp, tab, simprocAttr, reduceCtorEq, reduceIte]
  refine fin_run trivial (hK _ ?_) <;> clear hK <;> clear K
  repeat (first | refine thn_n ?_ | refine thn_r ?_ | refine thn_x ?_ | refine inb_n ?_ | refine inb_r ?_ | refine inb_x ?_ | refine inb_y rfl ?_ | refine hk_skip ?_ | refine hk_label ?_ | refine hk_exit ?_ | refine hk_ret ?_ | refine hk_block ?_ | refine hk_seq ?_)
  refine hk_cond rfl (fun hC1 => ?_) (fun hC1 => ?_)
  · (try simp only [nhs] at hC1)
    omega
  · (try simp only [nhs] at hC1)
    repeat (first | refine thn_n ?_ | refine thn_r ?_ | refine thn_x ?_ | refine inb_n ?_ | refine inb_r ?_ | refine inb_x ?_ | refine inb_y rfl ?_ | refine hk_skip ?_ | refine hk_label ?_ | refine hk_exit ?_ | refine hk_ret ?_ | refine hk_block ?_ | refine hk_seq ?_)
    refine hk_region fun K hK => runs_eval tab_ok ?_
    simp only [ev0, evA, evB, evP, fl, gp, tab, simprocAttr, reduceCtorEq, reduceIte, bl_rep]
    refine fin_run ?_ (hK _ ?_) <;> clear hK <;> clear K
    · simp [dstOk]; omega
    repeat (first | refine thn_n ?_ | refine thn_r ?_ | refine thn_x ?_ | refine inb_n ?_ | refine inb_r ?_ | refine inb_x ?_ | refine inb_y rfl ?_ | refine hk_skip ?_ | refine hk_label ?_ | refine hk_exit ?_ | refine hk_ret ?_ | refine hk_block ?_ | refine hk_seq ?_)
    refine hk_region fun K hK => runs_eval tab_ok ?_
    simp only [ev0, evA, evB, evP, fl, gp, tab, simprocAttr, reduceCtorEq, reduceIte]
    refine fin_run trivial (hK _ ?_) <;> clear hK <;> clear K
    repeat (first | refine thn_n ?_ | refine thn_r ?_ | refine thn_x ?_ | refine inb_n ?_ | refine inb_r ?_ | refine inb_x ?_ | refine inb_y rfl ?_ | refine hk_skip ?_ | refine hk_label ?_ | refine hk_exit ?_ | refine hk_ret ?_ | refine hk_block ?_ | refine hk_seq ?_)
    refine hk_loop (ι := Nat) (fun i => ⟨41, [(0, .p (.list (il p))), (2, .ptr 0 0), (3, .sl 1 0 p.length), (13, .p (.list (il p))), (14, .p (.int .i64 p.length)), (15, .p (.int .i64 i))], [.own [.p (.int .i64 0), .p (.int .i64 0)], .own (bl (fun v => decide (∃ j, j < i ∧ p.getD j 0 = (v : Nat))) p.length)]⟩) (fun i => i ≤ p.length) (fun i => p.length - i) 0 (Nat.zero_le _) [0, 1] (by simp only [leq, leA, ev0, evA, evB, evP, fl, gp, tab, simprocAttr, reduceCtorEq, reduceIte, bl_ren, bl_sc, bl_len, bl_take] <;> simp [bl] <;> exact (bl_rep _).symm) fun i hi => ?_
    repeat (first | refine thn_n ?_ | refine thn_r ?_ | refine thn_x ?_ | refine inb_n ?_ | refine inb_r ?_ | refine inb_x ?_ | refine inb_y rfl ?_ | refine hk_skip ?_ | refine hk_label ?_ | refine hk_exit ?_ | refine hk_ret ?_ | refine hk_block ?_ | refine hk_seq ?_)
    refine hk_region fun K hK => runs_eval tab_ok ?_
    simp only [ev0, evA, evB, evP, fl, gp, tab, simprocAttr, reduceCtorEq, reduceIte]
    refine fin_run trivial (hK _ ?_) <;> clear hK <;> clear K
    repeat (first | refine thn_n ?_ | refine thn_r ?_ | refine thn_x ?_ | refine inb_n ?_ | refine inb_r ?_ | refine inb_x ?_ | refine inb_y rfl ?_ | refine hk_skip ?_ | refine hk_label ?_ | refine hk_exit ?_ | refine hk_ret ?_ | refine hk_block ?_ | refine hk_seq ?_)
    refine hk_cond rfl (fun hC2 => ?_) (fun hC2 => ?_)
    · (try simp only [nhs] at hC2)
      repeat (first | refine thn_n ?_ | refine thn_r ?_ | refine thn_x ?_ | refine inb_n ?_ | refine inb_r ?_ | refine inb_x ?_ | refine inb_y rfl ?_ | refine hk_skip ?_ | refine hk_label ?_ | refine hk_exit ?_ | refine hk_ret ?_ | refine hk_block ?_ | refine hk_seq ?_)
      have hlt : i < p.length := by omega
      obtain ⟨r1, r2⟩ := h.rng i hlt
      obtain ⟨x, hx⟩ := Int.eq_ofNat_of_zero_le r1
      have hxl : x < p.length := by omega
      have hnot : decide (∃ j, j < i ∧ p.getD j 0 = (x : Nat)) = false := decide_eq_false fun ⟨j, hj, he⟩ => by
        have := h.inj j i (by omega) hlt (by rw [he, hx])
        omega
      refine hk_region fun K hK => runs_eval tab_ok ?_
      simp only [ev0, evA, evB, evP, fl, gp, tab, simprocAttr, reduceCtorEq, reduceIte, il_get hlt, hx]
      refine fin_run ?_ (hK _ ?_) <;> clear hK <;> clear K
      · (first | exact trivial | omega | (simp only [In64] at *; omega) | (simp [In64] at *; omega) | (simp_all; done) | skip)
      repeat (first | refine thn_n ?_ | refine thn_r ?_ | refine thn_x ?_ | refine inb_n ?_ | refine inb_r ?_ | refine inb_x ?_ | refine inb_y rfl ?_ | refine hk_skip ?_ | refine hk_label ?_ | refine hk_exit ?_ | refine hk_ret ?_ | refine hk_block ?_ | refine hk_seq ?_)
      refine hk_region fun K hK => runs_eval tab_ok ?_
      simp only [ev0, evA, evB, evP, fl, gp, tab, simprocAttr, reduceCtorEq, reduceIte, decide_eq_false (show ¬ ((x : Nat) : Int) < 0 by omega), decide_eq_false (show ¬ ((x : Nat) : Int) ≥ p.length by omega)]
      refine fin_run trivial (hK _ ?_) <;> clear hK <;> clear K
      repeat (first | refine thn_n ?_ | refine thn_r ?_ | refine thn_x ?_ | refine inb_n ?_ | refine inb_r ?_ | refine inb_x ?_ | refine inb_y rfl ?_ | refine hk_skip ?_ | refine hk_label ?_ | refine hk_exit ?_ | refine hk_ret ?_ | refine hk_block ?_ | refine hk_seq ?_)
      refine hk_cond rfl (fun hC3 => ?_) (fun hC3 => ?_)
      · cases hC3
      · (try simp only [nhs] at hC3)
        repeat (first | refine thn_n ?_ | refine thn_r ?_ | refine thn_x ?_ | refine inb_n ?_ | refine inb_r ?_ | refine inb_x ?_ | refine inb_y rfl ?_ | refine hk_skip ?_ | refine hk_label ?_ | refine hk_exit ?_ | refine hk_ret ?_ | refine hk_block ?_ | refine hk_seq ?_)
        refine hk_region fun K hK => runs_eval tab_ok ?_
        simp only [ev0, evA, evB, evP, fl, gp, tab, simprocAttr, reduceCtorEq, reduceIte, bl_get _ hxl, hnot, Nat.zero_add]
        refine fin_run ?_ (hK _ ?_) <;> clear hK <;> clear K
        · rw [bl_len]; omega
        repeat (first | refine thn_n ?_ | refine thn_r ?_ | refine thn_x ?_ | refine inb_n ?_ | refine inb_r ?_ | refine inb_x ?_ | refine inb_y rfl ?_ | refine hk_skip ?_ | refine hk_label ?_ | refine hk_exit ?_ | refine hk_ret ?_ | refine hk_block ?_ | refine hk_seq ?_)
        refine hk_cond rfl (fun hC4 => ?_) (fun hC4 => ?_)
        · cases hC4
        · (try simp only [nhs] at hC4)
          repeat (first | refine thn_n ?_ | refine thn_r ?_ | refine thn_x ?_ | refine inb_n ?_ | refine inb_r ?_ | refine inb_x ?_ | refine inb_y rfl ?_ | refine hk_skip ?_ | refine hk_label ?_ | refine hk_exit ?_ | refine hk_ret ?_ | refine hk_block ?_ | refine hk_seq ?_)
          refine hk_region fun K hK => runs_eval tab_ok ?_
          simp only [ev0, evA, evB, evP, fl, gp, tab, simprocAttr, reduceCtorEq, reduceIte, Nat.zero_add, bl_set, bl_len]
          refine fin_run ?_ (hK _ ?_) <;> clear hK <;> clear K
          · first | omega | (simp [cellOk, PV.one]; omega)
          repeat (first | refine thn_n ?_ | refine thn_r ?_ | refine thn_x ?_ | refine inb_n ?_ | refine inb_r ?_ | refine inb_x ?_ | refine inb_y rfl ?_ | refine hk_skip ?_ | refine hk_label ?_ | refine hk_exit ?_ | refine hk_ret ?_ | refine hk_block ?_ | refine hk_seq ?_)
          refine hk_region fun K hK => runs_eval tab_ok ?_
          simp only [ev0, evA, evB, evP, fl, gp, tab, simprocAttr, reduceCtorEq, reduceIte]
          refine fin_run ?_ (hK _ ?_) <;> clear hK <;> clear K
          · (first | exact trivial | omega | (simp only [In64] at *; omega) | (simp [In64] at *; omega) | (simp_all; done) | skip)
          repeat (first | refine thn_n ?_ | refine thn_r ?_ | refine thn_x ?_ | refine inb_n ?_ | refine inb_r ?_ | refine inb_x ?_ | refine inb_y rfl ?_ | refine hk_skip ?_ | refine hk_label ?_ | refine hk_exit ?_ | refine hk_ret ?_ | refine hk_block ?_ | refine hk_seq ?_)
          refine ⟨i + 1, [0, 1], by omega, by omega, ?_⟩
          have hset : (fun v => (decide (∃ j, j < i ∧ p.getD j 0 = (v : Nat)) || v == x)) = fun v : Nat => decide (∃ j, j < i + 1 ∧ p.getD j 0 = (v : Nat)) := by
            funext v
            rw [Bool.eq_iff_iff]
            simp only [Bool.or_eq_true, decide_eq_true_eq, beq_iff_eq]
            constructor
            · rintro (⟨j, hj, he⟩ | rfl)
              · exact ⟨j, by omega, he⟩
              · exact ⟨i, by omega, hx⟩
            · rintro ⟨j, hj, he⟩
              by_cases hji : j = i
              · subst hji; right; omega
              · left; exact ⟨j, by omega, he⟩
          rw [← hset]
          simp only [leq, leA, ev0, evA, evB, evP, fl, gp, tab, simprocAttr, reduceCtorEq, reduceIte, bl_ren, bl_sc, bl_len, bl_take] <;> first | trivial | omega
    · (try simp only [nhs] at hC2)
      repeat (first | refine thn_n ?_ | refine thn_r ?_ | refine thn_x ?_ | refine inb_n ?_ | refine inb_r ?_ | refine inb_x ?_ | refine inb_y rfl ?_ | refine hk_skip ?_ | refine hk_label ?_ | refine hk_exit ?_ | refine hk_ret ?_ | refine hk_block ?_ | refine hk_seq ?_)
      refine hk_region fun K hK => runs_eval tab_ok ?_
      simp only [ev0, evA, evB, evP, fl, gp, tab, simprocAttr, reduceCtorEq, reduceIte]
      refine fin_run ?_ (hK _ ?_) <;> clear hK <;> clear K
      · (first | exact trivial | omega | (simp only [In64] at *; omega) | (simp [In64] at *; omega) | (simp_all; done) | skip)
      repeat (first | refine thn_n ?_ | refine thn_r ?_ | refine thn_x ?_ | refine inb_n ?_ | refine inb_r ?_ | refine inb_x ?_ | refine inb_y rfl ?_ | refine hk_skip ?_ | refine hk_label ?_ | refine hk_exit ?_ | refine hk_ret ?_ | refine hk_block ?_ | refine hk_seq ?_)
      simp only [Try.results66, enA, ev0, evA, evB, evP, fl, gp, tab, simprocAttr, reduceCtorEq, reduceIte]
      all_goals ((first | exact rfl | exact ⟨rfl, rfl⟩ | exact ⟨rfl, rfl, rfl⟩ | exact ⟨trivial, rfl⟩ | exact ⟨Nat.le_refl _, rfl⟩ | trivial | (simp; done)))

/-- The product of permutations: by the first, then by the second. -/
def thn (p q : List Int) : List Int := p.map fun x => q.getD x.toNat 0
def thz (p q : List Int) (i : Nat) : List Int := (List.range p.length).map fun j => if j < i then q.getD (p.getD j 0).toNat 0 else 0

theorem thz_len (p q : List Int) (i : Nat) : (thz p q i).length = p.length := by simp [thz]
theorem thz_zero (p q : List Int) : List.replicate p.length 0 = thz p q 0 := by
  apply List.ext_getElem
  · simp [thz]
  · intro i h1 h2; simp [thz]
theorem thz_set (p q : List Int) {i : Nat} : (thz p q i).set i (q.getD (p.getD i 0).toNat 0) = thz p q (i + 1) := by
  apply List.ext_getElem
  · simp [thz]
  · intro j h1 h2
    simp only [thz, List.getElem_set, List.getElem_map, List.getElem_range]
    by_cases e : i = j
    · subst e; simp
    · rw [if_neg e]
      by_cases hj : j < i
      · rw [if_pos hj, if_pos (by omega)]
      · rw [if_neg hj, if_neg (by omega)]
theorem thz_all (p q : List Int) : thz p q p.length = thn p q := by
  apply List.ext_getElem
  · simp [thz, thn]
  · intro j h1 h2
    have hj : j < p.length := by simpa [thn] using h2
    simp [thz, thn, hj, List.getD, List.getElem?_eq_getElem hj]

theorem times_c {p q : List Int} (hp : PermOk p) (hq : q.length = p.length) : FnC Try.prog 64 [.list (il p), .list (il q)] (.list (il (thn p q))) := by
  have hl := hp.len
  refine fnc_of tab_ok Try.func64 rfl (by kernel_rfl) (by rw [Try.ntmps64]; exact Nat.le_add_left 2 _) ?_; rw [Try.ntmps64]; repeat (first | refine thn_n ?_ | refine thn_r ?_ | refine thn_x ?_ | refine inb_n ?_ | refine inb_r ?_ | refine inb_x ?_ | refine inb_y rfl ?_ | refine hk_skip ?_ | refine hk_label ?_ | refine hk_exit ?_ | refine hk_ret ?_ | refine hk_block ?_ | refine hk_seq ?_)
  refine hk_region fun K hK => runs_eval tab_ok ?_
  simp only [ev0, evA, evB, evP, fl, gp, tab, simprocAttr, reduceCtorEq, reduceIte]
  refine fin_run trivial (hK _ ?_) <;> clear hK <;> clear K
  repeat (first | refine thn_n ?_ | refine thn_r ?_ | refine thn_x ?_ | refine inb_n ?_ | refine inb_r ?_ | refine inb_x ?_ | refine inb_y rfl ?_ | refine hk_skip ?_ | refine hk_label ?_ | refine hk_exit ?_ | refine hk_ret ?_ | refine hk_block ?_ | refine hk_seq ?_)
  refine hk_region fun K hK => runs_eval tab_ok ?_
  simp only [ev0, evA, evB, evP, fl, gp, tab, simprocAttr, reduceCtorEq, reduceIte, ol_replicate, thz_zero p q]
  refine fin_run ?_ (hK _ ?_) <;> clear hK <;> clear K
  · simp [dstOk]; omega
  repeat (first | refine thn_n ?_ | refine thn_r ?_ | refine thn_x ?_ | refine inb_n ?_ | refine inb_r ?_ | refine inb_x ?_ | refine inb_y rfl ?_ | refine hk_skip ?_ | refine hk_label ?_ | refine hk_exit ?_ | refine hk_ret ?_ | refine hk_block ?_ | refine hk_seq ?_)
  refine hk_region fun K hK => runs_eval tab_ok ?_
  simp only [ev0, evA, evB, evP, fl, gp, tab, simprocAttr, reduceCtorEq, reduceIte]
  refine fin_run trivial (hK _ ?_) <;> clear hK <;> clear K
  repeat (first | refine thn_n ?_ | refine thn_r ?_ | refine thn_x ?_ | refine inb_n ?_ | refine inb_r ?_ | refine inb_x ?_ | refine inb_y rfl ?_ | refine hk_skip ?_ | refine hk_label ?_ | refine hk_exit ?_ | refine hk_ret ?_ | refine hk_block ?_ | refine hk_seq ?_)
  refine hk_loop (ι := Nat) (fun i => ⟨27, [(1, .p (.list (il q))), (5, .sl 0 0 (thz p q i).length), (11, .p (.list (il p))), (12, .p (.int .i64 p.length)), (13, .p (.int .i64 i))], [.own (ol (thz p q i))]⟩) (fun i => i ≤ p.length) (fun i => p.length - i) 0 (Nat.zero_le _) [0] (by simp only [leq, leA, ev0, evA, evB, evP, fl, gp, tab, simprocAttr, reduceCtorEq, reduceIte] <;> simp [thz_len] <;> (rw [← thz_zero, ← ol_replicate])) fun i hi => ?_
  have htl := thz_len p q i
  repeat (first | refine thn_n ?_ | refine thn_r ?_ | refine thn_x ?_ | refine inb_n ?_ | refine inb_r ?_ | refine inb_x ?_ | refine inb_y rfl ?_ | refine hk_skip ?_ | refine hk_label ?_ | refine hk_exit ?_ | refine hk_ret ?_ | refine hk_block ?_ | refine hk_seq ?_)
  refine hk_region fun K hK => runs_eval tab_ok ?_
  simp only [ev0, evA, evB, evP, fl, gp, tab, simprocAttr, reduceCtorEq, reduceIte]
  refine fin_run trivial (hK _ ?_) <;> clear hK <;> clear K
  repeat (first | refine thn_n ?_ | refine thn_r ?_ | refine thn_x ?_ | refine inb_n ?_ | refine inb_r ?_ | refine inb_x ?_ | refine inb_y rfl ?_ | refine hk_skip ?_ | refine hk_label ?_ | refine hk_exit ?_ | refine hk_ret ?_ | refine hk_block ?_ | refine hk_seq ?_)
  refine hk_cond rfl (fun hC1 => ?_) (fun hC1 => ?_)
  · (try simp only [nhs] at hC1)
    repeat (first | refine thn_n ?_ | refine thn_r ?_ | refine thn_x ?_ | refine inb_n ?_ | refine inb_r ?_ | refine inb_x ?_ | refine inb_y rfl ?_ | refine hk_skip ?_ | refine hk_label ?_ | refine hk_exit ?_ | refine hk_ret ?_ | refine hk_block ?_ | refine hk_seq ?_)
    have hlt : i < p.length := by omega
    obtain ⟨r1, r2⟩ := hp.rng i hlt
    have hxl : (p.getD i 0).toNat < q.length := by omega
    refine hk_region fun K hK => runs_eval tab_ok ?_
    simp only [ev0, evA, evB, evP, fl, gp, tab, simprocAttr, reduceCtorEq, reduceIte, il_get hlt]
    refine fin_run ?_ (hK _ ?_) <;> clear hK <;> clear K
    · (first | exact trivial | omega | (simp only [In64] at *; omega) | (simp [In64] at *; omega) | (simp_all; done) | skip)
    repeat (first | refine thn_n ?_ | refine thn_r ?_ | refine thn_x ?_ | refine inb_n ?_ | refine inb_r ?_ | refine inb_x ?_ | refine inb_y rfl ?_ | refine hk_skip ?_ | refine hk_label ?_ | refine hk_exit ?_ | refine hk_ret ?_ | refine hk_block ?_ | refine hk_seq ?_)
    refine hk_region fun K hK => runs_eval tab_ok ?_
    simp only [ev0, evA, evB, evP, fl, gp, tab, simprocAttr, reduceCtorEq, reduceIte, il_get hxl, Nat.zero_add, ol_set, thz_set]
    refine fin_run ?_ (hK _ ?_) <;> clear hK <;> clear K
    · (first | exact trivial | omega | (simp only [In64] at *; omega) | (simp [In64] at *; omega) | (simp_all; done) | skip)
    repeat (first | refine thn_n ?_ | refine thn_r ?_ | refine thn_x ?_ | refine inb_n ?_ | refine inb_r ?_ | refine inb_x ?_ | refine inb_y rfl ?_ | refine hk_skip ?_ | refine hk_label ?_ | refine hk_exit ?_ | refine hk_ret ?_ | refine hk_block ?_ | refine hk_seq ?_)
    refine hk_region fun K hK => runs_eval tab_ok ?_
    simp only [ev0, evA, evB, evP, fl, gp, tab, simprocAttr, reduceCtorEq, reduceIte]
    refine fin_run ?_ (hK _ ?_) <;> clear hK <;> clear K
    · (first | exact trivial | omega | (simp only [In64] at *; omega) | (simp [In64] at *; omega) | (simp_all; done) | skip)
    repeat (first | refine thn_n ?_ | refine thn_r ?_ | refine thn_x ?_ | refine inb_n ?_ | refine inb_r ?_ | refine inb_x ?_ | refine inb_y rfl ?_ | refine hk_skip ?_ | refine hk_label ?_ | refine hk_exit ?_ | refine hk_ret ?_ | refine hk_block ?_ | refine hk_seq ?_)
    refine ⟨i + 1, [0], by omega, by omega, ?_⟩
    have htl2 := thz_len p q (i + 1)
    simp only [leq, leA, ev0, evA, evB, evP, fl, gp, tab, simprocAttr, reduceCtorEq, reduceIte] <;> first | trivial | omega | (rw [htl, htl2])
  · (try simp only [nhs] at hC1)
    repeat (first | refine thn_n ?_ | refine thn_r ?_ | refine thn_x ?_ | refine inb_n ?_ | refine inb_r ?_ | refine inb_x ?_ | refine inb_y rfl ?_ | refine hk_skip ?_ | refine hk_label ?_ | refine hk_exit ?_ | refine hk_ret ?_ | refine hk_block ?_ | refine hk_seq ?_)
    have hin : i = p.length := by omega
    rw [hin]
    rw [hin] at htl
    refine hk_seal 5 0 rfl rfl ?_
    refine hk_region fun K hK => runs_eval tab_ok ?_
    simp only [ev0, evA, evB, evP, fl, gp, tab, simprocAttr, reduceCtorEq, reduceIte]
    refine fin_run trivial (hK _ ?_) <;> clear hK <;> clear K
    repeat (first | refine thn_n ?_ | refine thn_r ?_ | refine thn_x ?_ | refine inb_n ?_ | refine inb_r ?_ | refine inb_x ?_ | refine inb_y rfl ?_ | refine hk_skip ?_ | refine hk_label ?_ | refine hk_exit ?_ | refine hk_ret ?_ | refine hk_block ?_ | refine hk_seq ?_)
    simp only [Try.results64, enA, ev0, evA, evB, evP, fl, gp, tab, simprocAttr, reduceCtorEq, reduceIte]
    all_goals (rw [thz_all])
end Go.Proofs.Ytmkebnaedgdeaaa
