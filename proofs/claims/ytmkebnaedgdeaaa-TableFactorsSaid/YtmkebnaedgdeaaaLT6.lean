/-
  Walks: the law TableFactors. Conditions: none.
-/
import Derived.Test.YtmkebnaedgdeaaaLT5
import Derived.Test.YtmkebnaedgdeaaaLT4
set_option linter.all false
namespace Go.Proofs.Ytmkebnaedgdeaaa
open Go.Pv

theorem d90 : decide ((9 : Int) = 0) = false := by decide

set_option maxRecDepth 20000 in
set_option maxHeartbeats 4000000 in
theorem factors_c (N : Int) (m : List Int) (N' : Int) (m' : List Int) (hm : m.length ≤ 17592186043904) (hm' : m'.length ≤ 17592186043904) : FnC Try.prog 7 [gp N m, gp N' m'] (.bool true) := by
  refine fnc_of tab_ok Try.func7 rfl (by kernel_rfl) (by rw [Try.ntmps7]; exact Nat.le_add_left 2 _) ?_; rw [Try.ntmps7]; repeat (first | refine thn_n ?_ | refine thn_r ?_ | refine thn_x ?_ | refine inb_n ?_ | refine inb_r ?_ | refine inb_x ?_ | refine inb_y rfl ?_ | refine hk_skip ?_ | refine hk_label ?_ | refine hk_exit ?_ | refine hk_ret ?_ | refine hk_block ?_ | refine hk_seq ?_)
  refine hk_region fun K hK => runs_eval tab_ok ?_
  simp only [ev0, evA, evB, evP, fl, gp, tab, simprocAttr, reduceCtorEq, reduceIte]
  refine fin_run ?_ (hK _ ?_) <;> clear hK <;> clear K
  · (first | exact trivial | omega | (simp only [In64] at *; omega) | (simp [In64] at *; omega) | (simp_all; done) | skip)
  repeat (first | refine thn_n ?_ | refine thn_r ?_ | refine thn_x ?_ | refine inb_n ?_ | refine inb_r ?_ | refine inb_x ?_ | refine inb_y rfl ?_ | refine hk_skip ?_ | refine hk_label ?_ | refine hk_exit ?_ | refine hk_ret ?_ | refine hk_block ?_ | refine hk_seq ?_)
  refine hk_region fun K hK => runs_eval tab_ok ?_
  simp only [ev0, evA, evB, evP, fl, gp, tab, simprocAttr, reduceCtorEq, reduceIte]
  refine fin_stop trivial (runs_call (begun_c) rfl rfl rfl (by simp only [dstOk, Nat.reduceLT]) (by repeat (first | exact trivial | constructor)) (runs_eval tab_ok ?_))
  simp only [ev0, evA, evB, evP, fl, gp, tab, simprocAttr, reduceCtorEq, reduceIte]
  refine fin_run trivial (hK _ ?_) <;> clear hK <;> clear K
  repeat (first | refine thn_n ?_ | refine thn_r ?_ | refine thn_x ?_ | refine inb_n ?_ | refine inb_r ?_ | refine inb_x ?_ | refine inb_y rfl ?_ | refine hk_skip ?_ | refine hk_label ?_ | refine hk_exit ?_ | refine hk_ret ?_ | refine hk_block ?_ | refine hk_seq ?_)
  refine hk_cond rfl (fun hC1 => ?_) (fun hC1 => ?_)
  · cases hC1
  · (try simp only [nhs] at hC1)
    repeat (first | refine thn_n ?_ | refine thn_r ?_ | refine thn_x ?_ | refine inb_n ?_ | refine inb_r ?_ | refine inb_x ?_ | refine inb_y rfl ?_ | refine hk_skip ?_ | refine hk_label ?_ | refine hk_exit ?_ | refine hk_ret ?_ | refine hk_block ?_ | refine hk_seq ?_)
    rcases pf_cases N N' m m' with h1 | ⟨h1, h2⟩ | ⟨h1, h2, h3⟩ | ⟨n, e, n', e', h, h', hle⟩
    · refine hk_region fun K hK => runs_eval tab_ok ?_
      simp only [ev0, evA, evB, evP, fl, gp, tab, simprocAttr, reduceCtorEq, reduceIte]
      refine fin_stop trivial (runs_call (product_no N m N' m' (by omega) (by omega) (by rw [pf_1 h1]; exact h1)) rfl rfl rfl (by simp only [dstOk, Nat.reduceLT]) (by repeat (first | exact trivial | constructor)) (runs_eval tab_ok ?_))
      simp only [ev0, evA, evB, evP, fl, gp, tab, simprocAttr, reduceCtorEq, reduceIte, pf_1 h1]
      refine fin_run ?_ (hK _ ?_) <;> clear hK <;> clear K
      · (first | exact trivial | omega | (simp only [In64] at *; omega) | (simp [In64] at *; omega) | (simp_all; done) | skip)
      repeat (first | refine thn_n ?_ | refine thn_r ?_ | refine thn_x ?_ | refine inb_n ?_ | refine inb_r ?_ | refine inb_x ?_ | refine inb_y rfl ?_ | refine hk_skip ?_ | refine hk_label ?_ | refine hk_exit ?_ | refine hk_ret ?_ | refine hk_block ?_ | refine hk_seq ?_)
      refine hk_region fun K hK => runs_eval tab_ok ?_
      simp only [ev0, evA, evB, evP, fl, gp, tab, simprocAttr, reduceCtorEq, reduceIte, decide_eq_false h1]
      refine fin_run ?_ (hK _ ?_) <;> clear hK <;> clear K
      · (first | exact trivial | omega | (simp only [In64] at *; omega) | (simp [In64] at *; omega) | (simp_all; done) | skip)
      repeat (first | refine thn_n ?_ | refine thn_r ?_ | refine thn_x ?_ | refine inb_n ?_ | refine inb_r ?_ | refine inb_x ?_ | refine inb_y rfl ?_ | refine hk_skip ?_ | refine hk_label ?_ | refine hk_exit ?_ | refine hk_ret ?_ | refine hk_block ?_ | refine hk_seq ?_)
      refine hk_cond rfl (fun hC2 => ?_) (fun hC2 => ?_)
      · repeat (first | refine thn_n ?_ | refine thn_r ?_ | refine thn_x ?_ | refine inb_n ?_ | refine inb_r ?_ | refine inb_x ?_ | refine inb_y rfl ?_ | refine hk_skip ?_ | refine hk_label ?_ | refine hk_exit ?_ | refine hk_ret ?_ | refine hk_block ?_ | refine hk_seq ?_)
        refine hk_region fun K hK => runs_eval tab_ok ?_
        simp only [ev0, evA, evB, evP, fl, gp, tab, simprocAttr, reduceCtorEq, reduceIte, decide_eq_false h1]
        refine fin_run ?_ (hK _ ?_) <;> clear hK <;> clear K
        · (first | exact trivial | omega | (simp only [In64] at *; omega) | (simp [In64] at *; omega) | (simp_all; done) | skip)
        repeat (first | refine thn_n ?_ | refine thn_r ?_ | refine thn_x ?_ | refine inb_n ?_ | refine inb_r ?_ | refine inb_x ?_ | refine inb_y rfl ?_ | refine hk_skip ?_ | refine hk_label ?_ | refine hk_exit ?_ | refine hk_ret ?_ | refine hk_block ?_ | refine hk_seq ?_)
        simp only [Try.results7, enA, ev0, evA, evB, evP, fl, gp, tab, simprocAttr, reduceCtorEq, reduceIte]
        all_goals ((first | exact rfl | exact ⟨rfl, rfl⟩ | exact ⟨rfl, rfl, rfl⟩ | exact ⟨trivial, rfl⟩ | exact ⟨Nat.le_refl _, rfl⟩ | trivial | (simp; done)))
      · cases hC2
    · refine hk_region fun K hK => runs_eval tab_ok ?_
      simp only [ev0, evA, evB, evP, fl, gp, tab, simprocAttr, reduceCtorEq, reduceIte]
      refine fin_stop trivial (runs_call (product_no N m N' m' (by omega) (by omega) (by rw [pf_2 h1 h2]; exact h2)) rfl rfl rfl (by simp only [dstOk, Nat.reduceLT]) (by repeat (first | exact trivial | constructor)) (runs_eval tab_ok ?_))
      simp only [ev0, evA, evB, evP, fl, gp, tab, simprocAttr, reduceCtorEq, reduceIte, pf_2 h1 h2]
      refine fin_run ?_ (hK _ ?_) <;> clear hK <;> clear K
      · (first | exact trivial | omega | (simp only [In64] at *; omega) | (simp [In64] at *; omega) | (simp_all; done) | skip)
      repeat (first | refine thn_n ?_ | refine thn_r ?_ | refine thn_x ?_ | refine inb_n ?_ | refine inb_r ?_ | refine inb_x ?_ | refine inb_y rfl ?_ | refine hk_skip ?_ | refine hk_label ?_ | refine hk_exit ?_ | refine hk_ret ?_ | refine hk_block ?_ | refine hk_seq ?_)
      refine hk_region fun K hK => runs_eval tab_ok ?_
      simp only [ev0, evA, evB, evP, fl, gp, tab, simprocAttr, reduceCtorEq, reduceIte, decide_eq_false h2]
      refine fin_run ?_ (hK _ ?_) <;> clear hK <;> clear K
      · (first | exact trivial | omega | (simp only [In64] at *; omega) | (simp [In64] at *; omega) | (simp_all; done) | skip)
      repeat (first | refine thn_n ?_ | refine thn_r ?_ | refine thn_x ?_ | refine inb_n ?_ | refine inb_r ?_ | refine inb_x ?_ | refine inb_y rfl ?_ | refine hk_skip ?_ | refine hk_label ?_ | refine hk_exit ?_ | refine hk_ret ?_ | refine hk_block ?_ | refine hk_seq ?_)
      refine hk_cond rfl (fun hC2 => ?_) (fun hC2 => ?_)
      · repeat (first | refine thn_n ?_ | refine thn_r ?_ | refine thn_x ?_ | refine inb_n ?_ | refine inb_r ?_ | refine inb_x ?_ | refine inb_y rfl ?_ | refine hk_skip ?_ | refine hk_label ?_ | refine hk_exit ?_ | refine hk_ret ?_ | refine hk_block ?_ | refine hk_seq ?_)
        refine hk_region fun K hK => runs_eval tab_ok ?_
        simp only [ev0, evA, evB, evP, fl, gp, tab, simprocAttr, reduceCtorEq, reduceIte, decide_eq_false h2]
        refine fin_run ?_ (hK _ ?_) <;> clear hK <;> clear K
        · (first | exact trivial | omega | (simp only [In64] at *; omega) | (simp [In64] at *; omega) | (simp_all; done) | skip)
        repeat (first | refine thn_n ?_ | refine thn_r ?_ | refine thn_x ?_ | refine inb_n ?_ | refine inb_r ?_ | refine inb_x ?_ | refine inb_y rfl ?_ | refine hk_skip ?_ | refine hk_label ?_ | refine hk_exit ?_ | refine hk_ret ?_ | refine hk_block ?_ | refine hk_seq ?_)
        simp only [Try.results7, enA, ev0, evA, evB, evP, fl, gp, tab, simprocAttr, reduceCtorEq, reduceIte]
        all_goals ((first | exact rfl | exact ⟨rfl, rfl⟩ | exact ⟨rfl, rfl, rfl⟩ | exact ⟨trivial, rfl⟩ | exact ⟨Nat.le_refl _, rfl⟩ | trivial | (simp; done)))
      · cases hC2
    · refine hk_region fun K hK => runs_eval tab_ok ?_
      simp only [ev0, evA, evB, evP, fl, gp, tab, simprocAttr, reduceCtorEq, reduceIte]
      refine fin_stop trivial (runs_call (product_no N m N' m' (by omega) (by omega) (by rw [pf_3 h1 h2 h3]; simp)) rfl rfl rfl (by simp only [dstOk, Nat.reduceLT]) (by repeat (first | exact trivial | constructor)) (runs_eval tab_ok ?_))
      simp only [ev0, evA, evB, evP, fl, gp, tab, simprocAttr, reduceCtorEq, reduceIte, pf_3 h1 h2 h3]
      refine fin_run ?_ (hK _ ?_) <;> clear hK <;> clear K
      · (first | exact trivial | omega | (simp only [In64] at *; omega) | (simp [In64] at *; omega) | (simp_all; done) | skip)
      repeat (first | refine thn_n ?_ | refine thn_r ?_ | refine thn_x ?_ | refine inb_n ?_ | refine inb_r ?_ | refine inb_x ?_ | refine inb_y rfl ?_ | refine hk_skip ?_ | refine hk_label ?_ | refine hk_exit ?_ | refine hk_ret ?_ | refine hk_block ?_ | refine hk_seq ?_)
      refine hk_region fun K hK => runs_eval tab_ok ?_
      simp only [ev0, evA, evB, evP, fl, gp, tab, simprocAttr, reduceCtorEq, reduceIte, d90]
      refine fin_run ?_ (hK _ ?_) <;> clear hK <;> clear K
      · (first | exact trivial | omega | (simp only [In64] at *; omega) | (simp [In64] at *; omega) | (simp_all; done) | skip)
      repeat (first | refine thn_n ?_ | refine thn_r ?_ | refine thn_x ?_ | refine inb_n ?_ | refine inb_r ?_ | refine inb_x ?_ | refine inb_y rfl ?_ | refine hk_skip ?_ | refine hk_label ?_ | refine hk_exit ?_ | refine hk_ret ?_ | refine hk_block ?_ | refine hk_seq ?_)
      refine hk_cond rfl (fun hC2 => ?_) (fun hC2 => ?_)
      · repeat (first | refine thn_n ?_ | refine thn_r ?_ | refine thn_x ?_ | refine inb_n ?_ | refine inb_r ?_ | refine inb_x ?_ | refine inb_y rfl ?_ | refine hk_skip ?_ | refine hk_label ?_ | refine hk_exit ?_ | refine hk_ret ?_ | refine hk_block ?_ | refine hk_seq ?_)
        refine hk_region fun K hK => runs_eval tab_ok ?_
        simp only [ev0, evA, evB, evP, fl, gp, tab, simprocAttr, reduceCtorEq, reduceIte, d90]
        refine fin_run ?_ (hK _ ?_) <;> clear hK <;> clear K
        · (first | exact trivial | omega | (simp only [In64] at *; omega) | (simp [In64] at *; omega) | (simp_all; done) | skip)
        repeat (first | refine thn_n ?_ | refine thn_r ?_ | refine thn_x ?_ | refine inb_n ?_ | refine inb_r ?_ | refine inb_x ?_ | refine inb_y rfl ?_ | refine hk_skip ?_ | refine hk_label ?_ | refine hk_exit ?_ | refine hk_ret ?_ | refine hk_block ?_ | refine hk_seq ?_)
        simp only [Try.results7, enA, ev0, evA, evB, evP, fl, gp, tab, simprocAttr, reduceCtorEq, reduceIte]
        all_goals ((first | exact rfl | exact ⟨rfl, rfl⟩ | exact ⟨rfl, rfl, rfl⟩ | exact ⟨trivial, rfl⟩ | exact ⟨Nat.le_refl _, rfl⟩ | trivial | (simp; done)))
      · cases hC2
    · obtain rfl := h.1
      obtain rfl := h'.1
      have G := h.2.2
      have G' := h'.2.2
      have T := h.2.1
      have T' := h'.2.1
      have hp := T'.pos
      have GP := prd_grp G G'
      have hP := tbl_GT hle GP
      have TP := hP.2.1
      have hmul : (n : Int) * (n' : Int) = ((n * n' : Nat) : Int) := (Int.natCast_mul _ _).symm
      have hb := T.big
      have hb' := T'.big
      have hop : ∀ a b, a < n * n' → b < n * n' → op (tbl (fun a b => (prd n' (op m n) (op m' n') a b : Nat)) (n * n')) (n * n') a b = prd n' (op m n) (op m' n') a b := fun a b ha hb => tbl_op _ ha hb
      have hab : abel (tbl (fun a b => (prd n' (op m n) (op m' n') a b : Nat)) (n * n')) (n * n') ↔ abel m n ∧ abel m' n' := by
        rw [show (abel m n ∧ abel m' n') ↔ _ from (prd_abel G G').symm]
        constructor
        · intro hh a ha b hb'; have := hh a ha b hb'; rwa [hop a b ha hb', hop b a hb' ha] at this
        · intro hh a ha b hb'; rw [hop a b ha hb', hop b a hb' ha]; exact hh a ha b hb'
      refine hk_region fun K hK => runs_eval tab_ok ?_
      simp only [ev0, evA, evB, evP, fl, gp, tab, simprocAttr, reduceCtorEq, reduceIte]
      refine fin_stop trivial (runs_call (product_ok h h' hle) rfl rfl rfl (by simp only [dstOk, Nat.reduceLT]) (by repeat (first | exact trivial | constructor)) (runs_eval tab_ok ?_))
      simp only [ev0, evA, evB, evP, fl, gp, tab, simprocAttr, reduceCtorEq, reduceIte]
      refine fin_run ?_ (hK _ ?_) <;> clear hK <;> clear K
      · (first | exact trivial | omega | (simp only [In64] at *; omega) | (simp [In64] at *; omega) | (simp_all; done) | skip)
      repeat (first | refine thn_n ?_ | refine thn_r ?_ | refine thn_x ?_ | refine inb_n ?_ | refine inb_r ?_ | refine inb_x ?_ | refine inb_y rfl ?_ | refine hk_skip ?_ | refine hk_label ?_ | refine hk_exit ?_ | refine hk_ret ?_ | refine hk_block ?_ | refine hk_seq ?_)
      refine hk_region fun K hK => runs_eval tab_ok ?_
      simp only [ev0, evA, evB, evP, fl, gp, tab, simprocAttr, reduceCtorEq, reduceIte, hmul]
      refine fin_run ?_ (hK _ ?_) <;> clear hK <;> clear K
      · simp only [In64]; omega
      repeat (first | refine thn_n ?_ | refine thn_r ?_ | refine thn_x ?_ | refine inb_n ?_ | refine inb_r ?_ | refine inb_x ?_ | refine inb_y rfl ?_ | refine hk_skip ?_ | refine hk_label ?_ | refine hk_exit ?_ | refine hk_ret ?_ | refine hk_block ?_ | refine hk_seq ?_)
      refine hk_cond rfl (fun hC2 => ?_) (fun hC2 => ?_)
      · cases hC2
      · (try simp only [nhs] at hC2)
        repeat (first | refine thn_n ?_ | refine thn_r ?_ | refine thn_x ?_ | refine inb_n ?_ | refine inb_r ?_ | refine inb_x ?_ | refine inb_y rfl ?_ | refine hk_skip ?_ | refine hk_label ?_ | refine hk_exit ?_ | refine hk_ret ?_ | refine hk_block ?_ | refine hk_seq ?_)
        refine hk_region fun K hK => runs_eval tab_ok ?_
        simp only [ev0, evA, evB, evP, fl, gp, tab, simprocAttr, reduceCtorEq, reduceIte]
        refine fin_stop trivial (runs_call (orders_ok h) rfl rfl rfl (by simp only [dstOk, Nat.reduceLT]) (by repeat (first | exact trivial | constructor)) (runs_eval tab_ok ?_))
        simp only [ev0, evA, evB, evP, fl, gp, tab, simprocAttr, reduceCtorEq, reduceIte]
        refine fin_run ?_ (hK _ ?_) <;> clear hK <;> clear K
        · (first | exact trivial | omega | (simp only [In64] at *; omega) | (simp [In64] at *; omega) | (simp_all; done) | skip)
        repeat (first | refine thn_n ?_ | refine thn_r ?_ | refine thn_x ?_ | refine inb_n ?_ | refine inb_r ?_ | refine inb_x ?_ | refine inb_y rfl ?_ | refine hk_skip ?_ | refine hk_label ?_ | refine hk_exit ?_ | refine hk_ret ?_ | refine hk_block ?_ | refine hk_seq ?_)
        refine hk_region fun K hK => runs_eval tab_ok ?_
        simp only [ev0, evA, evB, evP, fl, gp, tab, simprocAttr, reduceCtorEq, reduceIte]
        refine fin_stop trivial (runs_call (orders_ok h') rfl rfl rfl (by simp only [dstOk, Nat.reduceLT]) (by repeat (first | exact trivial | constructor)) (runs_eval tab_ok ?_))
        simp only [ev0, evA, evB, evP, fl, gp, tab, simprocAttr, reduceCtorEq, reduceIte]
        refine fin_run ?_ (hK _ ?_) <;> clear hK <;> clear K
        · (first | exact trivial | omega | (simp only [In64] at *; omega) | (simp [In64] at *; omega) | (simp_all; done) | skip)
        repeat (first | refine thn_n ?_ | refine thn_r ?_ | refine thn_x ?_ | refine inb_n ?_ | refine inb_r ?_ | refine inb_x ?_ | refine inb_y rfl ?_ | refine hk_skip ?_ | refine hk_label ?_ | refine hk_exit ?_ | refine hk_ret ?_ | refine hk_block ?_ | refine hk_seq ?_)
        refine hk_region fun K hK => runs_eval tab_ok ?_
        simp only [ev0, evA, evB, evP, fl, gp, tab, simprocAttr, reduceCtorEq, reduceIte]
        refine fin_stop trivial (runs_call (orders_ok hP) rfl rfl rfl (by simp only [dstOk, Nat.reduceLT]) (by repeat (first | exact trivial | constructor)) (runs_eval tab_ok ?_))
        simp only [ev0, evA, evB, evP, fl, gp, tab, simprocAttr, reduceCtorEq, reduceIte]
        refine fin_run ?_ (hK _ ?_) <;> clear hK <;> clear K
        · (first | exact trivial | omega | (simp only [In64] at *; omega) | (simp [In64] at *; omega) | (simp_all; done) | skip)
        repeat (first | refine thn_n ?_ | refine thn_r ?_ | refine thn_x ?_ | refine inb_n ?_ | refine inb_r ?_ | refine inb_x ?_ | refine inb_y rfl ?_ | refine hk_skip ?_ | refine hk_label ?_ | refine hk_exit ?_ | refine hk_ret ?_ | refine hk_block ?_ | refine hk_seq ?_)
        refine hk_region fun K hK => runs_eval tab_ok ?_
        simp only [ev0, evA, evB, evP, fl, gp, tab, simprocAttr, reduceCtorEq, reduceIte]
        refine fin_stop trivial (runs_call (abelian_ok h) rfl rfl rfl (by simp only [dstOk, Nat.reduceLT]) (by repeat (first | exact trivial | constructor)) (runs_eval tab_ok ?_))
        simp only [ev0, evA, evB, evP, fl, gp, tab, simprocAttr, reduceCtorEq, reduceIte]
        refine fin_run ?_ (hK _ ?_) <;> clear hK <;> clear K
        · (first | exact trivial | omega | (simp only [In64] at *; omega) | (simp [In64] at *; omega) | (simp_all; done) | skip)
        repeat (first | refine thn_n ?_ | refine thn_r ?_ | refine thn_x ?_ | refine inb_n ?_ | refine inb_r ?_ | refine inb_x ?_ | refine inb_y rfl ?_ | refine hk_skip ?_ | refine hk_label ?_ | refine hk_exit ?_ | refine hk_ret ?_ | refine hk_block ?_ | refine hk_seq ?_)
        refine hk_region fun K hK => runs_eval tab_ok ?_
        simp only [ev0, evA, evB, evP, fl, gp, tab, simprocAttr, reduceCtorEq, reduceIte]
        refine fin_stop trivial (runs_call (abelian_ok h') rfl rfl rfl (by simp only [dstOk, Nat.reduceLT]) (by repeat (first | exact trivial | constructor)) (runs_eval tab_ok ?_))
        simp only [ev0, evA, evB, evP, fl, gp, tab, simprocAttr, reduceCtorEq, reduceIte]
        refine fin_run ?_ (hK _ ?_) <;> clear hK <;> clear K
        · (first | exact trivial | omega | (simp only [In64] at *; omega) | (simp [In64] at *; omega) | (simp_all; done) | skip)
        repeat (first | refine thn_n ?_ | refine thn_r ?_ | refine thn_x ?_ | refine inb_n ?_ | refine inb_r ?_ | refine inb_x ?_ | refine inb_y rfl ?_ | refine hk_skip ?_ | refine hk_label ?_ | refine hk_exit ?_ | refine hk_ret ?_ | refine hk_block ?_ | refine hk_seq ?_)
        refine hk_region fun K hK => runs_eval tab_ok ?_
        simp only [ev0, evA, evB, evP, fl, gp, tab, simprocAttr, reduceCtorEq, reduceIte]
        refine fin_stop trivial (runs_call (abelian_ok hP) rfl rfl rfl (by simp only [dstOk, Nat.reduceLT]) (by repeat (first | exact trivial | constructor)) (runs_eval tab_ok ?_))
        simp only [ev0, evA, evB, evP, fl, gp, tab, simprocAttr, reduceCtorEq, reduceIte]
        refine fin_run ?_ (hK _ ?_) <;> clear hK <;> clear K
        · (first | exact trivial | omega | (simp only [In64] at *; omega) | (simp [In64] at *; omega) | (simp_all; done) | skip)
        repeat (first | refine thn_n ?_ | refine thn_r ?_ | refine thn_x ?_ | refine inb_n ?_ | refine inb_r ?_ | refine inb_x ?_ | refine inb_y rfl ?_ | refine hk_skip ?_ | refine hk_label ?_ | refine hk_exit ?_ | refine hk_ret ?_ | refine hk_block ?_ | refine hk_seq ?_)
        by_cases hA : abel m n
        · refine hk_region fun K hK => runs_eval tab_ok ?_
          simp only [ev0, evA, evB, evP, fl, gp, tab, simprocAttr, reduceCtorEq, reduceIte, ordl_len, decide_eq_true hA, show decide (abel (tbl (fun a b => (prd n' (op m n) (op m' n') a b : Nat)) (n * n')) (n * n')) = decide (abel m' n') from decide_eq_decide.2 (hab.trans ⟨fun h => h.2, fun h => ⟨hA, h⟩⟩)]
          refine fin_run ?_ (hK _ ?_) <;> clear hK <;> clear K
          · (first | exact trivial | omega | (simp only [In64] at *; omega) | (simp [In64] at *; omega) | (simp_all; done) | skip)
          repeat (first | refine thn_n ?_ | refine thn_r ?_ | refine thn_x ?_ | refine inb_n ?_ | refine inb_r ?_ | refine inb_x ?_ | refine inb_y rfl ?_ | refine hk_skip ?_ | refine hk_label ?_ | refine hk_exit ?_ | refine hk_ret ?_ | refine hk_block ?_ | refine hk_seq ?_)
          refine hk_cond rfl (fun hC3 => ?_) (fun hC3 => ?_)
          · cases hC3
          · (try simp only [nhs] at hC3)
            repeat (first | refine thn_n ?_ | refine thn_r ?_ | refine thn_x ?_ | refine inb_n ?_ | refine inb_r ?_ | refine inb_x ?_ | refine inb_y rfl ?_ | refine hk_skip ?_ | refine hk_label ?_ | refine hk_exit ?_ | refine hk_ret ?_ | refine hk_block ?_ | refine hk_seq ?_)
            refine hk_region fun K hK => runs_eval tab_ok ?_
            simp only [ev0, evA, evB, evP, fl, gp, tab, simprocAttr, reduceCtorEq, reduceIte]
            refine fin_run trivial (hK _ ?_) <;> clear hK <;> clear K
            repeat (first | refine thn_n ?_ | refine thn_r ?_ | refine thn_x ?_ | refine inb_n ?_ | refine inb_r ?_ | refine inb_x ?_ | refine inb_y rfl ?_ | refine hk_skip ?_ | refine hk_label ?_ | refine hk_exit ?_ | refine hk_ret ?_ | refine hk_block ?_ | refine hk_seq ?_)
            refine hk_loop (ι := Nat) (fun i => ⟨173, [(3, .ptr 0 0), (5, .ptr 1 0), (7, .p (.list (il (ordl m n e)))), (9, .p (.list (il (ordl m' n' e')))), (11, .p (.list (il (ordl (tbl (fun a b => (prd n' (op m n) (op m' n') a b : Nat)) (n * n')) (n * n') (e * n' + e'))))), (19, .p (.int .i64 i))], [.own [.p (.int .i64 n'), .p (.list (il m'))], .own [.p (.int .i64 (n * n' : Nat)), .p (.list (il (tbl (fun a b => (prd n' (op m n) (op m' n') a b : Nat)) (n * n'))))]]⟩) (fun i => i ≤ n * n') (fun i => n * n' - i) 0 (Nat.zero_le _) [1, 2] (by simp only [leq, leA, ev0, evA, evB, evP, fl, gp, tab, simprocAttr, reduceCtorEq, reduceIte] <;> trivial) fun i hi => ?_
            repeat (first | refine thn_n ?_ | refine thn_r ?_ | refine thn_x ?_ | refine inb_n ?_ | refine inb_r ?_ | refine inb_x ?_ | refine inb_y rfl ?_ | refine hk_skip ?_ | refine hk_label ?_ | refine hk_exit ?_ | refine hk_ret ?_ | refine hk_block ?_ | refine hk_seq ?_)
            refine hk_region fun K hK => runs_eval tab_ok ?_
            simp only [ev0, evA, evB, evP, fl, gp, tab, simprocAttr, reduceCtorEq, reduceIte]
            refine fin_run ?_ (hK _ ?_) <;> clear hK <;> clear K
            · (first | exact trivial | omega | (simp only [In64] at *; omega) | (simp [In64] at *; omega) | (simp_all; done) | skip)
            repeat (first | refine thn_n ?_ | refine thn_r ?_ | refine thn_x ?_ | refine inb_n ?_ | refine inb_r ?_ | refine inb_x ?_ | refine inb_y rfl ?_ | refine hk_skip ?_ | refine hk_label ?_ | refine hk_exit ?_ | refine hk_ret ?_ | refine hk_block ?_ | refine hk_seq ?_)
            refine hk_cond rfl (fun hC4 => ?_) (fun hC4 => ?_)
            · (try simp only [nhs] at hC4)
              repeat (first | refine thn_n ?_ | refine thn_r ?_ | refine thn_x ?_ | refine inb_n ?_ | refine inb_r ?_ | refine inb_x ?_ | refine inb_y rfl ?_ | refine hk_skip ?_ | refine hk_label ?_ | refine hk_exit ?_ | refine hk_ret ?_ | refine hk_block ?_ | refine hk_seq ?_)
              have hlt : i < n * n' := by omega
              obtain ⟨a1, a2, _⟩ := split_lt hp hlt
              have g1 := ordl_get m (e := e) a1
              have g2 := ordl_get m' (e := e') a2
              have g3 := ordl_get (tbl (fun a b => ((prd n' (op m n) (op m' n') a b : Nat) : Int)) (n * n')) (n := n * n') (e := e * n' + e') hlt
              rw [ord_congr GP hop hlt, prd_ord G G' hlt] at g3
              have o1 := G.ord_pos a1
              have o2 := G'.ord_pos a2
              have o3 := (G.ord_spec a1).2.1
              have o4 := (G'.ord_spec a2).2.1
              have hL := lcm_alt (ord n (op m n) e (i / n')) (ord n' (op m' n') e' (i % n'))
              have hgp : 0 < Nat.gcd (ord n (op m n) e (i / n')) (ord n' (op m' n') e' (i % n')) := Nat.gcd_pos_of_pos_left _ o1
              have hq := Nat.div_le_self (ord n (op m n) e (i / n')) (Nat.gcd (ord n (op m n) e (i / n')) (ord n' (op m' n') e' (i % n')))
              have hmm : ((ord n (op m n) e (i / n') / Nat.gcd (ord n (op m n) e (i / n')) (ord n' (op m' n') e' (i % n')) : Nat) : Int) * ((ord n' (op m' n') e' (i % n') : Nat) : Int) = ((Nat.lcm (ord n (op m n) e (i / n')) (ord n' (op m' n') e' (i % n')) : Nat) : Int) := by rw [← hL, Int.natCast_mul]
              have hle2 : Nat.lcm (ord n (op m n) e (i / n')) (ord n' (op m' n') e' (i % n')) ≤ 3600 := by
                rw [← hL]
                exact Nat.le_trans (Nat.mul_le_mul (Nat.le_trans hq o3) o4) (Nat.mul_le_mul hb hb')
              have l1 := ordl_len m n e
              have l2 := ordl_len m' n' e'
              have l3 := ordl_len (tbl (fun a b => ((prd n' (op m n) (op m' n') a b : Nat) : Int)) (n * n')) (n * n') (e * n' + e')
              refine hk_draw mixed (by kernel_rfl) fun K hK => runs_eval tab_ok ?_
              simp only [ev0, evA, evB, evP, fl, gp, tab, simprocAttr, reduceCtorEq, reduceIte, tm_nat, td_nat, il_get (show i / n' < (ordl m n e).length by omega), g1, il_get (show i % n' < (ordl m' n' e').length by omega), g2]
              refine fin_run ?_ (hK _ ?_) <;> clear hK <;> clear K
              · rw [l1, l2]; generalize i / n' = s at *; simp only [In64]; omega
              repeat (first | refine thn_n ?_ | refine thn_r ?_ | refine thn_x ?_ | refine inb_n ?_ | refine inb_r ?_ | refine inb_x ?_ | refine inb_y rfl ?_ | refine hk_skip ?_ | refine hk_label ?_ | refine hk_exit ?_ | refine hk_ret ?_ | refine hk_block ?_ | refine hk_seq ?_)
              refine hk_draw mixed (by kernel_rfl) fun K hK => runs_eval tab_ok ?_
              simp only [ev0, evA, evB, evP, fl, gp, tab, simprocAttr, reduceCtorEq, reduceIte, decide_eq_false (show ¬ ((ord n (op m n) e (i / n') : Nat) : Int) < 1 by omega), decide_eq_false (show ¬ ((ord n' (op m' n') e' (i % n') : Nat) : Int) < 1 by omega), il_get (show i < (ordl (tbl (fun a b => ((prd n' (op m n) (op m' n') a b : Nat) : Int)) (n * n')) (n * n') (e * n' + e')).length by omega), g3, td_nat, hmm]
              refine fin_stop ?_ (runs_call (gcd_c (ord n (op m n) e (i / n')) (ord n' (op m' n') e' (i % n'))) rfl rfl rfl (by simp only [dstOk, Nat.reduceLT]) (by repeat (first | exact trivial | constructor)) (runs_eval tab_ok ?_))
              · (first | exact trivial | omega | (simp only [In64] at *; omega) | (simp [In64] at *; omega) | (simp_all; done) | skip)
              simp only [ev0, evA, evB, evP, fl, gp, tab, simprocAttr, reduceCtorEq, reduceIte, decide_eq_false (show ¬ ((ord n (op m n) e (i / n') : Nat) : Int) < 1 by omega), decide_eq_false (show ¬ ((ord n' (op m' n') e' (i % n') : Nat) : Int) < 1 by omega), il_get (show i < (ordl (tbl (fun a b => ((prd n' (op m n) (op m' n') a b : Nat) : Int)) (n * n')) (n * n') (e * n' + e')).length by omega), g3, td_nat, hmm]
              refine fin_run ?_ (hK _ ?_) <;> clear hK <;> clear K
              · generalize ord n (op m n) e (i / n') / Nat.gcd (ord n (op m n) e (i / n')) (ord n' (op m' n') e' (i % n')) = z at *; simp only [In64]; omega
              repeat (first | refine thn_n ?_ | refine thn_r ?_ | refine thn_x ?_ | refine inb_n ?_ | refine inb_r ?_ | refine inb_x ?_ | refine inb_y rfl ?_ | refine hk_skip ?_ | refine hk_label ?_ | refine hk_exit ?_ | refine hk_ret ?_ | refine hk_block ?_ | refine hk_seq ?_)
              refine hk_cond rfl (fun hC5 => ?_) (fun hC5 => ?_)
              · cases hC5
              · (try simp only [nhs] at hC5)
                repeat (first | refine thn_n ?_ | refine thn_r ?_ | refine thn_x ?_ | refine inb_n ?_ | refine inb_r ?_ | refine inb_x ?_ | refine inb_y rfl ?_ | refine hk_skip ?_ | refine hk_label ?_ | refine hk_exit ?_ | refine hk_ret ?_ | refine hk_block ?_ | refine hk_seq ?_)
                refine hk_region fun K hK => runs_eval tab_ok ?_
                simp only [ev0, evA, evB, evP, fl, gp, tab, simprocAttr, reduceCtorEq, reduceIte]
                refine fin_run ?_ (hK _ ?_) <;> clear hK <;> clear K
                · (first | exact trivial | omega | (simp only [In64] at *; omega) | (simp [In64] at *; omega) | (simp_all; done) | skip)
                repeat (first | refine thn_n ?_ | refine thn_r ?_ | refine thn_x ?_ | refine inb_n ?_ | refine inb_r ?_ | refine inb_x ?_ | refine inb_y rfl ?_ | refine hk_skip ?_ | refine hk_label ?_ | refine hk_exit ?_ | refine hk_ret ?_ | refine hk_block ?_ | refine hk_seq ?_)
                refine ⟨i + 1, [0, 1], by omega, by omega, ?_⟩
                simp only [leq, leA, ev0, evA, evB, evP, fl, gp, tab, simprocAttr, reduceCtorEq, reduceIte] <;> first | trivial | omega
            · (try simp only [nhs] at hC4)
              repeat (first | refine thn_n ?_ | refine thn_r ?_ | refine thn_x ?_ | refine inb_n ?_ | refine inb_r ?_ | refine inb_x ?_ | refine inb_y rfl ?_ | refine hk_skip ?_ | refine hk_label ?_ | refine hk_exit ?_ | refine hk_ret ?_ | refine hk_block ?_ | refine hk_seq ?_)
              refine hk_region fun K hK => runs_eval tab_ok ?_
              simp only [ev0, evA, evB, evP, fl, gp, tab, simprocAttr, reduceCtorEq, reduceIte]
              refine fin_run trivial (hK _ ?_) <;> clear hK <;> clear K
              repeat (first | refine thn_n ?_ | refine thn_r ?_ | refine thn_x ?_ | refine inb_n ?_ | refine inb_r ?_ | refine inb_x ?_ | refine inb_y rfl ?_ | refine hk_skip ?_ | refine hk_label ?_ | refine hk_exit ?_ | refine hk_ret ?_ | refine hk_block ?_ | refine hk_seq ?_)
              simp only [Try.results7, enA, ev0, evA, evB, evP, fl, gp, tab, simprocAttr, reduceCtorEq, reduceIte]
              all_goals ((first | exact rfl | exact ⟨rfl, rfl⟩ | exact ⟨rfl, rfl, rfl⟩ | exact ⟨trivial, rfl⟩ | exact ⟨Nat.le_refl _, rfl⟩ | trivial | (simp; done)))
        · refine hk_region fun K hK => runs_eval tab_ok ?_
          simp only [ev0, evA, evB, evP, fl, gp, tab, simprocAttr, reduceCtorEq, reduceIte, ordl_len, decide_eq_false hA, show decide (abel (tbl (fun a b => (prd n' (op m n) (op m' n') a b : Nat)) (n * n')) (n * n')) = false from decide_eq_false fun hh => hA (hab.1 hh).1]
          refine fin_run ?_ (hK _ ?_) <;> clear hK <;> clear K
          · (first | exact trivial | omega | (simp only [In64] at *; omega) | (simp [In64] at *; omega) | (simp_all; done) | skip)
          repeat (first | refine thn_n ?_ | refine thn_r ?_ | refine thn_x ?_ | refine inb_n ?_ | refine inb_r ?_ | refine inb_x ?_ | refine inb_y rfl ?_ | refine hk_skip ?_ | refine hk_label ?_ | refine hk_exit ?_ | refine hk_ret ?_ | refine hk_block ?_ | refine hk_seq ?_)
          refine hk_cond rfl (fun hC3 => ?_) (fun hC3 => ?_)
          · cases hC3
          · (try simp only [nhs] at hC3)
            repeat (first | refine thn_n ?_ | refine thn_r ?_ | refine thn_x ?_ | refine inb_n ?_ | refine inb_r ?_ | refine inb_x ?_ | refine inb_y rfl ?_ | refine hk_skip ?_ | refine hk_label ?_ | refine hk_exit ?_ | refine hk_ret ?_ | refine hk_block ?_ | refine hk_seq ?_)
            refine hk_region fun K hK => runs_eval tab_ok ?_
            simp only [ev0, evA, evB, evP, fl, gp, tab, simprocAttr, reduceCtorEq, reduceIte]
            refine fin_run trivial (hK _ ?_) <;> clear hK <;> clear K
            repeat (first | refine thn_n ?_ | refine thn_r ?_ | refine thn_x ?_ | refine inb_n ?_ | refine inb_r ?_ | refine inb_x ?_ | refine inb_y rfl ?_ | refine hk_skip ?_ | refine hk_label ?_ | refine hk_exit ?_ | refine hk_ret ?_ | refine hk_block ?_ | refine hk_seq ?_)
            refine hk_loop (ι := Nat) (fun i => ⟨173, [(3, .ptr 0 0), (5, .ptr 1 0), (7, .p (.list (il (ordl m n e)))), (9, .p (.list (il (ordl m' n' e')))), (11, .p (.list (il (ordl (tbl (fun a b => (prd n' (op m n) (op m' n') a b : Nat)) (n * n')) (n * n') (e * n' + e'))))), (19, .p (.int .i64 i))], [.own [.p (.int .i64 n'), .p (.list (il m'))], .own [.p (.int .i64 (n * n' : Nat)), .p (.list (il (tbl (fun a b => (prd n' (op m n) (op m' n') a b : Nat)) (n * n'))))]]⟩) (fun i => i ≤ n * n') (fun i => n * n' - i) 0 (Nat.zero_le _) [1, 2] (by simp only [leq, leA, ev0, evA, evB, evP, fl, gp, tab, simprocAttr, reduceCtorEq, reduceIte] <;> trivial) fun i hi => ?_
            repeat (first | refine thn_n ?_ | refine thn_r ?_ | refine thn_x ?_ | refine inb_n ?_ | refine inb_r ?_ | refine inb_x ?_ | refine inb_y rfl ?_ | refine hk_skip ?_ | refine hk_label ?_ | refine hk_exit ?_ | refine hk_ret ?_ | refine hk_block ?_ | refine hk_seq ?_)
            refine hk_region fun K hK => runs_eval tab_ok ?_
            simp only [ev0, evA, evB, evP, fl, gp, tab, simprocAttr, reduceCtorEq, reduceIte]
            refine fin_run ?_ (hK _ ?_) <;> clear hK <;> clear K
            · (first | exact trivial | omega | (simp only [In64] at *; omega) | (simp [In64] at *; omega) | (simp_all; done) | skip)
            repeat (first | refine thn_n ?_ | refine thn_r ?_ | refine thn_x ?_ | refine inb_n ?_ | refine inb_r ?_ | refine inb_x ?_ | refine inb_y rfl ?_ | refine hk_skip ?_ | refine hk_label ?_ | refine hk_exit ?_ | refine hk_ret ?_ | refine hk_block ?_ | refine hk_seq ?_)
            refine hk_cond rfl (fun hC4 => ?_) (fun hC4 => ?_)
            · (try simp only [nhs] at hC4)
              repeat (first | refine thn_n ?_ | refine thn_r ?_ | refine thn_x ?_ | refine inb_n ?_ | refine inb_r ?_ | refine inb_x ?_ | refine inb_y rfl ?_ | refine hk_skip ?_ | refine hk_label ?_ | refine hk_exit ?_ | refine hk_ret ?_ | refine hk_block ?_ | refine hk_seq ?_)
              have hlt : i < n * n' := by omega
              obtain ⟨a1, a2, _⟩ := split_lt hp hlt
              have g1 := ordl_get m (e := e) a1
              have g2 := ordl_get m' (e := e') a2
              have g3 := ordl_get (tbl (fun a b => ((prd n' (op m n) (op m' n') a b : Nat) : Int)) (n * n')) (n := n * n') (e := e * n' + e') hlt
              rw [ord_congr GP hop hlt, prd_ord G G' hlt] at g3
              have o1 := G.ord_pos a1
              have o2 := G'.ord_pos a2
              have o3 := (G.ord_spec a1).2.1
              have o4 := (G'.ord_spec a2).2.1
              have hL := lcm_alt (ord n (op m n) e (i / n')) (ord n' (op m' n') e' (i % n'))
              have hgp : 0 < Nat.gcd (ord n (op m n) e (i / n')) (ord n' (op m' n') e' (i % n')) := Nat.gcd_pos_of_pos_left _ o1
              have hq := Nat.div_le_self (ord n (op m n) e (i / n')) (Nat.gcd (ord n (op m n) e (i / n')) (ord n' (op m' n') e' (i % n')))
              have hmm : ((ord n (op m n) e (i / n') / Nat.gcd (ord n (op m n) e (i / n')) (ord n' (op m' n') e' (i % n')) : Nat) : Int) * ((ord n' (op m' n') e' (i % n') : Nat) : Int) = ((Nat.lcm (ord n (op m n) e (i / n')) (ord n' (op m' n') e' (i % n')) : Nat) : Int) := by rw [← hL, Int.natCast_mul]
              have hle2 : Nat.lcm (ord n (op m n) e (i / n')) (ord n' (op m' n') e' (i % n')) ≤ 3600 := by
                rw [← hL]
                exact Nat.le_trans (Nat.mul_le_mul (Nat.le_trans hq o3) o4) (Nat.mul_le_mul hb hb')
              have l1 := ordl_len m n e
              have l2 := ordl_len m' n' e'
              have l3 := ordl_len (tbl (fun a b => ((prd n' (op m n) (op m' n') a b : Nat) : Int)) (n * n')) (n * n') (e * n' + e')
              refine hk_draw mixed (by kernel_rfl) fun K hK => runs_eval tab_ok ?_
              simp only [ev0, evA, evB, evP, fl, gp, tab, simprocAttr, reduceCtorEq, reduceIte, tm_nat, td_nat, il_get (show i / n' < (ordl m n e).length by omega), g1, il_get (show i % n' < (ordl m' n' e').length by omega), g2]
              refine fin_run ?_ (hK _ ?_) <;> clear hK <;> clear K
              · rw [l1, l2]; generalize i / n' = s at *; simp only [In64]; omega
              repeat (first | refine thn_n ?_ | refine thn_r ?_ | refine thn_x ?_ | refine inb_n ?_ | refine inb_r ?_ | refine inb_x ?_ | refine inb_y rfl ?_ | refine hk_skip ?_ | refine hk_label ?_ | refine hk_exit ?_ | refine hk_ret ?_ | refine hk_block ?_ | refine hk_seq ?_)
              refine hk_draw mixed (by kernel_rfl) fun K hK => runs_eval tab_ok ?_
              simp only [ev0, evA, evB, evP, fl, gp, tab, simprocAttr, reduceCtorEq, reduceIte, decide_eq_false (show ¬ ((ord n (op m n) e (i / n') : Nat) : Int) < 1 by omega), decide_eq_false (show ¬ ((ord n' (op m' n') e' (i % n') : Nat) : Int) < 1 by omega), il_get (show i < (ordl (tbl (fun a b => ((prd n' (op m n) (op m' n') a b : Nat) : Int)) (n * n')) (n * n') (e * n' + e')).length by omega), g3, td_nat, hmm]
              refine fin_stop ?_ (runs_call (gcd_c (ord n (op m n) e (i / n')) (ord n' (op m' n') e' (i % n'))) rfl rfl rfl (by simp only [dstOk, Nat.reduceLT]) (by repeat (first | exact trivial | constructor)) (runs_eval tab_ok ?_))
              · (first | exact trivial | omega | (simp only [In64] at *; omega) | (simp [In64] at *; omega) | (simp_all; done) | skip)
              simp only [ev0, evA, evB, evP, fl, gp, tab, simprocAttr, reduceCtorEq, reduceIte, decide_eq_false (show ¬ ((ord n (op m n) e (i / n') : Nat) : Int) < 1 by omega), decide_eq_false (show ¬ ((ord n' (op m' n') e' (i % n') : Nat) : Int) < 1 by omega), il_get (show i < (ordl (tbl (fun a b => ((prd n' (op m n) (op m' n') a b : Nat) : Int)) (n * n')) (n * n') (e * n' + e')).length by omega), g3, td_nat, hmm]
              refine fin_run ?_ (hK _ ?_) <;> clear hK <;> clear K
              · generalize ord n (op m n) e (i / n') / Nat.gcd (ord n (op m n) e (i / n')) (ord n' (op m' n') e' (i % n')) = z at *; simp only [In64]; omega
              repeat (first | refine thn_n ?_ | refine thn_r ?_ | refine thn_x ?_ | refine inb_n ?_ | refine inb_r ?_ | refine inb_x ?_ | refine inb_y rfl ?_ | refine hk_skip ?_ | refine hk_label ?_ | refine hk_exit ?_ | refine hk_ret ?_ | refine hk_block ?_ | refine hk_seq ?_)
              refine hk_cond rfl (fun hC5 => ?_) (fun hC5 => ?_)
              · cases hC5
              · (try simp only [nhs] at hC5)
                repeat (first | refine thn_n ?_ | refine thn_r ?_ | refine thn_x ?_ | refine inb_n ?_ | refine inb_r ?_ | refine inb_x ?_ | refine inb_y rfl ?_ | refine hk_skip ?_ | refine hk_label ?_ | refine hk_exit ?_ | refine hk_ret ?_ | refine hk_block ?_ | refine hk_seq ?_)
                refine hk_region fun K hK => runs_eval tab_ok ?_
                simp only [ev0, evA, evB, evP, fl, gp, tab, simprocAttr, reduceCtorEq, reduceIte]
                refine fin_run ?_ (hK _ ?_) <;> clear hK <;> clear K
                · (first | exact trivial | omega | (simp only [In64] at *; omega) | (simp [In64] at *; omega) | (simp_all; done) | skip)
                repeat (first | refine thn_n ?_ | refine thn_r ?_ | refine thn_x ?_ | refine inb_n ?_ | refine inb_r ?_ | refine inb_x ?_ | refine inb_y rfl ?_ | refine hk_skip ?_ | refine hk_label ?_ | refine hk_exit ?_ | refine hk_ret ?_ | refine hk_block ?_ | refine hk_seq ?_)
                refine ⟨i + 1, [0, 1], by omega, by omega, ?_⟩
                simp only [leq, leA, ev0, evA, evB, evP, fl, gp, tab, simprocAttr, reduceCtorEq, reduceIte] <;> first | trivial | omega
            · (try simp only [nhs] at hC4)
              repeat (first | refine thn_n ?_ | refine thn_r ?_ | refine thn_x ?_ | refine inb_n ?_ | refine inb_r ?_ | refine inb_x ?_ | refine inb_y rfl ?_ | refine hk_skip ?_ | refine hk_label ?_ | refine hk_exit ?_ | refine hk_ret ?_ | refine hk_block ?_ | refine hk_seq ?_)
              refine hk_region fun K hK => runs_eval tab_ok ?_
              simp only [ev0, evA, evB, evP, fl, gp, tab, simprocAttr, reduceCtorEq, reduceIte]
              refine fin_run trivial (hK _ ?_) <;> clear hK <;> clear K
              repeat (first | refine thn_n ?_ | refine thn_r ?_ | refine thn_x ?_ | refine inb_n ?_ | refine inb_r ?_ | refine inb_x ?_ | refine inb_y rfl ?_ | refine hk_skip ?_ | refine hk_label ?_ | refine hk_exit ?_ | refine hk_ret ?_ | refine hk_block ?_ | refine hk_seq ?_)
              simp only [Try.results7, enA, ev0, evA, evB, evP, fl, gp, tab, simprocAttr, reduceCtorEq, reduceIte]
              all_goals ((first | exact rfl | exact ⟨rfl, rfl⟩ | exact ⟨rfl, rfl, rfl⟩ | exact ⟨trivial, rfl⟩ | exact ⟨Nat.le_refl _, rfl⟩ | trivial | (simp; done)))
end Go.Proofs.Ytmkebnaedgdeaaa
