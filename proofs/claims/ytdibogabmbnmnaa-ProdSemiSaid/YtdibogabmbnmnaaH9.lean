/-
  Walks: the document's example of a semidirect product. Conditions: none.
-/
import Derived.Test.YtdibogabmbnmnaaH8
import Derived.Test.YtdibogabmbnmnaaT13
set_option linter.all false
namespace Go.Proofs.Ytdibogabmbnmnaa
open Go.Pv

def cyt (n : Nat) : List Int := tbl (fun a b => (((a + b) % n : Nat) : Int)) n
theorem cyt3 : ∃ e, GT (3 : Nat) (cyt 3) 3 e := by
  have hg : (gf 3 (cyt 3)).1 = 0 := by decide +kernel
  obtain ⟨n, e, h, _⟩ := gf_ok hg
  obtain rfl : n = 3 := by have := h.1; omega
  exact ⟨e, h⟩
theorem cyt2 : ∃ e, GT (2 : Nat) (cyt 2) 2 e := by
  have hg : (gf 2 (cyt 2)).1 = 0 := by decide +kernel
  obtain ⟨n, e, h, _⟩ := gf_ok hg
  obtain rfl : n = 2 := by have := h.1; omega
  exact ⟨e, h⟩
def s3t : List Int := sg 3 2 (cyt 3) (cyt 2) [[0, 1, 2], [0, 2, 1]]
theorem s3_tab : Tab 6 s3t := by
  have hg : (gf 6 s3t).1 = 0 := by decide +kernel
  obtain ⟨n, e, h, _⟩ := gf_ok hg
  obtain rfl : n = 6 := by have := h.1; omega
  exact h.2.1
theorem prodBegun_c : FnC Try.prog 4 [] (.bool true) := by
  obtain ⟨e, h⟩ := cyt3
  obtain ⟨e', h'⟩ := cyt2
  have hr : ∀ j, j < 2 → rwc (3 : Nat) (cyt 3) (List.getD [[0, 1, 2], [0, 2, 1]] j []) = 0 := by decide +kernel
  have hmg : ∀ j, j < 2 → mgd (cyt 2) 2 [[0, 1, 2], [0, 2, 1]] j := by decide +kernel
  have hsemi : FnC Try.prog 5 [gp 3 (cyt 3), gp 2 (cyt 2), .list (ll [[0, 1, 2], [0, 2, 1]])] (.tup [gp 6 s3t, fl (0, 0)]) := semi_ok h h' rfl hr hmg (by decide)
  have hr3 := ringOf_c 3 (by decide) (by decide)
  have hr2 := ringOf_c 2 (by decide) (by decide)
  have hab : decide (abel s3t 6) = false := by decide +kernel
  have hco := commutes_c s3_tab
  rw [hab] at hco
  refine fnc_of tab_ok Try.func4 rfl (by kernel_rfl) (by rw [Try.ntmps4]; exact Nat.le_add_left 0 _) ?_; rw [Try.ntmps4]
  refine qm ?_
  refine hk_region fun K hK => runs_eval tab_ok ?_
  simp only [ev0, evA, evB, evP, fl, gp, tab, simprocAttr, reduceCtorEq, reduceIte]
  refine fin_run trivial (hK _ ?_) <;> clear hK <;> clear K
  refine qa (qm ?_)
  refine hk_region fun K hK => runs_eval tab_ok ?_
  simp only [ev0, evA, evB, evP, fl, gp, tab, simprocAttr, reduceCtorEq, reduceIte]
  refine fin_stop trivial (runs_call (hr3) rfl rfl rfl (by simp only [dstOk, Nat.reduceLT]) (by repeat (first | exact trivial | constructor)) (runs_eval tab_ok ?_))
  simp only [ev0, evA, evB, evP, fl, gp, tab, simprocAttr, reduceCtorEq, reduceIte]
  refine fin_stop trivial (runs_call (hr2) rfl rfl rfl (by simp only [dstOk, Nat.reduceLT]) (by repeat (first | exact trivial | constructor)) (runs_eval tab_ok ?_))
  simp only [ev0, evA, evB, evP, fl, gp, tab, simprocAttr, reduceCtorEq, reduceIte]
  refine fin_stop ?_ (runs_call (FnC.weak (args' := [gp 3 (cyt 3), gp 2 (cyt 2), .nn [.nn (il [0, 1, 2]), .nn (il [0, 2, 1])]]) hsemi ⟨.rfl, .rfl, .nn2, trivial⟩) rfl rfl rfl (by simp only [dstOk, Nat.reduceLT]) (by repeat (first | exact trivial | constructor)) (runs_eval tab_ok ?_))
  · (first | exact trivial | omega | (simp only [In64] at *; omega) | (simp [In64] at *; omega) | (simp_all; done) | skip)
  simp only [ev0, evA, evB, evP, fl, gp, tab, simprocAttr, reduceCtorEq, reduceIte]
  refine fin_run ?_ (hK _ ?_) <;> clear hK <;> clear K
  · (first | exact trivial | omega | (simp only [In64] at *; omega) | (simp [In64] at *; omega) | (simp_all; done) | skip)
  refine qa (qm ?_)
  refine hk_region fun K hK => runs_eval tab_ok ?_
  simp only [ev0, evA, evB, evP, fl, gp, tab, simprocAttr, reduceCtorEq, reduceIte]
  refine fin_stop trivial (runs_call (hco) rfl rfl rfl (by simp only [dstOk, Nat.reduceLT]) (by repeat (first | exact trivial | constructor)) (runs_eval tab_ok ?_))
  simp only [ev0, evA, evB, evP, fl, gp, tab, simprocAttr, reduceCtorEq, reduceIte]
  refine fin_run ?_ (hK _ ?_) <;> clear hK <;> clear K
  · (first | exact trivial | omega | (simp only [In64] at *; omega) | (simp [In64] at *; omega) | (simp_all; done) | skip)
  refine qa (qk ?_)
  simp only [Try.results4, enA, ev0, evA, evB, evP, fl, gp, tab, simprocAttr, reduceCtorEq, reduceIte]
  all_goals (rfl)
end Go.Proofs.Ytdibogabmbnmnaa
