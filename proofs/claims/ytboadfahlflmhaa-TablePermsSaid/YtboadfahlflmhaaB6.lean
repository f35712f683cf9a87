/-
  Texts of this proof, one behind the other: what each says stands at its head. Conditions: none.
-/
import Derived.Test.YtboadfahlflmhaaB5
import Derived.Test.YtboadfahlflmhaaB4

/-
  Walks: what permutations make, by the document. Conditions: none.
-/
set_option linter.all false
namespace Go.Proofs.Ytboadfahlflmhaa
open Go.Pv

theorem perm_case (p : List Int) : PermOk p ∨ ¬ p.length ≤ 1000 ∨ (p.length ≤ 1000 ∧ ∃ k, k < p.length ∧ ¬ (0 ≤ p.getD k 0 ∧ p.getD k 0 < p.length) ∧ ∀ j, j < k → (0 ≤ p.getD j 0 ∧ p.getD j 0 < p.length) ∧ ¬ p.getD j 0 ∈ p.take j) ∨
    (p.length ≤ 1000 ∧ ∃ k, k < p.length ∧ (0 ≤ p.getD k 0 ∧ p.getD k 0 < p.length) ∧ p.getD k 0 ∈ p.take k ∧ ∀ j, j < k → (0 ≤ p.getD j 0 ∧ p.getD j 0 < p.length) ∧ ¬ p.getD j 0 ∈ p.take j) := by
  by_cases hl : p.length ≤ 1000
  · let Good : Nat → Prop := fun i => (0 ≤ p.getD i 0 ∧ p.getD i 0 < p.length) ∧ ¬ p.getD i 0 ∈ p.take i
    by_cases hall : ∀ i, i < p.length → Good i
    · left
      refine ⟨hl, fun i hi => (hall i hi).1, ?_⟩
      have key : ∀ i j, i < j → j < p.length → ¬ p.getD i 0 = p.getD j 0 := fun i j hij hj he => by
        refine (hall j hj).2 ?_
        rw [← he, List.mem_take_iff_getElem]
        exact ⟨i, by omega, by simp [List.getD, List.getElem?_eq_getElem (show i < p.length by omega)]⟩
      intro i j hi hj he
      rcases Nat.lt_trichotomy i j with h | h | h
      · exact absurd he (key i j h hj)
      · exact h
      · exact absurd he.symm (key j i h hi)
    · have hex : ∃ k, k < p.length ∧ ¬ Good k ∧ ∀ j, j < k → Good j := by
        refine Classical.byContradiction fun hh => hall fun i => ?_
        induction i using Nat.strongRecOn with
        | _ i ih =>
          intro hi
          refine Classical.byContradiction fun hg => hh ⟨i, hi, hg, fun j hj => ih j hj (by omega)⟩
      obtain ⟨k, k1, k2, k3⟩ := hex
      by_cases hr : 0 ≤ p.getD k 0 ∧ p.getD k 0 < p.length
      · exact .inr (.inr (.inr ⟨hl, k, k1, hr, Classical.byContradiction fun hh => k2 ⟨hr, hh⟩, k3⟩))
      · exact .inr (.inr (.inl ⟨hl, k, k1, hr, k3⟩))
  · exact .inr (.inl hl)
theorem has_r (l : List Int) (x : Int) (hl : l.length ≤ 1000000000000000) : FnC Try.prog 50 [.list (il l), .int .i64 x] (.bool (decide (x ∈ l))) := by
  refine fnc_of tab_ok Try.func50 rfl (by kernel_rfl) (by rw [Try.ntmps50]; exact Nat.le_add_left 2 _) ?_; rw [Try.ntmps50]
  refine qm ?_
  refine hk_region fun K hK => runs_eval tab_ok ?_
  simp only [ev0, evA, evB, evP, fl, gp, tab, simprocAttr, reduceCtorEq, reduceIte]
  refine fin_run trivial (hK _ ?_) <;> clear hK <;> clear K
  refine qa (qm (qm ?_))
  refine hk_region fun K hK => runs_eval tab_ok ?_
  simp only [ev0, evA, evB, evP, fl, gp, tab, simprocAttr, reduceCtorEq, reduceIte]
  refine fin_run trivial (hK _ ?_) <;> clear hK <;> clear K
  refine qa (ql ?_)
  refine hk_loop (ι := Nat) (fun i => ⟨18, [(0, .p (.list (il l))), (1, .p (.int .i64 x)), (5, .p (.int .i64 i))], []⟩) (fun i => i ≤ l.length ∧ ∀ j, j < i → l.getD j 0 ≠ x) (fun i => l.length - i) 0 ⟨Nat.zero_le _, fun j hj => by omega⟩ [] (by simp only [leq, leA, ev0, evA, evB, evP, fl, gp, tab, simprocAttr, reduceCtorEq, reduceIte] <;> trivial) fun i hi => ?_
  obtain ⟨hi1, hi2⟩ := hi
  refine qm (qm ?_)
  refine hk_region fun K hK => runs_eval tab_ok ?_
  simp only [ev0, evA, evB, evP, fl, gp, tab, simprocAttr, reduceCtorEq, reduceIte]
  refine fin_run trivial (hK _ ?_) <;> clear hK <;> clear K
  refine qa ?_
  refine hk_cond rfl (fun hC1 => ?_) (fun hC1 => ?_)
  · (try simp only [nhs] at hC1)
    have hlt : i < l.length := by omega
    refine qh (qa (qm (ql (qm ?_))))
    refine hk_region fun K hK => runs_eval tab_ok ?_
    simp only [ev0, evA, evB, evP, fl, gp, tab, simprocAttr, reduceCtorEq, reduceIte, il_get hlt]
    refine fin_run ?_ (hK _ ?_) <;> clear hK <;> clear K
    · (first | exact trivial | omega | (simp only [In64] at *; omega) | (simp [In64] at *; omega) | (simp_all; done) | skip)
    refine qa ?_
    refine hk_cond rfl (fun hC2 => ?_) (fun hC2 => ?_)
    · (try simp only [nhs] at hC2)
      refine qm ?_
      refine hk_region fun K hK => runs_eval tab_ok ?_
      simp only [ev0, evA, evB, evP, fl, gp, tab, simprocAttr, reduceCtorEq, reduceIte]
      refine fin_run trivial (hK _ ?_) <;> clear hK <;> clear K
      refine qa (qk (qe (qb (qb (qe (qb ?_))))))
      simp only [Try.results50, enA, ev0, evA, evB, evP, fl, gp, tab, simprocAttr, reduceCtorEq, reduceIte]
      all_goals (rw [eq_comm]; refine decide_eq_true ?_; rw [← hC2]; simp [List.getD, List.getElem?_eq_getElem hlt])
    · (try simp only [nhs] at hC2)
      refine qh (qd (qa ?_))
      refine hk_region fun K hK => runs_eval tab_ok ?_
      simp only [ev0, evA, evB, evP, fl, gp, tab, simprocAttr, reduceCtorEq, reduceIte]
      refine fin_run ?_ (hK _ ?_) <;> clear hK <;> clear K
      · (first | exact trivial | omega | (simp only [In64] at *; omega) | (simp [In64] at *; omega) | (simp_all; done) | skip)
      refine qa ?_
      refine ⟨i + 1, [], ⟨by omega, fun j hj => ?_⟩, by omega, ?_⟩
      · by_cases hj : j = i
        · subst hj; exact hC2
        · exact hi2 j (by omega)
      · simp only [leq, leA, ev0, evA, evB, evP, fl, gp, tab, simprocAttr, reduceCtorEq, reduceIte] <;> omega
  · (try simp only [nhs] at hC1)
    refine qj (qc (qc (qf (qa (qm ?_)))))
    refine hk_region fun K hK => runs_eval tab_ok ?_
    simp only [ev0, evA, evB, evP, fl, gp, tab, simprocAttr, reduceCtorEq, reduceIte]
    refine fin_run trivial (hK _ ?_) <;> clear hK <;> clear K
    refine qa (qk ?_)
    simp only [Try.results50, enA, ev0, evA, evB, evP, fl, gp, tab, simprocAttr, reduceCtorEq, reduceIte]
    all_goals (rw [eq_comm]; refine decide_eq_false fun hm => ?_; obtain ⟨j, hj, e⟩ := List.getElem_of_mem hm; exact hi2 j (by omega) (by simp [List.getD, List.getElem?_eq_getElem hj, e]))
theorem permFault_big {p : List Int} (hl : ¬ p.length ≤ 1000) (hp : p.length ≤ 1000000000000000) : FnC Try.prog 17 [.list (il p)] (fl (2, 0)) := by
  refine fnc_of tab_ok Try.func17 rfl (by kernel_rfl) (by rw [Try.ntmps17]; exact Nat.le_add_left 1 _) ?_; rw [Try.ntmps17]
  refine qm ?_
  refine hk_region fun K hK => runs_eval tab_ok ?_
  simp only [ev0, evA, evB, evP, fl, gp, tab, simprocAttr, reduceCtorEq, reduceIte]
  refine fin_run ?_ (hK _ ?_) <;> clear hK <;> clear K
  · (first | exact trivial | omega | (simp only [In64] at *; omega) | (simp [In64] at *; omega) | (simp_all; done) | skip)
  refine qa (qm (qm ?_))
  refine hk_region fun K hK => runs_eval tab_ok ?_
  simp only [ev0, evA, evB, evP, fl, gp, tab, simprocAttr, reduceCtorEq, reduceIte]
  refine fin_run trivial (hK _ ?_) <;> clear hK <;> clear K
  refine qa ?_
  refine hk_cond rfl (fun hC1 => ?_) (fun hC1 => ?_)
  · (try simp only [nhs] at hC1)
    refine qm ?_
    refine hk_region fun K hK => runs_eval tab_ok ?_
    simp only [ev0, evA, evB, evP, fl, gp, tab, simprocAttr, reduceCtorEq, reduceIte]
    refine fin_stop trivial (runs_call (f_c 2 0) rfl rfl rfl (by simp only [dstOk, Nat.reduceLT]) (by repeat (first | exact trivial | constructor)) (runs_eval tab_ok ?_))
    simp only [ev0, evA, evB, evP, fl, gp, tab, simprocAttr, reduceCtorEq, reduceIte]
    refine fin_run ?_ (hK _ ?_) <;> clear hK <;> clear K
    · (first | exact trivial | omega | (simp only [In64] at *; omega) | (simp [In64] at *; omega) | (simp_all; done) | skip)
    refine qa (qk (qb ?_))
    simp only [Try.results17, enA, ev0, evA, evB, evP, fl, gp, tab, simprocAttr, reduceCtorEq, reduceIte]
    all_goals (rfl)
  · (try simp only [nhs] at hC1)
    omega
theorem permFault_rng {p : List Int} (hl : p.length ≤ 1000) {k : Nat} (k1 : k < p.length) (hr : ¬ (0 ≤ p.getD k 0 ∧ p.getD k 0 < p.length)) (k3 : ∀ j, j < k → (0 ≤ p.getD j 0 ∧ p.getD j 0 < p.length) ∧ ¬ p.getD j 0 ∈ p.take j) : FnC Try.prog 17 [.list (il p)] (fl (3, k)) := by
  refine fnc_of tab_ok Try.func17 rfl (by kernel_rfl) (by rw [Try.ntmps17]; exact Nat.le_add_left 1 _) ?_; rw [Try.ntmps17]
  refine qm ?_
  refine hk_region fun K hK => runs_eval tab_ok ?_
  simp only [ev0, evA, evB, evP, fl, gp, tab, simprocAttr, reduceCtorEq, reduceIte]
  refine fin_run ?_ (hK _ ?_) <;> clear hK <;> clear K
  · (first | exact trivial | omega | (simp only [In64] at *; omega) | (simp [In64] at *; omega) | (simp_all; done) | skip)
  refine qa (qm (qm ?_))
  refine hk_region fun K hK => runs_eval tab_ok ?_
  simp only [ev0, evA, evB, evP, fl, gp, tab, simprocAttr, reduceCtorEq, reduceIte]
  refine fin_run trivial (hK _ ?_) <;> clear hK <;> clear K
  refine qa ?_
  refine hk_cond rfl (fun hC1 => ?_) (fun hC1 => ?_)
  · (try simp only [nhs] at hC1)
    omega
  · (try simp only [nhs] at hC1)
    refine qh (qa (qm (qm ?_)))
    refine hk_region fun K hK => runs_eval tab_ok ?_
    simp only [ev0, evA, evB, evP, fl, gp, tab, simprocAttr, reduceCtorEq, reduceIte]
    refine fin_run trivial (hK _ ?_) <;> clear hK <;> clear K
    refine qa (ql ?_)
    refine hk_loop (ι := Nat) (fun i => ⟨41, [(0, .p (.list (il p))), (2, .ptr 0 0), (3, .p (.int .i64 i))], [.own [.p (.int .i64 0), .p (.int .i64 0)]]⟩) (fun i => i ≤ k) (fun i => p.length - i) 0 (Nat.zero_le _) [0] (by simp only [leq, leA, ev0, evA, evB, evP, fl, gp, tab, simprocAttr, reduceCtorEq, reduceIte] <;> trivial) fun i hi => ?_
    refine qm (qm ?_)
    refine hk_region fun K hK => runs_eval tab_ok ?_
    simp only [ev0, evA, evB, evP, fl, gp, tab, simprocAttr, reduceCtorEq, reduceIte, il_length]
    refine fin_run trivial (hK _ ?_) <;> clear hK <;> clear K
    refine qa ?_
    refine hk_cond rfl (fun hC2 => ?_) (fun hC2 => ?_)
    · (try simp only [nhs] at hC2)
      have hlt : i < p.length := by omega
      have hcs : (i = k ∧ p.getD i 0 < 0) ∨ (i = k ∧ ¬ p.getD i 0 < 0 ∧ p.getD i 0 ≥ p.length) ∨ ¬ i = k := by
        by_cases h1 : i = k
        · subst h1; omega
        · exact .inr (.inr h1)
      refine qh (qa (qm (ql (qm (qm ?_)))))
      rcases hcs with ⟨hik, h0⟩ | ⟨hik, h0, h1⟩ | hik
      · refine hk_region fun K hK => runs_eval tab_ok ?_
        simp only [ev0, evA, evB, evP, fl, gp, tab, simprocAttr, reduceCtorEq, reduceIte, il_get hlt, il_length, decide_eq_true h0]
        refine fin_run ?_ (hK _ ?_) <;> clear hK <;> clear K
        · (first | exact trivial | omega | (simp only [In64] at *; omega) | (simp [In64] at *; omega) | (simp_all; done) | skip)
        refine qa ?_
        refine hk_cond rfl (fun hC3 => ?_) (fun hC3 => ?_)
        · refine qm ?_
          refine hk_region fun K hK => runs_eval tab_ok ?_
          simp only [ev0, evA, evB, evP, fl, gp, tab, simprocAttr, reduceCtorEq, reduceIte]
          refine fin_stop trivial (runs_call (f_c 3 i) rfl rfl rfl (by simp only [dstOk, Nat.reduceLT]) (by repeat (first | exact trivial | constructor)) (runs_eval tab_ok ?_))
          simp only [ev0, evA, evB, evP, fl, gp, tab, simprocAttr, reduceCtorEq, reduceIte]
          refine fin_run ?_ (hK _ ?_) <;> clear hK <;> clear K
          · (first | exact trivial | omega | (simp only [In64] at *; omega) | (simp [In64] at *; omega) | (simp_all; done) | skip)
          refine qa (qk (qb (qe (qb (qb (qe (qb ?_)))))))
          simp only [Try.results17, enA, ev0, evA, evB, evP, fl, gp, tab, simprocAttr, reduceCtorEq, reduceIte]
          all_goals (subst hik; rfl)
        · cases hC3
      · refine hk_region fun K hK => runs_eval tab_ok ?_
        simp only [ev0, evA, evB, evP, fl, gp, tab, simprocAttr, reduceCtorEq, reduceIte, il_get hlt, il_length, decide_eq_false h0, decide_eq_true h1]
        refine fin_run ?_ (hK _ ?_) <;> clear hK <;> clear K
        · (first | exact trivial | omega | (simp only [In64] at *; omega) | (simp [In64] at *; omega) | (simp_all; done) | skip)
        refine qa ?_
        refine hk_cond rfl (fun hC3 => ?_) (fun hC3 => ?_)
        · (try simp only [nhs] at hC3)
          refine qm ?_
          refine hk_region fun K hK => runs_eval tab_ok ?_
          simp only [ev0, evA, evB, evP, fl, gp, tab, simprocAttr, reduceCtorEq, reduceIte]
          refine fin_stop trivial (runs_call (f_c 3 i) rfl rfl rfl (by simp only [dstOk, Nat.reduceLT]) (by repeat (first | exact trivial | constructor)) (runs_eval tab_ok ?_))
          simp only [ev0, evA, evB, evP, fl, gp, tab, simprocAttr, reduceCtorEq, reduceIte]
          refine fin_run ?_ (hK _ ?_) <;> clear hK <;> clear K
          · (first | exact trivial | omega | (simp only [In64] at *; omega) | (simp [In64] at *; omega) | (simp_all; done) | skip)
          refine qa (qk (qb (qe (qb (qb (qe (qb ?_)))))))
          simp only [Try.results17, enA, ev0, evA, evB, evP, fl, gp, tab, simprocAttr, reduceCtorEq, reduceIte]
          all_goals (subst hik; rfl)
        · cases hC3
      · obtain ⟨⟨r1, r2⟩, r3⟩ := k3 i (by omega)
        refine hk_region fun K hK => runs_eval tab_ok ?_
        simp only [ev0, evA, evB, evP, fl, gp, tab, simprocAttr, reduceCtorEq, reduceIte, il_get hlt, il_length, decide_eq_false (show ¬ p.getD i 0 < 0 by omega), decide_eq_false (show ¬ p.getD i 0 ≥ p.length by omega)]
        refine fin_run ?_ (hK _ ?_) <;> clear hK <;> clear K
        · (first | exact trivial | omega | (simp only [In64] at *; omega) | (simp [In64] at *; omega) | (simp_all; done) | skip)
        refine qa ?_
        refine hk_cond rfl (fun hC3 => ?_) (fun hC3 => ?_)
        · cases hC3
        · (try simp only [nhs] at hC3)
          refine qh (qa (qm ?_))
          refine hk_draw mixed (by kernel_rfl) fun K hK => runs_eval tab_ok ?_
          simp only [ev0, evA, evB, evP, fl, gp, tab, simprocAttr, reduceCtorEq, reduceIte, il_get hlt]
          refine fin_stop ?_ (runs_call (has_r (p.take i) (p.getD i 0) (by rw [List.length_take]; omega)) rfl rfl rfl (by simp only [dstOk, Nat.reduceLT]) (by repeat (first | exact trivial | constructor)) (runs_eval tab_ok ?_))
          · (first | exact trivial | omega | (simp only [In64] at *; omega) | (simp [In64] at *; omega) | (simp_all; done) | skip)
          simp only [ev0, evA, evB, evP, fl, gp, tab, simprocAttr, reduceCtorEq, reduceIte, decide_eq_false r3, il_get hlt]
          refine fin_run ?_ (hK _ ?_) <;> clear hK <;> clear K
          · (first | exact trivial | omega | (simp only [In64] at *; omega) | (simp [In64] at *; omega) | (simp_all; done) | skip)
          refine qa ?_
          refine hk_cond rfl (fun hC4 => ?_) (fun hC4 => ?_)
          · cases hC4
          · (try simp only [nhs] at hC4)
            refine qh (qd (qa ?_))
            refine hk_region fun K hK => runs_eval tab_ok ?_
            simp only [ev0, evA, evB, evP, fl, gp, tab, simprocAttr, reduceCtorEq, reduceIte]
            refine fin_run ?_ (hK _ ?_) <;> clear hK <;> clear K
            · (first | exact trivial | omega | (simp only [In64] at *; omega) | (simp [In64] at *; omega) | (simp_all; done) | skip)
            refine qa ?_
            refine ⟨i + 1, [0], by omega, by omega, ?_⟩
            simp only [leq, leA, ev0, evA, evB, evP, fl, gp, tab, simprocAttr, reduceCtorEq, reduceIte] <;> first | trivial | omega
    · (try simp only [nhs] at hC2)
      omega
theorem permFault_dup {p : List Int} (hl : p.length ≤ 1000) {k : Nat} (k1 : k < p.length) (hr : 0 ≤ p.getD k 0 ∧ p.getD k 0 < p.length) (hm : p.getD k 0 ∈ p.take k) (k3 : ∀ j, j < k → (0 ≤ p.getD j 0 ∧ p.getD j 0 < p.length) ∧ ¬ p.getD j 0 ∈ p.take j) : FnC Try.prog 17 [.list (il p)] (fl (10, k)) := by
  refine fnc_of tab_ok Try.func17 rfl (by kernel_rfl) (by rw [Try.ntmps17]; exact Nat.le_add_left 1 _) ?_; rw [Try.ntmps17]
  refine qm ?_
  refine hk_region fun K hK => runs_eval tab_ok ?_
  simp only [ev0, evA, evB, evP, fl, gp, tab, simprocAttr, reduceCtorEq, reduceIte]
  refine fin_run ?_ (hK _ ?_) <;> clear hK <;> clear K
  · (first | exact trivial | omega | (simp only [In64] at *; omega) | (simp [In64] at *; omega) | (simp_all; done) | skip)
  refine qa (qm (qm ?_))
  refine hk_region fun K hK => runs_eval tab_ok ?_
  simp only [ev0, evA, evB, evP, fl, gp, tab, simprocAttr, reduceCtorEq, reduceIte]
  refine fin_run trivial (hK _ ?_) <;> clear hK <;> clear K
  refine qa ?_
  refine hk_cond rfl (fun hC1 => ?_) (fun hC1 => ?_)
  · (try simp only [nhs] at hC1)
    omega
  · (try simp only [nhs] at hC1)
    refine qh (qa (qm (qm ?_)))
    refine hk_region fun K hK => runs_eval tab_ok ?_
    simp only [ev0, evA, evB, evP, fl, gp, tab, simprocAttr, reduceCtorEq, reduceIte]
    refine fin_run trivial (hK _ ?_) <;> clear hK <;> clear K
    refine qa (ql ?_)
    refine hk_loop (ι := Nat) (fun i => ⟨41, [(0, .p (.list (il p))), (2, .ptr 0 0), (3, .p (.int .i64 i))], [.own [.p (.int .i64 0), .p (.int .i64 0)]]⟩) (fun i => i ≤ k) (fun i => p.length - i) 0 (Nat.zero_le _) [0] (by simp only [leq, leA, ev0, evA, evB, evP, fl, gp, tab, simprocAttr, reduceCtorEq, reduceIte] <;> trivial) fun i hi => ?_
    refine qm (qm ?_)
    refine hk_region fun K hK => runs_eval tab_ok ?_
    simp only [ev0, evA, evB, evP, fl, gp, tab, simprocAttr, reduceCtorEq, reduceIte, il_length]
    refine fin_run trivial (hK _ ?_) <;> clear hK <;> clear K
    refine qa ?_
    refine hk_cond rfl (fun hC2 => ?_) (fun hC2 => ?_)
    · (try simp only [nhs] at hC2)
      have hlt : i < p.length := by omega
      have hri : 0 ≤ p.getD i 0 ∧ p.getD i 0 < p.length := by
        by_cases hik : i = k
        · rw [hik]; exact hr
        · exact (k3 i (by omega)).1
      obtain ⟨r1, r2⟩ := hri
      refine qh (qa (qm (ql (qm (qm ?_)))))
      refine hk_region fun K hK => runs_eval tab_ok ?_
      simp only [ev0, evA, evB, evP, fl, gp, tab, simprocAttr, reduceCtorEq, reduceIte, il_get hlt, il_length, decide_eq_false (show ¬ p.getD i 0 < 0 by omega), decide_eq_false (show ¬ p.getD i 0 ≥ p.length by omega)]
      refine fin_run ?_ (hK _ ?_) <;> clear hK <;> clear K
      · (first | exact trivial | omega | (simp only [In64] at *; omega) | (simp [In64] at *; omega) | (simp_all; done) | skip)
      refine qa ?_
      refine hk_cond rfl (fun hC3 => ?_) (fun hC3 => ?_)
      · cases hC3
      · (try simp only [nhs] at hC3)
        refine qh (qa (qm ?_))
        by_cases hik : i = k
        · have hdm : decide (p.getD i 0 ∈ p.take i) = true := decide_eq_true (by rw [hik]; exact hm)
          refine hk_draw mixed (by kernel_rfl) fun K hK => runs_eval tab_ok ?_
          simp only [ev0, evA, evB, evP, fl, gp, tab, simprocAttr, reduceCtorEq, reduceIte, il_get hlt]
          refine fin_stop ?_ (runs_call (has_r (p.take i) (p.getD i 0) (by rw [List.length_take]; omega)) rfl rfl rfl (by simp only [dstOk, Nat.reduceLT]) (by repeat (first | exact trivial | constructor)) (runs_eval tab_ok ?_))
          · (first | exact trivial | omega | (simp only [In64] at *; omega) | (simp [In64] at *; omega) | (simp_all; done) | skip)
          simp only [ev0, evA, evB, evP, fl, gp, tab, simprocAttr, reduceCtorEq, reduceIte, hdm, il_get hlt]
          refine fin_run ?_ (hK _ ?_) <;> clear hK <;> clear K
          · (first | exact trivial | omega | (simp only [In64] at *; omega) | (simp [In64] at *; omega) | (simp_all; done) | skip)
          refine qa ?_
          refine hk_cond rfl (fun hC4 => ?_) (fun hC4 => ?_)
          · (try simp only [nhs] at hC4)
            refine qm ?_
            refine hk_region fun K hK => runs_eval tab_ok ?_
            simp only [ev0, evA, evB, evP, fl, gp, tab, simprocAttr, reduceCtorEq, reduceIte]
            refine fin_stop trivial (runs_call (f_c 10 i) rfl rfl rfl (by simp only [dstOk, Nat.reduceLT]) (by repeat (first | exact trivial | constructor)) (runs_eval tab_ok ?_))
            simp only [ev0, evA, evB, evP, fl, gp, tab, simprocAttr, reduceCtorEq, reduceIte]
            refine fin_run ?_ (hK _ ?_) <;> clear hK <;> clear K
            · (first | exact trivial | omega | (simp only [In64] at *; omega) | (simp [In64] at *; omega) | (simp_all; done) | skip)
            refine qa (qk (qe (qb (qb (qe (qb ?_))))))
            simp only [Try.results17, enA, ev0, evA, evB, evP, fl, gp, tab, simprocAttr, reduceCtorEq, reduceIte]
            all_goals (subst hik; rfl)
          · cases hC4
        · have hdm : decide (p.getD i 0 ∈ p.take i) = false := decide_eq_false (k3 i (by omega)).2
          refine hk_draw mixed (by kernel_rfl) fun K hK => runs_eval tab_ok ?_
          simp only [ev0, evA, evB, evP, fl, gp, tab, simprocAttr, reduceCtorEq, reduceIte, il_get hlt]
          refine fin_stop ?_ (runs_call (has_r (p.take i) (p.getD i 0) (by rw [List.length_take]; omega)) rfl rfl rfl (by simp only [dstOk, Nat.reduceLT]) (by repeat (first | exact trivial | constructor)) (runs_eval tab_ok ?_))
          · (first | exact trivial | omega | (simp only [In64] at *; omega) | (simp [In64] at *; omega) | (simp_all; done) | skip)
          simp only [ev0, evA, evB, evP, fl, gp, tab, simprocAttr, reduceCtorEq, reduceIte, hdm, il_get hlt]
          refine fin_run ?_ (hK _ ?_) <;> clear hK <;> clear K
          · (first | exact trivial | omega | (simp only [In64] at *; omega) | (simp [In64] at *; omega) | (simp_all; done) | skip)
          refine qa ?_
          refine hk_cond rfl (fun hC4 => ?_) (fun hC4 => ?_)
          · cases hC4
          · (try simp only [nhs] at hC4)
            refine qh (qd (qa ?_))
            refine hk_region fun K hK => runs_eval tab_ok ?_
            simp only [ev0, evA, evB, evP, fl, gp, tab, simprocAttr, reduceCtorEq, reduceIte]
            refine fin_run ?_ (hK _ ?_) <;> clear hK <;> clear K
            · (first | exact trivial | omega | (simp only [In64] at *; omega) | (simp [In64] at *; omega) | (simp_all; done) | skip)
            refine qa ?_
            refine ⟨i + 1, [0], by omega, by omega, ?_⟩
            simp only [leq, leA, ev0, evA, evB, evP, fl, gp, tab, simprocAttr, reduceCtorEq, reduceIte] <;> first | trivial | omega
    · (try simp only [nhs] at hC2)
      omega

theorem pmfault_c (c a : Int) : FnC Try.prog 64 [.int .i64 c, .int .i64 a] (fl (c, a)) := by
  refine fnc_of tab_ok Try.func64 rfl (by kernel_rfl) (by rw [Try.ntmps64]; exact Nat.le_add_left 2 _) ?_; rw [Try.ntmps64]
  refine qm ?_
  refine hk_region fun K hK => runs_eval tab_ok ?_
  simp only [ev0, evA, evB, evP, fl, gp, tab, simprocAttr, reduceCtorEq, reduceIte]
  refine fin_run ?_ (hK _ ?_) <;> clear hK <;> clear K
  · (first | exact trivial | omega | (simp only [In64] at *; omega) | (simp [In64] at *; omega) | (simp_all; done) | skip)
  refine qa (qm ?_)
  refine hk_region fun K hK => runs_eval tab_ok ?_
  simp only [ev0, evA, evB, evP, fl, gp, tab, simprocAttr, reduceCtorEq, reduceIte]
  refine fin_run ?_ (hK _ ?_) <;> clear hK <;> clear K
  · (first | exact trivial | omega | (simp only [In64] at *; omega) | (simp [In64] at *; omega) | (simp_all; done) | skip)
  refine qa (qk ?_)
  simp only [Try.results64, enA, ev0, evA, evB, evP, fl, gp, tab, simprocAttr, reduceCtorEq, reduceIte]
  all_goals (rfl)
theorem permCheck_big {p : List Int} (hl : ¬ p.length ≤ 1000) (hp : p.length ≤ 1000000000000000) : FnC Try.prog 37 [.list (il p)] (fl (2, 0)) := by
  refine fnc_of tab_ok Try.func37 rfl (by kernel_rfl) (by rw [Try.ntmps37]; exact Nat.le_add_left 1 _) ?_; rw [Try.ntmps37]
  refine qm ?_
  refine hk_region fun K hK => runs_eval tab_ok ?_
  simp only [ev0, evA, evB, evP, fl, gp, tab, simprocAttr, reduceCtorEq, reduceIte]
  refine fin_run ?_ (hK _ ?_) <;> clear hK <;> clear K
  · (first | exact trivial | omega | (simp only [In64] at *; omega) | (simp [In64] at *; omega) | (simp_all; done) | skip)
  refine qa (qm (qm ?_))
  refine hk_region fun K hK => runs_eval tab_ok ?_
  simp only [ev0, evA, evB, evP, fl, gp, tab, simprocAttr, reduceCtorEq, reduceIte]
  refine fin_run trivial (hK _ ?_) <;> clear hK <;> clear K
  refine qa ?_
  refine hk_cond rfl (fun hC1 => ?_) (fun hC1 => ?_)
  · (try simp only [nhs] at hC1)
    refine qm ?_
    refine hk_region fun K hK => runs_eval tab_ok ?_
    simp only [ev0, evA, evB, evP, fl, gp, tab, simprocAttr, reduceCtorEq, reduceIte]
    refine fin_stop trivial (runs_call (pmfault_c 2 0) rfl rfl rfl (by simp only [dstOk, Nat.reduceLT]) (by repeat (first | exact trivial | constructor)) (runs_eval tab_ok ?_))
    simp only [ev0, evA, evB, evP, fl, gp, tab, simprocAttr, reduceCtorEq, reduceIte]
    refine fin_run ?_ (hK _ ?_) <;> clear hK <;> clear K
    · (first | exact trivial | omega | (simp only [In64] at *; omega) | (simp [In64] at *; omega) | (simp_all; done) | skip)
    refine qa (qk (qb ?_))
    simp only [Try.results37, enA, ev0, evA, evB, evP, fl, gp, tab, simprocAttr, reduceCtorEq, reduceIte]
    all_goals (rfl)
  · (try simp only [nhs] at hC1)
    omega
/-- What has been marked up to i. -/
def hmk (p : List Int) (i v : Nat) : Bool := decide (((v : Nat) : Int) ∈ p.take i)
theorem hmk_zero (p : List Int) : hmk p 0 = fun _ => false := by
  funext v; simp [hmk]
theorem hmk_succ {p : List Int} {i x : Nat} (hi : i < p.length) (hx : p.getD i 0 = ((x : Nat) : Int)) : (fun v => (hmk p i v || v == x)) = hmk p (i + 1) := by
  funext v
  unfold hmk
  rw [Bool.eq_iff_iff]
  simp only [Bool.or_eq_true, decide_eq_true_eq, beq_iff_eq]
  rw [List.take_succ_eq_append_getElem hi, List.mem_append, List.mem_singleton, show p[i] = p.getD i 0 by simp [List.getD, List.getElem?_eq_getElem hi], hx]
  constructor
  · rintro (h | rfl)
    · exact .inl h
    · exact .inr rfl
  · rintro (h | h)
    · exact .inl h
    · exact .inr (by omega)
theorem permCheck_rng {p : List Int} (hl : p.length ≤ 1000) {k : Nat} (k1 : k < p.length) (hr : ¬ (0 ≤ p.getD k 0 ∧ p.getD k 0 < p.length)) (k3 : ∀ j, j < k → (0 ≤ p.getD j 0 ∧ p.getD j 0 < p.length) ∧ ¬ p.getD j 0 ∈ p.take j) : FnC Try.prog 37 [.list (il p)] (fl (3, k)) := by
  refine fnc_of tab_ok Try.func37 rfl (by kernel_rfl) (by rw [Try.ntmps37]; exact Nat.le_add_left 1 _) ?_; rw [Try.ntmps37]
  refine qm ?_
  refine hk_region fun K hK => runs_eval tab_ok ?_
  simp only [ev0, evA, evB, evP, fl, gp, tab, simprocAttr, reduceCtorEq, reduceIte]
  refine fin_run ?_ (hK _ ?_) <;> clear hK <;> clear K
  · (first | exact trivial | omega | (simp only [In64] at *; omega) | (simp [In64] at *; omega) | (simp_all; done) | skip)
  refine qa (qm (qm ?_))
  refine hk_region fun K hK => runs_eval tab_ok ?_
  simp only [ev0, evA, evB, evP, fl, gp, tab, simprocAttr, reduceCtorEq, reduceIte]
  refine fin_run trivial (hK _ ?_) <;> clear hK <;> clear K
  refine qa ?_
  refine hk_cond rfl (fun hC1 => ?_) (fun hC1 => ?_)
  · (try simp only [nhs] at hC1)
    omega
  · (try simp only [nhs] at hC1)
    refine qh (qa (qm ?_))
    refine hk_region fun K hK => runs_eval tab_ok ?_
    simp only [ev0, evA, evB, evP, fl, gp, tab, simprocAttr, reduceCtorEq, reduceIte, bl_rep]
    refine fin_run ?_ (hK _ ?_) <;> clear hK <;> clear K
    · simp [dstOk]; omega
    refine qa (qm (qm ?_))
    refine hk_region fun K hK => runs_eval tab_ok ?_
    simp only [ev0, evA, evB, evP, fl, gp, tab, simprocAttr, reduceCtorEq, reduceIte]
    refine fin_run trivial (hK _ ?_) <;> clear hK <;> clear K
    refine qa (ql ?_)
    refine hk_loop (ι := Nat) (fun i => ⟨41, [(0, .p (.list (il p))), (2, .ptr 0 0), (3, .sl 1 0 p.length), (13, .p (.list (il p))), (14, .p (.int .i64 p.length)), (15, .p (.int .i64 i))], [.own [.p (.int .i64 0), .p (.int .i64 0)], .own (bl (hmk p i) p.length)]⟩) (fun i => i ≤ k) (fun i => p.length - i) 0 (Nat.zero_le _) [0, 1] (by rw [hmk_zero]; simp only [leq, leA, ev0, evA, evB, evP, fl, gp, tab, simprocAttr, reduceCtorEq, reduceIte, bl_ren, bl_sc, bl_len, bl_take] <;> simp [bl] <;> exact (bl_rep _).symm) fun i hi => ?_
    refine qm ?_
    refine hk_region fun K hK => runs_eval tab_ok ?_
    simp only [ev0, evA, evB, evP, fl, gp, tab, simprocAttr, reduceCtorEq, reduceIte, il_length]
    refine fin_run trivial (hK _ ?_) <;> clear hK <;> clear K
    refine qa (qm ?_)
    refine hk_cond rfl (fun hC2 => ?_) (fun hC2 => ?_)
    · (try simp only [nhs] at hC2)
      have hlt : i < p.length := by omega
      have hcs : (i = k ∧ p.getD i 0 < 0) ∨ (i = k ∧ ¬ p.getD i 0 < 0 ∧ p.getD i 0 ≥ p.length) ∨ ¬ i = k := by
        by_cases h1 : i = k
        · subst h1; omega
        · exact .inr (.inr h1)
      refine qh (qa (qm (ql (qm ?_))))
      refine hk_region fun K hK => runs_eval tab_ok ?_
      simp only [ev0, evA, evB, evP, fl, gp, tab, simprocAttr, reduceCtorEq, reduceIte, il_get hlt]
      refine fin_run ?_ (hK _ ?_) <;> clear hK <;> clear K
      · (first | exact trivial | omega | (simp only [In64] at *; omega) | (simp [In64] at *; omega) | (simp_all; done) | skip)
      refine qa (qm (qm ?_))
      rcases hcs with ⟨hik, h0⟩ | ⟨hik, h0, h1⟩ | hik
      · refine hk_region fun K hK => runs_eval tab_ok ?_
        simp only [ev0, evA, evB, evP, fl, gp, tab, simprocAttr, reduceCtorEq, reduceIte, il_length, decide_eq_true h0]
        refine fin_run trivial (hK _ ?_) <;> clear hK <;> clear K
        refine qa ?_
        refine hk_cond rfl (fun hC3 => ?_) (fun hC3 => ?_)
        · refine qm ?_
          refine hk_region fun K hK => runs_eval tab_ok ?_
          simp only [ev0, evA, evB, evP, fl, gp, tab, simprocAttr, reduceCtorEq, reduceIte]
          refine fin_stop trivial (runs_call (pmfault_c 3 i) rfl rfl rfl (by simp only [dstOk, Nat.reduceLT]) (by repeat (first | exact trivial | constructor)) (runs_eval tab_ok ?_))
          simp only [ev0, evA, evB, evP, fl, gp, tab, simprocAttr, reduceCtorEq, reduceIte]
          refine fin_run ?_ (hK _ ?_) <;> clear hK <;> clear K
          · (first | exact trivial | omega | (simp only [In64] at *; omega) | (simp [In64] at *; omega) | (simp_all; done) | skip)
          refine qa (qk (qb (qe (qb (qb (qe (qb ?_)))))))
          simp only [Try.results37, enA, ev0, evA, evB, evP, fl, gp, tab, simprocAttr, reduceCtorEq, reduceIte]
          all_goals (subst hik; rfl)
        · cases hC3
      · refine hk_region fun K hK => runs_eval tab_ok ?_
        simp only [ev0, evA, evB, evP, fl, gp, tab, simprocAttr, reduceCtorEq, reduceIte, il_length, decide_eq_false h0, decide_eq_true h1]
        refine fin_run trivial (hK _ ?_) <;> clear hK <;> clear K
        refine qa ?_
        refine hk_cond rfl (fun hC3 => ?_) (fun hC3 => ?_)
        · (try simp only [nhs] at hC3)
          refine qm ?_
          refine hk_region fun K hK => runs_eval tab_ok ?_
          simp only [ev0, evA, evB, evP, fl, gp, tab, simprocAttr, reduceCtorEq, reduceIte]
          refine fin_stop trivial (runs_call (pmfault_c 3 i) rfl rfl rfl (by simp only [dstOk, Nat.reduceLT]) (by repeat (first | exact trivial | constructor)) (runs_eval tab_ok ?_))
          simp only [ev0, evA, evB, evP, fl, gp, tab, simprocAttr, reduceCtorEq, reduceIte]
          refine fin_run ?_ (hK _ ?_) <;> clear hK <;> clear K
          · (first | exact trivial | omega | (simp only [In64] at *; omega) | (simp [In64] at *; omega) | (simp_all; done) | skip)
          refine qa (qk (qb (qe (qb (qb (qe (qb ?_)))))))
          simp only [Try.results37, enA, ev0, evA, evB, evP, fl, gp, tab, simprocAttr, reduceCtorEq, reduceIte]
          all_goals (subst hik; rfl)
        · cases hC3
      · obtain ⟨⟨r1, r2⟩, r3⟩ := k3 i (by omega)
        obtain ⟨x, hx⟩ := Int.eq_ofNat_of_zero_le r1
        have hxl : x < p.length := by omega
        have hnot : hmk p i x = false := decide_eq_false (by rw [← hx]; exact r3)
        have hsu := hmk_succ hlt hx
        refine hk_region fun K hK => runs_eval tab_ok ?_
        simp only [ev0, evA, evB, evP, fl, gp, tab, simprocAttr, reduceCtorEq, reduceIte, il_length, hx, decide_eq_false (show ¬ ((x : Nat) : Int) < 0 by omega), decide_eq_false (show ¬ ((x : Nat) : Int) ≥ p.length by omega)]
        refine fin_run trivial (hK _ ?_) <;> clear hK <;> clear K
        refine qa ?_
        refine hk_cond rfl (fun hC3 => ?_) (fun hC3 => ?_)
        · cases hC3
        · (try simp only [nhs] at hC3)
          refine qh (qa (qm (qm ?_)))
          refine hk_region fun K hK => runs_eval tab_ok ?_
          simp only [ev0, evA, evB, evP, fl, gp, tab, simprocAttr, reduceCtorEq, reduceIte, hx, bl_get _ hxl, hnot, Nat.zero_add]
          refine fin_run ?_ (hK _ ?_) <;> clear hK <;> clear K
          · rw [bl_len]; omega
          refine qa ?_
          refine hk_cond rfl (fun hC4 => ?_) (fun hC4 => ?_)
          · cases hC4
          · (try simp only [nhs] at hC4)
            refine qh (qa ?_)
            refine hk_region fun K hK => runs_eval tab_ok ?_
            simp only [ev0, evA, evB, evP, fl, gp, tab, simprocAttr, reduceCtorEq, reduceIte, hx, Nat.zero_add, bl_set, bl_len]
            refine fin_run ?_ (hK _ ?_) <;> clear hK <;> clear K
            · first | omega | (simp [cellOk, PV.one]; omega)
            refine qd (qa ?_)
            refine hk_region fun K hK => runs_eval tab_ok ?_
            simp only [ev0, evA, evB, evP, fl, gp, tab, simprocAttr, reduceCtorEq, reduceIte]
            refine fin_run ?_ (hK _ ?_) <;> clear hK <;> clear K
            · (first | exact trivial | omega | (simp only [In64] at *; omega) | (simp [In64] at *; omega) | (simp_all; done) | skip)
            refine qa ?_
            refine ⟨i + 1, [0, 1], by omega, by omega, ?_⟩
            rw [← hsu]
            simp only [leq, leA, ev0, evA, evB, evP, fl, gp, tab, simprocAttr, reduceCtorEq, reduceIte, bl_ren, bl_sc, bl_len, bl_take] <;> first | trivial | omega
    · (try simp only [nhs] at hC2)
      omega
theorem permCheck_dup {p : List Int} (hl : p.length ≤ 1000) {k : Nat} (k1 : k < p.length) (hr : 0 ≤ p.getD k 0 ∧ p.getD k 0 < p.length) (hm : p.getD k 0 ∈ p.take k) (k3 : ∀ j, j < k → (0 ≤ p.getD j 0 ∧ p.getD j 0 < p.length) ∧ ¬ p.getD j 0 ∈ p.take j) : FnC Try.prog 37 [.list (il p)] (fl (10, k)) := by
  refine fnc_of tab_ok Try.func37 rfl (by kernel_rfl) (by rw [Try.ntmps37]; exact Nat.le_add_left 1 _) ?_; rw [Try.ntmps37]
  refine qm ?_
  refine hk_region fun K hK => runs_eval tab_ok ?_
  simp only [ev0, evA, evB, evP, fl, gp, tab, simprocAttr, reduceCtorEq, reduceIte]
  refine fin_run ?_ (hK _ ?_) <;> clear hK <;> clear K
  · (first | exact trivial | omega | (simp only [In64] at *; omega) | (simp [In64] at *; omega) | (simp_all; done) | skip)
  refine qa (qm (qm ?_))
  refine hk_region fun K hK => runs_eval tab_ok ?_
  simp only [ev0, evA, evB, evP, fl, gp, tab, simprocAttr, reduceCtorEq, reduceIte]
  refine fin_run trivial (hK _ ?_) <;> clear hK <;> clear K
  refine qa ?_
  refine hk_cond rfl (fun hC1 => ?_) (fun hC1 => ?_)
  · (try simp only [nhs] at hC1)
    omega
  · (try simp only [nhs] at hC1)
    refine qh (qa (qm ?_))
    refine hk_region fun K hK => runs_eval tab_ok ?_
    simp only [ev0, evA, evB, evP, fl, gp, tab, simprocAttr, reduceCtorEq, reduceIte, bl_rep]
    refine fin_run ?_ (hK _ ?_) <;> clear hK <;> clear K
    · simp [dstOk]; omega
    refine qa (qm (qm ?_))
    refine hk_region fun K hK => runs_eval tab_ok ?_
    simp only [ev0, evA, evB, evP, fl, gp, tab, simprocAttr, reduceCtorEq, reduceIte]
    refine fin_run trivial (hK _ ?_) <;> clear hK <;> clear K
    refine qa (ql ?_)
    refine hk_loop (ι := Nat) (fun i => ⟨41, [(0, .p (.list (il p))), (2, .ptr 0 0), (3, .sl 1 0 p.length), (13, .p (.list (il p))), (14, .p (.int .i64 p.length)), (15, .p (.int .i64 i))], [.own [.p (.int .i64 0), .p (.int .i64 0)], .own (bl (hmk p i) p.length)]⟩) (fun i => i ≤ k) (fun i => p.length - i) 0 (Nat.zero_le _) [0, 1] (by rw [hmk_zero]; simp only [leq, leA, ev0, evA, evB, evP, fl, gp, tab, simprocAttr, reduceCtorEq, reduceIte, bl_ren, bl_sc, bl_len, bl_take] <;> simp [bl] <;> exact (bl_rep _).symm) fun i hi => ?_
    refine qm ?_
    refine hk_region fun K hK => runs_eval tab_ok ?_
    simp only [ev0, evA, evB, evP, fl, gp, tab, simprocAttr, reduceCtorEq, reduceIte, il_length]
    refine fin_run trivial (hK _ ?_) <;> clear hK <;> clear K
    refine qa (qm ?_)
    refine hk_cond rfl (fun hC2 => ?_) (fun hC2 => ?_)
    · (try simp only [nhs] at hC2)
      have hlt : i < p.length := by omega
      have hri : 0 ≤ p.getD i 0 ∧ p.getD i 0 < p.length := by
        by_cases hik : i = k
        · rw [hik]; exact hr
        · exact (k3 i (by omega)).1
      obtain ⟨r1, r2⟩ := hri
      obtain ⟨x, hx⟩ := Int.eq_ofNat_of_zero_le r1
      have hxl : x < p.length := by omega
      have hsu := hmk_succ hlt hx
      refine qh (qa (qm (ql (qm ?_))))
      refine hk_region fun K hK => runs_eval tab_ok ?_
      simp only [ev0, evA, evB, evP, fl, gp, tab, simprocAttr, reduceCtorEq, reduceIte, il_get hlt, hx]
      refine fin_run ?_ (hK _ ?_) <;> clear hK <;> clear K
      · (first | exact trivial | omega | (simp only [In64] at *; omega) | (simp [In64] at *; omega) | (simp_all; done) | skip)
      refine qa (qm (qm ?_))
      refine hk_region fun K hK => runs_eval tab_ok ?_
      simp only [ev0, evA, evB, evP, fl, gp, tab, simprocAttr, reduceCtorEq, reduceIte, il_length, decide_eq_false (show ¬ ((x : Nat) : Int) < 0 by omega), decide_eq_false (show ¬ ((x : Nat) : Int) ≥ p.length by omega)]
      refine fin_run trivial (hK _ ?_) <;> clear hK <;> clear K
      refine qa ?_
      refine hk_cond rfl (fun hC3 => ?_) (fun hC3 => ?_)
      · cases hC3
      · (try simp only [nhs] at hC3)
        refine qh (qa (qm (qm ?_)))
        by_cases hik : i = k
        · have hnot : hmk p i x = true := decide_eq_true (by rw [← hx, hik]; exact hm)
          refine hk_region fun K hK => runs_eval tab_ok ?_
          simp only [ev0, evA, evB, evP, fl, gp, tab, simprocAttr, reduceCtorEq, reduceIte, bl_get _ hxl, hnot, Nat.zero_add]
          refine fin_run ?_ (hK _ ?_) <;> clear hK <;> clear K
          · rw [bl_len]; omega
          refine qa ?_
          refine hk_cond rfl (fun hC4 => ?_) (fun hC4 => ?_)
          · (try simp only [nhs] at hC4)
            refine qm ?_
            refine hk_region fun K hK => runs_eval tab_ok ?_
            simp only [ev0, evA, evB, evP, fl, gp, tab, simprocAttr, reduceCtorEq, reduceIte]
            refine fin_stop trivial (runs_call (pmfault_c 10 i) rfl rfl rfl (by simp only [dstOk, Nat.reduceLT]) (by repeat (first | exact trivial | constructor)) (runs_eval tab_ok ?_))
            simp only [ev0, evA, evB, evP, fl, gp, tab, simprocAttr, reduceCtorEq, reduceIte]
            refine fin_run ?_ (hK _ ?_) <;> clear hK <;> clear K
            · (first | exact trivial | omega | (simp only [In64] at *; omega) | (simp [In64] at *; omega) | (simp_all; done) | skip)
            refine qa (qk (qb (qe (qb (qb (qe (qb ?_)))))))
            simp only [Try.results37, enA, ev0, evA, evB, evP, fl, gp, tab, simprocAttr, reduceCtorEq, reduceIte]
            all_goals (subst hik; rfl)
          · cases hC4
        · have hnot : hmk p i x = false := decide_eq_false (by rw [← hx]; exact (k3 i (by omega)).2)
          refine hk_region fun K hK => runs_eval tab_ok ?_
          simp only [ev0, evA, evB, evP, fl, gp, tab, simprocAttr, reduceCtorEq, reduceIte, bl_get _ hxl, hnot, Nat.zero_add]
          refine fin_run ?_ (hK _ ?_) <;> clear hK <;> clear K
          · rw [bl_len]; omega
          refine qa ?_
          refine hk_cond rfl (fun hC4 => ?_) (fun hC4 => ?_)
          · cases hC4
          · (try simp only [nhs] at hC4)
            refine qh (qa ?_)
            refine hk_region fun K hK => runs_eval tab_ok ?_
            simp only [ev0, evA, evB, evP, fl, gp, tab, simprocAttr, reduceCtorEq, reduceIte, Nat.zero_add, bl_set, bl_len]
            refine fin_run ?_ (hK _ ?_) <;> clear hK <;> clear K
            · first | omega | (simp [cellOk, PV.one]; omega)
            refine qd (qa ?_)
            refine hk_region fun K hK => runs_eval tab_ok ?_
            simp only [ev0, evA, evB, evP, fl, gp, tab, simprocAttr, reduceCtorEq, reduceIte]
            refine fin_run ?_ (hK _ ?_) <;> clear hK <;> clear K
            · (first | exact trivial | omega | (simp only [In64] at *; omega) | (simp [In64] at *; omega) | (simp_all; done) | skip)
            refine qa ?_
            refine ⟨i + 1, [0, 1], by omega, by omega, ?_⟩
            rw [← hsu]
            simp only [leq, leA, ev0, evA, evB, evP, fl, gp, tab, simprocAttr, reduceCtorEq, reduceIte, bl_ren, bl_sc, bl_len, bl_take] <;> first | trivial | omega
    · (try simp only [nhs] at hC2)
      omega
/-- Both say the same of a row. -/
theorem perm_both (p : List Int) (hp : p.length ≤ 1000000000000000) : ∃ r : Int × Int, FnC Try.prog 17 [.list (il p)] (fl r) ∧ FnC Try.prog 37 [.list (il p)] (fl r) ∧ (r.1 = 0 → PermOk p ∧ r = (0, 0)) := by
  rcases perm_case p with h | h | ⟨h, k, k1, k2, k3⟩ | ⟨h, k, k1, k2, k3, k4⟩
  · exact ⟨(0, 0), permFault_c h, permCheck_c h, fun _ => ⟨h, rfl⟩⟩
  · exact ⟨(2, 0), permFault_big h hp, permCheck_big h hp, fun h => by simp at h⟩
  · exact ⟨(3, k), permFault_rng h k1 k2 k3, permCheck_rng h k1 k2 k3, fun h => by simp at h⟩
  · exact ⟨(10, k), permFault_dup h k1 k2 k3 k4, permCheck_dup h k1 k2 k3 k4, fun h => by simp at h⟩
end Go.Proofs.Ytboadfahlflmhaa

/-
  Walks: the document's Perms. Conditions: none.
-/
set_option linter.all false
namespace Go.Proofs.Ytboadfahlflmhaa
open Go.Pv

theorem permsT_size (l : List (List Int)) (hl : l.length ≤ 1000000) (h : l.length < 1 ∨ l.length > 20) : FnC Try.prog 15 [.list (ll l)] (.tup [gp 0 [], .list (ll []), fl (2, 0)]) := by
  refine fnc_of tab_ok Try.func15 rfl (by kernel_rfl) (by rw [Try.ntmps15]; exact Nat.le_add_left 1 _) ?_; rw [Try.ntmps15]
  refine qm ?_
  refine hk_region fun K hK => runs_eval tab_ok ?_
  simp only [ev0, evA, evB, evP, fl, gp, tab, simprocAttr, reduceCtorEq, reduceIte]
  refine fin_run ?_ (hK _ ?_) <;> clear hK <;> clear K
  · (first | exact trivial | omega | (simp only [In64] at *; omega) | (simp [In64] at *; omega) | (simp_all; done) | skip)
  refine qa (qm (qm ?_))
  by_cases h1 : l.length < 1
  · refine hk_region fun K hK => runs_eval tab_ok ?_
    simp only [ev0, evA, evB, evP, fl, gp, tab, simprocAttr, reduceCtorEq, reduceIte, ll_length, decide_eq_true (show ((l.length : Nat) : Int) < 1 by omega)]
    refine fin_run trivial (hK _ ?_) <;> clear hK <;> clear K
    refine qa ?_
    refine hk_cond rfl (fun hC1 => ?_) (fun hC1 => ?_)
    · refine qm ?_
      refine hk_region fun K hK => runs_eval tab_ok ?_
      simp only [ev0, evA, evB, evP, fl, gp, tab, simprocAttr, reduceCtorEq, reduceIte]
      refine fin_stop trivial (runs_call (fault_c 2 0) rfl rfl rfl (by simp only [dstOk, Nat.reduceLT]) (by repeat (first | exact trivial | constructor)) (runs_eval tab_ok ?_))
      simp only [ev0, evA, evB, evP, fl, gp, tab, simprocAttr, reduceCtorEq, reduceIte]
      refine fin_run ?_ (hK _ ?_) <;> clear hK <;> clear K
      · (first | exact trivial | omega | (simp only [In64] at *; omega) | (simp [In64] at *; omega) | (simp_all; done) | skip)
      refine qa (qk (qb ?_))
      simp only [Try.results15, enA, ev0, evA, evB, evP, fl, gp, tab, simprocAttr, reduceCtorEq, reduceIte]
      all_goals (first | rfl | exact ⟨rfl, rfl⟩)
    · cases hC1
  · refine hk_region fun K hK => runs_eval tab_ok ?_
    simp only [ev0, evA, evB, evP, fl, gp, tab, simprocAttr, reduceCtorEq, reduceIte, ll_length, decide_eq_false (show ¬ ((l.length : Nat) : Int) < 1 by omega), decide_eq_true (show ((l.length : Nat) : Int) > 20 by omega)]
    refine fin_run trivial (hK _ ?_) <;> clear hK <;> clear K
    refine qa ?_
    refine hk_cond rfl (fun hC1 => ?_) (fun hC1 => ?_)
    · (try simp only [nhs] at hC1)
      refine qm ?_
      refine hk_region fun K hK => runs_eval tab_ok ?_
      simp only [ev0, evA, evB, evP, fl, gp, tab, simprocAttr, reduceCtorEq, reduceIte]
      refine fin_stop trivial (runs_call (fault_c 2 0) rfl rfl rfl (by simp only [dstOk, Nat.reduceLT]) (by repeat (first | exact trivial | constructor)) (runs_eval tab_ok ?_))
      simp only [ev0, evA, evB, evP, fl, gp, tab, simprocAttr, reduceCtorEq, reduceIte]
      refine fin_run ?_ (hK _ ?_) <;> clear hK <;> clear K
      · (first | exact trivial | omega | (simp only [In64] at *; omega) | (simp [In64] at *; omega) | (simp_all; done) | skip)
      refine qa (qk (qb ?_))
      simp only [Try.results15, enA, ev0, evA, evB, evP, fl, gp, tab, simprocAttr, reduceCtorEq, reduceIte]
      all_goals (first | rfl | exact ⟨rfl, rfl⟩)
    · cases hC1
theorem permsT_bad (l : List (List Int)) (h1 : 1 ≤ l.length) (h20 : l.length ≤ 20) (hlb : ∀ q ∈ l, q.length ≤ 1000000000000000) {k : Nat} (hk : k < l.length) (hg : ∀ j, j < k → PermOk (l.getD j []) ∧ (l.getD j []).length = (l.getD 0 []).length) {r : Int × Int} (hc : FnC Try.prog 37 [.list (il (l.getD k []))] (fl r)) (hr : ¬ r.1 = 0) : FnC Try.prog 15 [.list (ll l)] (.tup [gp 0 [], .list (ll []), fl (r.1, k)]) := by
  refine fnc_of tab_ok Try.func15 rfl (by kernel_rfl) (by rw [Try.ntmps15]; exact Nat.le_add_left 1 _) ?_; rw [Try.ntmps15]
  refine qm ?_
  refine hk_region fun K hK => runs_eval tab_ok ?_
  simp only [ev0, evA, evB, evP, fl, gp, tab, simprocAttr, reduceCtorEq, reduceIte]
  refine fin_run ?_ (hK _ ?_) <;> clear hK <;> clear K
  · (first | exact trivial | omega | (simp only [In64] at *; omega) | (simp [In64] at *; omega) | (simp_all; done) | skip)
  refine qa (qm (qm ?_))
  refine hk_region fun K hK => runs_eval tab_ok ?_
  simp only [ev0, evA, evB, evP, fl, gp, tab, simprocAttr, reduceCtorEq, reduceIte, ll_length, decide_eq_false (show ¬ ((l.length : Nat) : Int) < 1 by omega), decide_eq_false (show ¬ ((l.length : Nat) : Int) > 20 by omega)]
  refine fin_run trivial (hK _ ?_) <;> clear hK <;> clear K
  refine qa ?_
  refine hk_cond rfl (fun hC1 => ?_) (fun hC1 => ?_)
  · cases hC1
  · (try simp only [nhs] at hC1)
    refine qh (qa (qm (qm ?_)))
    refine hk_region fun K hK => runs_eval tab_ok ?_
    simp only [ev0, evA, evB, evP, fl, gp, tab, simprocAttr, reduceCtorEq, reduceIte, ll_length]
    refine fin_run trivial (hK _ ?_) <;> clear hK <;> clear K
    refine qa (ql ?_)
    refine hk_loop (ι := Nat) (fun j => ⟨99, [(0, .p (.list (ll l))), (2, .ptr 0 0), (4, .ptr 1 0), (24, .p (.list (ll l))), (25, .p (.int .i64 l.length)), (26, .p (.int .i64 j))], [.own [.p (.int .i64 0), .p .nil], .own [.p (.int .i64 0), .p (.int .i64 0)]]⟩) (fun j => j ≤ k) (fun j => l.length - j) 0 (Nat.zero_le _) [0, 1] (by simp only [leq, leA, ev0, evA, evB, evP, fl, gp, tab, simprocAttr, reduceCtorEq, reduceIte] <;> first | trivial | trace_state) fun j hj => ?_
    refine qm ?_
    refine hk_region fun K hK => runs_eval tab_ok ?_
    simp only [ev0, evA, evB, evP, fl, gp, tab, simprocAttr, reduceCtorEq, reduceIte]
    refine fin_run trivial (hK _ ?_) <;> clear hK <;> clear K
    refine qa (qm ?_)
    refine hk_cond rfl (fun hC2 => ?_) (fun hC2 => ?_)
    · (try simp only [nhs] at hC2)
      have hjl : j < l.length := by omega
      refine qh (qa (qm (ql (qm ?_))))
      refine hk_region fun K hK => runs_eval tab_ok ?_
      simp only [ev0, evA, evB, evP, fl, gp, tab, simprocAttr, reduceCtorEq, reduceIte, ll_length, ll_get hjl]
      refine fin_run ?_ (hK _ ?_) <;> clear hK <;> clear K
      · (first | exact trivial | omega | (simp only [In64] at *; omega) | (simp [In64] at *; omega) | (simp_all; done) | skip)
      refine qa (qm (qm ?_))
      by_cases hjk : j = k
      · subst hjk
        refine hk_region fun K hK => runs_eval tab_ok ?_
        simp only [ev0, evA, evB, evP, fl, gp, tab, simprocAttr, reduceCtorEq, reduceIte]
        refine fin_stop trivial (runs_call (hc) rfl rfl rfl (by simp only [dstOk, Nat.reduceLT]) (by repeat (first | exact trivial | constructor)) (runs_eval tab_ok ?_))
        simp only [ev0, evA, evB, evP, fl, gp, tab, simprocAttr, reduceCtorEq, reduceIte]
        refine fin_run ?_ (hK _ ?_) <;> clear hK <;> clear K
        · (first | exact trivial | omega | (simp only [In64] at *; omega) | (simp [In64] at *; omega) | (simp_all; done) | skip)
        refine qa (qm ?_)
        refine hk_region fun K hK => runs_eval tab_ok ?_
        simp only [ev0, evA, evB, evP, fl, gp, tab, simprocAttr, reduceCtorEq, reduceIte, decide_eq_false hr]
        refine fin_run ?_ (hK _ ?_) <;> clear hK <;> clear K
        · (first | exact trivial | omega | (simp only [In64] at *; omega) | (simp [In64] at *; omega) | (simp_all; done) | skip)
        refine qa ?_
        refine hk_cond rfl (fun hC3 => ?_) (fun hC3 => ?_)
        · (try simp only [nhs] at hC3)
          refine qm ?_
          refine hk_region fun K hK => runs_eval tab_ok ?_
          simp only [ev0, evA, evB, evP, fl, gp, tab, simprocAttr, reduceCtorEq, reduceIte]
          refine fin_stop trivial (runs_call (fault_c r.1 j) rfl rfl rfl (by simp only [dstOk, Nat.reduceLT]) (by repeat (first | exact trivial | constructor)) (runs_eval tab_ok ?_))
          simp only [ev0, evA, evB, evP, fl, gp, tab, simprocAttr, reduceCtorEq, reduceIte]
          refine fin_run ?_ (hK _ ?_) <;> clear hK <;> clear K
          · (first | exact trivial | omega | (simp only [In64] at *; omega) | (simp [In64] at *; omega) | (simp_all; done) | skip)
          refine qa (qk (qb (qe (qb (qb (qe (qb ?_)))))))
          simp only [Try.results15, enA, ev0, evA, evB, evP, fl, gp, tab, simprocAttr, reduceCtorEq, reduceIte]
          all_goals (first | rfl | exact ⟨rfl, rfl⟩)
        · cases hC3
      · obtain ⟨hp, hpl⟩ := hg j (by omega)
        refine hk_region fun K hK => runs_eval tab_ok ?_
        simp only [ev0, evA, evB, evP, fl, gp, tab, simprocAttr, reduceCtorEq, reduceIte]
        refine fin_stop trivial (runs_call (permCheck_c hp) rfl rfl rfl (by simp only [dstOk, Nat.reduceLT]) (by repeat (first | exact trivial | constructor)) (runs_eval tab_ok ?_))
        simp only [ev0, evA, evB, evP, fl, gp, tab, simprocAttr, reduceCtorEq, reduceIte]
        refine fin_run ?_ (hK _ ?_) <;> clear hK <;> clear K
        · (first | exact trivial | omega | (simp only [In64] at *; omega) | (simp [In64] at *; omega) | (simp_all; done) | skip)
        refine qa (qm ?_)
        refine hk_region fun K hK => runs_eval tab_ok ?_
        simp only [ev0, evA, evB, evP, fl, gp, tab, simprocAttr, reduceCtorEq, reduceIte]
        refine fin_run ?_ (hK _ ?_) <;> clear hK <;> clear K
        · (first | exact trivial | omega | (simp only [In64] at *; omega) | (simp [In64] at *; omega) | (simp_all; done) | skip)
        refine qa ?_
        refine hk_cond rfl (fun hC3 => ?_) (fun hC3 => ?_)
        · cases hC3
        · (try simp only [nhs] at hC3)
          refine qh (qa (qm ?_))
          refine hk_region fun K hK => runs_eval tab_ok ?_
          simp only [ev0, evA, evB, evP, fl, gp, tab, simprocAttr, reduceCtorEq, reduceIte, ll_length, ll_get (show 0 < l.length by omega), il_length, decide_eq_true (show (((l.getD j []).length : Nat) : Int) = (((l.getD 0 []).length : Nat) : Int) by omega)]
          refine fin_run ?_ (hK _ ?_) <;> clear hK <;> clear K
          · (first | exact trivial | omega | (simp only [In64] at *; omega) | (simp [In64] at *; omega) | (simp_all; done) | skip)
          refine qa ?_
          refine hk_cond rfl (fun hC4 => ?_) (fun hC4 => ?_)
          · cases hC4
          · (try simp only [nhs] at hC4)
            refine qh (qd (qa ?_))
            refine hk_region fun K hK => runs_eval tab_ok ?_
            simp only [ev0, evA, evB, evP, fl, gp, tab, simprocAttr, reduceCtorEq, reduceIte]
            refine fin_run ?_ (hK _ ?_) <;> clear hK <;> clear K
            · (first | exact trivial | omega | (simp only [In64] at *; omega) | (simp [In64] at *; omega) | (simp_all; done) | skip)
            refine qa ?_
            refine ⟨j + 1, [0, 1], by omega, by omega, ?_⟩
            simp only [leq, leA, ev0, evA, evB, evP, fl, gp, tab, simprocAttr, reduceCtorEq, reduceIte] <;> first | trivial | omega | trace_state
    · (try simp only [nhs] at hC2)
      omega
theorem permsT_len (l : List (List Int)) (h1 : 1 ≤ l.length) (h20 : l.length ≤ 20) {k : Nat} (hk : k < l.length) (hg : ∀ j, j < k → PermOk (l.getD j []) ∧ (l.getD j []).length = (l.getD 0 []).length) (hc : PermOk (l.getD k [])) (hr : ¬ (l.getD k []).length = (l.getD 0 []).length) : FnC Try.prog 15 [.list (ll l)] (.tup [gp 0 [], .list (ll []), fl (8, k)]) := by
  refine fnc_of tab_ok Try.func15 rfl (by kernel_rfl) (by rw [Try.ntmps15]; exact Nat.le_add_left 1 _) ?_; rw [Try.ntmps15]
  refine qm ?_
  refine hk_region fun K hK => runs_eval tab_ok ?_
  simp only [ev0, evA, evB, evP, fl, gp, tab, simprocAttr, reduceCtorEq, reduceIte]
  refine fin_run ?_ (hK _ ?_) <;> clear hK <;> clear K
  · (first | exact trivial | omega | (simp only [In64] at *; omega) | (simp [In64] at *; omega) | (simp_all; done) | skip)
  refine qa (qm (qm ?_))
  refine hk_region fun K hK => runs_eval tab_ok ?_
  simp only [ev0, evA, evB, evP, fl, gp, tab, simprocAttr, reduceCtorEq, reduceIte, ll_length, decide_eq_false (show ¬ ((l.length : Nat) : Int) < 1 by omega), decide_eq_false (show ¬ ((l.length : Nat) : Int) > 20 by omega)]
  refine fin_run trivial (hK _ ?_) <;> clear hK <;> clear K
  refine qa ?_
  refine hk_cond rfl (fun hC1 => ?_) (fun hC1 => ?_)
  · cases hC1
  · (try simp only [nhs] at hC1)
    refine qh (qa (qm (qm ?_)))
    refine hk_region fun K hK => runs_eval tab_ok ?_
    simp only [ev0, evA, evB, evP, fl, gp, tab, simprocAttr, reduceCtorEq, reduceIte, ll_length]
    refine fin_run trivial (hK _ ?_) <;> clear hK <;> clear K
    refine qa (ql ?_)
    refine hk_loop (ι := Nat) (fun j => ⟨99, [(0, .p (.list (ll l))), (2, .ptr 0 0), (4, .ptr 1 0), (24, .p (.list (ll l))), (25, .p (.int .i64 l.length)), (26, .p (.int .i64 j))], [.own [.p (.int .i64 0), .p .nil], .own [.p (.int .i64 0), .p (.int .i64 0)]]⟩) (fun j => j ≤ k) (fun j => l.length - j) 0 (Nat.zero_le _) [0, 1] (by simp only [leq, leA, ev0, evA, evB, evP, fl, gp, tab, simprocAttr, reduceCtorEq, reduceIte] <;> first | trivial | trace_state) fun j hj => ?_
    refine qm ?_
    refine hk_region fun K hK => runs_eval tab_ok ?_
    simp only [ev0, evA, evB, evP, fl, gp, tab, simprocAttr, reduceCtorEq, reduceIte]
    refine fin_run trivial (hK _ ?_) <;> clear hK <;> clear K
    refine qa (qm ?_)
    refine hk_cond rfl (fun hC2 => ?_) (fun hC2 => ?_)
    · (try simp only [nhs] at hC2)
      have hjl : j < l.length := by omega
      have hp : PermOk (l.getD j []) := by
        by_cases hjk : j = k
        · rw [hjk]; exact hc
        · exact (hg j (by omega)).1
      refine qh (qa (qm (ql (qm ?_))))
      refine hk_region fun K hK => runs_eval tab_ok ?_
      simp only [ev0, evA, evB, evP, fl, gp, tab, simprocAttr, reduceCtorEq, reduceIte, ll_length, ll_get hjl]
      refine fin_run ?_ (hK _ ?_) <;> clear hK <;> clear K
      · (first | exact trivial | omega | (simp only [In64] at *; omega) | (simp [In64] at *; omega) | (simp_all; done) | skip)
      refine qa (qm (qm ?_))
      refine hk_region fun K hK => runs_eval tab_ok ?_
      simp only [ev0, evA, evB, evP, fl, gp, tab, simprocAttr, reduceCtorEq, reduceIte]
      refine fin_stop trivial (runs_call (permCheck_c hp) rfl rfl rfl (by simp only [dstOk, Nat.reduceLT]) (by repeat (first | exact trivial | constructor)) (runs_eval tab_ok ?_))
      simp only [ev0, evA, evB, evP, fl, gp, tab, simprocAttr, reduceCtorEq, reduceIte]
      refine fin_run ?_ (hK _ ?_) <;> clear hK <;> clear K
      · (first | exact trivial | omega | (simp only [In64] at *; omega) | (simp [In64] at *; omega) | (simp_all; done) | skip)
      refine qa (qm ?_)
      refine hk_region fun K hK => runs_eval tab_ok ?_
      simp only [ev0, evA, evB, evP, fl, gp, tab, simprocAttr, reduceCtorEq, reduceIte]
      refine fin_run ?_ (hK _ ?_) <;> clear hK <;> clear K
      · (first | exact trivial | omega | (simp only [In64] at *; omega) | (simp [In64] at *; omega) | (simp_all; done) | skip)
      refine qa ?_
      refine hk_cond rfl (fun hC3 => ?_) (fun hC3 => ?_)
      · cases hC3
      · (try simp only [nhs] at hC3)
        refine qh (qa (qm ?_))
        by_cases hjk : j = k
        · subst hjk
          refine hk_region fun K hK => runs_eval tab_ok ?_
          simp only [ev0, evA, evB, evP, fl, gp, tab, simprocAttr, reduceCtorEq, reduceIte, ll_length, ll_get (show 0 < l.length by omega), il_length, decide_eq_false (show ¬ (((l.getD j []).length : Nat) : Int) = (((l.getD 0 []).length : Nat) : Int) by omega)]
          refine fin_run ?_ (hK _ ?_) <;> clear hK <;> clear K
          · (first | exact trivial | omega | (simp only [In64] at *; omega) | (simp [In64] at *; omega) | (simp_all; done) | skip)
          refine qa ?_
          refine hk_cond rfl (fun hC4 => ?_) (fun hC4 => ?_)
          · (try simp only [nhs] at hC4)
            refine qm ?_
            refine hk_region fun K hK => runs_eval tab_ok ?_
            simp only [ev0, evA, evB, evP, fl, gp, tab, simprocAttr, reduceCtorEq, reduceIte]
            refine fin_stop trivial (runs_call (fault_c 8 j) rfl rfl rfl (by simp only [dstOk, Nat.reduceLT]) (by repeat (first | exact trivial | constructor)) (runs_eval tab_ok ?_))
            simp only [ev0, evA, evB, evP, fl, gp, tab, simprocAttr, reduceCtorEq, reduceIte]
            refine fin_run ?_ (hK _ ?_) <;> clear hK <;> clear K
            · (first | exact trivial | omega | (simp only [In64] at *; omega) | (simp [In64] at *; omega) | (simp_all; done) | skip)
            refine qa (qk (qe (qb (qb (qe (qb ?_))))))
            simp only [Try.results15, enA, ev0, evA, evB, evP, fl, gp, tab, simprocAttr, reduceCtorEq, reduceIte]
            all_goals (first | rfl | exact ⟨rfl, rfl⟩)
          · cases hC4
        · obtain ⟨_, hpl⟩ := hg j (by omega)
          refine hk_region fun K hK => runs_eval tab_ok ?_
          simp only [ev0, evA, evB, evP, fl, gp, tab, simprocAttr, reduceCtorEq, reduceIte, ll_length, ll_get (show 0 < l.length by omega), il_length, decide_eq_true (show (((l.getD j []).length : Nat) : Int) = (((l.getD 0 []).length : Nat) : Int) by omega)]
          refine fin_run ?_ (hK _ ?_) <;> clear hK <;> clear K
          · (first | exact trivial | omega | (simp only [In64] at *; omega) | (simp [In64] at *; omega) | (simp_all; done) | skip)
          refine qa ?_
          refine hk_cond rfl (fun hC4 => ?_) (fun hC4 => ?_)
          · cases hC4
          · (try simp only [nhs] at hC4)
            refine qh (qd (qa ?_))
            refine hk_region fun K hK => runs_eval tab_ok ?_
            simp only [ev0, evA, evB, evP, fl, gp, tab, simprocAttr, reduceCtorEq, reduceIte]
            refine fin_run ?_ (hK _ ?_) <;> clear hK <;> clear K
            · (first | exact trivial | omega | (simp only [In64] at *; omega) | (simp [In64] at *; omega) | (simp_all; done) | skip)
            refine qa ?_
            refine ⟨j + 1, [0, 1], by omega, by omega, ?_⟩
            simp only [leq, leA, ev0, evA, evB, evP, fl, gp, tab, simprocAttr, reduceCtorEq, reduceIte] <;> first | trivial | omega | trace_state
    · (try simp only [nhs] at hC2)
      omega

def pmt (T : List (List Int)) (a b : Nat) : Int := lix (fun y => decide (thn (T.getD a []) (T.getD b []) = y)) T
def onT : Option (List (List Int)) → PV
  | none => .tup [gp 0 [], .list (ll []), fl (9, 0)]
  | some T => .tup [gp (srtL T).length (tbl (pmt (srtL T)) (srtL T).length), .list (ll (srtL T)), fl (0, 0)]
set_option maxHeartbeats 4000000 in
theorem permsT_ok (l : List (List Int)) (c : Nat) (hc : c ≤ 1000) (h1 : 1 ≤ l.length) (h20 : l.length ≤ 20) (hl : ∀ q ∈ l, PermOk q ∧ q.length = c) : FnC Try.prog 15 [.list (ll l)] (onT (pqcl l 61 [idr c] 0)) := by
  have h0 := hl _ (getD_memR (show 0 < l.length by omega))
  generalize hRR : pqcl l 61 [idr c] 0 = RR
  have hI0 : PqI l c [idr c] := ⟨by simp, by simp, by simp, fun t ht => by rw [List.mem_singleton.1 ht]; exact ⟨idr_perm hc, idr_len c⟩⟩
  refine fnc_of tab_ok Try.func15 rfl (by kernel_rfl) (by rw [Try.ntmps15]; exact Nat.le_add_left 1 _) ?_; rw [Try.ntmps15]
  refine qm ?_
  refine hk_region fun K hK => runs_eval tab_ok ?_
  simp only [ev0, evA, evB, evP, fl, gp, tab, simprocAttr, reduceCtorEq, reduceIte]
  refine fin_run ?_ (hK _ ?_) <;> clear hK <;> clear K
  · (first | exact trivial | omega | (simp only [In64] at *; omega) | (simp [In64] at *; omega) | (simp_all; done) | skip)
  refine qa (qm (qm ?_))
  refine hk_region fun K hK => runs_eval tab_ok ?_
  simp only [ev0, evA, evB, evP, fl, gp, tab, simprocAttr, reduceCtorEq, reduceIte, ll_length, decide_eq_false (show ¬ ((l.length : Nat) : Int) < 1 by omega), decide_eq_false (show ¬ ((l.length : Nat) : Int) > 20 by omega)]
  refine fin_run trivial (hK _ ?_) <;> clear hK <;> clear K
  refine qa ?_
  refine hk_cond rfl (fun hC1 => ?_) (fun hC1 => ?_)
  · cases hC1
  · (try simp only [nhs] at hC1)
    refine qh (qa (qm (qm ?_)))
    refine hk_region fun K hK => runs_eval tab_ok ?_
    simp only [ev0, evA, evB, evP, fl, gp, tab, simprocAttr, reduceCtorEq, reduceIte, ll_length]
    refine fin_run trivial (hK _ ?_) <;> clear hK <;> clear K
    refine qa (ql ?_)
    refine hk_loop (ι := Nat) (fun j => ⟨99, [(0, .p (.list (ll l))), (2, .ptr 0 0), (4, .ptr 1 0), (24, .p (.list (ll l))), (25, .p (.int .i64 l.length)), (26, .p (.int .i64 j))], [.own [.p (.int .i64 0), .p .nil], .own [.p (.int .i64 0), .p (.int .i64 0)]]⟩) (fun j => j ≤ l.length) (fun j => l.length - j) 0 (Nat.zero_le _) [0, 1] (by simp only [leq, leA, ev0, evA, evB, evP, fl, gp, tab, simprocAttr, reduceCtorEq, reduceIte] <;> first | trivial | trace_state) fun j hj => ?_
    refine qm ?_
    refine hk_region fun K hK => runs_eval tab_ok ?_
    simp only [ev0, evA, evB, evP, fl, gp, tab, simprocAttr, reduceCtorEq, reduceIte]
    refine fin_run trivial (hK _ ?_) <;> clear hK <;> clear K
    refine qa (qm ?_)
    refine hk_cond rfl (fun hC2 => ?_) (fun hC2 => ?_)
    · (try simp only [nhs] at hC2)
      have hjl : j < l.length := by omega
      have hpj := hl _ (getD_memR hjl)
      refine qh (qa (qm (ql (qm ?_))))
      refine hk_region fun K hK => runs_eval tab_ok ?_
      simp only [ev0, evA, evB, evP, fl, gp, tab, simprocAttr, reduceCtorEq, reduceIte, ll_length, ll_get hjl]
      refine fin_run ?_ (hK _ ?_) <;> clear hK <;> clear K
      · (first | exact trivial | omega | (simp only [In64] at *; omega) | (simp [In64] at *; omega) | (simp_all; done) | skip)
      refine qa (qm (qm ?_))
      refine hk_region fun K hK => runs_eval tab_ok ?_
      simp only [ev0, evA, evB, evP, fl, gp, tab, simprocAttr, reduceCtorEq, reduceIte]
      refine fin_stop trivial (runs_call (permCheck_c hpj.1) rfl rfl rfl (by simp only [dstOk, Nat.reduceLT]) (by repeat (first | exact trivial | constructor)) (runs_eval tab_ok ?_))
      simp only [ev0, evA, evB, evP, fl, gp, tab, simprocAttr, reduceCtorEq, reduceIte]
      refine fin_run ?_ (hK _ ?_) <;> clear hK <;> clear K
      · (first | exact trivial | omega | (simp only [In64] at *; omega) | (simp [In64] at *; omega) | (simp_all; done) | skip)
      refine qa (qm ?_)
      refine hk_region fun K hK => runs_eval tab_ok ?_
      simp only [ev0, evA, evB, evP, fl, gp, tab, simprocAttr, reduceCtorEq, reduceIte]
      refine fin_run ?_ (hK _ ?_) <;> clear hK <;> clear K
      · (first | exact trivial | omega | (simp only [In64] at *; omega) | (simp [In64] at *; omega) | (simp_all; done) | skip)
      refine qa ?_
      refine hk_cond rfl (fun hC3 => ?_) (fun hC3 => ?_)
      · cases hC3
      · (try simp only [nhs] at hC3)
        refine qh (qa (qm ?_))
        refine hk_region fun K hK => runs_eval tab_ok ?_
        simp only [ev0, evA, evB, evP, fl, gp, tab, simprocAttr, reduceCtorEq, reduceIte, ll_length, ll_get (show 0 < l.length by omega), il_length, decide_eq_true (show (((l.getD j []).length : Nat) : Int) = (((l.getD 0 []).length : Nat) : Int) by omega)]
        refine fin_run ?_ (hK _ ?_) <;> clear hK <;> clear K
        · (first | exact trivial | omega | (simp only [In64] at *; omega) | (simp [In64] at *; omega) | (simp_all; done) | skip)
        refine qa ?_
        refine hk_cond rfl (fun hC4 => ?_) (fun hC4 => ?_)
        · cases hC4
        · (try simp only [nhs] at hC4)
          refine qh (qd (qa ?_))
          refine hk_region fun K hK => runs_eval tab_ok ?_
          simp only [ev0, evA, evB, evP, fl, gp, tab, simprocAttr, reduceCtorEq, reduceIte]
          refine fin_run ?_ (hK _ ?_) <;> clear hK <;> clear K
          · (first | exact trivial | omega | (simp only [In64] at *; omega) | (simp [In64] at *; omega) | (simp_all; done) | skip)
          refine qa ?_
          refine ⟨j + 1, [0, 1], by omega, by omega, ?_⟩
          simp only [leq, leA, ev0, evA, evB, evP, fl, gp, tab, simprocAttr, reduceCtorEq, reduceIte] <;> first | trivial | omega | trace_state
    · (try simp only [nhs] at hC2)
      refine qj (qc (qc (qf (qa (qm ?_)))))
      refine hk_region fun K hK => runs_eval tab_ok ?_
      simp only [ev0, evA, evB, evP, fl, gp, tab, simprocAttr, reduceCtorEq, reduceIte, ll_length, ll_get (show 0 < l.length by omega), il_length, h0.2]
      refine fin_stop ?_ (runs_call (stay_c c (by omega)) rfl rfl rfl (by simp only [dstOk, Nat.reduceLT]) (by repeat (first | exact trivial | constructor)) (runs_op (buildOwn_does (n := 1) (l := [.list (il (idr c))]) tab_ok rfl rfl rfl rfl rfl rfl rfl ⟨⟨rfl, rfl, rfl⟩, trivial⟩ rfl (by decide) rfl) rfl (show (57 : Nat) < 99 by decide) (runs_eval tab_ok ?_)))
      · omega
      simp only [ev0, evA, evB, evP, fl, gp, tab, simprocAttr, reduceCtorEq, reduceIte]
      refine fin_run ?_ (hK _ ?_) <;> clear hK <;> clear K
      · trivial
      refine qa (qm ?_)
      refine hk_region fun K hK => runs_eval tab_ok ?_
      simp only [ev0, evA, evB, evP, fl, gp, tab, simprocAttr, reduceCtorEq, reduceIte]
      refine fin_stop ?_ (runs_op (mkCl_does rfl rfl) rfl (by simp only [dstOk, Nat.reduceLT]) (runs_eval tab_ok ?_))
      · (first | exact trivial | omega | (simp only [In64] at *; omega) | (simp [In64] at *; omega) | (simp_all; done) | skip)
      simp only [ev0, evA, evB, evP, fl, gp, tab, simprocAttr, reduceCtorEq, reduceIte]
      refine fin_run ?_ (hK _ ?_) <;> clear hK <;> clear K
      · (first | exact trivial | omega | (simp only [In64] at *; omega) | (simp [In64] at *; omega) | (simp_all; done) | skip)
      refine qa (qm (qm ?_))
      refine hk_region fun K hK => runs_eval tab_ok ?_
      simp only [ev0, evA, evB, evP, fl, gp, tab, simprocAttr, reduceCtorEq, reduceIte]
      refine fin_run trivial (hK _ ?_) <;> clear hK <;> clear K
      refine qa (ql ?_)
      refine hk_loop (ι := Nat × List (List Int)) (fun s => ⟨99, [(0, .p (.list (ll l))), (2, .ptr 0 0), (4, .ptr 1 0), (8, .ptr 3 0), (9, .cl 39 [.ptr 3 0]), (10, .p (.int .i64 s.1))], [.own [.p (.int .i64 0), .p .nil], .own [.p (.int .i64 0), .p (.int .i64 0)], .own (opl (ll s.2)), .own [.sl 2 0 s.2.length]]⟩) (fun s => s.1 ≤ s.2.length ∧ PqI l c s.2 ∧ pqcl l (61 - s.1) s.2 s.1 = RR) (fun s => 61 - s.1) (0, [idr c]) ⟨Nat.zero_le _, hI0, hRR⟩ [0, 1, 2, 3] (by simp only [leq, leA, ev0, evA, evB, evP, fl, gp, tab, simprocAttr, reduceCtorEq, reduceIte, ll_takeL] <;> first | trivial | trace_state) fun s hs => ?_
      obtain ⟨i, T⟩ := s
      obtain ⟨hi, hT, hR⟩ := hs
      simp only at hi hT hR
      have hTl := hT.len
      refine qm (qm ?_)
      refine hk_region fun K hK => runs_eval tab_ok ?_
      simp only [ev0, evA, evB, evP, fl, gp, tab, simprocAttr, reduceCtorEq, reduceIte]
      refine fin_run ?_ (hK _ ?_) <;> clear hK <;> clear K
      · (first | exact trivial | omega | (simp only [In64] at *; omega) | (simp [In64] at *; omega) | (simp_all; done) | skip)
      refine qa ?_
      refine hk_cond rfl (fun hC5 => ?_) (fun hC5 => ?_)
      · (try simp only [nhs] at hC5)
        have hil : i < T.length := by omega
        rw [show 61 - i = (60 - i) + 1 by omega, pqcl, if_pos hil] at hR
        refine qh (qa (qm (ql (qm ?_))))
        refine hk_region fun K hK => runs_eval tab_ok ?_
        simp only [ev0, evA, evB, evP, fl, gp, tab, simprocAttr, reduceCtorEq, reduceIte, ll_length]
        refine fin_run trivial (hK _ ?_) <;> clear hK <;> clear K
        refine qa (ql ?_)
        refine hk_loop (ι := Nat × List (List Int)) (fun s => ⟨99, [(0, .p (.list (ll l))), (2, .ptr 0 0), (4, .ptr 1 0), (8, .ptr 3 0), (9, .cl 39 [.ptr 3 0]), (10, .p (.int .i64 i)), (65, .p (.list (ll l))), (66, .p (.int .i64 l.length)), (67, .p (.int .i64 s.1))], [.own [.p (.int .i64 0), .p .nil], .own [.p (.int .i64 0), .p (.int .i64 0)], .own (opl (ll s.2)), .own [.sl 2 0 s.2.length]]⟩) (fun s => s.1 ≤ l.length ∧ i < s.2.length ∧ PqI l c s.2 ∧ (pqrow (s.2.getD i []) (l.drop s.1) s.2).bind (fun T' => pqcl l (60 - i) T' (i + 1)) = RR) (fun s => l.length - s.1) (0, T) ⟨Nat.zero_le _, hil, hT, hR⟩ [0, 1, 2, 3] (by simp only [leq, leA, ev0, evA, evB, evP, fl, gp, tab, simprocAttr, reduceCtorEq, reduceIte, ll_takeL] <;> first | trivial | trace_state) fun s hs => ?_
        obtain ⟨k, W⟩ := s
        obtain ⟨hk, hiW, hW, hRW⟩ := hs
        simp only at hk hiW hW hRW
        have hWl := hW.len
        refine qm ?_
        refine hk_region fun K hK => runs_eval tab_ok ?_
        simp only [ev0, evA, evB, evP, fl, gp, tab, simprocAttr, reduceCtorEq, reduceIte]
        refine fin_run trivial (hK _ ?_) <;> clear hK <;> clear K
        refine qa (qm ?_)
        refine hk_cond rfl (fun hC6 => ?_) (fun hC6 => ?_)
        · (try simp only [nhs] at hC6)
          have hkl : k < l.length := by omega
          have hWi := hW.perm _ (getD_memR hiW)
          have hlk := hl _ (getD_memR hkl)
          have hgi := fun d => oll_get (ls := W) (i := i) hiW d
          have hli := hWi.1.len
          have hx : PermOk (thn (W.getD i []) (l.getD k [])) ∧ (thn (W.getD i []) (l.getD k [])).length = c := ⟨thn_perm hWi.1 hlk.1 (by rw [hlk.2, hWi.2]), by rw [thn_len]; exact hWi.2⟩
          have hxl := hx.1.len
          rw [pqrow_drop hkl] at hRW
          refine qh (qa (qm (ql (qm ?_))))
          refine hk_region fun K hK => runs_eval tab_ok ?_
          simp only [ev0, evA, evB, evP, fl, gp, tab, simprocAttr, reduceCtorEq, reduceIte, ll_length, ll_get hkl]
          refine fin_run ?_ (hK _ ?_) <;> clear hK <;> clear K
          · (first | exact trivial | omega | (simp only [In64] at *; omega) | (simp [In64] at *; omega) | (simp_all; done) | skip)
          refine qa (qm ?_)
          refine hk_region fun K hK => runs_eval tab_ok ?_
          simp only [ev0, evA, evB, evP, fl, gp, tab, simprocAttr, reduceCtorEq, reduceIte, hgi, ll_length]
          refine fin_stop ?_ (runs_call (times_c hWi.1 (show (l.getD k []).length = (W.getD i []).length by rw [hlk.2, hWi.2])) rfl rfl rfl (by simp only [dstOk, Nat.reduceLT]) (by repeat (first | exact trivial | constructor)) (runs_eval tab_ok ?_))
          · exact ⟨⟨by omega, by omega⟩, by omega⟩
          simp only [ev0, evA, evB, evP, fl, gp, tab, simprocAttr, reduceCtorEq, reduceIte, hgi, ll_length]
          refine fin_run ?_ (hK _ ?_) <;> clear hK <;> clear K
          · (first | exact trivial | omega | (simp only [In64] at *; omega) | (simp [In64] at *; omega) | (simp_all; done) | skip)
          refine qa (qm ?_)
          generalize hX : thn (W.getD i []) (l.getD k []) = X at *
          refine hk_region fun K hK => runs_eval tab_ok ?_
          simp only [ev0, evA, evB, evP, fl, gp, tab, simprocAttr, reduceCtorEq, reduceIte]
          refine fin_stop ?_ (runs_callMc [3, 2] (phas_m W X (by omega) (by omega) hW.rows) rfl rfl ?_ (by simp only [leA, ev0, evA, evB, evP, fl, gp, tab, simprocAttr, reduceCtorEq, reduceIte]; first | trivial | (simp only [ll_takeL]; first | trivial | (repeat constructor; done)) | (repeat constructor)) (by decide) (by first | rfl | (simp only [List.length_cons, List.length_nil, List.length_append]; decide)) (by first | rfl | (simp only [scM, opl_sc, List.all_cons, List.all_nil, List.length_cons, List.length_nil]; first | rfl | decide) | (simp [scM, scA, sc1, mpKeep, notAnc]; done)) (by simp only [dstOk, Nat.reduceLT]) (runs_eval tab_ok ?_))
          · (first | exact trivial | omega | (simp only [In64] at *; omega) | (simp [In64] at *; omega) | (simp_all; done) | skip)
          · (simp only [argsM, argM1, peekG, peekS, scA, sc1, ren, ren1, List.map_cons, List.map_nil, List.append_nil, List.cons_append, List.nil_append, enA, ev0, evA, evB, evP, fl, gp, tab, simprocAttr, reduceCtorEq, reduceIte]; try trivial)
          simp only [putM, hset, List.range', Blk.ren, ren, ren1, List.map_cons, List.map_nil, List.cons_append, List.nil_append, List.append_nil, List.length_cons, List.length_nil, ev0, evA, evB, evP, fl, gp, tab, simprocAttr, reduceCtorEq, reduceIte]
          refine fin_run trivial (hK _ ?_) <;> clear hK <;> clear K
          refine qa ?_
          refine hk_cond rfl (fun hC7 => ?_) (fun hC7 => ?_)
          · (try simp only [nhs] at hC7)
            have hnin : ¬ X ∈ W := by simpa using hC7
            refine qm ?_
            refine hk_region fun K hK => runs_eval tab_ok ?_
            simp only [ev0, evA, evB, evP, fl, gp, tab, simprocAttr, reduceCtorEq, reduceIte, ll_takeL, oll_ok, ll_snoc]
            refine fin_run ?_ (hK _ ?_) <;> clear hK <;> clear K
            · first | (simp [cellOk, PV.one]; done) | (simp [cellOk, PV.one]; omega)
            refine qa (qm ?_)
            refine hk_region fun K hK => runs_eval tab_ok ?_
            simp only [ev0, evA, evB, evP, fl, gp, tab, simprocAttr, reduceCtorEq, reduceIte, ll_length, List.length_append, List.length_cons, List.length_nil]
            refine fin_run ?_ (hK _ ?_) <;> clear hK <;> clear K
            · (first | exact trivial | omega | (simp only [In64] at *; omega) | (simp [In64] at *; omega) | (simp_all; done) | skip)
            refine qa ?_
            refine hk_cond rfl (fun hC8 => ?_) (fun hC8 => ?_)
            · (try simp only [nhs] at hC8)
              have hov : W.length + 1 > 60 := by omega
              rw [if_neg hnin, if_pos hov] at hRW
              have hRn : RR = none := by rw [← hRW]; rfl
              refine qm ?_
              refine hk_region fun K hK => runs_eval tab_ok ?_
              simp only [ev0, evA, evB, evP, fl, gp, tab, simprocAttr, reduceCtorEq, reduceIte]
              refine fin_stop trivial (runs_call (fault_c 9 0) rfl rfl rfl (by simp only [dstOk, Nat.reduceLT]) (by repeat (first | exact trivial | constructor)) (runs_eval tab_ok ?_))
              simp only [ev0, evA, evB, evP, fl, gp, tab, simprocAttr, reduceCtorEq, reduceIte]
              refine fin_run ?_ (hK _ ?_) <;> clear hK <;> clear K
              · (first | exact trivial | omega | (simp only [In64] at *; omega) | (simp [In64] at *; omega) | (simp_all; done) | skip)
              refine qa (qk (qe (qb (qb (qe (qe (qb (qb (qe (qb ?_))))))))))
              simp only [Try.results15, enA, ev0, evA, evB, evP, fl, gp, tab, simprocAttr, reduceCtorEq, reduceIte]
              subst hRn
              first | rfl | exact ⟨rfl, rfl⟩ | trace_state
            · (try simp only [nhs] at hC8)
              have hov : ¬ W.length + 1 > 60 := by omega
              rw [if_neg hnin, if_neg hov] at hRW
              have hgs := getD_snocR (x := X) hiW
              refine qh (qd (qa ?_))
              refine hk_region fun K hK => runs_eval tab_ok ?_
              simp only [ev0, evA, evB, evP, fl, gp, tab, simprocAttr, reduceCtorEq, reduceIte]
              refine fin_run ?_ (hK _ ?_) <;> clear hK <;> clear K
              · (first | exact trivial | omega | (simp only [In64] at *; omega) | (simp [In64] at *; omega) | (simp_all; done) | skip)
              refine qa ?_
              refine ⟨(k + 1, W ++ [X]), [0, 1, 4, 3], ⟨by show k + 1 ≤ _; omega, by show i < (W ++ [X]).length; rw [List.length_append]; omega, hW.snoc hx hnin hov, by show (pqrow ((W ++ [X]).getD i []) _ _).bind _ = _; rw [hgs]; exact hRW⟩, by show l.length - (k + 1) < l.length - k; omega, ?_⟩
              simp only [leq, leA, ev0, evA, evB, evP, fl, gp, tab, simprocAttr, reduceCtorEq, reduceIte, ll_takeL, ll_snoc, ll_takeS] <;> first | trivial | omega | (simp; done) | trace_state
          · (try simp only [nhs] at hC7)
            have hin : X ∈ W := by simpa using hC7
            rw [if_pos hin] at hRW
            refine qh (qd (qa ?_))
            refine hk_region fun K hK => runs_eval tab_ok ?_
            simp only [ev0, evA, evB, evP, fl, gp, tab, simprocAttr, reduceCtorEq, reduceIte]
            refine fin_run ?_ (hK _ ?_) <;> clear hK <;> clear K
            · (first | exact trivial | omega | (simp only [In64] at *; omega) | (simp [In64] at *; omega) | (simp_all; done) | skip)
            refine qa ?_
            refine ⟨(k + 1, W), [0, 1, 2, 3], ⟨by show k + 1 ≤ _; omega, hiW, hW, hRW⟩, by show l.length - (k + 1) < l.length - k; omega, ?_⟩
            simp only [leq, leA, ev0, evA, evB, evP, fl, gp, tab, simprocAttr, reduceCtorEq, reduceIte, ll_takeL, ll_snoc, ll_takeS] <;> first | trivial | omega | (simp; done) | trace_state
        · (try simp only [nhs] at hC6)
          have hkn : k = l.length := by omega
          have hRf : pqcl l (60 - i) W (i + 1) = RR := by
            rw [hkn, List.drop_length] at hRW
            exact hRW
          refine qj (qc (qc (qf (qd (qa ?_)))))
          refine hk_region fun K hK => runs_eval tab_ok ?_
          simp only [ev0, evA, evB, evP, fl, gp, tab, simprocAttr, reduceCtorEq, reduceIte]
          refine fin_run ?_ (hK _ ?_) <;> clear hK <;> clear K
          · (first | exact trivial | omega | (simp only [In64] at *; omega) | (simp [In64] at *; omega) | (simp_all; done) | skip)
          refine qa ?_
          refine ⟨(i + 1, W), [0, 1, 2, 3], ⟨by show i + 1 ≤ W.length; omega, hW, by rw [← hRf]; show pqcl l (61 - (i + 1)) W (i + 1) = _; rw [show 61 - (i + 1) = 60 - i by omega]⟩, by show 61 - (i + 1) < 61 - i; omega, ?_⟩
          simp only [leq, leA, ev0, evA, evB, evP, fl, gp, tab, simprocAttr, reduceCtorEq, reduceIte, ll_takeL, ll_snoc, ll_takeS] <;> first | trivial | omega | (simp; done) | trace_state
      · (try simp only [nhs] at hC5)
        have hin : i = T.length := by omega
        have hRs : RR = some T := by
          rw [← hR, show 61 - i = (60 - i) + 1 by omega, pqcl, if_neg (by omega)]
        have hpos := hT.pos
        have hTp := srtL_perm T
        have hTs := hTp.length_eq
        refine qj (qc (qc (qf (qa (qm ?_)))))
        refine hk_region fun K hK => runs_eval tab_ok ?_
        simp only [ev0, evA, evB, evP, fl, gp, tab, simprocAttr, reduceCtorEq, reduceIte]
        refine fin_stop ?_ (runs_callM [2] (sortLw_c (xs := T) (ys := srtL T) (fun h => by rw [h] at hpos; simp at hpos) (by omega) hT.rows hTp (srtL_sorted T)) rfl rfl ?_ (by simp only [leA, ev0, evA, evB, evP, fl, gp, tab, simprocAttr, reduceCtorEq, reduceIte]; first | trivial | (simp only [ll_takeL]; first | trivial | (repeat constructor; done)) | (repeat constructor)) (by decide) (by first | rfl | (simp only [List.length_cons, List.length_nil, List.length_append]; decide)) (by first | rfl | (simp only [scM, opl_sc, List.all_cons, List.all_nil, List.length_cons, List.length_nil]; first | rfl | decide) | (simp [scM, scA, sc1, mpKeep, notAnc]; done)) (by simp only [dstOk, Nat.reduceLT]) (runs_eval tab_ok ?_))
        · (first | exact trivial | omega | (simp only [In64] at *; omega) | (simp [In64] at *; omega) | (simp_all; done) | skip)
        · (simp only [argsM, argM1, peekG, peekS, scA, sc1, ren, ren1, List.map_cons, List.map_nil, List.append_nil, List.cons_append, List.nil_append, enA, ev0, evA, evB, evP, fl, gp, tab, simprocAttr, reduceCtorEq, reduceIte]; try trivial)
        simp only [putM, hset, List.range', Blk.ren, ren, ren1, List.map_cons, List.map_nil, List.cons_append, List.nil_append, List.append_nil, List.length_cons, List.length_nil, ev0, evA, evB, evP, fl, gp, tab, simprocAttr, reduceCtorEq, reduceIte]
        refine fin_run ?_ (hK _ ?_) <;> clear hK <;> clear K
        · (first | exact trivial | omega | (simp only [In64] at *; omega) | (simp [In64] at *; omega) | (simp_all; done) | skip)
        refine qa (qm ?_)
        refine hk_freeze 2 rfl (opl_allP _) ?_
        refine hk_purec 3 0 rfl rfl rfl ⟨by rw [ll_length]; omega, by rw [List.drop_zero, List.take_of_length_le (by rw [ll_length]; omega)]; exact ll_all _⟩ ?_
        simp only [hset, List.set, List.drop_zero]
        rw [List.take_of_length_le (show (ll (srtL T)).length ≤ T.length by rw [ll_length]; omega)]
        refine hk_freeze 3 rfl rfl ?_
        refine hk_pure 8 rfl (Nat.zero_le _) ?_
        simp only [hset, List.set, List.drop_zero]
        refine hk_draw2 mixed fun K hK => runs2_eval tab_ok ?_
        simp only [evD, ev0, evA, evB, evP, fl, gp, tab, simprocAttr, reduceCtorEq, reduceIte, ll_length]
        refine fin2_stop trivial (runs2_call (made_c (srtL T).length (by omega) 47 [.ptr [.list (ll (srtL T))]] (pmt (srtL T)) (fun a b ha hb => prm2_c (c := c) (by omega) (fun t ht => hT.perm t (hTp.mem_iff.2 ht)) ha hb)) rfl rfl rfl rfl (by simp only [dstOk, Nat.reduceLT]) (by repeat (first | exact trivial | constructor)) (runs2_eval tab_ok ?_))
        simp only [evD, ev0, evA, evB, evP, fl, gp, tab, simprocAttr, reduceCtorEq, reduceIte, ll_length]
        refine fin2_run ?_ (hK _ _ (by first | kernel_rfl | rfl) ?_) <;> clear hK <;> clear K
        · (first | exact trivial | omega | (simp only [In64] at *; omega) | (simp [In64] at *; omega) | (simp_all; done) | skip)
        refine qa (qk ?_)
        simp only [Try.results15, enA, ev0, evA, evB, evP, fl, gp, tab, simprocAttr, reduceCtorEq, reduceIte]
        subst hRs
        first | rfl | trace_state
end Go.Proofs.Ytboadfahlflmhaa

/-
  Tables by a rule. Conditions: none.
-/
set_option linter.all false
namespace Go.Proofs.Ytboadfahlflmhaa
open Go.Pv

theorem tbl_op' (g : Nat → Nat → Nat) {n a b : Nat} (ha : a < n) (hb : b < n) : op (tbl (fun a b => (g a b : Nat)) n) n a b = g a b := by
  unfold op
  rw [tbl_get _ ha hb]; rfl
theorem tbl_Tab {n : Nat} {g : Nat → Nat → Nat} (h1 : 1 ≤ n) (hn : n ≤ 60) (hg : ∀ a b, a < n → b < n → g a b < n) : Tab n (tbl (fun a b => (g a b : Nat)) n) := by
  refine ⟨h1, hn, tbl_len _ _, fun i hi => ?_⟩
  have h1 : i / n < n := Nat.div_lt_of_lt_mul hi
  have h2 : i % n < n := Nat.mod_lt _ (by omega)
  have h3 : i / n * n + i % n = i := by rw [Nat.mul_comm]; exact Nat.div_add_mod i n
  have := tbl_get (fun a b => ((g a b : Nat) : Int)) h1 h2
  rw [h3] at this
  rw [this]
  have := hg _ _ h1 h2
  omega
end Go.Proofs.Ytboadfahlflmhaa

/-
  A region that draws its order, whose last step stands behind all the others: the last step may write what it likes. Conditions: none; a library text.
-/
set_option linter.all false
namespace Go.Pv
open Go.RowKit

section
variable {P : Program}

end
end Go.Pv

/-
  A function that a variable holds, and that holds that variable: it is frozen, and read as deep as one likes. Conditions: none.
-/
set_option linter.all false
namespace Go.Pv
open Go.RowKit
section
variable {P : Program} {C : Ctx} {m : Map} {s : St} {tmps : Array Value} {w : World} {Q : Exit → St → Prop}
/-- A row of the call's own, taken as it stands: its things are written no more. -/
theorem FnG_fnc {f : FuncId} {args l : List PV} (h : FnG P f args (.sl 0 0 l.length) [.own (opl l)]) (hone : l.all PV.one = true) : FnC P f args (.list l) := by
  refine ⟨h.1, fun okA w vals h1 h2 h3 => (h.2 okA w vals h1 h2 h3).mono fun e w' ⟨v, m', he, hbl, ho⟩ => ⟨v, he, hbl, ?_⟩⟩
  cases ho.val with
  | sl _ _ _ _ hk hs =>
    rcases hs with ⟨h0, ad, rfl⟩ | ⟨lc, cap, hm, rfl, hc1, hc2⟩
    · have : l = [] := List.eq_nil_of_length_eq_zero h0
      subst this
      exact .list0 _ _ fun _ => rfl
    · rcases ho.blk 0 (opl l) rfl with ⟨hn, _⟩ | ⟨l', cur, e', hm2, hB, hh, hs1, hs3, hs2, hcells⟩
      · have : l = [] := List.map_eq_nil_iff.1 hn
        subst this
        exact .list0 _ _ fun h => by cases h
      · rw [hm] at hm2; cases hm2
        rw [opl_length] at hs2
        refine row_reads rfl hone ⟨.inr hB, (Array.getElem?_eq_some_iff.1 hh).1⟩ hc1 (fun j => cur.getD (lc.o + j) undef) (fun j hj => ?_) fun j hj => ?_
        · have : lc.o + 0 + j = lc.o + j := by omega
          rw [this]; exact cell_of hh (by omega)
        · have := hcells j (by rw [opl_length]; exact hj)
          have e2 : (opl l)[j]'(by rw [opl_length]; exact hj) = .p l[j] := by simp [opl]
          rw [e2] at this
          exact this.p_inv.mono fun b hb => ⟨hb.1, hb.2.1⟩
end
end Go.Pv

/-
  Arguments of a law, opened: rows of rows of numbers. Conditions: none; a library text.
-/
set_option linter.all false
namespace Go.Pv
open Go.RowKit Go.ChangeShapes Go.WideShapes Go.ChangeAt

section
variable {H : Type} {enc : TypeId × Value → H} {P : Program}
theorem weightsAll_mem {e : TypeId} {f : Nat → Bool} : ∀ {l : List (DataW H)}, (DataW.weightsAll P e l).all f = true → ∀ d ∈ l, (d.weights P e).all f = true
  | [], _, d, hd => by simp at hd
  | x :: r, h, d, hd => by
    simp only [DataW.weightsAll, List.all_append, Bool.and_eq_true] at h
    rcases List.mem_cons.1 hd with rfl | hd
    · exact h.1
    · exact weightsAll_mem h.2 d hd

theorem wcells_one {W : World} {base : Nat} {a : Addr} {u : Value} (h : W.cells? base a 1 = some [u]) : W.cell? a = some u := by
  unfold World.cells? at h
  split at h
  · simp only [List.range_succ, List.range_zero, List.nil_append, List.mapM_cons, List.mapM_nil, Option.bind_eq_bind, Option.pure_def, Option.bind_eq_some_iff] at h
    obtain ⟨v, hv, l, hl, e⟩ := h
    simp only [Option.some.injEq] at hl e
    subst hl
    simp only [List.cons.injEq, and_true] at e
    subst e
    have : a.add 0 = a := by cases a; simp [Addr.add]
    rwa [this] at hv
  · cases h

theorem open_ll {t e ti : TypeId} {W : World} {base : Nat} {v : Value} {d : DataW H} {p : List MemPlace} (ht : P.underlying t = some (.slice e)) (he : P.underlying e = some (.slice ti)) (hti : P.underlying ti = some (.int .i64)) (hce : P.cellsOf e = 1) (hc : P.cellsOf ti = 1)
    (hbe : P.bytesOf e = 24) (hby : P.bytesOf ti = 8) (hval : Value.okWide P W .any base t v) (h : DataW.Trod enc P W 0 (fun _ => true) true t v d p) (hw : (d.weights P t).all (· ≤ reachBytes) = true) :
    ∃ ls : List (List Int), (∀ w ∈ ls, w.length ≤ 17592186043904) ∧ ls.length ≤ 17592186043904 ∧ Reads (fun b => b < W.heap.size) W (.list (ll ls)) v := by
  obtain ⟨a0, len0, cap0, rfl⟩ := okWide_slice ht hval
  obtain ⟨fuel, hf⟩ := h
  rcases DataW.trod_slice ht hf with ⟨hcs, hx⟩ | ⟨a, len, cap, elems, rest, n, _, hcs, hx, hb, hle, hmax, hlen, hel, _, _⟩
  · simp [Value.cells] at hcs
    obtain ⟨rfl, rfl, rfl⟩ := hcs
    exact ⟨[], fun x hx => by simp at hx, Nat.zero_le _, .list0 none 0 fun _ => rfl⟩
  · simp [Value.cells] at hcs
    obtain ⟨rfl, rfl, rfl⟩ := hcs
    simp only [Prod.mk.injEq] at hx
    obtain ⟨rfl, rfl⟩ := hx
    simp only [DataW.weights, ht, hbe, List.all_cons, List.all_append, Bool.and_eq_true, decide_eq_true_eq, List.length_map] at hw
    obtain ⟨hw1, hw2, _⟩ := hw
    unfold reachBytes at hw1
    have each : ∀ i, ∃ xs : List Int, ∃ u : Value, i < len0 → W.cell? (a.add i) = some u ∧ xs.length ≤ 17592186043904 ∧ Reads (fun b => b < W.heap.size) W (.list (il xs)) u := by
      intro i
      by_cases hi : i < len0
      · have h1 := hel i hi
        rw [hce, Nat.mul_one, List.getElem?_eq_getElem (show i < elems.length by omega)] at h1
        obtain ⟨cs, hcs, htr⟩ := Option.bind_eq_some_iff.1 h1
        have hwi := weightsAll_mem hw2 (elems[i]'(by omega)).1 (List.mem_map.2 ⟨_, List.getElem_mem _, rfl⟩)
        obtain ⟨xs, u, rfl, _, g2, g3⟩ := il_of_trod he hti hc hby htr hwi
        exact ⟨xs, u, fun _ => ⟨wcells_one hcs, g2, g3⟩⟩
      · exact ⟨[], undef, fun h => absurd h hi⟩
    obtain ⟨fx, hfx⟩ := Classical.skolem.1 each
    obtain ⟨fu, hfu⟩ := Classical.skolem.1 hfx
    refine ⟨(List.range len0).map fx, fun w hw => ?_, by rw [List.length_map, List.length_range]; omega, ?_⟩
    · obtain ⟨i, hi, rfl⟩ := List.mem_map.1 hw
      exact (hfu i (List.mem_range.1 hi)).2.1
    · have hlen' : (ll ((List.range len0).map fx)).length = len0 := by rw [ll_length, List.length_map, List.length_range]
      by_cases h0 : len0 = 0
      · subst h0
        exact .list0 _ _ fun h => by cases h
      · obtain ⟨b, off, spot⟩ := a
        have hspot : spot = none := by simpa [Addr.add] using World.cell?_spot (hfu 0 (by omega)).1
        subst hspot
        have hone : ∀ x ∈ ll ((List.range len0).map fx), x.cells.length = 1 := by
          intro x hx
          obtain ⟨y, _, rfl⟩ := List.mem_map.1 hx
          rfl
        have hfl : flat (ll ((List.range len0).map fx)) = ll ((List.range len0).map fx) := flat_all_one (ll_all _)
        have hcell' : ∀ c, c < len0 → W.cell? ⟨b, off + c, none⟩ = some (fu c) := fun c hc => by rw [← Go.WideShapes.add_plain]; exact (hfu c hc).1
        have := Reads.list (ok := fun b => b < W.heap.size) (w := W) (ll ((List.range len0).map fx)) b off cap0 1 fu ?_ hone (by rw [hlen']; exact hle) (fun c hcl => ?_) (fun c hcl => ?_)
        · rwa [hlen'] at this
        · have := hcell' 0 (by omega)
          simp only [World.cell?] at this
          by_cases hb : b < W.heap.size
          · exact hb
          · rw [Array.getElem?_eq_none (by omega)] at this
            simp at this
        · rw [hfl, hlen'] at hcl
          exact hcell' c hcl
        · simp only [hfl]
          have hcl2 : c < len0 := by rw [hfl, hlen'] at hcl; exact hcl
          have e : (ll ((List.range len0).map fx))[c]'(by rw [hlen']; exact hcl2) = .list (il (fx c)) := by
            simp [ll]
          rw [e]
          exact (hfu c hcl2).2.2
end
end Go.Pv

/-
  The law TablePerms. Conditions: none. (Printed by gen_qp7.py.)
-/
set_option linter.all false
namespace Go.Proofs.Ytboadfahlflmhaa
open Go.Pv

theorem lists_b (a b : List (List Int)) (ha : a.length ≤ 1000000) (hx : ∀ x ∈ a, x.length ≤ 17592186043904) : FnC Try.prog 19 [.list (ll a), .list (ll b)] (.bool (decide (a = b))) := by
  refine fnc_of tab_ok Try.func19 rfl (by kernel_rfl) (by rw [Try.ntmps19]; exact Nat.le_add_left 2 _) ?_; rw [Try.ntmps19]
  refine qm ?_
  refine hk_region fun K hK => runs_eval tab_ok ?_
  simp only [ev0, evA, evB, evP, fl, gp, tab, simprocAttr, reduceCtorEq, reduceIte]
  refine fin_run trivial (hK _ ?_) <;> clear hK <;> clear K
  refine qa (qm (qm ?_))
  refine hk_region fun K hK => runs_eval tab_ok ?_
  simp only [ev0, evA, evB, evP, fl, gp, tab, simprocAttr, reduceCtorEq, reduceIte, ll_length]
  refine fin_run trivial (hK _ ?_) <;> clear hK <;> clear K
  refine qa ?_
  refine hk_cond rfl (fun hC1 => ?_) (fun hC1 => ?_)
  · (try simp only [nhs] at hC1)
    refine qm ?_
    refine hk_region fun K hK => runs_eval tab_ok ?_
    simp only [ev0, evA, evB, evP, fl, gp, tab, simprocAttr, reduceCtorEq, reduceIte]
    refine fin_run trivial (hK _ ?_) <;> clear hK <;> clear K
    refine qa (qk (qb ?_))
    simp only [Try.results19, enA, ev0, evA, evB, evP, fl, gp, tab, simprocAttr, reduceCtorEq, reduceIte]
    have : a ≠ b := by intro h; subst h; simp at hC1
    simp [this]
  · (try simp only [nhs] at hC1)
    have hn : a.length = b.length := by omega
    refine qh (qa (qm (qm ?_)))
    refine hk_region fun K hK => runs_eval tab_ok ?_
    simp only [ev0, evA, evB, evP, fl, gp, tab, simprocAttr, reduceCtorEq, reduceIte]
    refine fin_run trivial (hK _ ?_) <;> clear hK <;> clear K
    refine qa (ql ?_)
    refine hk_loop (ι := Nat) (fun i => ⟨27, [(0, .p (.list (ll a))), (1, .p (.list (ll b))), (5, .p (.int .i64 i))], []⟩) (fun i => i ≤ a.length ∧ a.take i = b.take i) (fun i => a.length - i) 0 ⟨Nat.zero_le _, rfl⟩ [] (by simp only [leq, leA, ev0, evA, evB, evP, fl, gp, tab, simprocAttr, reduceCtorEq, reduceIte] <;> trivial) fun i hi => ?_
    obtain ⟨hi1, hi2⟩ := hi
    refine qm (qm ?_)
    refine hk_region fun K hK => runs_eval tab_ok ?_
    simp only [ev0, evA, evB, evP, fl, gp, tab, simprocAttr, reduceCtorEq, reduceIte, ll_length]
    refine fin_run trivial (hK _ ?_) <;> clear hK <;> clear K
    refine qa ?_
    refine hk_cond rfl (fun hC2 => ?_) (fun hC2 => ?_)
    · (try simp only [nhs] at hC2)
      have hlt : i < a.length := by omega
      have hma : (a.getD i []).length ≤ 17592186043904 := hx _ (by simp [List.getD, List.getElem?_eq_getElem hlt])
      refine qh (qa (qm (ql (qm ?_))))
      refine hk_draw mixed (by kernel_rfl) fun K hK => runs_eval tab_ok ?_
      simp only [ev0, evA, evB, evP, fl, gp, tab, simprocAttr, reduceCtorEq, reduceIte, ll_length, ll_get hlt, ll_get (show i < b.length by omega)]
      refine fin_stop ?_ (runs_call (ints_c (a.getD i []) (b.getD i []) (by omega)) rfl rfl rfl (by simp only [dstOk, Nat.reduceLT]) (by repeat (first | exact trivial | constructor)) (runs_eval tab_ok ?_))
      · (first | exact trivial | omega | (simp only [In64] at *; omega) | (simp [In64] at *; omega) | (simp_all; done) | skip)
      simp only [ev0, evA, evB, evP, fl, gp, tab, simprocAttr, reduceCtorEq, reduceIte, ll_length, ll_get hlt, ll_get (show i < b.length by omega)]
      refine fin_run ?_ (hK _ ?_) <;> clear hK <;> clear K
      · (first | exact trivial | omega | (simp only [In64] at *; omega) | (simp [In64] at *; omega) | (simp_all; done) | skip)
      refine qa ?_
      refine hk_cond rfl (fun hC3 => ?_) (fun hC3 => ?_)
      · (try simp only [nhs] at hC3)
        refine qm ?_
        refine hk_region fun K hK => runs_eval tab_ok ?_
        simp only [ev0, evA, evB, evP, fl, gp, tab, simprocAttr, reduceCtorEq, reduceIte]
        refine fin_run trivial (hK _ ?_) <;> clear hK <;> clear K
        refine qa (qk (qe (qb (qb (qe (qb ?_))))))
        simp only [Try.results19, enA, ev0, evA, evB, evP, fl, gp, tab, simprocAttr, reduceCtorEq, reduceIte]
        have : a ≠ b := by intro h; subst h; simp at hC3
        simp [this]
      · (try simp only [nhs] at hC3)
        refine qh (qd (qa ?_))
        refine hk_region fun K hK => runs_eval tab_ok ?_
        simp only [ev0, evA, evB, evP, fl, gp, tab, simprocAttr, reduceCtorEq, reduceIte]
        refine fin_run ?_ (hK _ ?_) <;> clear hK <;> clear K
        · (first | exact trivial | omega | (simp only [In64] at *; omega) | (simp [In64] at *; omega) | (simp_all; done) | skip)
        refine qa ?_
        refine ⟨i + 1, [], ⟨by omega, ?_⟩, by omega, ?_⟩
        · rw [List.take_succ_eq_append_getElem hlt, List.take_succ_eq_append_getElem (show i < b.length by omega), hi2]
          simp [List.getD, List.getElem?_eq_getElem hlt, List.getElem?_eq_getElem (show i < b.length by omega)] at hC3
          rw [hC3]
        · simp only [leq, leA, ev0, evA, evB, evP, fl, gp, tab, simprocAttr, reduceCtorEq, reduceIte] <;> first | trivial | omega
    · (try simp only [nhs] at hC2)
      refine qj (qc (qc (qf (qa (qm ?_)))))
      refine hk_region fun K hK => runs_eval tab_ok ?_
      simp only [ev0, evA, evB, evP, fl, gp, tab, simprocAttr, reduceCtorEq, reduceIte]
      refine fin_run trivial (hK _ ?_) <;> clear hK <;> clear K
      refine qa (qk ?_)
      simp only [Try.results19, enA, ev0, evA, evB, evP, fl, gp, tab, simprocAttr, reduceCtorEq, reduceIte]
      have : i = a.length := by omega
      subst this
      rw [List.take_length, List.take_of_length_le (by omega)] at hi2
      simp [hi2]
theorem tp_many (l : List (List Int)) (hl0 : l.length ≤ 17592186043904) (hl : ¬ l.length ≤ 1000) : FnC Try.prog 4 [.list (ll l)] (.bool true) := by
  refine fnc_of tab_ok Try.func4 rfl (by kernel_rfl) (by rw [Try.ntmps4]; exact Nat.le_add_left 1 _) ?_; rw [Try.ntmps4]
  refine qm ?_
  refine hk_region fun K hK => runs_eval tab_ok ?_
  simp only [ev0, evA, evB, evP, fl, gp, tab, simprocAttr, reduceCtorEq, reduceIte]
  refine fin_run trivial (hK _ ?_) <;> clear hK <;> clear K
  refine qa (qm (qm ?_))
  refine hk_region fun K hK => runs_eval tab_ok ?_
  simp only [ev0, evA, evB, evP, fl, gp, tab, simprocAttr, reduceCtorEq, reduceIte]
  refine fin_stop trivial (runs_call (begun_c) rfl rfl rfl (by simp only [dstOk, Nat.reduceLT]) (by repeat (first | exact trivial | constructor)) (runs_eval tab_ok ?_))
  simp only [ev0, evA, evB, evP, fl, gp, tab, simprocAttr, reduceCtorEq, reduceIte]
  refine fin_run trivial (hK _ ?_) <;> clear hK <;> clear K
  refine qa ?_
  refine hk_cond rfl (fun hC1 => ?_) (fun hC1 => ?_)
  · cases hC1
  · (try simp only [nhs] at hC1)
    refine qh (qa (qm (qm ?_)))
    refine hk_region fun K hK => runs_eval tab_ok ?_
    simp only [ev0, evA, evB, evP, fl, gp, tab, simprocAttr, reduceCtorEq, reduceIte, ll_length]
    refine fin_run trivial (hK _ ?_) <;> clear hK <;> clear K
    refine qa ?_
    refine hk_cond rfl (fun hC2 => ?_) (fun hC2 => ?_)
    · (try simp only [nhs] at hC2)
      refine qm ?_
      refine hk_region fun K hK => runs_eval tab_ok ?_
      simp only [ev0, evA, evB, evP, fl, gp, tab, simprocAttr, reduceCtorEq, reduceIte]
      refine fin_run trivial (hK _ ?_) <;> clear hK <;> clear K
      refine qa (qk (qb ?_))
      simp only [Try.results4, enA, ev0, evA, evB, evP, fl, gp, tab, simprocAttr, reduceCtorEq, reduceIte]
      all_goals (rfl)
    · (try simp only [nhs] at hC2)
      omega
theorem tp_size (l : List (List Int)) (hl : l.length ≤ 1000) (hb : ∀ w ∈ l, w.length ≤ 17592186043904) (h : l.length < 1 ∨ l.length > 20) : FnC Try.prog 4 [.list (ll l)] (.bool true) := by
  have cP := permsT_size l (by omega) h
  refine fnc_of tab_ok Try.func4 rfl (by kernel_rfl) (by rw [Try.ntmps4]; exact Nat.le_add_left 1 _) ?_; rw [Try.ntmps4]
  refine qm ?_
  refine hk_region fun K hK => runs_eval tab_ok ?_
  simp only [ev0, evA, evB, evP, fl, gp, tab, simprocAttr, reduceCtorEq, reduceIte]
  refine fin_run trivial (hK _ ?_) <;> clear hK <;> clear K
  refine qa (qm (qm ?_))
  refine hk_region fun K hK => runs_eval tab_ok ?_
  simp only [ev0, evA, evB, evP, fl, gp, tab, simprocAttr, reduceCtorEq, reduceIte]
  refine fin_stop trivial (runs_call (begun_c) rfl rfl rfl (by simp only [dstOk, Nat.reduceLT]) (by repeat (first | exact trivial | constructor)) (runs_eval tab_ok ?_))
  simp only [ev0, evA, evB, evP, fl, gp, tab, simprocAttr, reduceCtorEq, reduceIte]
  refine fin_run trivial (hK _ ?_) <;> clear hK <;> clear K
  refine qa ?_
  refine hk_cond rfl (fun hC1 => ?_) (fun hC1 => ?_)
  · cases hC1
  · (try simp only [nhs] at hC1)
    refine qh (qa (qm (qm ?_)))
    refine hk_region fun K hK => runs_eval tab_ok ?_
    simp only [ev0, evA, evB, evP, fl, gp, tab, simprocAttr, reduceCtorEq, reduceIte, ll_length]
    refine fin_run trivial (hK _ ?_) <;> clear hK <;> clear K
    refine qa ?_
    refine hk_cond rfl (fun hC2 => ?_) (fun hC2 => ?_)
    · (try simp only [nhs] at hC2)
      omega
    · (try simp only [nhs] at hC2)
      refine qh (qa (qm ?_))
      refine hk_region fun K hK => runs_eval tab_ok ?_
      simp only [ev0, evA, evB, evP, fl, gp, tab, simprocAttr, reduceCtorEq, reduceIte]
      refine fin_run trivial (hK _ ?_) <;> clear hK <;> clear K
      refine qa (qm (qm ?_))
      refine hk_own0 3 rfl ?_
      refine hk_region fun K hK => runs_eval tab_ok ?_
      simp only [ev0, evA, evB, evP, fl, gp, tab, simprocAttr, reduceCtorEq, reduceIte]
      refine fin_run trivial (hK _ ?_) <;> clear hK <;> clear K
      refine qa (ql ?_)
      refine hk_loop (ι := Nat) (fun i => ⟨175, [(0, .p (.list (ll l))), (3, .sl 0 0 (l.take i).length), (4, .p (.int .i64 i))], [.own (opl (ll (l.take i)))]⟩) (fun i => i ≤ l.length) (fun i => l.length - i) 0 (Nat.zero_le _) [0] (by simp only [leq, leA, ev0, evA, evB, evP, fl, gp, tab, simprocAttr, reduceCtorEq, reduceIte, ll_takeL] <;> first | trivial | simp [opl, ll] | trace_state) fun i hi => ?_
      have htl : (l.take i).length = i := by rw [List.length_take]; omega
      refine qm (qm ?_)
      refine hk_region fun K hK => runs_eval tab_ok ?_
      simp only [ev0, evA, evB, evP, fl, gp, tab, simprocAttr, reduceCtorEq, reduceIte, ll_length]
      refine fin_run trivial (hK _ ?_) <;> clear hK <;> clear K
      refine qa ?_
      refine hk_cond rfl (fun hC3 => ?_) (fun hC3 => ?_)
      · (try simp only [nhs] at hC3)
        have hil : i < l.length := by omega
        have hsn : l.take (i + 1) = l.take i ++ [l.getD i []] := by
          rw [List.take_succ_eq_append_getElem hil]; simp [List.getD, List.getElem?_eq_getElem hil]
        refine qh (qa (qm (ql ?_)))
        refine hk_region fun K hK => runs_eval tab_ok ?_
        simp only [ev0, evA, evB, evP, fl, gp, tab, simprocAttr, reduceCtorEq, reduceIte, ll_length, ll_get hil, ll_takeL, oll_ok, ll_snoc]
        refine fin_stop ?_ (runs_call (own_c (l.getD i []) (hb _ (getD_memR hil))) rfl rfl rfl (by simp only [dstOk, Nat.reduceLT]) (by repeat (first | exact trivial | constructor)) (runs_eval tab_ok ?_))
        · first | (exact ⟨by omega, by omega⟩) | trace_state
        simp only [ev0, evA, evB, evP, fl, gp, tab, simprocAttr, reduceCtorEq, reduceIte, ll_length, ll_get hil, ll_takeL, oll_ok, ll_snoc]
        refine fin_run ?_ (hK _ ?_) <;> clear hK <;> clear K
        · first | (simp [cellOk, PV.one]; done) | (simp [cellOk, PV.one]; omega) | trace_state
        refine qd (qa ?_)
        refine hk_region fun K hK => runs_eval tab_ok ?_
        simp only [ev0, evA, evB, evP, fl, gp, tab, simprocAttr, reduceCtorEq, reduceIte]
        refine fin_run ?_ (hK _ ?_) <;> clear hK <;> clear K
        · (first | exact trivial | omega | (simp only [In64] at *; omega) | (simp [In64] at *; omega) | (simp_all; done) | skip)
        refine qa ?_
        refine ⟨i + 1, [1], by omega, by omega, ?_⟩
        rw [hsn]
        simp only [leq, leA, ev0, evA, evB, evP, fl, gp, tab, simprocAttr, reduceCtorEq, reduceIte, ll_takeL, ll_snoc, ll_takeS] <;> first | trivial | omega | (simp; done) | trace_state
      · (try simp only [nhs] at hC3)
        have hie : i = l.length := by omega
        rw [hie, List.take_length]
        refine qj (qc (qc (qf (qa (qm ?_)))))
        refine hk_sealp 3 0 (ll_all l) (by show AV.sl 0 0 _ = AV.sl 0 0 _; rw [ll_length]) rfl ?_
        refine hk_region fun K hK => runs_eval tab_ok ?_
        simp only [ev0, evA, evB, evP, fl, gp, tab, simprocAttr, reduceCtorEq, reduceIte]
        refine fin_stop trivial (runs_call (cP) rfl rfl rfl (by simp only [dstOk, Nat.reduceLT]) (by repeat (first | exact trivial | constructor)) (runs_eval tab_ok ?_))
        simp only [ev0, evA, evB, evP, fl, gp, tab, simprocAttr, reduceCtorEq, reduceIte]
        refine fin_run ?_ (hK _ ?_) <;> clear hK <;> clear K
        · (first | exact trivial | omega | (simp only [In64] at *; omega) | (simp [In64] at *; omega) | (simp_all; done) | skip)
        refine qa (qm ?_)
        refine hk_region fun K hK => runs_eval tab_ok ?_
        simp only [ev0, evA, evB, evP, fl, gp, tab, simprocAttr, reduceCtorEq, reduceIte]
        refine fin_run ?_ (hK _ ?_) <;> clear hK <;> clear K
        · (first | exact trivial | omega | (simp only [In64] at *; omega) | (simp [In64] at *; omega) | (simp_all; done) | skip)
        refine qa (qm (qm ?_))
        by_cases h1 : l.length < 1
        · refine hk_region fun K hK => runs_eval tab_ok ?_
          simp only [ev0, evA, evB, evP, fl, gp, tab, simprocAttr, reduceCtorEq, reduceIte, ll_length, decide_eq_true (show ((l.length : Nat) : Int) < 1 by omega)]
          refine fin_run trivial (hK _ ?_) <;> clear hK <;> clear K
          refine qa ?_
          refine hk_cond rfl (fun hC4 => ?_) (fun hC4 => ?_)
          · refine hk_region fun K hK => runs_eval tab_ok ?_
            simp only [ev0, evA, evB, evP, fl, gp, tab, simprocAttr, reduceCtorEq, reduceIte]
            refine fin_stop trivial (runs_call (f_c 2 0) rfl rfl rfl (by simp only [dstOk, Nat.reduceLT]) (by repeat (first | exact trivial | constructor)) (runs_eval tab_ok ?_))
            simp only [ev0, evA, evB, evP, fl, gp, tab, simprocAttr, reduceCtorEq, reduceIte]
            refine fin_run ?_ (hK _ ?_) <;> clear hK <;> clear K
            · (first | exact trivial | omega | (simp only [In64] at *; omega) | (simp [In64] at *; omega) | (simp_all; done) | skip)
            refine qa (qm (qm ?_))
            refine hk_region fun K hK => runs_eval tab_ok ?_
            simp only [ev0, evA, evB, evP, fl, gp, tab, simprocAttr, reduceCtorEq, reduceIte]
            refine fin_run trivial (hK _ ?_) <;> clear hK <;> clear K
            refine qa (ql ?_)
            refine hk_loop (ι := Nat) (fun i => ⟨175, [(0, .p (.list (ll l))), (3, .p (.list (ll l))), (5, .ptr 0 0), (6, .p (.list (ll []))), (7, .ptr 1 0), (8, .ptr 2 0), (9, .p (.int .i64 i))], [.own [.p (.int .i64 0), .p (.list (il []))], .own [.p (.int .i64 2), .p (.int .i64 0)], .own [.p (.int .i64 2), .p (.int .i64 0)]]⟩) (fun i => i ≤ l.length) (fun i => l.length - i) 0 (Nat.zero_le _) [1, 2, 3] (by simp only [leq, leA, ev0, evA, evB, evP, fl, gp, tab, simprocAttr, reduceCtorEq, reduceIte] <;> first | trivial | exact ⟨rfl, rfl⟩ | trace_state) fun i hi => ?_
            refine qm (qm ?_)
            by_cases hil : i < l.length
            · refine hk_region fun K hK => runs_eval tab_ok ?_
              simp only [ev0, evA, evB, evP, fl, gp, tab, simprocAttr, reduceCtorEq, reduceIte, ll_length, decide_eq_true (show ((i : Nat) : Int) < ((l.length : Nat) : Int) by omega)]
              refine fin_run ?_ (hK _ ?_) <;> clear hK <;> clear K
              · (first | exact trivial | omega | (simp only [In64] at *; omega) | (simp [In64] at *; omega) | (simp_all; done) | skip)
              refine qa ?_
              refine hk_cond rfl (fun hC5 => ?_) (fun hC5 => ?_)
              · cases hC5
              · (try simp only [nhs] at hC5)
                refine qj (qc (qc (qf (qa (qm ?_)))))
                refine hk_region fun K hK => runs_eval tab_ok ?_
                simp only [ev0, evA, evB, evP, fl, gp, tab, simprocAttr, reduceCtorEq, reduceIte]
                refine fin_run trivial (hK _ ?_) <;> clear hK <;> clear K
                refine qa (qm (qm ?_))
                refine hk_region fun K hK => runs_eval tab_ok ?_
                simp only [ev0, evA, evB, evP, fl, gp, tab, simprocAttr, reduceCtorEq, reduceIte]
                refine fin_run ?_ (hK _ ?_) <;> clear hK <;> clear K
                · (first | exact trivial | omega | (simp only [In64] at *; omega) | (simp [In64] at *; omega) | (simp_all; done) | skip)
                refine qa ?_
                refine hk_cond rfl (fun hC8 => ?_) (fun hC8 => ?_)
                · cases hC8
                · (try simp only [nhs] at hC8)
                  refine qh (qa (qm (qm ?_)))
                  refine hk_region fun K hK => runs_eval tab_ok ?_
                  simp only [ev0, evA, evB, evP, fl, gp, tab, simprocAttr, reduceCtorEq, reduceIte, beq_self_eq_true, Bool.and_self, Bool.not_true]
                  refine fin_stop trivial (runs_call (lists_b l l (by omega) hb) rfl rfl rfl (by simp only [dstOk, Nat.reduceLT]) (by repeat (first | exact trivial | constructor)) (runs_eval tab_ok ?_))
                  simp only [ev0, evA, evB, evP, fl, gp, tab, simprocAttr, reduceCtorEq, reduceIte, decide_eq_true (show l = l from rfl), beq_self_eq_true, Bool.and_self, Bool.not_true]
                  refine fin_run ?_ (hK _ ?_) <;> clear hK <;> clear K
                  · (first | exact trivial | omega | (simp only [In64] at *; omega) | (simp [In64] at *; omega) | (simp_all; done) | skip)
                  refine qa ?_
                  refine hk_cond rfl (fun hC10 => ?_) (fun hC10 => ?_)
                  · cases hC10
                  · (try simp only [nhs] at hC10)
                    refine qh (qa (qm (qm ?_)))
                    refine hk_region fun K hK => runs_eval tab_ok ?_
                    simp only [ev0, evA, evB, evP, fl, gp, tab, simprocAttr, reduceCtorEq, reduceIte]
                    refine fin_run ?_ (hK _ ?_) <;> clear hK <;> clear K
                    · (first | exact trivial | omega | (simp only [In64] at *; omega) | (simp [In64] at *; omega) | (simp_all; done) | skip)
                    refine qa ?_
                    refine hk_cond rfl (fun hC11 => ?_) (fun hC11 => ?_)
                    · (try simp only [nhs] at hC11)
                      refine qm ?_
                      refine hk_region fun K hK => runs_eval tab_ok ?_
                      simp only [ev0, evA, evB, evP, fl, gp, tab, simprocAttr, reduceCtorEq, reduceIte]
                      refine fin_stop trivial (runs_call (noGroup_c 0 []) rfl rfl rfl (by simp only [dstOk, Nat.reduceLT]) (by repeat (first | exact trivial | constructor)) (runs_eval tab_ok ?_))
                      simp only [ev0, evA, evB, evP, fl, gp, tab, simprocAttr, reduceCtorEq, reduceIte]
                      refine fin_run ?_ (hK _ ?_) <;> clear hK <;> clear K
                      · (first | exact trivial | omega | (simp only [In64] at *; omega) | (simp [In64] at *; omega) | (simp_all; done) | skip)
                      refine qa (qk (qb ?_))
                      simp only [Try.results4, enA, ev0, evA, evB, evP, fl, gp, tab, simprocAttr, reduceCtorEq, reduceIte]
                      all_goals (first | rfl | trace_state)
                    · cases hC11
            · refine hk_region fun K hK => runs_eval tab_ok ?_
              simp only [ev0, evA, evB, evP, fl, gp, tab, simprocAttr, reduceCtorEq, reduceIte, ll_length, decide_eq_false (show ¬ ((i : Nat) : Int) < ((l.length : Nat) : Int) by omega)]
              refine fin_run trivial (hK _ ?_) <;> clear hK <;> clear K
              refine qa ?_
              refine hk_cond rfl (fun hC5 => ?_) (fun hC5 => ?_)
              · cases hC5
              · refine qj (qc (qc (qf (qa (qm ?_)))))
                refine hk_region fun K hK => runs_eval tab_ok ?_
                simp only [ev0, evA, evB, evP, fl, gp, tab, simprocAttr, reduceCtorEq, reduceIte]
                refine fin_run trivial (hK _ ?_) <;> clear hK <;> clear K
                refine qa (qm (qm ?_))
                refine hk_region fun K hK => runs_eval tab_ok ?_
                simp only [ev0, evA, evB, evP, fl, gp, tab, simprocAttr, reduceCtorEq, reduceIte]
                refine fin_run ?_ (hK _ ?_) <;> clear hK <;> clear K
                · (first | exact trivial | omega | (simp only [In64] at *; omega) | (simp [In64] at *; omega) | (simp_all; done) | skip)
                refine qa ?_
                refine hk_cond rfl (fun hC8 => ?_) (fun hC8 => ?_)
                · cases hC8
                · (try simp only [nhs] at hC8)
                  refine qh (qa (qm (qm ?_)))
                  refine hk_region fun K hK => runs_eval tab_ok ?_
                  simp only [ev0, evA, evB, evP, fl, gp, tab, simprocAttr, reduceCtorEq, reduceIte, beq_self_eq_true, Bool.and_self, Bool.not_true]
                  refine fin_stop trivial (runs_call (lists_b l l (by omega) hb) rfl rfl rfl (by simp only [dstOk, Nat.reduceLT]) (by repeat (first | exact trivial | constructor)) (runs_eval tab_ok ?_))
                  simp only [ev0, evA, evB, evP, fl, gp, tab, simprocAttr, reduceCtorEq, reduceIte, decide_eq_true (show l = l from rfl), beq_self_eq_true, Bool.and_self, Bool.not_true]
                  refine fin_run ?_ (hK _ ?_) <;> clear hK <;> clear K
                  · (first | exact trivial | omega | (simp only [In64] at *; omega) | (simp [In64] at *; omega) | (simp_all; done) | skip)
                  refine qa ?_
                  refine hk_cond rfl (fun hC10 => ?_) (fun hC10 => ?_)
                  · cases hC10
                  · (try simp only [nhs] at hC10)
                    refine qh (qa (qm (qm ?_)))
                    refine hk_region fun K hK => runs_eval tab_ok ?_
                    simp only [ev0, evA, evB, evP, fl, gp, tab, simprocAttr, reduceCtorEq, reduceIte]
                    refine fin_run ?_ (hK _ ?_) <;> clear hK <;> clear K
                    · (first | exact trivial | omega | (simp only [In64] at *; omega) | (simp [In64] at *; omega) | (simp_all; done) | skip)
                    refine qa ?_
                    refine hk_cond rfl (fun hC11 => ?_) (fun hC11 => ?_)
                    · (try simp only [nhs] at hC11)
                      refine qm ?_
                      refine hk_region fun K hK => runs_eval tab_ok ?_
                      simp only [ev0, evA, evB, evP, fl, gp, tab, simprocAttr, reduceCtorEq, reduceIte]
                      refine fin_stop trivial (runs_call (noGroup_c 0 []) rfl rfl rfl (by simp only [dstOk, Nat.reduceLT]) (by repeat (first | exact trivial | constructor)) (runs_eval tab_ok ?_))
                      simp only [ev0, evA, evB, evP, fl, gp, tab, simprocAttr, reduceCtorEq, reduceIte]
                      refine fin_run ?_ (hK _ ?_) <;> clear hK <;> clear K
                      · (first | exact trivial | omega | (simp only [In64] at *; omega) | (simp [In64] at *; omega) | (simp_all; done) | skip)
                      refine qa (qk (qb ?_))
                      simp only [Try.results4, enA, ev0, evA, evB, evP, fl, gp, tab, simprocAttr, reduceCtorEq, reduceIte]
                      all_goals (first | rfl | trace_state)
                    · cases hC11
          · cases hC4
        · refine hk_region fun K hK => runs_eval tab_ok ?_
          simp only [ev0, evA, evB, evP, fl, gp, tab, simprocAttr, reduceCtorEq, reduceIte, ll_length, decide_eq_false (show ¬ ((l.length : Nat) : Int) < 1 by omega), decide_eq_true (show ((l.length : Nat) : Int) > 20 by omega)]
          refine fin_run trivial (hK _ ?_) <;> clear hK <;> clear K
          refine qa ?_
          refine hk_cond rfl (fun hC4 => ?_) (fun hC4 => ?_)
          · (try simp only [nhs] at hC4)
            refine hk_region fun K hK => runs_eval tab_ok ?_
            simp only [ev0, evA, evB, evP, fl, gp, tab, simprocAttr, reduceCtorEq, reduceIte]
            refine fin_stop trivial (runs_call (f_c 2 0) rfl rfl rfl (by simp only [dstOk, Nat.reduceLT]) (by repeat (first | exact trivial | constructor)) (runs_eval tab_ok ?_))
            simp only [ev0, evA, evB, evP, fl, gp, tab, simprocAttr, reduceCtorEq, reduceIte]
            refine fin_run ?_ (hK _ ?_) <;> clear hK <;> clear K
            · (first | exact trivial | omega | (simp only [In64] at *; omega) | (simp [In64] at *; omega) | (simp_all; done) | skip)
            refine qa (qm (qm ?_))
            refine hk_region fun K hK => runs_eval tab_ok ?_
            simp only [ev0, evA, evB, evP, fl, gp, tab, simprocAttr, reduceCtorEq, reduceIte]
            refine fin_run trivial (hK _ ?_) <;> clear hK <;> clear K
            refine qa (ql ?_)
            refine hk_loop (ι := Nat) (fun i => ⟨175, [(0, .p (.list (ll l))), (3, .p (.list (ll l))), (5, .ptr 0 0), (6, .p (.list (ll []))), (7, .ptr 1 0), (8, .ptr 2 0), (9, .p (.int .i64 i))], [.own [.p (.int .i64 0), .p (.list (il []))], .own [.p (.int .i64 2), .p (.int .i64 0)], .own [.p (.int .i64 2), .p (.int .i64 0)]]⟩) (fun i => i ≤ l.length) (fun i => l.length - i) 0 (Nat.zero_le _) [1, 2, 3] (by simp only [leq, leA, ev0, evA, evB, evP, fl, gp, tab, simprocAttr, reduceCtorEq, reduceIte] <;> first | trivial | exact ⟨rfl, rfl⟩ | trace_state) fun i hi => ?_
            refine qm (qm ?_)
            by_cases hil : i < l.length
            · refine hk_region fun K hK => runs_eval tab_ok ?_
              simp only [ev0, evA, evB, evP, fl, gp, tab, simprocAttr, reduceCtorEq, reduceIte, ll_length, decide_eq_true (show ((i : Nat) : Int) < ((l.length : Nat) : Int) by omega)]
              refine fin_run ?_ (hK _ ?_) <;> clear hK <;> clear K
              · (first | exact trivial | omega | (simp only [In64] at *; omega) | (simp [In64] at *; omega) | (simp_all; done) | skip)
              refine qa ?_
              refine hk_cond rfl (fun hC5 => ?_) (fun hC5 => ?_)
              · cases hC5
              · (try simp only [nhs] at hC5)
                refine qj (qc (qc (qf (qa (qm ?_)))))
                refine hk_region fun K hK => runs_eval tab_ok ?_
                simp only [ev0, evA, evB, evP, fl, gp, tab, simprocAttr, reduceCtorEq, reduceIte]
                refine fin_run trivial (hK _ ?_) <;> clear hK <;> clear K
                refine qa (qm (qm ?_))
                refine hk_region fun K hK => runs_eval tab_ok ?_
                simp only [ev0, evA, evB, evP, fl, gp, tab, simprocAttr, reduceCtorEq, reduceIte]
                refine fin_run ?_ (hK _ ?_) <;> clear hK <;> clear K
                · (first | exact trivial | omega | (simp only [In64] at *; omega) | (simp [In64] at *; omega) | (simp_all; done) | skip)
                refine qa ?_
                refine hk_cond rfl (fun hC8 => ?_) (fun hC8 => ?_)
                · cases hC8
                · (try simp only [nhs] at hC8)
                  refine qh (qa (qm (qm ?_)))
                  refine hk_region fun K hK => runs_eval tab_ok ?_
                  simp only [ev0, evA, evB, evP, fl, gp, tab, simprocAttr, reduceCtorEq, reduceIte, beq_self_eq_true, Bool.and_self, Bool.not_true]
                  refine fin_stop trivial (runs_call (lists_b l l (by omega) hb) rfl rfl rfl (by simp only [dstOk, Nat.reduceLT]) (by repeat (first | exact trivial | constructor)) (runs_eval tab_ok ?_))
                  simp only [ev0, evA, evB, evP, fl, gp, tab, simprocAttr, reduceCtorEq, reduceIte, decide_eq_true (show l = l from rfl), beq_self_eq_true, Bool.and_self, Bool.not_true]
                  refine fin_run ?_ (hK _ ?_) <;> clear hK <;> clear K
                  · (first | exact trivial | omega | (simp only [In64] at *; omega) | (simp [In64] at *; omega) | (simp_all; done) | skip)
                  refine qa ?_
                  refine hk_cond rfl (fun hC10 => ?_) (fun hC10 => ?_)
                  · cases hC10
                  · (try simp only [nhs] at hC10)
                    refine qh (qa (qm (qm ?_)))
                    refine hk_region fun K hK => runs_eval tab_ok ?_
                    simp only [ev0, evA, evB, evP, fl, gp, tab, simprocAttr, reduceCtorEq, reduceIte]
                    refine fin_run ?_ (hK _ ?_) <;> clear hK <;> clear K
                    · (first | exact trivial | omega | (simp only [In64] at *; omega) | (simp [In64] at *; omega) | (simp_all; done) | skip)
                    refine qa ?_
                    refine hk_cond rfl (fun hC11 => ?_) (fun hC11 => ?_)
                    · (try simp only [nhs] at hC11)
                      refine qm ?_
                      refine hk_region fun K hK => runs_eval tab_ok ?_
                      simp only [ev0, evA, evB, evP, fl, gp, tab, simprocAttr, reduceCtorEq, reduceIte]
                      refine fin_stop trivial (runs_call (noGroup_c 0 []) rfl rfl rfl (by simp only [dstOk, Nat.reduceLT]) (by repeat (first | exact trivial | constructor)) (runs_eval tab_ok ?_))
                      simp only [ev0, evA, evB, evP, fl, gp, tab, simprocAttr, reduceCtorEq, reduceIte]
                      refine fin_run ?_ (hK _ ?_) <;> clear hK <;> clear K
                      · (first | exact trivial | omega | (simp only [In64] at *; omega) | (simp [In64] at *; omega) | (simp_all; done) | skip)
                      refine qa (qk (qb ?_))
                      simp only [Try.results4, enA, ev0, evA, evB, evP, fl, gp, tab, simprocAttr, reduceCtorEq, reduceIte]
                      all_goals (first | rfl | trace_state)
                    · cases hC11
            · refine hk_region fun K hK => runs_eval tab_ok ?_
              simp only [ev0, evA, evB, evP, fl, gp, tab, simprocAttr, reduceCtorEq, reduceIte, ll_length, decide_eq_false (show ¬ ((i : Nat) : Int) < ((l.length : Nat) : Int) by omega)]
              refine fin_run trivial (hK _ ?_) <;> clear hK <;> clear K
              refine qa ?_
              refine hk_cond rfl (fun hC5 => ?_) (fun hC5 => ?_)
              · cases hC5
              · refine qj (qc (qc (qf (qa (qm ?_)))))
                refine hk_region fun K hK => runs_eval tab_ok ?_
                simp only [ev0, evA, evB, evP, fl, gp, tab, simprocAttr, reduceCtorEq, reduceIte]
                refine fin_run trivial (hK _ ?_) <;> clear hK <;> clear K
                refine qa (qm (qm ?_))
                refine hk_region fun K hK => runs_eval tab_ok ?_
                simp only [ev0, evA, evB, evP, fl, gp, tab, simprocAttr, reduceCtorEq, reduceIte]
                refine fin_run ?_ (hK _ ?_) <;> clear hK <;> clear K
                · (first | exact trivial | omega | (simp only [In64] at *; omega) | (simp [In64] at *; omega) | (simp_all; done) | skip)
                refine qa ?_
                refine hk_cond rfl (fun hC8 => ?_) (fun hC8 => ?_)
                · cases hC8
                · (try simp only [nhs] at hC8)
                  refine qh (qa (qm (qm ?_)))
                  refine hk_region fun K hK => runs_eval tab_ok ?_
                  simp only [ev0, evA, evB, evP, fl, gp, tab, simprocAttr, reduceCtorEq, reduceIte, beq_self_eq_true, Bool.and_self, Bool.not_true]
                  refine fin_stop trivial (runs_call (lists_b l l (by omega) hb) rfl rfl rfl (by simp only [dstOk, Nat.reduceLT]) (by repeat (first | exact trivial | constructor)) (runs_eval tab_ok ?_))
                  simp only [ev0, evA, evB, evP, fl, gp, tab, simprocAttr, reduceCtorEq, reduceIte, decide_eq_true (show l = l from rfl), beq_self_eq_true, Bool.and_self, Bool.not_true]
                  refine fin_run ?_ (hK _ ?_) <;> clear hK <;> clear K
                  · (first | exact trivial | omega | (simp only [In64] at *; omega) | (simp [In64] at *; omega) | (simp_all; done) | skip)
                  refine qa ?_
                  refine hk_cond rfl (fun hC10 => ?_) (fun hC10 => ?_)
                  · cases hC10
                  · (try simp only [nhs] at hC10)
                    refine qh (qa (qm (qm ?_)))
                    refine hk_region fun K hK => runs_eval tab_ok ?_
                    simp only [ev0, evA, evB, evP, fl, gp, tab, simprocAttr, reduceCtorEq, reduceIte]
                    refine fin_run ?_ (hK _ ?_) <;> clear hK <;> clear K
                    · (first | exact trivial | omega | (simp only [In64] at *; omega) | (simp [In64] at *; omega) | (simp_all; done) | skip)
                    refine qa ?_
                    refine hk_cond rfl (fun hC11 => ?_) (fun hC11 => ?_)
                    · (try simp only [nhs] at hC11)
                      refine qm ?_
                      refine hk_region fun K hK => runs_eval tab_ok ?_
                      simp only [ev0, evA, evB, evP, fl, gp, tab, simprocAttr, reduceCtorEq, reduceIte]
                      refine fin_stop trivial (runs_call (noGroup_c 0 []) rfl rfl rfl (by simp only [dstOk, Nat.reduceLT]) (by repeat (first | exact trivial | constructor)) (runs_eval tab_ok ?_))
                      simp only [ev0, evA, evB, evP, fl, gp, tab, simprocAttr, reduceCtorEq, reduceIte]
                      refine fin_run ?_ (hK _ ?_) <;> clear hK <;> clear K
                      · (first | exact trivial | omega | (simp only [In64] at *; omega) | (simp [In64] at *; omega) | (simp_all; done) | skip)
                      refine qa (qk (qb ?_))
                      simp only [Try.results4, enA, ev0, evA, evB, evP, fl, gp, tab, simprocAttr, reduceCtorEq, reduceIte]
                      all_goals (first | rfl | trace_state)
                    · cases hC11
          · cases hC4
theorem tp_bad (l : List (List Int)) (hl : l.length ≤ 1000) (hb : ∀ w ∈ l, w.length ≤ 17592186043904) (h1 : 1 ≤ l.length) (h20 : l.length ≤ 20) {k : Nat} (hk : k < l.length) (hg : ∀ j, j < k → PermOk (l.getD j []) ∧ (l.getD j []).length = (l.getD 0 []).length) {r : Int × Int} (hc0 : FnC Try.prog 17 [.list (il (l.getD k []))] (fl r)) (hc : FnC Try.prog 37 [.list (il (l.getD k []))] (fl r)) (hw : ¬ r.1 = 0) : FnC Try.prog 4 [.list (ll l)] (.bool true) := by
  have cP := permsT_bad l h1 h20 (fun q hq => by have := hb q hq; omega) hk hg hc hw
  refine fnc_of tab_ok Try.func4 rfl (by kernel_rfl) (by rw [Try.ntmps4]; exact Nat.le_add_left 1 _) ?_; rw [Try.ntmps4]
  refine qm ?_
  refine hk_region fun K hK => runs_eval tab_ok ?_
  simp only [ev0, evA, evB, evP, fl, gp, tab, simprocAttr, reduceCtorEq, reduceIte]
  refine fin_run trivial (hK _ ?_) <;> clear hK <;> clear K
  refine qa (qm (qm ?_))
  refine hk_region fun K hK => runs_eval tab_ok ?_
  simp only [ev0, evA, evB, evP, fl, gp, tab, simprocAttr, reduceCtorEq, reduceIte]
  refine fin_stop trivial (runs_call (begun_c) rfl rfl rfl (by simp only [dstOk, Nat.reduceLT]) (by repeat (first | exact trivial | constructor)) (runs_eval tab_ok ?_))
  simp only [ev0, evA, evB, evP, fl, gp, tab, simprocAttr, reduceCtorEq, reduceIte]
  refine fin_run trivial (hK _ ?_) <;> clear hK <;> clear K
  refine qa ?_
  refine hk_cond rfl (fun hC1 => ?_) (fun hC1 => ?_)
  · cases hC1
  · (try simp only [nhs] at hC1)
    refine qh (qa (qm (qm ?_)))
    refine hk_region fun K hK => runs_eval tab_ok ?_
    simp only [ev0, evA, evB, evP, fl, gp, tab, simprocAttr, reduceCtorEq, reduceIte, ll_length]
    refine fin_run trivial (hK _ ?_) <;> clear hK <;> clear K
    refine qa ?_
    refine hk_cond rfl (fun hC2 => ?_) (fun hC2 => ?_)
    · (try simp only [nhs] at hC2)
      omega
    · (try simp only [nhs] at hC2)
      refine qh (qa (qm ?_))
      refine hk_region fun K hK => runs_eval tab_ok ?_
      simp only [ev0, evA, evB, evP, fl, gp, tab, simprocAttr, reduceCtorEq, reduceIte]
      refine fin_run trivial (hK _ ?_) <;> clear hK <;> clear K
      refine qa (qm (qm ?_))
      refine hk_own0 3 rfl ?_
      refine hk_region fun K hK => runs_eval tab_ok ?_
      simp only [ev0, evA, evB, evP, fl, gp, tab, simprocAttr, reduceCtorEq, reduceIte]
      refine fin_run trivial (hK _ ?_) <;> clear hK <;> clear K
      refine qa (ql ?_)
      refine hk_loop (ι := Nat) (fun i => ⟨175, [(0, .p (.list (ll l))), (3, .sl 0 0 (l.take i).length), (4, .p (.int .i64 i))], [.own (opl (ll (l.take i)))]⟩) (fun i => i ≤ l.length) (fun i => l.length - i) 0 (Nat.zero_le _) [0] (by simp only [leq, leA, ev0, evA, evB, evP, fl, gp, tab, simprocAttr, reduceCtorEq, reduceIte, ll_takeL] <;> first | trivial | simp [opl, ll] | trace_state) fun i hi => ?_
      have htl : (l.take i).length = i := by rw [List.length_take]; omega
      refine qm (qm ?_)
      refine hk_region fun K hK => runs_eval tab_ok ?_
      simp only [ev0, evA, evB, evP, fl, gp, tab, simprocAttr, reduceCtorEq, reduceIte, ll_length]
      refine fin_run trivial (hK _ ?_) <;> clear hK <;> clear K
      refine qa ?_
      refine hk_cond rfl (fun hC3 => ?_) (fun hC3 => ?_)
      · (try simp only [nhs] at hC3)
        have hil : i < l.length := by omega
        have hsn : l.take (i + 1) = l.take i ++ [l.getD i []] := by
          rw [List.take_succ_eq_append_getElem hil]; simp [List.getD, List.getElem?_eq_getElem hil]
        refine qh (qa (qm (ql ?_)))
        refine hk_region fun K hK => runs_eval tab_ok ?_
        simp only [ev0, evA, evB, evP, fl, gp, tab, simprocAttr, reduceCtorEq, reduceIte, ll_length, ll_get hil, ll_takeL, oll_ok, ll_snoc]
        refine fin_stop ?_ (runs_call (own_c (l.getD i []) (hb _ (getD_memR hil))) rfl rfl rfl (by simp only [dstOk, Nat.reduceLT]) (by repeat (first | exact trivial | constructor)) (runs_eval tab_ok ?_))
        · first | (exact ⟨by omega, by omega⟩) | trace_state
        simp only [ev0, evA, evB, evP, fl, gp, tab, simprocAttr, reduceCtorEq, reduceIte, ll_length, ll_get hil, ll_takeL, oll_ok, ll_snoc]
        refine fin_run ?_ (hK _ ?_) <;> clear hK <;> clear K
        · first | (simp [cellOk, PV.one]; done) | (simp [cellOk, PV.one]; omega) | trace_state
        refine qd (qa ?_)
        refine hk_region fun K hK => runs_eval tab_ok ?_
        simp only [ev0, evA, evB, evP, fl, gp, tab, simprocAttr, reduceCtorEq, reduceIte]
        refine fin_run ?_ (hK _ ?_) <;> clear hK <;> clear K
        · (first | exact trivial | omega | (simp only [In64] at *; omega) | (simp [In64] at *; omega) | (simp_all; done) | skip)
        refine qa ?_
        refine ⟨i + 1, [1], by omega, by omega, ?_⟩
        rw [hsn]
        simp only [leq, leA, ev0, evA, evB, evP, fl, gp, tab, simprocAttr, reduceCtorEq, reduceIte, ll_takeL, ll_snoc, ll_takeS] <;> first | trivial | omega | (simp; done) | trace_state
      · (try simp only [nhs] at hC3)
        have hie : i = l.length := by omega
        rw [hie, List.take_length]
        refine qj (qc (qc (qf (qa (qm ?_)))))
        refine hk_sealp 3 0 (ll_all l) (by show AV.sl 0 0 _ = AV.sl 0 0 _; rw [ll_length]) rfl ?_
        refine hk_region fun K hK => runs_eval tab_ok ?_
        simp only [ev0, evA, evB, evP, fl, gp, tab, simprocAttr, reduceCtorEq, reduceIte]
        refine fin_stop trivial (runs_call (cP) rfl rfl rfl (by simp only [dstOk, Nat.reduceLT]) (by repeat (first | exact trivial | constructor)) (runs_eval tab_ok ?_))
        simp only [ev0, evA, evB, evP, fl, gp, tab, simprocAttr, reduceCtorEq, reduceIte]
        refine fin_run ?_ (hK _ ?_) <;> clear hK <;> clear K
        · (first | exact trivial | omega | (simp only [In64] at *; omega) | (simp [In64] at *; omega) | (simp_all; done) | skip)
        refine qa (qm ?_)
        refine hk_region fun K hK => runs_eval tab_ok ?_
        simp only [ev0, evA, evB, evP, fl, gp, tab, simprocAttr, reduceCtorEq, reduceIte]
        refine fin_run ?_ (hK _ ?_) <;> clear hK <;> clear K
        · (first | exact trivial | omega | (simp only [In64] at *; omega) | (simp [In64] at *; omega) | (simp_all; done) | skip)
        refine qa (qm (qm ?_))
        refine hk_region fun K hK => runs_eval tab_ok ?_
        simp only [ev0, evA, evB, evP, fl, gp, tab, simprocAttr, reduceCtorEq, reduceIte, ll_length, decide_eq_false (show ¬ ((l.length : Nat) : Int) < 1 by omega), decide_eq_false (show ¬ ((l.length : Nat) : Int) > 20 by omega)]
        refine fin_run trivial (hK _ ?_) <;> clear hK <;> clear K
        refine qa ?_
        refine hk_cond rfl (fun hC4 => ?_) (fun hC4 => ?_)
        · cases hC4
        · (try simp only [nhs] at hC4)
          refine qh (qa (qm (qm ?_)))
          refine hk_region fun K hK => runs_eval tab_ok ?_
          simp only [ev0, evA, evB, evP, fl, gp, tab, simprocAttr, reduceCtorEq, reduceIte]
          refine fin_run trivial (hK _ ?_) <;> clear hK <;> clear K
          refine qa (ql ?_)
          refine hk_loop (ι := Nat × Bool) (fun s => ⟨175, [(0, .p (.list (ll l))), (3, .p (.list (ll l))), (5, .ptr 0 0), (6, .p (.list (ll []))), (7, .ptr 1 0), (8, .ptr 2 0), (9, .p (.int .i64 s.1))], [.own [.p (.int .i64 0), .p (.list (il []))], .own [.p (.int .i64 r.1), .p (.int .i64 k)], .own [.p (.int .i64 (if s.2 then r.1 else 0)), .p (.int .i64 (if s.2 then k else 0))]]⟩) (fun s => s.1 ≤ l.length ∧ (s.2 = false → s.1 ≤ k)) (fun s => l.length - s.1) (0, false) ⟨Nat.zero_le _, fun _ => Nat.zero_le _⟩ [1, 2, 3] (by simp only [leq, leA, ev0, evA, evB, evP, fl, gp, tab, simprocAttr, reduceCtorEq, reduceIte] <;> first | trivial | exact ⟨rfl, rfl⟩ | trace_state) fun s hs => ?_
          obtain ⟨i, ov⟩ := s
          obtain ⟨hi, hi2⟩ := hs
          simp only at hi hi2
          have hcs : (ov = false ∧ i ≤ k) ∨ (ov = true ∧ i < l.length) ∨ (ov = true ∧ ¬ i < l.length) := by
            cases ov
            · exact .inl ⟨rfl, hi2 rfl⟩
            · by_cases hil : i < l.length
              · exact .inr (.inl ⟨rfl, hil⟩)
              · exact .inr (.inr ⟨rfl, hil⟩)
          refine qm (qm ?_)
          rcases hcs with ⟨rfl, hik⟩ | ⟨rfl, hil⟩ | ⟨rfl, hil⟩
          · refine hk_region fun K hK => runs_eval tab_ok ?_
            simp only [ev0, evA, evB, evP, fl, gp, tab, simprocAttr, reduceCtorEq, reduceIte, ll_length, decide_eq_true (show ((i : Nat) : Int) < ((l.length : Nat) : Int) by omega), if_false]
            refine fin_run ?_ (hK _ ?_) <;> clear hK <;> clear K
            · (first | exact trivial | omega | (simp only [In64] at *; omega) | (simp [In64] at *; omega) | (simp_all; done) | skip)
            refine qa ?_
            refine hk_cond rfl (fun hC5 => ?_) (fun hC5 => ?_)
            · (try simp only [nhs] at hC5)
              have hil : i < l.length := by omega
              refine qh (qa (qm (ql (qm ?_))))
              by_cases hjk : i = k
              · subst hjk
                refine hk_region fun K hK => runs_eval tab_ok ?_
                simp only [ev0, evA, evB, evP, fl, gp, tab, simprocAttr, reduceCtorEq, reduceIte, ll_length, ll_get hil]
                refine fin_stop ?_ (runs_call (hc0) rfl rfl rfl (by simp only [dstOk, Nat.reduceLT]) (by repeat (first | exact trivial | constructor)) (runs_eval tab_ok ?_))
                · exact ⟨by omega, by omega⟩
                simp only [ev0, evA, evB, evP, fl, gp, tab, simprocAttr, reduceCtorEq, reduceIte, ll_length, ll_get hil]
                refine fin_run ?_ (hK _ ?_) <;> clear hK <;> clear K
                · (first | exact trivial | omega | (simp only [In64] at *; omega) | (simp [In64] at *; omega) | (simp_all; done) | skip)
                refine qa (qm ?_)
                refine hk_region fun K hK => runs_eval tab_ok ?_
                simp only [ev0, evA, evB, evP, fl, gp, tab, simprocAttr, reduceCtorEq, reduceIte, decide_eq_false hw]
                refine fin_run ?_ (hK _ ?_) <;> clear hK <;> clear K
                · (first | exact trivial | omega | (simp only [In64] at *; omega) | (simp [In64] at *; omega) | (simp_all; done) | skip)
                refine qa ?_
                refine hk_cond rfl (fun hC6 => ?_) (fun hC6 => ?_)
                · (try simp only [nhs] at hC6)
                  refine hk_region fun K hK => runs_eval tab_ok ?_
                  simp only [ev0, evA, evB, evP, fl, gp, tab, simprocAttr, reduceCtorEq, reduceIte]
                  refine fin_stop trivial (runs_call (f_c r.1 i) rfl rfl rfl (by simp only [dstOk, Nat.reduceLT]) (by repeat (first | exact trivial | constructor)) (runs_eval tab_ok ?_))
                  simp only [ev0, evA, evB, evP, fl, gp, tab, simprocAttr, reduceCtorEq, reduceIte]
                  refine fin_run ?_ (hK _ ?_) <;> clear hK <;> clear K
                  · (first | exact trivial | omega | (simp only [In64] at *; omega) | (simp [In64] at *; omega) | (simp_all; done) | skip)
                  refine qd (qa ?_)
                  refine hk_region fun K hK => runs_eval tab_ok ?_
                  simp only [ev0, evA, evB, evP, fl, gp, tab, simprocAttr, reduceCtorEq, reduceIte]
                  refine fin_run ?_ (hK _ ?_) <;> clear hK <;> clear K
                  · (first | exact trivial | omega | (simp only [In64] at *; omega) | (simp [In64] at *; omega) | (simp_all; done) | skip)
                  refine qa ?_
                  refine ⟨(i + 1, true), [0, 1, 2], ⟨by show i + 1 ≤ _; omega, fun h => (by cases h)⟩, by show l.length - (i + 1) < l.length - i; omega, ?_⟩
                  simp only [leq, leA, ev0, evA, evB, evP, fl, gp, tab, simprocAttr, reduceCtorEq, reduceIte] <;> first | trivial | omega | exact ⟨rfl, rfl⟩ | trace_state
                · cases hC6
              · obtain ⟨hp, hpl⟩ := hg i (by omega)
                refine hk_region fun K hK => runs_eval tab_ok ?_
                simp only [ev0, evA, evB, evP, fl, gp, tab, simprocAttr, reduceCtorEq, reduceIte, ll_length, ll_get hil]
                refine fin_stop ?_ (runs_call (permFault_c hp) rfl rfl rfl (by simp only [dstOk, Nat.reduceLT]) (by repeat (first | exact trivial | constructor)) (runs_eval tab_ok ?_))
                · exact ⟨by omega, by omega⟩
                simp only [ev0, evA, evB, evP, fl, gp, tab, simprocAttr, reduceCtorEq, reduceIte, ll_length, ll_get hil]
                refine fin_run ?_ (hK _ ?_) <;> clear hK <;> clear K
                · (first | exact trivial | omega | (simp only [In64] at *; omega) | (simp [In64] at *; omega) | (simp_all; done) | skip)
                refine qa (qm ?_)
                refine hk_region fun K hK => runs_eval tab_ok ?_
                simp only [ev0, evA, evB, evP, fl, gp, tab, simprocAttr, reduceCtorEq, reduceIte]
                refine fin_run ?_ (hK _ ?_) <;> clear hK <;> clear K
                · (first | exact trivial | omega | (simp only [In64] at *; omega) | (simp [In64] at *; omega) | (simp_all; done) | skip)
                refine qa ?_
                refine hk_cond rfl (fun hC6 => ?_) (fun hC6 => ?_)
                · cases hC6
                · (try simp only [nhs] at hC6)
                  refine qm ?_
                  refine hk_draw mixed (by kernel_rfl) fun K hK => runs_eval tab_ok ?_
                  simp only [ev0, evA, evB, evP, fl, gp, tab, simprocAttr, reduceCtorEq, reduceIte, ll_length, ll_get (show 0 < l.length by omega), ll_get hil, il_length, decide_eq_true (show (((l.getD i []).length : Nat) : Int) = (((l.getD 0 []).length : Nat) : Int) by omega)]
                  refine fin_run ?_ (hK _ ?_) <;> clear hK <;> clear K
                  · (first | exact trivial | omega | (simp only [In64] at *; omega) | (simp [In64] at *; omega) | (simp_all; done) | skip)
                  refine qa ?_
                  refine hk_cond rfl (fun hC7 => ?_) (fun hC7 => ?_)
                  · cases hC7
                  · (try simp only [nhs] at hC7)
                    refine qh (qd (qa ?_))
                    refine hk_region fun K hK => runs_eval tab_ok ?_
                    simp only [ev0, evA, evB, evP, fl, gp, tab, simprocAttr, reduceCtorEq, reduceIte]
                    refine fin_run ?_ (hK _ ?_) <;> clear hK <;> clear K
                    · (first | exact trivial | omega | (simp only [In64] at *; omega) | (simp [In64] at *; omega) | (simp_all; done) | skip)
                    refine qa ?_
                    refine ⟨(i + 1, false), [0, 1, 2], ⟨by show i + 1 ≤ _; omega, fun _ => by show i + 1 ≤ k; omega⟩, by show l.length - (i + 1) < l.length - i; omega, ?_⟩
                    simp only [leq, leA, ev0, evA, evB, evP, fl, gp, tab, simprocAttr, reduceCtorEq, reduceIte] <;> first | trivial | omega | exact ⟨rfl, rfl⟩ | trace_state
            · cases hC5
          · refine hk_region fun K hK => runs_eval tab_ok ?_
            simp only [ev0, evA, evB, evP, fl, gp, tab, simprocAttr, reduceCtorEq, reduceIte, ll_length, decide_eq_true (show ((i : Nat) : Int) < ((l.length : Nat) : Int) by omega), if_true, decide_eq_false hw]
            refine fin_run ?_ (hK _ ?_) <;> clear hK <;> clear K
            · (first | exact trivial | omega | (simp only [In64] at *; omega) | (simp [In64] at *; omega) | (simp_all; done) | skip)
            refine qa ?_
            refine hk_cond rfl (fun hC5 => ?_) (fun hC5 => ?_)
            · cases hC5
            · (try simp only [nhs] at hC5)
              refine qj (qc (qc (qf (qa (qm ?_)))))
              refine hk_region fun K hK => runs_eval tab_ok ?_
              simp only [ev0, evA, evB, evP, fl, gp, tab, simprocAttr, reduceCtorEq, reduceIte]
              refine fin_run trivial (hK _ ?_) <;> clear hK <;> clear K
              refine qa (qm (qm ?_))
              refine hk_region fun K hK => runs_eval tab_ok ?_
              simp only [ev0, evA, evB, evP, fl, gp, tab, simprocAttr, reduceCtorEq, reduceIte, if_true, decide_eq_false hw]
              refine fin_run ?_ (hK _ ?_) <;> clear hK <;> clear K
              · (first | exact trivial | omega | (simp only [In64] at *; omega) | (simp [In64] at *; omega) | (simp_all; done) | skip)
              refine qa ?_
              refine hk_cond rfl (fun hC8 => ?_) (fun hC8 => ?_)
              · cases hC8
              · (try simp only [nhs] at hC8)
                refine qh (qa (qm (qm ?_)))
                refine hk_region fun K hK => runs_eval tab_ok ?_
                simp only [ev0, evA, evB, evP, fl, gp, tab, simprocAttr, reduceCtorEq, reduceIte, if_true, beq_self_eq_true, Bool.and_self, Bool.not_true]
                refine fin_stop trivial (runs_call (lists_b l l (by omega) hb) rfl rfl rfl (by simp only [dstOk, Nat.reduceLT]) (by repeat (first | exact trivial | constructor)) (runs_eval tab_ok ?_))
                simp only [ev0, evA, evB, evP, fl, gp, tab, simprocAttr, reduceCtorEq, reduceIte, decide_eq_true (show l = l from rfl), if_true, beq_self_eq_true, Bool.and_self, Bool.not_true]
                refine fin_run ?_ (hK _ ?_) <;> clear hK <;> clear K
                · (first | exact trivial | omega | (simp only [In64] at *; omega) | (simp [In64] at *; omega) | (simp_all; done) | skip)
                refine qa ?_
                refine hk_cond rfl (fun hC10 => ?_) (fun hC10 => ?_)
                · cases hC10
                · (try simp only [nhs] at hC10)
                  refine qh (qa (qm (qm ?_)))
                  refine hk_region fun K hK => runs_eval tab_ok ?_
                  simp only [ev0, evA, evB, evP, fl, gp, tab, simprocAttr, reduceCtorEq, reduceIte, if_true, decide_eq_false hw]
                  refine fin_run ?_ (hK _ ?_) <;> clear hK <;> clear K
                  · (first | exact trivial | omega | (simp only [In64] at *; omega) | (simp [In64] at *; omega) | (simp_all; done) | skip)
                  refine qa ?_
                  refine hk_cond rfl (fun hC11 => ?_) (fun hC11 => ?_)
                  · (try simp only [nhs] at hC11)
                    refine qm ?_
                    refine hk_region fun K hK => runs_eval tab_ok ?_
                    simp only [ev0, evA, evB, evP, fl, gp, tab, simprocAttr, reduceCtorEq, reduceIte]
                    refine fin_stop trivial (runs_call (noGroup_c 0 []) rfl rfl rfl (by simp only [dstOk, Nat.reduceLT]) (by repeat (first | exact trivial | constructor)) (runs_eval tab_ok ?_))
                    simp only [ev0, evA, evB, evP, fl, gp, tab, simprocAttr, reduceCtorEq, reduceIte]
                    refine fin_run ?_ (hK _ ?_) <;> clear hK <;> clear K
                    · (first | exact trivial | omega | (simp only [In64] at *; omega) | (simp [In64] at *; omega) | (simp_all; done) | skip)
                    refine qa (qk (qb ?_))
                    simp only [Try.results4, enA, ev0, evA, evB, evP, fl, gp, tab, simprocAttr, reduceCtorEq, reduceIte]
                    all_goals (first | rfl | trace_state)
                  · cases hC11
          · refine hk_region fun K hK => runs_eval tab_ok ?_
            simp only [ev0, evA, evB, evP, fl, gp, tab, simprocAttr, reduceCtorEq, reduceIte, ll_length, decide_eq_false (show ¬ ((i : Nat) : Int) < ((l.length : Nat) : Int) by omega)]
            refine fin_run trivial (hK _ ?_) <;> clear hK <;> clear K
            refine qa ?_
            refine hk_cond rfl (fun hC5 => ?_) (fun hC5 => ?_)
            · cases hC5
            · refine qj (qc (qc (qf (qa (qm ?_)))))
              refine hk_region fun K hK => runs_eval tab_ok ?_
              simp only [ev0, evA, evB, evP, fl, gp, tab, simprocAttr, reduceCtorEq, reduceIte]
              refine fin_run trivial (hK _ ?_) <;> clear hK <;> clear K
              refine qa (qm (qm ?_))
              refine hk_region fun K hK => runs_eval tab_ok ?_
              simp only [ev0, evA, evB, evP, fl, gp, tab, simprocAttr, reduceCtorEq, reduceIte, if_true, decide_eq_false hw]
              refine fin_run ?_ (hK _ ?_) <;> clear hK <;> clear K
              · (first | exact trivial | omega | (simp only [In64] at *; omega) | (simp [In64] at *; omega) | (simp_all; done) | skip)
              refine qa ?_
              refine hk_cond rfl (fun hC8 => ?_) (fun hC8 => ?_)
              · cases hC8
              · (try simp only [nhs] at hC8)
                refine qh (qa (qm (qm ?_)))
                refine hk_region fun K hK => runs_eval tab_ok ?_
                simp only [ev0, evA, evB, evP, fl, gp, tab, simprocAttr, reduceCtorEq, reduceIte, if_true, beq_self_eq_true, Bool.and_self, Bool.not_true]
                refine fin_stop trivial (runs_call (lists_b l l (by omega) hb) rfl rfl rfl (by simp only [dstOk, Nat.reduceLT]) (by repeat (first | exact trivial | constructor)) (runs_eval tab_ok ?_))
                simp only [ev0, evA, evB, evP, fl, gp, tab, simprocAttr, reduceCtorEq, reduceIte, decide_eq_true (show l = l from rfl), if_true, beq_self_eq_true, Bool.and_self, Bool.not_true]
                refine fin_run ?_ (hK _ ?_) <;> clear hK <;> clear K
                · (first | exact trivial | omega | (simp only [In64] at *; omega) | (simp [In64] at *; omega) | (simp_all; done) | skip)
                refine qa ?_
                refine hk_cond rfl (fun hC10 => ?_) (fun hC10 => ?_)
                · cases hC10
                · (try simp only [nhs] at hC10)
                  refine qh (qa (qm (qm ?_)))
                  refine hk_region fun K hK => runs_eval tab_ok ?_
                  simp only [ev0, evA, evB, evP, fl, gp, tab, simprocAttr, reduceCtorEq, reduceIte, if_true, decide_eq_false hw]
                  refine fin_run ?_ (hK _ ?_) <;> clear hK <;> clear K
                  · (first | exact trivial | omega | (simp only [In64] at *; omega) | (simp [In64] at *; omega) | (simp_all; done) | skip)
                  refine qa ?_
                  refine hk_cond rfl (fun hC11 => ?_) (fun hC11 => ?_)
                  · (try simp only [nhs] at hC11)
                    refine qm ?_
                    refine hk_region fun K hK => runs_eval tab_ok ?_
                    simp only [ev0, evA, evB, evP, fl, gp, tab, simprocAttr, reduceCtorEq, reduceIte]
                    refine fin_stop trivial (runs_call (noGroup_c 0 []) rfl rfl rfl (by simp only [dstOk, Nat.reduceLT]) (by repeat (first | exact trivial | constructor)) (runs_eval tab_ok ?_))
                    simp only [ev0, evA, evB, evP, fl, gp, tab, simprocAttr, reduceCtorEq, reduceIte]
                    refine fin_run ?_ (hK _ ?_) <;> clear hK <;> clear K
                    · (first | exact trivial | omega | (simp only [In64] at *; omega) | (simp [In64] at *; omega) | (simp_all; done) | skip)
                    refine qa (qk (qb ?_))
                    simp only [Try.results4, enA, ev0, evA, evB, evP, fl, gp, tab, simprocAttr, reduceCtorEq, reduceIte]
                    all_goals (first | rfl | trace_state)
                  · cases hC11
theorem tp_len (l : List (List Int)) (hl : l.length ≤ 1000) (hb : ∀ w ∈ l, w.length ≤ 17592186043904) (h1 : 1 ≤ l.length) (h20 : l.length ≤ 20) {k : Nat} (hk : k < l.length) (hg : ∀ j, j < k → PermOk (l.getD j []) ∧ (l.getD j []).length = (l.getD 0 []).length) (hc : PermOk (l.getD k [])) (hr : ¬ (l.getD k []).length = (l.getD 0 []).length) : FnC Try.prog 4 [.list (ll l)] (.bool true) := by
  have cP := permsT_len l h1 h20 hk hg hc hr
  have hw : ¬ (8 : Int) = 0 := by decide
  refine fnc_of tab_ok Try.func4 rfl (by kernel_rfl) (by rw [Try.ntmps4]; exact Nat.le_add_left 1 _) ?_; rw [Try.ntmps4]
  refine qm ?_
  refine hk_region fun K hK => runs_eval tab_ok ?_
  simp only [ev0, evA, evB, evP, fl, gp, tab, simprocAttr, reduceCtorEq, reduceIte]
  refine fin_run trivial (hK _ ?_) <;> clear hK <;> clear K
  refine qa (qm (qm ?_))
  refine hk_region fun K hK => runs_eval tab_ok ?_
  simp only [ev0, evA, evB, evP, fl, gp, tab, simprocAttr, reduceCtorEq, reduceIte]
  refine fin_stop trivial (runs_call (begun_c) rfl rfl rfl (by simp only [dstOk, Nat.reduceLT]) (by repeat (first | exact trivial | constructor)) (runs_eval tab_ok ?_))
  simp only [ev0, evA, evB, evP, fl, gp, tab, simprocAttr, reduceCtorEq, reduceIte]
  refine fin_run trivial (hK _ ?_) <;> clear hK <;> clear K
  refine qa ?_
  refine hk_cond rfl (fun hC1 => ?_) (fun hC1 => ?_)
  · cases hC1
  · (try simp only [nhs] at hC1)
    refine qh (qa (qm (qm ?_)))
    refine hk_region fun K hK => runs_eval tab_ok ?_
    simp only [ev0, evA, evB, evP, fl, gp, tab, simprocAttr, reduceCtorEq, reduceIte, ll_length]
    refine fin_run trivial (hK _ ?_) <;> clear hK <;> clear K
    refine qa ?_
    refine hk_cond rfl (fun hC2 => ?_) (fun hC2 => ?_)
    · (try simp only [nhs] at hC2)
      omega
    · (try simp only [nhs] at hC2)
      refine qh (qa (qm ?_))
      refine hk_region fun K hK => runs_eval tab_ok ?_
      simp only [ev0, evA, evB, evP, fl, gp, tab, simprocAttr, reduceCtorEq, reduceIte]
      refine fin_run trivial (hK _ ?_) <;> clear hK <;> clear K
      refine qa (qm (qm ?_))
      refine hk_own0 3 rfl ?_
      refine hk_region fun K hK => runs_eval tab_ok ?_
      simp only [ev0, evA, evB, evP, fl, gp, tab, simprocAttr, reduceCtorEq, reduceIte]
      refine fin_run trivial (hK _ ?_) <;> clear hK <;> clear K
      refine qa (ql ?_)
      refine hk_loop (ι := Nat) (fun i => ⟨175, [(0, .p (.list (ll l))), (3, .sl 0 0 (l.take i).length), (4, .p (.int .i64 i))], [.own (opl (ll (l.take i)))]⟩) (fun i => i ≤ l.length) (fun i => l.length - i) 0 (Nat.zero_le _) [0] (by simp only [leq, leA, ev0, evA, evB, evP, fl, gp, tab, simprocAttr, reduceCtorEq, reduceIte, ll_takeL] <;> first | trivial | simp [opl, ll] | trace_state) fun i hi => ?_
      have htl : (l.take i).length = i := by rw [List.length_take]; omega
      refine qm (qm ?_)
      refine hk_region fun K hK => runs_eval tab_ok ?_
      simp only [ev0, evA, evB, evP, fl, gp, tab, simprocAttr, reduceCtorEq, reduceIte, ll_length]
      refine fin_run trivial (hK _ ?_) <;> clear hK <;> clear K
      refine qa ?_
      refine hk_cond rfl (fun hC3 => ?_) (fun hC3 => ?_)
      · (try simp only [nhs] at hC3)
        have hil : i < l.length := by omega
        have hsn : l.take (i + 1) = l.take i ++ [l.getD i []] := by
          rw [List.take_succ_eq_append_getElem hil]; simp [List.getD, List.getElem?_eq_getElem hil]
        refine qh (qa (qm (ql ?_)))
        refine hk_region fun K hK => runs_eval tab_ok ?_
        simp only [ev0, evA, evB, evP, fl, gp, tab, simprocAttr, reduceCtorEq, reduceIte, ll_length, ll_get hil, ll_takeL, oll_ok, ll_snoc]
        refine fin_stop ?_ (runs_call (own_c (l.getD i []) (hb _ (getD_memR hil))) rfl rfl rfl (by simp only [dstOk, Nat.reduceLT]) (by repeat (first | exact trivial | constructor)) (runs_eval tab_ok ?_))
        · first | (exact ⟨by omega, by omega⟩) | trace_state
        simp only [ev0, evA, evB, evP, fl, gp, tab, simprocAttr, reduceCtorEq, reduceIte, ll_length, ll_get hil, ll_takeL, oll_ok, ll_snoc]
        refine fin_run ?_ (hK _ ?_) <;> clear hK <;> clear K
        · first | (simp [cellOk, PV.one]; done) | (simp [cellOk, PV.one]; omega) | trace_state
        refine qd (qa ?_)
        refine hk_region fun K hK => runs_eval tab_ok ?_
        simp only [ev0, evA, evB, evP, fl, gp, tab, simprocAttr, reduceCtorEq, reduceIte]
        refine fin_run ?_ (hK _ ?_) <;> clear hK <;> clear K
        · (first | exact trivial | omega | (simp only [In64] at *; omega) | (simp [In64] at *; omega) | (simp_all; done) | skip)
        refine qa ?_
        refine ⟨i + 1, [1], by omega, by omega, ?_⟩
        rw [hsn]
        simp only [leq, leA, ev0, evA, evB, evP, fl, gp, tab, simprocAttr, reduceCtorEq, reduceIte, ll_takeL, ll_snoc, ll_takeS] <;> first | trivial | omega | (simp; done) | trace_state
      · (try simp only [nhs] at hC3)
        have hie : i = l.length := by omega
        rw [hie, List.take_length]
        refine qj (qc (qc (qf (qa (qm ?_)))))
        refine hk_sealp 3 0 (ll_all l) (by show AV.sl 0 0 _ = AV.sl 0 0 _; rw [ll_length]) rfl ?_
        refine hk_region fun K hK => runs_eval tab_ok ?_
        simp only [ev0, evA, evB, evP, fl, gp, tab, simprocAttr, reduceCtorEq, reduceIte]
        refine fin_stop trivial (runs_call (cP) rfl rfl rfl (by simp only [dstOk, Nat.reduceLT]) (by repeat (first | exact trivial | constructor)) (runs_eval tab_ok ?_))
        simp only [ev0, evA, evB, evP, fl, gp, tab, simprocAttr, reduceCtorEq, reduceIte]
        refine fin_run ?_ (hK _ ?_) <;> clear hK <;> clear K
        · (first | exact trivial | omega | (simp only [In64] at *; omega) | (simp [In64] at *; omega) | (simp_all; done) | skip)
        refine qa (qm ?_)
        refine hk_region fun K hK => runs_eval tab_ok ?_
        simp only [ev0, evA, evB, evP, fl, gp, tab, simprocAttr, reduceCtorEq, reduceIte]
        refine fin_run ?_ (hK _ ?_) <;> clear hK <;> clear K
        · (first | exact trivial | omega | (simp only [In64] at *; omega) | (simp [In64] at *; omega) | (simp_all; done) | skip)
        refine qa (qm (qm ?_))
        refine hk_region fun K hK => runs_eval tab_ok ?_
        simp only [ev0, evA, evB, evP, fl, gp, tab, simprocAttr, reduceCtorEq, reduceIte, ll_length, decide_eq_false (show ¬ ((l.length : Nat) : Int) < 1 by omega), decide_eq_false (show ¬ ((l.length : Nat) : Int) > 20 by omega)]
        refine fin_run trivial (hK _ ?_) <;> clear hK <;> clear K
        refine qa ?_
        refine hk_cond rfl (fun hC4 => ?_) (fun hC4 => ?_)
        · cases hC4
        · (try simp only [nhs] at hC4)
          refine qh (qa (qm (qm ?_)))
          refine hk_region fun K hK => runs_eval tab_ok ?_
          simp only [ev0, evA, evB, evP, fl, gp, tab, simprocAttr, reduceCtorEq, reduceIte]
          refine fin_run trivial (hK _ ?_) <;> clear hK <;> clear K
          refine qa (ql ?_)
          refine hk_loop (ι := Nat × Bool) (fun s => ⟨175, [(0, .p (.list (ll l))), (3, .p (.list (ll l))), (5, .ptr 0 0), (6, .p (.list (ll []))), (7, .ptr 1 0), (8, .ptr 2 0), (9, .p (.int .i64 s.1))], [.own [.p (.int .i64 0), .p (.list (il []))], .own [.p (.int .i64 8), .p (.int .i64 k)], .own [.p (.int .i64 (if s.2 then 8 else 0)), .p (.int .i64 (if s.2 then k else 0))]]⟩) (fun s => s.1 ≤ l.length ∧ (s.2 = false → s.1 ≤ k)) (fun s => l.length - s.1) (0, false) ⟨Nat.zero_le _, fun _ => Nat.zero_le _⟩ [1, 2, 3] (by simp only [leq, leA, ev0, evA, evB, evP, fl, gp, tab, simprocAttr, reduceCtorEq, reduceIte] <;> first | trivial | exact ⟨rfl, rfl⟩ | trace_state) fun s hs => ?_
          obtain ⟨i, ov⟩ := s
          obtain ⟨hi, hi2⟩ := hs
          simp only at hi hi2
          have hcs : (ov = false ∧ i ≤ k) ∨ (ov = true ∧ i < l.length) ∨ (ov = true ∧ ¬ i < l.length) := by
            cases ov
            · exact .inl ⟨rfl, hi2 rfl⟩
            · by_cases hil : i < l.length
              · exact .inr (.inl ⟨rfl, hil⟩)
              · exact .inr (.inr ⟨rfl, hil⟩)
          refine qm (qm ?_)
          rcases hcs with ⟨rfl, hik⟩ | ⟨rfl, hil⟩ | ⟨rfl, hil⟩
          · refine hk_region fun K hK => runs_eval tab_ok ?_
            simp only [ev0, evA, evB, evP, fl, gp, tab, simprocAttr, reduceCtorEq, reduceIte, ll_length, decide_eq_true (show ((i : Nat) : Int) < ((l.length : Nat) : Int) by omega), if_false]
            refine fin_run ?_ (hK _ ?_) <;> clear hK <;> clear K
            · (first | exact trivial | omega | (simp only [In64] at *; omega) | (simp [In64] at *; omega) | (simp_all; done) | skip)
            refine qa ?_
            refine hk_cond rfl (fun hC5 => ?_) (fun hC5 => ?_)
            · (try simp only [nhs] at hC5)
              have hil : i < l.length := by omega
              refine qh (qa (qm (ql (qm ?_))))
              by_cases hjk : i = k
              · subst hjk
                refine hk_region fun K hK => runs_eval tab_ok ?_
                simp only [ev0, evA, evB, evP, fl, gp, tab, simprocAttr, reduceCtorEq, reduceIte, ll_length, ll_get hil]
                refine fin_stop ?_ (runs_call (permFault_c hc) rfl rfl rfl (by simp only [dstOk, Nat.reduceLT]) (by repeat (first | exact trivial | constructor)) (runs_eval tab_ok ?_))
                · exact ⟨by omega, by omega⟩
                simp only [ev0, evA, evB, evP, fl, gp, tab, simprocAttr, reduceCtorEq, reduceIte, ll_length, ll_get hil]
                refine fin_run ?_ (hK _ ?_) <;> clear hK <;> clear K
                · (first | exact trivial | omega | (simp only [In64] at *; omega) | (simp [In64] at *; omega) | (simp_all; done) | skip)
                refine qa (qm ?_)
                refine hk_region fun K hK => runs_eval tab_ok ?_
                simp only [ev0, evA, evB, evP, fl, gp, tab, simprocAttr, reduceCtorEq, reduceIte]
                refine fin_run ?_ (hK _ ?_) <;> clear hK <;> clear K
                · (first | exact trivial | omega | (simp only [In64] at *; omega) | (simp [In64] at *; omega) | (simp_all; done) | skip)
                refine qa ?_
                refine hk_cond rfl (fun hC6 => ?_) (fun hC6 => ?_)
                · cases hC6
                · (try simp only [nhs] at hC6)
                  refine qm ?_
                  refine hk_draw mixed (by kernel_rfl) fun K hK => runs_eval tab_ok ?_
                  simp only [ev0, evA, evB, evP, fl, gp, tab, simprocAttr, reduceCtorEq, reduceIte, ll_length, ll_get (show 0 < l.length by omega), ll_get hil, il_length, decide_eq_false (show ¬ (((l.getD i []).length : Nat) : Int) = (((l.getD 0 []).length : Nat) : Int) by omega)]
                  refine fin_run ?_ (hK _ ?_) <;> clear hK <;> clear K
                  · (first | exact trivial | omega | (simp only [In64] at *; omega) | (simp [In64] at *; omega) | (simp_all; done) | skip)
                  refine qa ?_
                  refine hk_cond rfl (fun hC7 => ?_) (fun hC7 => ?_)
                  · (try simp only [nhs] at hC7)
                    refine hk_region fun K hK => runs_eval tab_ok ?_
                    simp only [ev0, evA, evB, evP, fl, gp, tab, simprocAttr, reduceCtorEq, reduceIte]
                    refine fin_stop trivial (runs_call (f_c 8 i) rfl rfl rfl (by simp only [dstOk, Nat.reduceLT]) (by repeat (first | exact trivial | constructor)) (runs_eval tab_ok ?_))
                    simp only [ev0, evA, evB, evP, fl, gp, tab, simprocAttr, reduceCtorEq, reduceIte]
                    refine fin_run ?_ (hK _ ?_) <;> clear hK <;> clear K
                    · (first | exact trivial | omega | (simp only [In64] at *; omega) | (simp [In64] at *; omega) | (simp_all; done) | skip)
                    refine qd (qa ?_)
                    refine hk_region fun K hK => runs_eval tab_ok ?_
                    simp only [ev0, evA, evB, evP, fl, gp, tab, simprocAttr, reduceCtorEq, reduceIte]
                    refine fin_run ?_ (hK _ ?_) <;> clear hK <;> clear K
                    · (first | exact trivial | omega | (simp only [In64] at *; omega) | (simp [In64] at *; omega) | (simp_all; done) | skip)
                    refine qa ?_
                    refine ⟨(i + 1, true), [0, 1, 2], ⟨by show i + 1 ≤ _; omega, fun h => (by cases h)⟩, by show l.length - (i + 1) < l.length - i; omega, ?_⟩
                    simp only [leq, leA, ev0, evA, evB, evP, fl, gp, tab, simprocAttr, reduceCtorEq, reduceIte] <;> first | trivial | omega | exact ⟨rfl, rfl⟩ | trace_state
                  · cases hC7
              · obtain ⟨hp, hpl⟩ := hg i (by omega)
                refine hk_region fun K hK => runs_eval tab_ok ?_
                simp only [ev0, evA, evB, evP, fl, gp, tab, simprocAttr, reduceCtorEq, reduceIte, ll_length, ll_get hil]
                refine fin_stop ?_ (runs_call (permFault_c hp) rfl rfl rfl (by simp only [dstOk, Nat.reduceLT]) (by repeat (first | exact trivial | constructor)) (runs_eval tab_ok ?_))
                · exact ⟨by omega, by omega⟩
                simp only [ev0, evA, evB, evP, fl, gp, tab, simprocAttr, reduceCtorEq, reduceIte, ll_length, ll_get hil]
                refine fin_run ?_ (hK _ ?_) <;> clear hK <;> clear K
                · (first | exact trivial | omega | (simp only [In64] at *; omega) | (simp [In64] at *; omega) | (simp_all; done) | skip)
                refine qa (qm ?_)
                refine hk_region fun K hK => runs_eval tab_ok ?_
                simp only [ev0, evA, evB, evP, fl, gp, tab, simprocAttr, reduceCtorEq, reduceIte]
                refine fin_run ?_ (hK _ ?_) <;> clear hK <;> clear K
                · (first | exact trivial | omega | (simp only [In64] at *; omega) | (simp [In64] at *; omega) | (simp_all; done) | skip)
                refine qa ?_
                refine hk_cond rfl (fun hC6 => ?_) (fun hC6 => ?_)
                · cases hC6
                · (try simp only [nhs] at hC6)
                  refine qm ?_
                  refine hk_draw mixed (by kernel_rfl) fun K hK => runs_eval tab_ok ?_
                  simp only [ev0, evA, evB, evP, fl, gp, tab, simprocAttr, reduceCtorEq, reduceIte, ll_length, ll_get (show 0 < l.length by omega), ll_get hil, il_length, decide_eq_true (show (((l.getD i []).length : Nat) : Int) = (((l.getD 0 []).length : Nat) : Int) by omega)]
                  refine fin_run ?_ (hK _ ?_) <;> clear hK <;> clear K
                  · (first | exact trivial | omega | (simp only [In64] at *; omega) | (simp [In64] at *; omega) | (simp_all; done) | skip)
                  refine qa ?_
                  refine hk_cond rfl (fun hC7 => ?_) (fun hC7 => ?_)
                  · cases hC7
                  · (try simp only [nhs] at hC7)
                    refine qh (qd (qa ?_))
                    refine hk_region fun K hK => runs_eval tab_ok ?_
                    simp only [ev0, evA, evB, evP, fl, gp, tab, simprocAttr, reduceCtorEq, reduceIte]
                    refine fin_run ?_ (hK _ ?_) <;> clear hK <;> clear K
                    · (first | exact trivial | omega | (simp only [In64] at *; omega) | (simp [In64] at *; omega) | (simp_all; done) | skip)
                    refine qa ?_
                    refine ⟨(i + 1, false), [0, 1, 2], ⟨by show i + 1 ≤ _; omega, fun _ => by show i + 1 ≤ k; omega⟩, by show l.length - (i + 1) < l.length - i; omega, ?_⟩
                    simp only [leq, leA, ev0, evA, evB, evP, fl, gp, tab, simprocAttr, reduceCtorEq, reduceIte] <;> first | trivial | omega | exact ⟨rfl, rfl⟩ | trace_state
            · cases hC5
          · refine hk_region fun K hK => runs_eval tab_ok ?_
            simp only [ev0, evA, evB, evP, fl, gp, tab, simprocAttr, reduceCtorEq, reduceIte, ll_length, decide_eq_true (show ((i : Nat) : Int) < ((l.length : Nat) : Int) by omega), if_true, decide_eq_false hw]
            refine fin_run ?_ (hK _ ?_) <;> clear hK <;> clear K
            · (first | exact trivial | omega | (simp only [In64] at *; omega) | (simp [In64] at *; omega) | (simp_all; done) | skip)
            refine qa ?_
            refine hk_cond rfl (fun hC5 => ?_) (fun hC5 => ?_)
            · cases hC5
            · (try simp only [nhs] at hC5)
              refine qj (qc (qc (qf (qa (qm ?_)))))
              refine hk_region fun K hK => runs_eval tab_ok ?_
              simp only [ev0, evA, evB, evP, fl, gp, tab, simprocAttr, reduceCtorEq, reduceIte]
              refine fin_run trivial (hK _ ?_) <;> clear hK <;> clear K
              refine qa (qm (qm ?_))
              refine hk_region fun K hK => runs_eval tab_ok ?_
              simp only [ev0, evA, evB, evP, fl, gp, tab, simprocAttr, reduceCtorEq, reduceIte, if_true, decide_eq_false hw]
              refine fin_run ?_ (hK _ ?_) <;> clear hK <;> clear K
              · (first | exact trivial | omega | (simp only [In64] at *; omega) | (simp [In64] at *; omega) | (simp_all; done) | skip)
              refine qa ?_
              refine hk_cond rfl (fun hC8 => ?_) (fun hC8 => ?_)
              · cases hC8
              · (try simp only [nhs] at hC8)
                refine qh (qa (qm (qm ?_)))
                refine hk_region fun K hK => runs_eval tab_ok ?_
                simp only [ev0, evA, evB, evP, fl, gp, tab, simprocAttr, reduceCtorEq, reduceIte, if_true, beq_self_eq_true, Bool.and_self, Bool.not_true]
                refine fin_stop trivial (runs_call (lists_b l l (by omega) hb) rfl rfl rfl (by simp only [dstOk, Nat.reduceLT]) (by repeat (first | exact trivial | constructor)) (runs_eval tab_ok ?_))
                simp only [ev0, evA, evB, evP, fl, gp, tab, simprocAttr, reduceCtorEq, reduceIte, decide_eq_true (show l = l from rfl), if_true, beq_self_eq_true, Bool.and_self, Bool.not_true]
                refine fin_run ?_ (hK _ ?_) <;> clear hK <;> clear K
                · (first | exact trivial | omega | (simp only [In64] at *; omega) | (simp [In64] at *; omega) | (simp_all; done) | skip)
                refine qa ?_
                refine hk_cond rfl (fun hC10 => ?_) (fun hC10 => ?_)
                · cases hC10
                · (try simp only [nhs] at hC10)
                  refine qh (qa (qm (qm ?_)))
                  refine hk_region fun K hK => runs_eval tab_ok ?_
                  simp only [ev0, evA, evB, evP, fl, gp, tab, simprocAttr, reduceCtorEq, reduceIte, if_true, decide_eq_false hw]
                  refine fin_run ?_ (hK _ ?_) <;> clear hK <;> clear K
                  · (first | exact trivial | omega | (simp only [In64] at *; omega) | (simp [In64] at *; omega) | (simp_all; done) | skip)
                  refine qa ?_
                  refine hk_cond rfl (fun hC11 => ?_) (fun hC11 => ?_)
                  · (try simp only [nhs] at hC11)
                    refine qm ?_
                    refine hk_region fun K hK => runs_eval tab_ok ?_
                    simp only [ev0, evA, evB, evP, fl, gp, tab, simprocAttr, reduceCtorEq, reduceIte]
                    refine fin_stop trivial (runs_call (noGroup_c 0 []) rfl rfl rfl (by simp only [dstOk, Nat.reduceLT]) (by repeat (first | exact trivial | constructor)) (runs_eval tab_ok ?_))
                    simp only [ev0, evA, evB, evP, fl, gp, tab, simprocAttr, reduceCtorEq, reduceIte]
                    refine fin_run ?_ (hK _ ?_) <;> clear hK <;> clear K
                    · (first | exact trivial | omega | (simp only [In64] at *; omega) | (simp [In64] at *; omega) | (simp_all; done) | skip)
                    refine qa (qk (qb ?_))
                    simp only [Try.results4, enA, ev0, evA, evB, evP, fl, gp, tab, simprocAttr, reduceCtorEq, reduceIte]
                    all_goals (first | rfl | trace_state)
                  · cases hC11
          · refine hk_region fun K hK => runs_eval tab_ok ?_
            simp only [ev0, evA, evB, evP, fl, gp, tab, simprocAttr, reduceCtorEq, reduceIte, ll_length, decide_eq_false (show ¬ ((i : Nat) : Int) < ((l.length : Nat) : Int) by omega)]
            refine fin_run trivial (hK _ ?_) <;> clear hK <;> clear K
            refine qa ?_
            refine hk_cond rfl (fun hC5 => ?_) (fun hC5 => ?_)
            · cases hC5
            · refine qj (qc (qc (qf (qa (qm ?_)))))
              refine hk_region fun K hK => runs_eval tab_ok ?_
              simp only [ev0, evA, evB, evP, fl, gp, tab, simprocAttr, reduceCtorEq, reduceIte]
              refine fin_run trivial (hK _ ?_) <;> clear hK <;> clear K
              refine qa (qm (qm ?_))
              refine hk_region fun K hK => runs_eval tab_ok ?_
              simp only [ev0, evA, evB, evP, fl, gp, tab, simprocAttr, reduceCtorEq, reduceIte, if_true, decide_eq_false hw]
              refine fin_run ?_ (hK _ ?_) <;> clear hK <;> clear K
              · (first | exact trivial | omega | (simp only [In64] at *; omega) | (simp [In64] at *; omega) | (simp_all; done) | skip)
              refine qa ?_
              refine hk_cond rfl (fun hC8 => ?_) (fun hC8 => ?_)
              · cases hC8
              · (try simp only [nhs] at hC8)
                refine qh (qa (qm (qm ?_)))
                refine hk_region fun K hK => runs_eval tab_ok ?_
                simp only [ev0, evA, evB, evP, fl, gp, tab, simprocAttr, reduceCtorEq, reduceIte, if_true, beq_self_eq_true, Bool.and_self, Bool.not_true]
                refine fin_stop trivial (runs_call (lists_b l l (by omega) hb) rfl rfl rfl (by simp only [dstOk, Nat.reduceLT]) (by repeat (first | exact trivial | constructor)) (runs_eval tab_ok ?_))
                simp only [ev0, evA, evB, evP, fl, gp, tab, simprocAttr, reduceCtorEq, reduceIte, decide_eq_true (show l = l from rfl), if_true, beq_self_eq_true, Bool.and_self, Bool.not_true]
                refine fin_run ?_ (hK _ ?_) <;> clear hK <;> clear K
                · (first | exact trivial | omega | (simp only [In64] at *; omega) | (simp [In64] at *; omega) | (simp_all; done) | skip)
                refine qa ?_
                refine hk_cond rfl (fun hC10 => ?_) (fun hC10 => ?_)
                · cases hC10
                · (try simp only [nhs] at hC10)
                  refine qh (qa (qm (qm ?_)))
                  refine hk_region fun K hK => runs_eval tab_ok ?_
                  simp only [ev0, evA, evB, evP, fl, gp, tab, simprocAttr, reduceCtorEq, reduceIte, if_true, decide_eq_false hw]
                  refine fin_run ?_ (hK _ ?_) <;> clear hK <;> clear K
                  · (first | exact trivial | omega | (simp only [In64] at *; omega) | (simp [In64] at *; omega) | (simp_all; done) | skip)
                  refine qa ?_
                  refine hk_cond rfl (fun hC11 => ?_) (fun hC11 => ?_)
                  · (try simp only [nhs] at hC11)
                    refine qm ?_
                    refine hk_region fun K hK => runs_eval tab_ok ?_
                    simp only [ev0, evA, evB, evP, fl, gp, tab, simprocAttr, reduceCtorEq, reduceIte]
                    refine fin_stop trivial (runs_call (noGroup_c 0 []) rfl rfl rfl (by simp only [dstOk, Nat.reduceLT]) (by repeat (first | exact trivial | constructor)) (runs_eval tab_ok ?_))
                    simp only [ev0, evA, evB, evP, fl, gp, tab, simprocAttr, reduceCtorEq, reduceIte]
                    refine fin_run ?_ (hK _ ?_) <;> clear hK <;> clear K
                    · (first | exact trivial | omega | (simp only [In64] at *; omega) | (simp [In64] at *; omega) | (simp_all; done) | skip)
                    refine qa (qk (qb ?_))
                    simp only [Try.results4, enA, ev0, evA, evB, evP, fl, gp, tab, simprocAttr, reduceCtorEq, reduceIte]
                    all_goals (first | rfl | trace_state)
                  · cases hC11
theorem tp_over (l : List (List Int)) (hl : l.length ≤ 1000) (hb : ∀ w ∈ l, w.length ≤ 17592186043904) {c : Nat} (hc : c ≤ 1000) (h1 : 1 ≤ l.length) (h20 : l.length ≤ 20) (hl' : ∀ q ∈ l, PermOk q ∧ q.length = c) (hR : pqcl l 61 [idr c] 0 = none) : FnC Try.prog 4 [.list (ll l)] (.bool true) := by
  have cP := permsT_ok l c hc h1 h20 hl'
  have cG := generated_g l c hc h1 h20 hl'
  rw [hR] at cP cG
  simp only [onT, onA, onH] at cP cG
  refine fnc_of tab_ok Try.func4 rfl (by kernel_rfl) (by rw [Try.ntmps4]; exact Nat.le_add_left 1 _) ?_; rw [Try.ntmps4]
  refine qm ?_
  refine hk_region fun K hK => runs_eval tab_ok ?_
  simp only [ev0, evA, evB, evP, fl, gp, tab, simprocAttr, reduceCtorEq, reduceIte]
  refine fin_run trivial (hK _ ?_) <;> clear hK <;> clear K
  refine qa (qm (qm ?_))
  refine hk_region fun K hK => runs_eval tab_ok ?_
  simp only [ev0, evA, evB, evP, fl, gp, tab, simprocAttr, reduceCtorEq, reduceIte]
  refine fin_stop trivial (runs_call (begun_c) rfl rfl rfl (by simp only [dstOk, Nat.reduceLT]) (by repeat (first | exact trivial | constructor)) (runs_eval tab_ok ?_))
  simp only [ev0, evA, evB, evP, fl, gp, tab, simprocAttr, reduceCtorEq, reduceIte]
  refine fin_run trivial (hK _ ?_) <;> clear hK <;> clear K
  refine qa ?_
  refine hk_cond rfl (fun hC1 => ?_) (fun hC1 => ?_)
  · cases hC1
  · (try simp only [nhs] at hC1)
    refine qh (qa (qm (qm ?_)))
    refine hk_region fun K hK => runs_eval tab_ok ?_
    simp only [ev0, evA, evB, evP, fl, gp, tab, simprocAttr, reduceCtorEq, reduceIte, ll_length]
    refine fin_run trivial (hK _ ?_) <;> clear hK <;> clear K
    refine qa ?_
    refine hk_cond rfl (fun hC2 => ?_) (fun hC2 => ?_)
    · (try simp only [nhs] at hC2)
      omega
    · (try simp only [nhs] at hC2)
      refine qh (qa (qm ?_))
      refine hk_region fun K hK => runs_eval tab_ok ?_
      simp only [ev0, evA, evB, evP, fl, gp, tab, simprocAttr, reduceCtorEq, reduceIte]
      refine fin_run trivial (hK _ ?_) <;> clear hK <;> clear K
      refine qa (qm (qm ?_))
      refine hk_own0 3 rfl ?_
      refine hk_region fun K hK => runs_eval tab_ok ?_
      simp only [ev0, evA, evB, evP, fl, gp, tab, simprocAttr, reduceCtorEq, reduceIte]
      refine fin_run trivial (hK _ ?_) <;> clear hK <;> clear K
      refine qa (ql ?_)
      refine hk_loop (ι := Nat) (fun i => ⟨175, [(0, .p (.list (ll l))), (3, .sl 0 0 (l.take i).length), (4, .p (.int .i64 i))], [.own (opl (ll (l.take i)))]⟩) (fun i => i ≤ l.length) (fun i => l.length - i) 0 (Nat.zero_le _) [0] (by simp only [leq, leA, ev0, evA, evB, evP, fl, gp, tab, simprocAttr, reduceCtorEq, reduceIte, ll_takeL] <;> first | trivial | simp [opl, ll] | trace_state) fun i hi => ?_
      have htl : (l.take i).length = i := by rw [List.length_take]; omega
      refine qm (qm ?_)
      refine hk_region fun K hK => runs_eval tab_ok ?_
      simp only [ev0, evA, evB, evP, fl, gp, tab, simprocAttr, reduceCtorEq, reduceIte, ll_length]
      refine fin_run trivial (hK _ ?_) <;> clear hK <;> clear K
      refine qa ?_
      refine hk_cond rfl (fun hC3 => ?_) (fun hC3 => ?_)
      · (try simp only [nhs] at hC3)
        have hil : i < l.length := by omega
        have hsn : l.take (i + 1) = l.take i ++ [l.getD i []] := by
          rw [List.take_succ_eq_append_getElem hil]; simp [List.getD, List.getElem?_eq_getElem hil]
        refine qh (qa (qm (ql ?_)))
        refine hk_region fun K hK => runs_eval tab_ok ?_
        simp only [ev0, evA, evB, evP, fl, gp, tab, simprocAttr, reduceCtorEq, reduceIte, ll_length, ll_get hil, ll_takeL, oll_ok, ll_snoc]
        refine fin_stop ?_ (runs_call (own_c (l.getD i []) (hb _ (getD_memR hil))) rfl rfl rfl (by simp only [dstOk, Nat.reduceLT]) (by repeat (first | exact trivial | constructor)) (runs_eval tab_ok ?_))
        · first | (exact ⟨by omega, by omega⟩) | trace_state
        simp only [ev0, evA, evB, evP, fl, gp, tab, simprocAttr, reduceCtorEq, reduceIte, ll_length, ll_get hil, ll_takeL, oll_ok, ll_snoc]
        refine fin_run ?_ (hK _ ?_) <;> clear hK <;> clear K
        · first | (simp [cellOk, PV.one]; done) | (simp [cellOk, PV.one]; omega) | trace_state
        refine qd (qa ?_)
        refine hk_region fun K hK => runs_eval tab_ok ?_
        simp only [ev0, evA, evB, evP, fl, gp, tab, simprocAttr, reduceCtorEq, reduceIte]
        refine fin_run ?_ (hK _ ?_) <;> clear hK <;> clear K
        · (first | exact trivial | omega | (simp only [In64] at *; omega) | (simp [In64] at *; omega) | (simp_all; done) | skip)
        refine qa ?_
        refine ⟨i + 1, [1], by omega, by omega, ?_⟩
        rw [hsn]
        simp only [leq, leA, ev0, evA, evB, evP, fl, gp, tab, simprocAttr, reduceCtorEq, reduceIte, ll_takeL, ll_snoc, ll_takeS] <;> first | trivial | omega | (simp; done) | trace_state
      · (try simp only [nhs] at hC3)
        have hie : i = l.length := by omega
        rw [hie, List.take_length]
        refine qj (qc (qc (qf (qa (qm ?_)))))
        refine hk_sealp 3 0 (ll_all l) (by show AV.sl 0 0 _ = AV.sl 0 0 _; rw [ll_length]) rfl ?_
        refine hk_region fun K hK => runs_eval tab_ok ?_
        simp only [ev0, evA, evB, evP, fl, gp, tab, simprocAttr, reduceCtorEq, reduceIte]
        refine fin_stop trivial (runs_call (cP) rfl rfl rfl (by simp only [dstOk, Nat.reduceLT]) (by repeat (first | exact trivial | constructor)) (runs_eval tab_ok ?_))
        simp only [ev0, evA, evB, evP, fl, gp, tab, simprocAttr, reduceCtorEq, reduceIte]
        refine fin_run ?_ (hK _ ?_) <;> clear hK <;> clear K
        · (first | exact trivial | omega | (simp only [In64] at *; omega) | (simp [In64] at *; omega) | (simp_all; done) | skip)
        refine qa (qm ?_)
        refine hk_region fun K hK => runs_eval tab_ok ?_
        simp only [ev0, evA, evB, evP, fl, gp, tab, simprocAttr, reduceCtorEq, reduceIte]
        refine fin_run ?_ (hK _ ?_) <;> clear hK <;> clear K
        · (first | exact trivial | omega | (simp only [In64] at *; omega) | (simp [In64] at *; omega) | (simp_all; done) | skip)
        refine qa (qm (qm ?_))
        refine hk_region fun K hK => runs_eval tab_ok ?_
        simp only [ev0, evA, evB, evP, fl, gp, tab, simprocAttr, reduceCtorEq, reduceIte, ll_length, decide_eq_false (show ¬ ((l.length : Nat) : Int) < 1 by omega), decide_eq_false (show ¬ ((l.length : Nat) : Int) > 20 by omega)]
        refine fin_run trivial (hK _ ?_) <;> clear hK <;> clear K
        refine qa ?_
        refine hk_cond rfl (fun hC4 => ?_) (fun hC4 => ?_)
        · cases hC4
        · (try simp only [nhs] at hC4)
          refine qh (qa (qm (qm ?_)))
          refine hk_region fun K hK => runs_eval tab_ok ?_
          simp only [ev0, evA, evB, evP, fl, gp, tab, simprocAttr, reduceCtorEq, reduceIte]
          refine fin_run trivial (hK _ ?_) <;> clear hK <;> clear K
          refine qa (ql ?_)
          refine hk_loop (ι := Nat) (fun i => ⟨175, [(0, .p (.list (ll l))), (3, .p (.list (ll l))), (5, .ptr 0 0), (6, .p (.list (ll []))), (7, .ptr 1 0), (8, .ptr 2 0), (9, .p (.int .i64 i))], [.own [.p (.int .i64 0), .p (.list (il []))], .own [.p (.int .i64 9), .p (.int .i64 0)], .own [.p (.int .i64 0), .p (.int .i64 0)]]⟩) (fun i => i ≤ l.length) (fun i => l.length - i) 0 (Nat.zero_le _) [1, 2, 3] (by simp only [leq, leA, ev0, evA, evB, evP, fl, gp, tab, simprocAttr, reduceCtorEq, reduceIte] <;> first | trivial | exact ⟨rfl, rfl⟩ | trace_state) fun i hi => ?_
          refine qm (qm ?_)
          by_cases hil : i < l.length
          · refine hk_region fun K hK => runs_eval tab_ok ?_
            simp only [ev0, evA, evB, evP, fl, gp, tab, simprocAttr, reduceCtorEq, reduceIte, ll_length, decide_eq_true (show ((i : Nat) : Int) < ((l.length : Nat) : Int) by omega)]
            refine fin_run ?_ (hK _ ?_) <;> clear hK <;> clear K
            · (first | exact trivial | omega | (simp only [In64] at *; omega) | (simp [In64] at *; omega) | (simp_all; done) | skip)
            refine qa ?_
            refine hk_cond rfl (fun hC5 => ?_) (fun hC5 => ?_)
            · (try simp only [nhs] at hC5)
              have hpi := hl' _ (getD_memR hil)
              have hp0 := hl' _ (getD_memR (show 0 < l.length by omega))
              refine qh (qa (qm (ql (qm ?_))))
              refine hk_region fun K hK => runs_eval tab_ok ?_
              simp only [ev0, evA, evB, evP, fl, gp, tab, simprocAttr, reduceCtorEq, reduceIte, ll_length, ll_get hil]
              refine fin_stop ?_ (runs_call (permFault_c hpi.1) rfl rfl rfl (by simp only [dstOk, Nat.reduceLT]) (by repeat (first | exact trivial | constructor)) (runs_eval tab_ok ?_))
              · exact ⟨by omega, by omega⟩
              simp only [ev0, evA, evB, evP, fl, gp, tab, simprocAttr, reduceCtorEq, reduceIte, ll_length, ll_get hil]
              refine fin_run ?_ (hK _ ?_) <;> clear hK <;> clear K
              · (first | exact trivial | omega | (simp only [In64] at *; omega) | (simp [In64] at *; omega) | (simp_all; done) | skip)
              refine qa (qm ?_)
              refine hk_region fun K hK => runs_eval tab_ok ?_
              simp only [ev0, evA, evB, evP, fl, gp, tab, simprocAttr, reduceCtorEq, reduceIte]
              refine fin_run ?_ (hK _ ?_) <;> clear hK <;> clear K
              · (first | exact trivial | omega | (simp only [In64] at *; omega) | (simp [In64] at *; omega) | (simp_all; done) | skip)
              refine qa ?_
              refine hk_cond rfl (fun hC6 => ?_) (fun hC6 => ?_)
              · cases hC6
              · (try simp only [nhs] at hC6)
                refine qm ?_
                refine hk_draw mixed (by kernel_rfl) fun K hK => runs_eval tab_ok ?_
                simp only [ev0, evA, evB, evP, fl, gp, tab, simprocAttr, reduceCtorEq, reduceIte, ll_length, ll_get (show 0 < l.length by omega), ll_get hil, il_length, decide_eq_true (show (((l.getD i []).length : Nat) : Int) = (((l.getD 0 []).length : Nat) : Int) by omega)]
                refine fin_run ?_ (hK _ ?_) <;> clear hK <;> clear K
                · (first | exact trivial | omega | (simp only [In64] at *; omega) | (simp [In64] at *; omega) | (simp_all; done) | skip)
                refine qa ?_
                refine hk_cond rfl (fun hC7 => ?_) (fun hC7 => ?_)
                · cases hC7
                · (try simp only [nhs] at hC7)
                  refine qh (qd (qa ?_))
                  refine hk_region fun K hK => runs_eval tab_ok ?_
                  simp only [ev0, evA, evB, evP, fl, gp, tab, simprocAttr, reduceCtorEq, reduceIte]
                  refine fin_run ?_ (hK _ ?_) <;> clear hK <;> clear K
                  · (first | exact trivial | omega | (simp only [In64] at *; omega) | (simp [In64] at *; omega) | (simp_all; done) | skip)
                  refine qa ?_
                  refine ⟨i + 1, [0, 1, 2], by omega, by omega, ?_⟩
                  simp only [leq, leA, ev0, evA, evB, evP, fl, gp, tab, simprocAttr, reduceCtorEq, reduceIte] <;> first | trivial | omega | exact ⟨rfl, rfl⟩ | trace_state
            · cases hC5
          · refine hk_region fun K hK => runs_eval tab_ok ?_
            simp only [ev0, evA, evB, evP, fl, gp, tab, simprocAttr, reduceCtorEq, reduceIte, ll_length, decide_eq_false (show ¬ ((i : Nat) : Int) < ((l.length : Nat) : Int) by omega)]
            refine fin_run trivial (hK _ ?_) <;> clear hK <;> clear K
            refine qa ?_
            refine hk_cond rfl (fun hC5 => ?_) (fun hC5 => ?_)
            · cases hC5
            · refine qj (qc (qc (qf (qa (qm ?_)))))
              refine hk_region fun K hK => runs_eval tab_ok ?_
              simp only [ev0, evA, evB, evP, fl, gp, tab, simprocAttr, reduceCtorEq, reduceIte]
              refine fin_run trivial (hK _ ?_) <;> clear hK <;> clear K
              refine qa (qm (qm ?_))
              refine hk_region fun K hK => runs_eval tab_ok ?_
              simp only [ev0, evA, evB, evP, fl, gp, tab, simprocAttr, reduceCtorEq, reduceIte]
              refine fin_run ?_ (hK _ ?_) <;> clear hK <;> clear K
              · (first | exact trivial | omega | (simp only [In64] at *; omega) | (simp [In64] at *; omega) | (simp_all; done) | skip)
              refine qa ?_
              refine hk_cond rfl (fun hC8 => ?_) (fun hC8 => ?_)
              · (try simp only [nhs] at hC8)
                refine qm ?_
                refine hk_region fun K hK => runs_eval tab_ok ?_
                simp only [ev0, evA, evB, evP, fl, gp, tab, simprocAttr, reduceCtorEq, reduceIte]
                refine fin_stop trivial (runs_callG (cG) rfl rfl (by first | rfl | (simp [scG, scA, sc1, opl]; done) | (simp only [scG, List.all_cons, List.all_nil, ol_sc, Bool.and_true]; rfl)) (by simp only [dstOk, Nat.reduceLT]) (by repeat (first | exact trivial | constructor)) (runs_eval tab_ok ?_))
                simp only [Go.Pv.shf, List.range', Blk.ren, opl_ren, ren, ren1, ev0, evA, evB, evP, fl, gp, tab, simprocAttr, reduceCtorEq, reduceIte]
                refine fin_run trivial (hK _ ?_) <;> clear hK <;> clear K
                refine qa (qm ?_)
                refine hk_region fun K hK => runs_eval tab_ok ?_
                simp only [ev0, evA, evB, evP, fl, gp, tab, simprocAttr, reduceCtorEq, reduceIte]
                refine fin_run trivial (hK _ ?_) <;> clear hK <;> clear K
                refine qa ?_
                refine hk_cond rfl (fun hC9 => ?_) (fun hC9 => ?_)
                · (try simp only [nhs] at hC9)
                  refine hk_region fun K hK => runs_eval tab_ok ?_
                  simp only [ev0, evA, evB, evP, fl, gp, tab, simprocAttr, reduceCtorEq, reduceIte]
                  refine fin_stop trivial (runs_call (f_c 9 0) rfl rfl rfl (by simp only [dstOk, Nat.reduceLT]) (by repeat (first | exact trivial | constructor)) (runs_eval tab_ok ?_))
                  simp only [ev0, evA, evB, evP, fl, gp, tab, simprocAttr, reduceCtorEq, reduceIte]
                  refine fin_run ?_ (hK _ ?_) <;> clear hK <;> clear K
                  · (first | exact trivial | omega | (simp only [In64] at *; omega) | (simp [In64] at *; omega) | (simp_all; done) | skip)
                  refine qa (qm (qm ?_))
                  refine hk_region fun K hK => runs_eval tab_ok ?_
                  simp only [ev0, evA, evB, evP, fl, gp, tab, simprocAttr, reduceCtorEq, reduceIte, beq_self_eq_true, Bool.and_self, Bool.not_true]
                  refine fin_stop trivial (runs_call (lists_b l l (by omega) hb) rfl rfl rfl (by simp only [dstOk, Nat.reduceLT]) (by repeat (first | exact trivial | constructor)) (runs_eval tab_ok ?_))
                  simp only [ev0, evA, evB, evP, fl, gp, tab, simprocAttr, reduceCtorEq, reduceIte, decide_eq_true (show l = l from rfl), beq_self_eq_true, Bool.and_self, Bool.not_true]
                  refine fin_run ?_ (hK _ ?_) <;> clear hK <;> clear K
                  · (first | exact trivial | omega | (simp only [In64] at *; omega) | (simp [In64] at *; omega) | (simp_all; done) | skip)
                  refine qa ?_
                  refine hk_cond rfl (fun hC10 => ?_) (fun hC10 => ?_)
                  · cases hC10
                  · (try simp only [nhs] at hC10)
                    refine qh (qa (qm (qm ?_)))
                    refine hk_region fun K hK => runs_eval tab_ok ?_
                    simp only [ev0, evA, evB, evP, fl, gp, tab, simprocAttr, reduceCtorEq, reduceIte]
                    refine fin_run ?_ (hK _ ?_) <;> clear hK <;> clear K
                    · (first | exact trivial | omega | (simp only [In64] at *; omega) | (simp [In64] at *; omega) | (simp_all; done) | skip)
                    refine qa ?_
                    refine hk_cond rfl (fun hC11 => ?_) (fun hC11 => ?_)
                    · (try simp only [nhs] at hC11)
                      refine qm ?_
                      refine hk_region fun K hK => runs_eval tab_ok ?_
                      simp only [ev0, evA, evB, evP, fl, gp, tab, simprocAttr, reduceCtorEq, reduceIte]
                      refine fin_stop trivial (runs_call (noGroup_c 0 []) rfl rfl rfl (by simp only [dstOk, Nat.reduceLT]) (by repeat (first | exact trivial | constructor)) (runs_eval tab_ok ?_))
                      simp only [ev0, evA, evB, evP, fl, gp, tab, simprocAttr, reduceCtorEq, reduceIte]
                      refine fin_run ?_ (hK _ ?_) <;> clear hK <;> clear K
                      · (first | exact trivial | omega | (simp only [In64] at *; omega) | (simp [In64] at *; omega) | (simp_all; done) | skip)
                      refine qa (qk (qb ?_))
                      simp only [Try.results4, enA, ev0, evA, evB, evP, fl, gp, tab, simprocAttr, reduceCtorEq, reduceIte]
                      all_goals (first | rfl | trace_state)
                    · cases hC11
                · cases hC9
              · cases hC8
/-- Where a product stands, as a number. -/
def pmn (T : List (List Int)) (a b : Nat) : Nat := (pmt T a b).toNat
theorem pmn_at {l T : List (List Int)} {c : Nat} (h : Pgr l c T) {a b : Nat} (ha : a < T.length) (hb : b < T.length) : pmt T a b = ((pmn T a b : Nat) : Int) ∧ pmn T a b < T.length ∧ T.getD (pmn T a b) [] = thn (T.getD a []) (T.getD b []) := by
  have hm := h.mul _ (getD_memR ha) _ (getD_memR hb)
  obtain ⟨j, hj, he⟩ := List.mem_iff_getElem.1 hm
  unfold pmn pmt lix
  cases hf : fst' (fun i => decide (thn (T.getD a []) (T.getD b []) = T.getD i [])) T.length with
  | none =>
    have := fst_spec0 hf j hj
    simp only [decide_eq_false_iff_not] at this
    exact absurd (by simp [List.getD, List.getElem?_eq_getElem hj] at he ⊢; exact he.symm) this
  | some i =>
    obtain ⟨h1, h2, _⟩ := fst_spec hf
    rw [decide_eq_true_eq] at h2
    exact ⟨by simp, by simpa using h1, by simpa using h2.symm⟩
theorem Pgr.srt {l T : List (List Int)} {c : Nat} (h : Pgr l c T) : Pgr l c (srtL T) := by
  have hp := srtL_perm T
  have hl := hp.length_eq
  exact ⟨by rw [← hl]; exact h.len, by rw [← hl]; exact h.pos, hp.nodup_iff.1 h.nodup, fun t ht => h.perm t (hp.mem_iff.2 ht), fun a ha b hb => hp.mem_iff.1 (h.mul a (hp.mem_iff.2 ha) b (hp.mem_iff.2 hb))⟩
theorem rg_congr {f g : Nat → Int} {n : Nat} (h : ∀ i, i < n → f i = g i) : rg f n = rg g n := List.map_congr_left fun i hi => h i (List.mem_range.1 hi)
theorem tbl_congr2 {f g : Nat → Nat → Int} {n : Nat} (h : ∀ a b, a < n → b < n → f a b = g a b) : tbl f n = tbl g n := by
  unfold tbl tbr
  refine rg_congr fun i hi => ?_
  exact h _ _ (Nat.div_lt_of_lt_mul hi) (Nat.mod_lt _ (by
    rcases Nat.eq_zero_or_pos n with h0 | h0
    · subst h0; simp at hi
    · exact h0))
set_option maxHeartbeats 4000000 in
theorem tp_ok (l : List (List Int)) (hl : l.length ≤ 1000) (hb : ∀ w ∈ l, w.length ≤ 17592186043904) {c : Nat} (hc : c ≤ 1000) (h1 : 1 ≤ l.length) (h20 : l.length ≤ 20) (hl' : ∀ q ∈ l, PermOk q ∧ q.length = c) {T : List (List Int)} (hR : pqcl l 61 [idr c] 0 = some T) : FnC Try.prog 4 [.list (ll l)] (.bool true) := by
  have hgr := (pq_grp hc hl' hR).srt
  have cP := permsT_ok l c hc h1 h20 hl'
  have cG := generated_g l c hc h1 h20 hl'
  rw [hR] at cP cG
  simp only [onT, onA, onH] at cP cG
  replace cG := FnG_fnc cG (ll_all _)
  generalize srtL T = U at *
  have hUl := hgr.len
  have hUp := hgr.pos
  have hsq := sq_le hUl
  have hTab : Tab U.length (tbl (fun a b => ((pmn U a b : Nat) : Int)) U.length) := tbl_Tab hUp hUl fun a b ha hb => (pmn_at hgr ha hb).2.1
  have htt : tbl (pmt U) U.length = tbl (fun a b => ((pmn U a b : Nat) : Int)) U.length := tbl_congr2 fun a b ha hb => (pmn_at hgr ha hb).1
  rw [htt] at cP
  have htM := tbl_len (fun a b => ((pmn U a b : Nat) : Int)) U.length
  have hop : ∀ a b, a < U.length → b < U.length → op (tbl (fun a b => ((pmn U a b : Nat) : Int)) U.length) U.length a b = pmn U a b := fun a b ha hb => tbl_op' _ ha hb
  generalize tbl (fun a b => ((pmn U a b : Nat) : Int)) U.length = M at *
  refine fnc_of tab_ok Try.func4 rfl (by kernel_rfl) (by rw [Try.ntmps4]; exact Nat.le_add_left 1 _) ?_; rw [Try.ntmps4]
  refine qm ?_
  refine hk_region fun K hK => runs_eval tab_ok ?_
  simp only [ev0, evA, evB, evP, fl, gp, tab, simprocAttr, reduceCtorEq, reduceIte]
  refine fin_run trivial (hK _ ?_) <;> clear hK <;> clear K
  refine qa (qm (qm ?_))
  refine hk_region fun K hK => runs_eval tab_ok ?_
  simp only [ev0, evA, evB, evP, fl, gp, tab, simprocAttr, reduceCtorEq, reduceIte]
  refine fin_stop trivial (runs_call (begun_c) rfl rfl rfl (by simp only [dstOk, Nat.reduceLT]) (by repeat (first | exact trivial | constructor)) (runs_eval tab_ok ?_))
  simp only [ev0, evA, evB, evP, fl, gp, tab, simprocAttr, reduceCtorEq, reduceIte]
  refine fin_run trivial (hK _ ?_) <;> clear hK <;> clear K
  refine qa ?_
  refine hk_cond rfl (fun hC1 => ?_) (fun hC1 => ?_)
  · cases hC1
  · (try simp only [nhs] at hC1)
    refine qh (qa (qm (qm ?_)))
    refine hk_region fun K hK => runs_eval tab_ok ?_
    simp only [ev0, evA, evB, evP, fl, gp, tab, simprocAttr, reduceCtorEq, reduceIte, ll_length]
    refine fin_run trivial (hK _ ?_) <;> clear hK <;> clear K
    refine qa ?_
    refine hk_cond rfl (fun hC2 => ?_) (fun hC2 => ?_)
    · (try simp only [nhs] at hC2)
      omega
    · (try simp only [nhs] at hC2)
      refine qh (qa (qm ?_))
      refine hk_region fun K hK => runs_eval tab_ok ?_
      simp only [ev0, evA, evB, evP, fl, gp, tab, simprocAttr, reduceCtorEq, reduceIte]
      refine fin_run trivial (hK _ ?_) <;> clear hK <;> clear K
      refine qa (qm (qm ?_))
      refine hk_own0 3 rfl ?_
      refine hk_region fun K hK => runs_eval tab_ok ?_
      simp only [ev0, evA, evB, evP, fl, gp, tab, simprocAttr, reduceCtorEq, reduceIte]
      refine fin_run trivial (hK _ ?_) <;> clear hK <;> clear K
      refine qa (ql ?_)
      refine hk_loop (ι := Nat) (fun i => ⟨175, [(0, .p (.list (ll l))), (3, .sl 0 0 (l.take i).length), (4, .p (.int .i64 i))], [.own (opl (ll (l.take i)))]⟩) (fun i => i ≤ l.length) (fun i => l.length - i) 0 (Nat.zero_le _) [0] (by simp only [leq, leA, ev0, evA, evB, evP, fl, gp, tab, simprocAttr, reduceCtorEq, reduceIte, ll_takeL] <;> first | trivial | simp [opl, ll] | trace_state) fun i hi => ?_
      have htl : (l.take i).length = i := by rw [List.length_take]; omega
      refine qm (qm ?_)
      refine hk_region fun K hK => runs_eval tab_ok ?_
      simp only [ev0, evA, evB, evP, fl, gp, tab, simprocAttr, reduceCtorEq, reduceIte, ll_length]
      refine fin_run trivial (hK _ ?_) <;> clear hK <;> clear K
      refine qa ?_
      refine hk_cond rfl (fun hC3 => ?_) (fun hC3 => ?_)
      · (try simp only [nhs] at hC3)
        have hil : i < l.length := by omega
        have hsn : l.take (i + 1) = l.take i ++ [l.getD i []] := by
          rw [List.take_succ_eq_append_getElem hil]; simp [List.getD, List.getElem?_eq_getElem hil]
        refine qh (qa (qm (ql ?_)))
        refine hk_region fun K hK => runs_eval tab_ok ?_
        simp only [ev0, evA, evB, evP, fl, gp, tab, simprocAttr, reduceCtorEq, reduceIte, ll_length, ll_get hil, ll_takeL, oll_ok, ll_snoc]
        refine fin_stop ?_ (runs_call (own_c (l.getD i []) (hb _ (getD_memR hil))) rfl rfl rfl (by simp only [dstOk, Nat.reduceLT]) (by repeat (first | exact trivial | constructor)) (runs_eval tab_ok ?_))
        · first | (exact ⟨by omega, by omega⟩) | trace_state
        simp only [ev0, evA, evB, evP, fl, gp, tab, simprocAttr, reduceCtorEq, reduceIte, ll_length, ll_get hil, ll_takeL, oll_ok, ll_snoc]
        refine fin_run ?_ (hK _ ?_) <;> clear hK <;> clear K
        · first | (simp [cellOk, PV.one]; done) | (simp [cellOk, PV.one]; omega) | trace_state
        refine qd (qa ?_)
        refine hk_region fun K hK => runs_eval tab_ok ?_
        simp only [ev0, evA, evB, evP, fl, gp, tab, simprocAttr, reduceCtorEq, reduceIte]
        refine fin_run ?_ (hK _ ?_) <;> clear hK <;> clear K
        · (first | exact trivial | omega | (simp only [In64] at *; omega) | (simp [In64] at *; omega) | (simp_all; done) | skip)
        refine qa ?_
        refine ⟨i + 1, [1], by omega, by omega, ?_⟩
        rw [hsn]
        simp only [leq, leA, ev0, evA, evB, evP, fl, gp, tab, simprocAttr, reduceCtorEq, reduceIte, ll_takeL, ll_snoc, ll_takeS] <;> first | trivial | omega | (simp; done) | trace_state
      · (try simp only [nhs] at hC3)
        have hie : i = l.length := by omega
        rw [hie, List.take_length]
        refine qj (qc (qc (qf (qa (qm ?_)))))
        refine hk_sealp 3 0 (ll_all l) (by show AV.sl 0 0 _ = AV.sl 0 0 _; rw [ll_length]) rfl ?_
        refine hk_region fun K hK => runs_eval tab_ok ?_
        simp only [ev0, evA, evB, evP, fl, gp, tab, simprocAttr, reduceCtorEq, reduceIte]
        refine fin_stop trivial (runs_call (cP) rfl rfl rfl (by simp only [dstOk, Nat.reduceLT]) (by repeat (first | exact trivial | constructor)) (runs_eval tab_ok ?_))
        simp only [ev0, evA, evB, evP, fl, gp, tab, simprocAttr, reduceCtorEq, reduceIte]
        refine fin_run ?_ (hK _ ?_) <;> clear hK <;> clear K
        · (first | exact trivial | omega | (simp only [In64] at *; omega) | (simp [In64] at *; omega) | (simp_all; done) | skip)
        refine qa (qm ?_)
        refine hk_region fun K hK => runs_eval tab_ok ?_
        simp only [ev0, evA, evB, evP, fl, gp, tab, simprocAttr, reduceCtorEq, reduceIte]
        refine fin_run ?_ (hK _ ?_) <;> clear hK <;> clear K
        · (first | exact trivial | omega | (simp only [In64] at *; omega) | (simp [In64] at *; omega) | (simp_all; done) | skip)
        refine qa (qm (qm ?_))
        refine hk_region fun K hK => runs_eval tab_ok ?_
        simp only [ev0, evA, evB, evP, fl, gp, tab, simprocAttr, reduceCtorEq, reduceIte, ll_length, decide_eq_false (show ¬ ((l.length : Nat) : Int) < 1 by omega), decide_eq_false (show ¬ ((l.length : Nat) : Int) > 20 by omega)]
        refine fin_run trivial (hK _ ?_) <;> clear hK <;> clear K
        refine qa ?_
        refine hk_cond rfl (fun hC4 => ?_) (fun hC4 => ?_)
        · cases hC4
        · (try simp only [nhs] at hC4)
          refine qh (qa (qm (qm ?_)))
          refine hk_region fun K hK => runs_eval tab_ok ?_
          simp only [ev0, evA, evB, evP, fl, gp, tab, simprocAttr, reduceCtorEq, reduceIte]
          refine fin_run trivial (hK _ ?_) <;> clear hK <;> clear K
          refine qa (ql ?_)
          refine hk_loop (ι := Nat) (fun i => ⟨175, [(0, .p (.list (ll l))), (3, .p (.list (ll l))), (5, .ptr 0 0), (6, .p (.list (ll U))), (7, .ptr 1 0), (8, .ptr 2 0), (9, .p (.int .i64 i))], [.own [.p (.int .i64 U.length), .p (.list (il M))], .own [.p (.int .i64 0), .p (.int .i64 0)], .own [.p (.int .i64 0), .p (.int .i64 0)]]⟩) (fun i => i ≤ l.length) (fun i => l.length - i) 0 (Nat.zero_le _) [1, 2, 3] (by simp only [leq, leA, ev0, evA, evB, evP, fl, gp, tab, simprocAttr, reduceCtorEq, reduceIte] <;> first | trivial | exact ⟨rfl, rfl⟩ | trace_state) fun i hi => ?_
          refine qm (qm ?_)
          by_cases hil : i < l.length
          · refine hk_region fun K hK => runs_eval tab_ok ?_
            simp only [ev0, evA, evB, evP, fl, gp, tab, simprocAttr, reduceCtorEq, reduceIte, ll_length, decide_eq_true (show ((i : Nat) : Int) < ((l.length : Nat) : Int) by omega)]
            refine fin_run ?_ (hK _ ?_) <;> clear hK <;> clear K
            · (first | exact trivial | omega | (simp only [In64] at *; omega) | (simp [In64] at *; omega) | (simp_all; done) | skip)
            refine qa ?_
            refine hk_cond rfl (fun hC5 => ?_) (fun hC5 => ?_)
            · (try simp only [nhs] at hC5)
              have hpi := hl' _ (getD_memR hil)
              have hp0 := hl' _ (getD_memR (show 0 < l.length by omega))
              refine qh (qa (qm (ql (qm ?_))))
              refine hk_region fun K hK => runs_eval tab_ok ?_
              simp only [ev0, evA, evB, evP, fl, gp, tab, simprocAttr, reduceCtorEq, reduceIte, ll_length, ll_get hil]
              refine fin_stop ?_ (runs_call (permFault_c hpi.1) rfl rfl rfl (by simp only [dstOk, Nat.reduceLT]) (by repeat (first | exact trivial | constructor)) (runs_eval tab_ok ?_))
              · exact ⟨by omega, by omega⟩
              simp only [ev0, evA, evB, evP, fl, gp, tab, simprocAttr, reduceCtorEq, reduceIte, ll_length, ll_get hil]
              refine fin_run ?_ (hK _ ?_) <;> clear hK <;> clear K
              · (first | exact trivial | omega | (simp only [In64] at *; omega) | (simp [In64] at *; omega) | (simp_all; done) | skip)
              refine qa (qm ?_)
              refine hk_region fun K hK => runs_eval tab_ok ?_
              simp only [ev0, evA, evB, evP, fl, gp, tab, simprocAttr, reduceCtorEq, reduceIte]
              refine fin_run ?_ (hK _ ?_) <;> clear hK <;> clear K
              · (first | exact trivial | omega | (simp only [In64] at *; omega) | (simp [In64] at *; omega) | (simp_all; done) | skip)
              refine qa ?_
              refine hk_cond rfl (fun hC6 => ?_) (fun hC6 => ?_)
              · cases hC6
              · (try simp only [nhs] at hC6)
                refine qm ?_
                refine hk_draw mixed (by kernel_rfl) fun K hK => runs_eval tab_ok ?_
                simp only [ev0, evA, evB, evP, fl, gp, tab, simprocAttr, reduceCtorEq, reduceIte, ll_length, ll_get (show 0 < l.length by omega), ll_get hil, il_length, decide_eq_true (show (((l.getD i []).length : Nat) : Int) = (((l.getD 0 []).length : Nat) : Int) by omega)]
                refine fin_run ?_ (hK _ ?_) <;> clear hK <;> clear K
                · (first | exact trivial | omega | (simp only [In64] at *; omega) | (simp [In64] at *; omega) | (simp_all; done) | skip)
                refine qa ?_
                refine hk_cond rfl (fun hC7 => ?_) (fun hC7 => ?_)
                · cases hC7
                · (try simp only [nhs] at hC7)
                  refine qh (qd (qa ?_))
                  refine hk_region fun K hK => runs_eval tab_ok ?_
                  simp only [ev0, evA, evB, evP, fl, gp, tab, simprocAttr, reduceCtorEq, reduceIte]
                  refine fin_run ?_ (hK _ ?_) <;> clear hK <;> clear K
                  · (first | exact trivial | omega | (simp only [In64] at *; omega) | (simp [In64] at *; omega) | (simp_all; done) | skip)
                  refine qa ?_
                  refine ⟨i + 1, [0, 1, 2], by omega, by omega, ?_⟩
                  simp only [leq, leA, ev0, evA, evB, evP, fl, gp, tab, simprocAttr, reduceCtorEq, reduceIte] <;> first | trivial | omega | exact ⟨rfl, rfl⟩ | trace_state
            · cases hC5
          · refine hk_region fun K hK => runs_eval tab_ok ?_
            simp only [ev0, evA, evB, evP, fl, gp, tab, simprocAttr, reduceCtorEq, reduceIte, ll_length, decide_eq_false (show ¬ ((i : Nat) : Int) < ((l.length : Nat) : Int) by omega)]
            refine fin_run trivial (hK _ ?_) <;> clear hK <;> clear K
            refine qa ?_
            refine hk_cond rfl (fun hC5 => ?_) (fun hC5 => ?_)
            · cases hC5
            · refine qj (qc (qc (qf (qa (qm ?_)))))
              refine hk_region fun K hK => runs_eval tab_ok ?_
              simp only [ev0, evA, evB, evP, fl, gp, tab, simprocAttr, reduceCtorEq, reduceIte]
              refine fin_run trivial (hK _ ?_) <;> clear hK <;> clear K
              refine qa (qm (qm ?_))
              refine hk_region fun K hK => runs_eval tab_ok ?_
              simp only [ev0, evA, evB, evP, fl, gp, tab, simprocAttr, reduceCtorEq, reduceIte]
              refine fin_run ?_ (hK _ ?_) <;> clear hK <;> clear K
              · (first | exact trivial | omega | (simp only [In64] at *; omega) | (simp [In64] at *; omega) | (simp_all; done) | skip)
              refine qa ?_
              refine hk_cond rfl (fun hC8 => ?_) (fun hC8 => ?_)
              · (try simp only [nhs] at hC8)
                refine qm ?_
                refine hk_region fun K hK => runs_eval tab_ok ?_
                simp only [ev0, evA, evB, evP, fl, gp, tab, simprocAttr, reduceCtorEq, reduceIte]
                refine fin_stop trivial (runs_call (cG) rfl rfl rfl (by simp only [dstOk, Nat.reduceLT]) (by repeat (first | exact trivial | constructor)) (runs_eval tab_ok ?_))
                simp only [ev0, evA, evB, evP, fl, gp, tab, simprocAttr, reduceCtorEq, reduceIte]
                refine fin_run trivial (hK _ ?_) <;> clear hK <;> clear K
                refine qa (qm ?_)
                refine hk_region fun K hK => runs_eval tab_ok ?_
                simp only [ev0, evA, evB, evP, fl, gp, tab, simprocAttr, reduceCtorEq, reduceIte]
                refine fin_run ?_ (hK _ ?_) <;> clear hK <;> clear K
                · exact fun h => by
                    have h2 := ll_length U
                    rw [h] at h2
                    simp at h2
                    omega
                refine qa ?_
                refine hk_cond rfl (fun hC9 => ?_) (fun hC9 => ?_)
                · cases hC9
                · (try simp only [nhs] at hC9)
                  refine qh (qa (qm (qm ?_)))
                  refine hk_region fun K hK => runs_eval tab_ok ?_
                  simp only [ev0, evA, evB, evP, fl, gp, tab, simprocAttr, reduceCtorEq, reduceIte, beq_self_eq_true, Bool.and_self, Bool.not_true]
                  refine fin_stop trivial (runs_call (lists_b l l (by omega) hb) rfl rfl rfl (by simp only [dstOk, Nat.reduceLT]) (by repeat (first | exact trivial | constructor)) (runs_eval tab_ok ?_))
                  simp only [ev0, evA, evB, evP, fl, gp, tab, simprocAttr, reduceCtorEq, reduceIte, decide_eq_true (show l = l from rfl), beq_self_eq_true, Bool.and_self, Bool.not_true]
                  refine fin_run ?_ (hK _ ?_) <;> clear hK <;> clear K
                  · (first | exact trivial | omega | (simp only [In64] at *; omega) | (simp [In64] at *; omega) | (simp_all; done) | skip)
                  refine qa ?_
                  refine hk_cond rfl (fun hC10 => ?_) (fun hC10 => ?_)
                  · cases hC10
                  · (try simp only [nhs] at hC10)
                    refine qh (qa (qm (qm ?_)))
                    refine hk_region fun K hK => runs_eval tab_ok ?_
                    simp only [ev0, evA, evB, evP, fl, gp, tab, simprocAttr, reduceCtorEq, reduceIte]
                    refine fin_run ?_ (hK _ ?_) <;> clear hK <;> clear K
                    · (first | exact trivial | omega | (simp only [In64] at *; omega) | (simp [In64] at *; omega) | (simp_all; done) | skip)
                    refine qa ?_
                    refine hk_cond rfl (fun hC11 => ?_) (fun hC11 => ?_)
                    · cases hC11
                    · (try simp only [nhs] at hC11)
                      refine qh (qa (qm (qm ?_)))
                      refine hk_region fun K hK => runs_eval tab_ok ?_
                      simp only [ev0, evA, evB, evP, fl, gp, tab, simprocAttr, reduceCtorEq, reduceIte, ll_length, il_length, ← Int.natCast_mul, decide_eq_true (show ((M.length : Nat) : Int) = ((U.length * U.length : Nat) : Int) by rw [htM])]
                      refine fin_stop trivial (runs_call (lists_b U U (by omega) (fun t ht => by have := (hgr.perm t ht).1.len; omega)) rfl rfl rfl (by simp only [dstOk, Nat.reduceLT]) (by repeat (first | exact trivial | constructor)) (runs_eval tab_ok ?_))
                      simp only [ev0, evA, evB, evP, fl, gp, tab, simprocAttr, reduceCtorEq, reduceIte, decide_eq_true (show U = U from rfl), ll_length, il_length, ← Int.natCast_mul, decide_eq_true (show ((M.length : Nat) : Int) = ((U.length * U.length : Nat) : Int) by rw [htM])]
                      refine fin_run ?_ (hK _ ?_) <;> clear hK <;> clear K
                      · (first | exact trivial | omega | (simp only [In64] at *; omega) | (simp [In64] at *; omega) | (simp_all; done) | skip)
                      refine qa ?_
                      refine hk_cond rfl (fun hC12 => ?_) (fun hC12 => ?_)
                      · cases hC12
                      · (try simp only [nhs] at hC12)
                        refine qh (qa (qm (qm ?_)))
                        refine hk_region fun K hK => runs_eval tab_ok ?_
                        simp only [ev0, evA, evB, evP, fl, gp, tab, simprocAttr, reduceCtorEq, reduceIte]
                        refine fin_run trivial (hK _ ?_) <;> clear hK <;> clear K
                        refine qa (ql ?_)
                        refine hk_loop (ι := Nat) (fun a => ⟨175, [(5, .ptr 0 0), (11, .p (.list (ll U))), (12, .p (.int .i64 a))], [.own [.p (.int .i64 U.length), .p (.list (il M))]]⟩) (fun a => a ≤ U.length) (fun a => U.length - a) 0 (Nat.zero_le _) [0] (by simp only [leq, leA, ev0, evA, evB, evP, fl, gp, tab, simprocAttr, reduceCtorEq, reduceIte] <;> first | trivial | exact ⟨rfl, rfl⟩ | trace_state) fun a ha => ?_
                        refine qm (qm ?_)
                        refine hk_region fun K hK => runs_eval tab_ok ?_
                        simp only [ev0, evA, evB, evP, fl, gp, tab, simprocAttr, reduceCtorEq, reduceIte]
                        refine fin_run ?_ (hK _ ?_) <;> clear hK <;> clear K
                        · (first | exact trivial | omega | (simp only [In64] at *; omega) | (simp [In64] at *; omega) | (simp_all; done) | skip)
                        refine qa ?_
                        refine hk_cond rfl (fun hC13 => ?_) (fun hC13 => ?_)
                        · (try simp only [nhs] at hC13)
                          have hal : a < U.length := by omega
                          have pa := hgr.perm _ (getD_memR hal)
                          refine qh (qa (qm (ql (qm ?_))))
                          refine hk_region fun K hK => runs_eval tab_ok ?_
                          simp only [ev0, evA, evB, evP, fl, gp, tab, simprocAttr, reduceCtorEq, reduceIte]
                          refine fin_run trivial (hK _ ?_) <;> clear hK <;> clear K
                          refine qa (ql ?_)
                          refine hk_loop (ι := Nat) (fun b => ⟨175, [(5, .ptr 0 0), (11, .p (.list (ll U))), (12, .p (.int .i64 a)), (13, .p (.int .i64 b))], [.own [.p (.int .i64 U.length), .p (.list (il M))]]⟩) (fun b => b ≤ U.length) (fun b => U.length - b) 0 (Nat.zero_le _) [0] (by simp only [leq, leA, ev0, evA, evB, evP, fl, gp, tab, simprocAttr, reduceCtorEq, reduceIte] <;> first | trivial | exact ⟨rfl, rfl⟩ | trace_state) fun b hb2 => ?_
                          refine qm (qm ?_)
                          refine hk_region fun K hK => runs_eval tab_ok ?_
                          simp only [ev0, evA, evB, evP, fl, gp, tab, simprocAttr, reduceCtorEq, reduceIte]
                          refine fin_run ?_ (hK _ ?_) <;> clear hK <;> clear K
                          · (first | exact trivial | omega | (simp only [In64] at *; omega) | (simp [In64] at *; omega) | (simp_all; done) | skip)
                          refine qa ?_
                          refine hk_cond rfl (fun hC14 => ?_) (fun hC14 => ?_)
                          · (try simp only [nhs] at hC14)
                            have hbl : b < U.length := by omega
                            have pb := hgr.perm _ (getD_memR hbl)
                            obtain ⟨q1, q2, q3⟩ := pmn_at hgr hal hbl
                            have hmm := m_c hTab hal hbl
                            rw [hop a b hal hbl] at hmm
                            generalize pmn U a b = w at *
                            have pw := hgr.perm _ (getD_memR q2)
                            have hlw := pw.1.len
                            have hla := pa.1.len
                            have hlb := pb.1.len
                            have hrg := perm_rng pa.1
                            refine qh (qa (qm (ql (qm ?_))))
                            refine hk_region fun K hK => runs_eval tab_ok ?_
                            simp only [ev0, evA, evB, evP, fl, gp, tab, simprocAttr, reduceCtorEq, reduceIte]
                            refine fin_stop trivial (runs_call (hmm) rfl rfl rfl (by simp only [dstOk, Nat.reduceLT]) (by repeat (first | exact trivial | constructor)) (runs_eval tab_ok ?_))
                            simp only [ev0, evA, evB, evP, fl, gp, tab, simprocAttr, reduceCtorEq, reduceIte]
                            refine fin_run ?_ (hK _ ?_) <;> clear hK <;> clear K
                            · (first | exact trivial | omega | (simp only [In64] at *; omega) | (simp [In64] at *; omega) | (simp_all; done) | skip)
                            refine qa (qm ?_)
                            refine hk_draw2 mixed fun K hK => runs2_eval tab_ok ?_
                            simp only [evD, ev0, evA, evB, evP, fl, gp, tab, simprocAttr, reduceCtorEq, reduceIte, ll_length, ll_get hal, ll_get hbl, ll_get q2, decide_eq_false (show ¬ ((w : Nat) : Int) < 0 by omega), decide_eq_false (show ¬ ((w : Nat) : Int) ≥ ((U.length : Nat) : Int) by omega)]
                            refine fin2_stop ?_ (runs2_call (then_c (U.getD a []) (U.getD b []) (fun x hx => by rw [pb.2, ← pa.2]; exact hrg x hx) (by omega) (by omega)) rfl rfl rfl rfl (by simp only [dstOk, Nat.reduceLT]) (by repeat (first | exact trivial | constructor)) (runs2_eval tab_ok ?_))
                            · exact ⟨⟨⟨by omega, by omega⟩, by omega, by omega⟩, by omega, by omega⟩
                            simp only [evD, ev0, evA, evB, evP, fl, gp, tab, simprocAttr, reduceCtorEq, reduceIte, ll_length, ll_get hal, ll_get hbl, ll_get q2, decide_eq_false (show ¬ ((w : Nat) : Int) < 0 by omega), decide_eq_false (show ¬ ((w : Nat) : Int) ≥ ((U.length : Nat) : Int) by omega)]
                            refine fin2_stop trivial (runs2_call (ints_c (U.getD w []) (thn (U.getD a []) (U.getD b [])) (by omega)) rfl rfl rfl rfl (by simp only [dstOk, Nat.reduceLT]) (by repeat (first | exact trivial | constructor)) (runs2_eval tab_ok ?_))
                            simp only [evD, ev0, evA, evB, evP, fl, gp, tab, simprocAttr, reduceCtorEq, reduceIte, decide_eq_true q3, ll_length, ll_get hal, ll_get hbl, ll_get q2, decide_eq_false (show ¬ ((w : Nat) : Int) < 0 by omega), decide_eq_false (show ¬ ((w : Nat) : Int) ≥ ((U.length : Nat) : Int) by omega)]
                            refine fin2_run ?_ (hK _ _ (by first | kernel_rfl | rfl) ?_) <;> clear hK <;> clear K
                            · (first | exact trivial | omega | (simp only [In64] at *; omega) | (simp [In64] at *; omega) | (simp_all; done) | skip)
                            refine qa ?_
                            refine hk_cond rfl (fun hC15 => ?_) (fun hC15 => ?_)
                            · cases hC15
                            · (try simp only [nhs] at hC15)
                              refine qh (qd (qa ?_))
                              refine hk_region fun K hK => runs_eval tab_ok ?_
                              simp only [ev0, evA, evB, evP, fl, gp, tab, simprocAttr, reduceCtorEq, reduceIte]
                              refine fin_run ?_ (hK _ ?_) <;> clear hK <;> clear K
                              · (first | exact trivial | omega | (simp only [In64] at *; omega) | (simp [In64] at *; omega) | (simp_all; done) | skip)
                              refine qa ?_
                              refine ⟨b + 1, [0], by omega, by omega, ?_⟩
                              simp only [leq, leA, ev0, evA, evB, evP, fl, gp, tab, simprocAttr, reduceCtorEq, reduceIte] <;> first | trivial | omega | trace_state
                          · (try simp only [nhs] at hC14)
                            refine qj (qc (qc (qf (qd (qa ?_)))))
                            refine hk_region fun K hK => runs_eval tab_ok ?_
                            simp only [ev0, evA, evB, evP, fl, gp, tab, simprocAttr, reduceCtorEq, reduceIte]
                            refine fin_run ?_ (hK _ ?_) <;> clear hK <;> clear K
                            · (first | exact trivial | omega | (simp only [In64] at *; omega) | (simp [In64] at *; omega) | (simp_all; done) | skip)
                            refine qa ?_
                            refine ⟨a + 1, [0], by omega, by omega, ?_⟩
                            simp only [leq, leA, ev0, evA, evB, evP, fl, gp, tab, simprocAttr, reduceCtorEq, reduceIte] <;> first | trivial | omega | trace_state
                        · (try simp only [nhs] at hC13)
                          refine qj (qc (qc (qf (qa (qm ?_)))))
                          refine hk_region fun K hK => runs_eval tab_ok ?_
                          simp only [ev0, evA, evB, evP, fl, gp, tab, simprocAttr, reduceCtorEq, reduceIte]
                          refine fin_run trivial (hK _ ?_) <;> clear hK <;> clear K
                          refine qa (qk ?_)
                          simp only [Try.results4, enA, ev0, evA, evB, evP, fl, gp, tab, simprocAttr, reduceCtorEq, reduceIte]
                          all_goals (rfl)
              · cases hC8
theorem tablePerms_c (l : List (List Int)) (hl : l.length ≤ 17592186043904) (hb : ∀ w ∈ l, w.length ≤ 17592186043904) : FnC Try.prog 4 [.list (ll l)] (.bool true) := by
  by_cases hm : l.length ≤ 1000
  · by_cases hs : l.length < 1 ∨ l.length > 20
    · exact tp_size l hm hb hs
    · let Good : Nat → Prop := fun i => PermOk (l.getD i []) ∧ (l.getD i []).length = (l.getD 0 []).length
      by_cases hall : ∀ i, i < l.length → Good i
      · have hl' : ∀ q ∈ l, PermOk q ∧ q.length = (l.getD 0 []).length := fun q hq => by
          obtain ⟨i, hi, rfl⟩ := List.mem_iff_getElem.1 hq
          have := hall i hi
          simpa [Good, List.getD, List.getElem?_eq_getElem hi] using this
        have hc := (hall 0 (by omega)).1.len
        cases hR : pqcl l 61 [idr (l.getD 0 []).length] 0 with
        | none => exact tp_over l hm hb hc (by omega) (by omega) hl' hR
        | some T => exact tp_ok l hm hb hc (by omega) (by omega) hl' hR
      · have hex : ∃ k, k < l.length ∧ ¬ Good k ∧ ∀ j, j < k → Good j := by
          refine Classical.byContradiction fun hh => hall fun i => ?_
          induction i using Nat.strongRecOn with
          | _ i ih =>
            intro hi
            refine Classical.byContradiction fun hg => hh ⟨i, hi, hg, fun j hj => ih j hj (by omega)⟩
        obtain ⟨k, k1, k2, k3⟩ := hex
        obtain ⟨r, r1, r2, r3⟩ := perm_both (l.getD k []) (by have := hb _ (getD_memR k1); omega)
        by_cases hr : r.1 = 0
        · exact tp_len l hm hb (by omega) (by omega) k1 k3 (r3 hr).1 fun he => k2 ⟨(r3 hr).1, he⟩
        · exact tp_bad l hm hb (by omega) (by omega) k1 k3 r1 r2 hr
  · exact tp_many l hl hm
end Go.Proofs.Ytboadfahlflmhaa
