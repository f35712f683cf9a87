/-
  Walks: things that make the group. Conditions: none.
-/
import Derived.Test.YthdmioeddgednaaE14
set_option linter.all false
namespace Go.Proofs.Ythdmioeddgednaa
open Go.Pv

open Classical in
/-- The makers: from the last thing down, what is not made yet. -/
noncomputable def mkS (n : Nat) (m : List Int) (e : Nat) : Nat → List Int
  | 0 => []
  | i + 1 => if Gen n (op m n) e (tst (mkS n m e i)) (n - 1 - i) then mkS n m e i else mkS n m e i ++ [((n - 1 - i : Nat) : Int)]

theorem mkS_len (n : Nat) (m : List Int) (e : Nat) : ∀ i, (mkS n m e i).length ≤ i
  | 0 => by simp [mkS]
  | i + 1 => by
    have := mkS_len n m e i
    rw [mkS]
    split
    · omega
    · simp; omega
theorem mkS_mem {n : Nat} {m : List Int} {e : Nat} (hn : 1 ≤ n) : ∀ i, ∀ x ∈ mkS n m e i, ∃ a, a < n ∧ x = ((a : Nat) : Int)
  | 0 => by simp [mkS]
  | i + 1 => by
    have ih := mkS_mem (m := m) (e := e) hn i
    rw [mkS]
    split
    · exact ih
    · intro x hx
      rcases List.mem_append.1 hx with hx | hx
      · exact ih x hx
      · rw [List.mem_singleton] at hx
        exact ⟨n - 1 - i, by omega, hx⟩
theorem mkS_mono {n : Nat} {m : List Int} {e : Nat} {i : Nat} {a : Nat} (h : tst (mkS n m e i) a = true) : tst (mkS n m e (i + 1)) a = true := by
  rw [mkS]
  split
  · exact h
  · unfold tst at *
    simp only [decide_eq_true_eq] at *
    exact List.mem_append_left _ h
theorem mkS_gen {n : Nat} {m : List Int} {e : Nat} (G : Grp n (op m n) e) : ∀ i, i ≤ n → ∀ a, n - i ≤ a → a < n → Gen n (op m n) e (tst (mkS n m e i)) a
  | 0, _, a, h1, h2 => by omega
  | i + 1, hi, a, h1, h2 => by
    by_cases ha : n - i ≤ a
    · exact Gen.mono (fun b _ hb => mkS_mono hb) (mkS_gen G i (by omega) a ha h2)
    · have hai : a = n - 1 - i := by omega
      rw [mkS]
      split
      · rw [hai]; assumption
      · refine Gen.mem G h2 ?_
        unfold tst
        rw [hai]
        simp
theorem mkS_all {n : Nat} {m : List Int} {e : Nat} {i : Nat} (h : ∀ a, a < n → Gen n (op m n) e (tst (mkS n m e i)) a) (hn : 1 ≤ n) : ∀ d, mkS n m e (i + d) = mkS n m e i
  | 0 => rfl
  | d + 1 => by
    have ih := mkS_all h hn d
    rw [← Nat.add_assoc, mkS, ih, if_pos (h _ (by omega))]

/-- What the makers make is all. -/
theorem mk_gen {n : Nat} {m : List Int} {e : Nat} (G : Grp n (op m n) e) {a : Nat} (ha : a < n) : Gen n (op m n) e (tst (mkS n m e n)) a := mkS_gen G n (Nat.le_refl _) a (by omega) ha

theorem thl_full {n : Nat} {q : Nat → Bool} (h : ¬ (thl n q).length < n) {a : Nat} (ha : a < n) : q a = true := by
  refine Classical.byContradiction fun hn => ?_
  have h1 : (thn' n q).length ≤ n - 1 := by
    have hnd : ((a :: thn' n q)).Nodup := by
      rw [List.nodup_cons]
      exact ⟨fun hm => hn (mem_thn.1 hm).2, List.nodup_range.filter _⟩
    have := nodup_lt (n := n) hnd fun x hx => by
      rcases List.mem_cons.1 hx with rfl | hx
      · exact ha
      · exact (mem_thn.1 hx).1
    simp only [List.length_cons] at this
    omega
  rw [thl_len] at h
  omega

theorem makers_c {n e : Nat} {m : List Int} (h : GT n m n e) : FnC Try.prog 39 [gp n m] (.list (il (mkS n m e n))) := by
  have T := h.2.1
  have G := h.2.2
  have hb := T.big
  have hpos := T.pos
  refine fnc_of tab_ok Try.func39 rfl (by kernel_rfl) (by rw [Try.ntmps39]; exact Nat.le_add_left 1 _) ?_; rw [Try.ntmps39]
  refine qm ?_
  refine hk_region fun K hK => runs_eval tab_ok ?_
  simp only [ev0, evA, evB, evP, fl, gp, tab, simprocAttr, reduceCtorEq, reduceIte]
  refine fin_run ?_ (hK _ ?_) <;> clear hK <;> clear K
  · (first | exact trivial | omega | (simp only [In64] at *; omega) | (simp [In64] at *; omega) | (simp_all; done) | skip)
  refine qa (qm ?_)
  refine hk_region fun K hK => runs_eval tab_ok ?_
  simp only [ev0, evA, evB, evP, fl, gp, tab, simprocAttr, reduceCtorEq, reduceIte]
  refine fin_run trivial (hK _ ?_) <;> clear hK <;> clear K
  refine qa (qm (qm ?_))
  refine hk_own0 3 rfl ?_
  refine hk_region fun K hK => runs_eval tab_ok ?_
  simp only [ev0, evA, evB, evP, fl, gp, tab, simprocAttr, reduceCtorEq, reduceIte]
  refine fin_run ?_ (hK _ ?_) <;> clear hK <;> clear K
  · (first | exact trivial | omega | (simp only [In64] at *; omega) | (simp [In64] at *; omega) | (simp_all; done) | skip)
  refine qa (ql ?_)
  refine hk_loop (ι := Nat) (fun i => ⟨32, [(1, .ptr 0 0), (3, .sl 1 0 (mkS n m e i).length), (4, .p (.int .i64 ((n : Int) - 1 - i)))], [.own [.p (.int .i64 n), .p (.list (il m))], .own (ol (mkS n m e i))]⟩) (fun i => i ≤ n) (fun i => n - i) 0 (Nat.zero_le _) [0, 1] (by simp only [leq, leA, ev0, evA, evB, evP, fl, gp, tab, simprocAttr, reduceCtorEq, reduceIte] <;> simp [mkS, ol_nil]) fun i hi => ?_
  have hl := mkS_len n m e i
  have hmem := mkS_mem (m := m) (e := e) hpos i
  obtain ⟨q, hq⟩ := gen_ex n (op m n) e (tst (mkS n m e i))
  have hsp := FnG_fnf (span_g h (mkS n m e i) (by omega) hmem q hq) (il_scal _)
  have hql := thl_le n q
  refine qm (qm ?_)
  by_cases g3a : (n : Int) - 1 - (i : Int) ≥ 0
  · refine hk_draw mixed (by kernel_rfl) fun K hK => runs_eval tab_ok ?_
    simp only [ev0, evA, evB, evP, fl, gp, tab, simprocAttr, reduceCtorEq, reduceIte, decide_eq_true g3a]
    refine fin_stop ?_ (runs_callF (hsp) rfl (by simp only [callA, peekList, peekG, peekS, List.map_cons, List.map_nil, List.append_nil, enA, ev0, evA, evB, evP, fl, gp, tab, simprocAttr, reduceCtorEq, reduceIte, List.drop_zero, ol_drop, ol_take, take_len, ol_allP, il_all, il_length]; rfl) (by simp only [dstOk, Nat.reduceLT]) ?_ (runs_eval tab_ok ?_))
    · (first | exact trivial | omega | (simp only [In64] at *; omega) | (simp [In64] at *; omega) | (simp_all; done) | skip)
    · (first | exact trivial | omega | (simp only [In64] at *; omega) | (simp [In64] at *; omega) | (simp_all; done) | skip)
    simp only [ev0, evA, evB, evP, fl, gp, tab, simprocAttr, reduceCtorEq, reduceIte, decide_eq_true g3a]
    refine fin_run ?_ (hK _ ?_) <;> clear hK <;> clear K
    · (first | exact trivial | omega | (simp only [In64] at *; omega) | (simp [In64] at *; omega) | (simp_all; done) | skip)
    refine qa ?_
    refine hk_cond rfl (fun hC1 => ?_) (fun hC1 => ?_)
    · (try simp only [nhs] at hC1)
      have hil : i < n := by omega
      have hai : (n : Int) - 1 - (i : Int) = ((n - 1 - i : Nat) : Int) := by omega
      refine qh (qa (qm (ql (qm ?_))))
      refine hk_region fun K hK => runs_eval tab_ok ?_
      simp only [ev0, evA, evB, evP, fl, gp, tab, simprocAttr, reduceCtorEq, reduceIte, hai]
      refine fin_stop ?_ (runs_callF (hsp) rfl (by simp only [callA, peekList, peekG, peekS, List.map_cons, List.map_nil, List.append_nil, enA, ev0, evA, evB, evP, fl, gp, tab, simprocAttr, reduceCtorEq, reduceIte, List.drop_zero, ol_drop, ol_take, take_len, ol_allP, il_all, il_length]; rfl) (by simp only [dstOk, Nat.reduceLT]) ?_ (runs_eval tab_ok ?_))
      · (first | exact trivial | omega | (simp only [In64] at *; omega) | (simp [In64] at *; omega) | (simp_all; done) | skip)
      · (first | exact trivial | omega | (simp only [In64] at *; omega) | (simp [In64] at *; omega) | (simp_all; done) | skip)
      simp only [ev0, evA, evB, evP, fl, gp, tab, simprocAttr, reduceCtorEq, reduceIte, hai]
      refine fin_stop trivial (runs_call (has_r (thl n q) (n - 1 - i : Nat) (by omega)) rfl rfl rfl (by simp only [dstOk, Nat.reduceLT]) (by repeat (first | exact trivial | constructor)) (runs_eval tab_ok ?_))
      simp only [ev0, evA, evB, evP, fl, gp, tab, simprocAttr, reduceCtorEq, reduceIte, hai]
      refine fin_run ?_ (hK _ ?_) <;> clear hK <;> clear K
      · (first | exact trivial | omega | (simp only [In64] at *; omega) | (simp [In64] at *; omega) | (simp_all; done) | skip)
      refine qa ?_
      refine hk_cond rfl (fun hC2 => ?_) (fun hC2 => ?_)
      · (try simp only [nhs] at hC2)
        have hng : ¬ Gen n (op m n) e (tst (mkS n m e i)) (n - 1 - i) := fun hg => hC2 (mem_thl.2 ⟨_, by omega, (hq _ (by omega)).2 hg, rfl⟩)
        have hmk : mkS n m e (i + 1) = mkS n m e i ++ [((n - 1 - i : Nat) : Int)] := by rw [mkS, if_neg hng]
        refine hk_region fun K hK => runs_eval tab_ok ?_
        simp only [ev0, evA, evB, evP, fl, gp, tab, simprocAttr, reduceCtorEq, reduceIte, hai]
        refine fin_run ?_ (hK _ ?_) <;> clear hK <;> clear K
        · (first | exact trivial | omega | (simp only [In64] at *; omega) | (simp [In64] at *; omega) | (simp_all; done) | skip)
        refine qd (qa ?_)
        refine hk_region fun K hK => runs_eval tab_ok ?_
        simp only [ev0, evA, evB, evP, fl, gp, tab, simprocAttr, reduceCtorEq, reduceIte]
        refine fin_run ?_ (hK _ ?_) <;> clear hK <;> clear K
        · (first | exact trivial | omega | (simp only [In64] at *; omega) | (simp [In64] at *; omega) | (simp_all; done) | skip)
        refine qa ?_
        refine ⟨i + 1, [0, 2], by omega, by omega, ?_⟩
        rw [hmk]
        simp only [leq, leA, ev0, evA, evB, evP, fl, gp, tab, simprocAttr, reduceCtorEq, reduceIte] <;> first | trivial | omega
      · (try simp only [nhs] at hC2)
        have hg : Gen n (op m n) e (tst (mkS n m e i)) (n - 1 - i) := by
          obtain ⟨a, a1, a2, a3⟩ := mem_thl.1 hC2
          have : n - 1 - i = a := by omega
          rw [this]; exact (hq a a1).1 a2
        have hmk : mkS n m e (i + 1) = mkS n m e i := by rw [mkS, if_pos hg]
        refine qh (qd (qa ?_))
        refine hk_region fun K hK => runs_eval tab_ok ?_
        simp only [ev0, evA, evB, evP, fl, gp, tab, simprocAttr, reduceCtorEq, reduceIte]
        refine fin_run ?_ (hK _ ?_) <;> clear hK <;> clear K
        · (first | exact trivial | omega | (simp only [In64] at *; omega) | (simp [In64] at *; omega) | (simp_all; done) | skip)
        refine qa ?_
        refine ⟨i + 1, [0, 1], by omega, by omega, ?_⟩
        rw [hmk]
        simp only [leq, leA, ev0, evA, evB, evP, fl, gp, tab, simprocAttr, reduceCtorEq, reduceIte] <;> first | trivial | omega
    · (try simp only [nhs] at hC1)
      refine qj (qc (qc (qf (qa (qm ?_)))))
      refine hk_region fun K hK => runs_eval tab_ok ?_
      simp only [ev0, evA, evB, evP, fl, gp, tab, simprocAttr, reduceCtorEq, reduceIte]
      refine fin_run trivial (hK _ ?_) <;> clear hK <;> clear K
      refine qa (qk ?_)
      simp only [Try.results39, enA, ev0, evA, evB, evP, fl, gp, tab, simprocAttr, reduceCtorEq, reduceIte]
      have hall : ∀ a, a < n → Gen n (op m n) e (tst (mkS n m e i)) a := fun a ha => (hq a ha).1 (thl_full (by omega) ha)
      have hmk := mkS_all hall hpos (n - i)
      rw [show i + (n - i) = n by omega] at hmk
      simp [hmk]
  · refine hk_draw mixed (by kernel_rfl) fun K hK => runs_eval tab_ok ?_
    simp only [ev0, evA, evB, evP, fl, gp, tab, simprocAttr, reduceCtorEq, reduceIte, decide_eq_false g3a]
    refine fin_run trivial (hK _ ?_) <;> clear hK <;> clear K
    refine qa ?_
    refine hk_cond rfl (fun hC1 => ?_) (fun hC1 => ?_)
    · cases hC1
    · refine qj (qc (qc (qf (qa (qm ?_)))))
      refine hk_region fun K hK => runs_eval tab_ok ?_
      simp only [ev0, evA, evB, evP, fl, gp, tab, simprocAttr, reduceCtorEq, reduceIte]
      refine fin_run trivial (hK _ ?_) <;> clear hK <;> clear K
      refine qa (qk ?_)
      simp only [Try.results39, enA, ev0, evA, evB, evP, fl, gp, tab, simprocAttr, reduceCtorEq, reduceIte]
      have hin : i = n := by omega
      simp [hin]

end Go.Proofs.Ythdmioeddgednaa
