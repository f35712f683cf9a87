/-
  Walks: the document's words of groups: product, one, inverse. Conditions: none.
-/
import Derived.Test.YtjikchbmkodgfaaDoorG1
import Derived.Test.YtjikchbmkodgfaaDoorPvT
set_option linter.all false
namespace Go.Proofs.YtjikchbmkodgfaaDoor
open Go.Pv

/-- A fault. -/
def fl (p : Int × Int) : PV := .agg [.int .i64 p.1, .int .i64 p.2]

/-- The product, out of the table. -/
def op (m : List Int) (n a b : Nat) : Nat := (m.getD (a * n + b) 0).toNat

structure Tab (n : Nat) (m : List Int) : Prop where
  pos : 1 ≤ n
  big : n ≤ 60
  len : m.length = n * n
  rng : ∀ i, i < n * n → 0 ≤ m.getD i 0 ∧ m.getD i 0 < n

theorem at_lt {n a b : Nat} (ha : a < n) (hb : b < n) : a * n + b < n * n := by
  have : (a + 1) * n ≤ n * n := Nat.mul_le_mul_right _ ha
  rw [Nat.add_mul, Nat.one_mul] at this
  omega
theorem sq_le {n : Nat} (h : n ≤ 60) : n * n ≤ 3600 := Nat.mul_le_mul h h

theorem Tab.val {n : Nat} {m : List Int} (T : Tab n m) {a b : Nat} (ha : a < n) (hb : b < n) : m.getD (a * n + b) 0 = ((op m n a b : Nat) : Int) := by
  have := T.rng _ (at_lt ha hb)
  unfold op; omega
theorem Tab.lt {n : Nat} {m : List Int} (T : Tab n m) {a b : Nat} (ha : a < n) (hb : b < n) : op m n a b < n := by
  have := T.rng _ (at_lt ha hb)
  unfold op; omega

theorem at_nat (a n b : Nat) : ((a : Int) * (n : Int) + (b : Int)).toNat = a * n + b := by
  have : (a : Int) * (n : Int) = ((a * n : Nat) : Int) := (Int.natCast_mul a n).symm
  omega

theorem m_c {n : Nat} {m : List Int} (T : Tab n m) {a b : Nat} (ha : a < n) (hb : b < n) : FnC Tryd.prog 72 [gp n m, .int .i64 a, .int .i64 b] (.int .i64 (op m n a b : Nat)) := by
  have h1 := at_lt ha hb
  have h2 := sq_le T.big
  have h3 := T.len
  have hc : (a : Int) * (n : Int) = ((a * n : Nat) : Int) := (Int.natCast_mul a n).symm
  have hv := T.val ha hb
  refine fnc_of tab_ok Tryd.func72 rfl (by kernel_rfl) (by rw [Tryd.ntmps72]; exact Nat.le_add_left 3 _) ?_; rw [Tryd.ntmps72]
  refine qm ?_
  refine hk_region fun K hK => runs_eval tab_ok ?_
  simp only [ev0, evA, evB, evP, fl, gp, tab, simprocAttr, reduceCtorEq, reduceIte]
  refine fin_run ?_ (hK _ ?_) <;> clear hK <;> clear K
  · (first | exact trivial | omega | (simp only [In64] at *; omega) | (simp [In64] at *; omega) | (simp_all; done) | skip)
  refine qa (qm ?_)
  refine hk_region fun K hK => runs_eval tab_ok ?_
  simp only [ev0, evA, evB, evP, fl, gp, tab, simprocAttr, reduceCtorEq, reduceIte, at_nat, il_get (show a * n + b < m.length by omega), hv]
  refine fin_run ?_ (hK _ ?_) <;> clear hK <;> clear K
  · rw [hc]; simp only [In64]; omega
  refine qa (qk ?_)
  simp only [Tryd.results72, enA, ev0, evA, evB, evP, fl, gp, tab, simprocAttr, reduceCtorEq, reduceIte]
  all_goals (rfl)

def isE (m : List Int) (n a : Nat) : Prop := ∀ b, b < n → op m n a b = b ∧ op m n b a = b
instance (m : List Int) (n a : Nat) : Decidable (isE m n a) := by unfold isE; infer_instance

/-- The first that is the one; -1. -/
def eI (m : List Int) (n : Nat) : Int := match fst' (fun a => decide (isE m n a)) n with | some a => (a : Int) | none => -1

theorem dall_no {P : Nat → Prop} {b : Nat} [Decidable (∀ c, c < b + 1 → P c)] (h : ¬ P b) : decide (∀ c, c < b + 1 → P c) = false := by
  simp only [decide_eq_false_iff_not]
  exact fun h' => h (h' b (Nat.lt_succ_self b))
theorem dall_yes {P : Nat → Prop} {b : Nat} [Decidable (∀ c, c < b + 1 → P c)] [Decidable (∀ c, c < b → P c)] (h : P b) : decide (∀ c, c < b + 1 → P c) = decide (∀ c, c < b → P c) := by
  apply decide_eq_decide.2
  constructor
  · exact fun h' c hc => h' c (by omega)
  · intro h' c hc
    by_cases e : c = b
    · subst e; exact h
    · exact h' c (by omega)

theorem e_c {n : Nat} {m : List Int} (T : Tab n m) : FnC Tryd.prog 71 [gp n m] (.int .i64 (eI m n)) := by
  have hb := T.big
  refine fnc_of tab_ok Tryd.func71 rfl (by kernel_rfl) (by rw [Tryd.ntmps71]; exact Nat.le_add_left 1 _) ?_; rw [Tryd.ntmps71]
  refine qm ?_
  refine hk_region fun K hK => runs_eval tab_ok ?_
  simp only [ev0, evA, evB, evP, fl, gp, tab, simprocAttr, reduceCtorEq, reduceIte]
  refine fin_run ?_ (hK _ ?_) <;> clear hK <;> clear K
  · (first | exact trivial | omega | (simp only [In64] at *; omega) | (simp [In64] at *; omega) | (simp_all; done) | skip)
  refine qa (qm (qm ?_))
  refine hk_region fun K hK => runs_eval tab_ok ?_
  simp only [ev0, evA, evB, evP, fl, gp, tab, simprocAttr, reduceCtorEq, reduceIte]
  refine fin_run trivial (hK _ ?_) <;> clear hK <;> clear K
  refine qa (ql ?_)
  refine hk_loop (ι := Nat) (fun i => ⟨34, [(1, .ptr 0 0), (3, .p (.int .i64 i))], [.own [.p (.int .i64 n), .p (.list (il m))]]⟩) (fun i => i ≤ n ∧ ∀ j, j < i → ¬ isE m n j) (fun i => n - i) 0 ⟨Nat.zero_le _, fun j hj => by omega⟩ [0] (by simp only [leq, leA, ev0, evA, evB, evP, fl, gp, tab, simprocAttr, reduceCtorEq, reduceIte] <;> trivial) fun i hi => ?_
  obtain ⟨hi1, hi2⟩ := hi
  refine qm (qm ?_)
  refine hk_region fun K hK => runs_eval tab_ok ?_
  simp only [ev0, evA, evB, evP, fl, gp, tab, simprocAttr, reduceCtorEq, reduceIte]
  refine fin_run ?_ (hK _ ?_) <;> clear hK <;> clear K
  · (first | exact trivial | omega | (simp only [In64] at *; omega) | (simp [In64] at *; omega) | (simp_all; done) | skip)
  refine qa ?_
  refine hk_cond rfl (fun hC1 => ?_) (fun hC1 => ?_)
  · (try simp only [nhs] at hC1)
    have hlt : i < n := by omega
    refine qh (qa (qm (ql (qm ?_))))
    refine hk_region fun K hK => runs_eval tab_ok ?_
    simp only [ev0, evA, evB, evP, fl, gp, tab, simprocAttr, reduceCtorEq, reduceIte]
    refine fin_run trivial (hK _ ?_) <;> clear hK <;> clear K
    refine qa (qm (qm ?_))
    refine hk_region fun K hK => runs_eval tab_ok ?_
    simp only [ev0, evA, evB, evP, fl, gp, tab, simprocAttr, reduceCtorEq, reduceIte]
    refine fin_run trivial (hK _ ?_) <;> clear hK <;> clear K
    refine qa (ql ?_)
    refine hk_loop (ι := Nat) (fun b => ⟨34, [(1, .ptr 0 0), (3, .p (.int .i64 i)), (4, .p (.bool (decide (∀ c, c < b → op m n i c = c ∧ op m n c i = c)))), (5, .p (.int .i64 b))], [.own [.p (.int .i64 n), .p (.list (il m))]]⟩) (fun b => b ≤ n) (fun b => n - b) 0 (Nat.zero_le _) [0] (by simp only [leq, leA, ev0, evA, evB, evP, fl, gp, tab, simprocAttr, reduceCtorEq, reduceIte] <;> simp) fun b hb => ?_
    refine qm (qm ?_)
    refine hk_region fun K hK => runs_eval tab_ok ?_
    simp only [ev0, evA, evB, evP, fl, gp, tab, simprocAttr, reduceCtorEq, reduceIte]
    refine fin_run ?_ (hK _ ?_) <;> clear hK <;> clear K
    · (first | exact trivial | omega | (simp only [In64] at *; omega) | (simp [In64] at *; omega) | (simp_all; done) | skip)
    refine qa ?_
    refine hk_cond rfl (fun hC2 => ?_) (fun hC2 => ?_)
    · (try simp only [nhs] at hC2)
      have hbl : b < n := by omega
      refine qh (qa (qm (ql (qm ?_))))
      by_cases g8a : (((op m n i b : Nat) : Int) = (b : Nat))
      · refine hk_region fun K hK => runs_eval tab_ok ?_
        simp only [ev0, evA, evB, evP, fl, gp, tab, simprocAttr, reduceCtorEq, reduceIte, decide_eq_true g8a]
        refine fin_stop trivial (runs_call (m_c T hlt hbl) rfl rfl rfl (by simp only [dstOk, Nat.reduceLT]) (by repeat (first | exact trivial | constructor)) (runs_eval tab_ok ?_))
        simp only [ev0, evA, evB, evP, fl, gp, tab, simprocAttr, reduceCtorEq, reduceIte, decide_eq_true g8a]
        refine fin_stop trivial (runs_call (m_c T hbl hlt) rfl rfl rfl (by simp only [dstOk, Nat.reduceLT]) (by repeat (first | exact trivial | constructor)) (runs_eval tab_ok ?_))
        simp only [ev0, evA, evB, evP, fl, gp, tab, simprocAttr, reduceCtorEq, reduceIte, decide_eq_true g8a]
        refine fin_run ?_ (hK _ ?_) <;> clear hK <;> clear K
        · (first | exact trivial | omega | (simp only [In64] at *; omega) | (simp [In64] at *; omega) | (simp_all; done) | skip)
        refine qa ?_
        refine hk_cond rfl (fun hC3 => ?_) (fun hC3 => ?_)
        · (try simp only [nhs] at hC3)
          have hno : ¬ (op m n i b = b ∧ op m n b i = b) := by omega
          refine hk_region fun K hK => runs_eval tab_ok ?_
          simp only [ev0, evA, evB, evP, fl, gp, tab, simprocAttr, reduceCtorEq, reduceIte]
          refine fin_run trivial (hK _ ?_) <;> clear hK <;> clear K
          refine qd (qa ?_)
          refine hk_region fun K hK => runs_eval tab_ok ?_
          simp only [ev0, evA, evB, evP, fl, gp, tab, simprocAttr, reduceCtorEq, reduceIte]
          refine fin_run ?_ (hK _ ?_) <;> clear hK <;> clear K
          · (first | exact trivial | omega | (simp only [In64] at *; omega) | (simp [In64] at *; omega) | (simp_all; done) | skip)
          refine qa ?_
          refine ⟨b + 1, [0], by omega, by omega, ?_⟩
          first | rw [dall_no hno] | rw [dall_yes hyes]
          simp only [leq, leA, ev0, evA, evB, evP, fl, gp, tab, simprocAttr, reduceCtorEq, reduceIte] <;> trivial
        · (try simp only [nhs] at hC3)
          have hyes : op m n i b = b ∧ op m n b i = b := by omega
          refine qh (qd (qa ?_))
          refine hk_region fun K hK => runs_eval tab_ok ?_
          simp only [ev0, evA, evB, evP, fl, gp, tab, simprocAttr, reduceCtorEq, reduceIte]
          refine fin_run ?_ (hK _ ?_) <;> clear hK <;> clear K
          · (first | exact trivial | omega | (simp only [In64] at *; omega) | (simp [In64] at *; omega) | (simp_all; done) | skip)
          refine qa ?_
          refine ⟨b + 1, [0], by omega, by omega, ?_⟩
          first | rw [dall_no hno] | rw [dall_yes hyes]
          simp only [leq, leA, ev0, evA, evB, evP, fl, gp, tab, simprocAttr, reduceCtorEq, reduceIte] <;> trivial
      · refine hk_region fun K hK => runs_eval tab_ok ?_
        simp only [ev0, evA, evB, evP, fl, gp, tab, simprocAttr, reduceCtorEq, reduceIte, decide_eq_false g8a]
        refine fin_stop trivial (runs_call (m_c T hlt hbl) rfl rfl rfl (by simp only [dstOk, Nat.reduceLT]) (by repeat (first | exact trivial | constructor)) (runs_eval tab_ok ?_))
        simp only [ev0, evA, evB, evP, fl, gp, tab, simprocAttr, reduceCtorEq, reduceIte, decide_eq_false g8a]
        refine fin_run ?_ (hK _ ?_) <;> clear hK <;> clear K
        · (first | exact trivial | omega | (simp only [In64] at *; omega) | (simp [In64] at *; omega) | (simp_all; done) | skip)
        refine qa ?_
        refine hk_cond rfl (fun hC3 => ?_) (fun hC3 => ?_)
        · have hno : ¬ (op m n i b = b ∧ op m n b i = b) := by omega
          refine hk_region fun K hK => runs_eval tab_ok ?_
          simp only [ev0, evA, evB, evP, fl, gp, tab, simprocAttr, reduceCtorEq, reduceIte]
          refine fin_run trivial (hK _ ?_) <;> clear hK <;> clear K
          refine qd (qa ?_)
          refine hk_region fun K hK => runs_eval tab_ok ?_
          simp only [ev0, evA, evB, evP, fl, gp, tab, simprocAttr, reduceCtorEq, reduceIte]
          refine fin_run ?_ (hK _ ?_) <;> clear hK <;> clear K
          · (first | exact trivial | omega | (simp only [In64] at *; omega) | (simp [In64] at *; omega) | (simp_all; done) | skip)
          refine qa ?_
          refine ⟨b + 1, [0], by omega, by omega, ?_⟩
          first | rw [dall_no hno] | rw [dall_yes hyes]
          simp only [leq, leA, ev0, evA, evB, evP, fl, gp, tab, simprocAttr, reduceCtorEq, reduceIte] <;> trivial
        · cases hC3
    · (try simp only [nhs] at hC2)
      refine qj (qc (qc (qf (qa (qm ?_)))))
      refine hk_region fun K hK => runs_eval tab_ok ?_
      simp only [ev0, evA, evB, evP, fl, gp, tab, simprocAttr, reduceCtorEq, reduceIte]
      refine fin_run trivial (hK _ ?_) <;> clear hK <;> clear K
      refine qa ?_
      refine hk_cond rfl (fun hC4 => ?_) (fun hC4 => ?_)
      · (try simp only [nhs] at hC4)
        have hE : isE m n i := by
          have : b = n := by omega
          subst this; exact hC4
        refine qm ?_
        refine hk_region fun K hK => runs_eval tab_ok ?_
        simp only [ev0, evA, evB, evP, fl, gp, tab, simprocAttr, reduceCtorEq, reduceIte]
        refine fin_run trivial (hK _ ?_) <;> clear hK <;> clear K
        refine qa (qk (qe (qb (qb (qe (qb ?_))))))
        simp only [Tryd.results71, enA, ev0, evA, evB, evP, fl, gp, tab, simprocAttr, reduceCtorEq, reduceIte]
        all_goals (unfold eI; rw [fst_some hlt (decide_eq_true hE) fun j hj => decide_eq_false (hi2 j hj)])
      · (try simp only [nhs] at hC4)
        refine qh (qd (qa ?_))
        refine hk_region fun K hK => runs_eval tab_ok ?_
        simp only [ev0, evA, evB, evP, fl, gp, tab, simprocAttr, reduceCtorEq, reduceIte]
        refine fin_run ?_ (hK _ ?_) <;> clear hK <;> clear K
        · (first | exact trivial | omega | (simp only [In64] at *; omega) | (simp [In64] at *; omega) | (simp_all; done) | skip)
        refine qa ?_
        refine ⟨i + 1, [0], ⟨by omega, fun j hj => ?_⟩, by omega, ?_⟩
        · by_cases hj : j = i
          · subst hj
            have : b = n := by omega
            subst this; exact hC4
          · exact hi2 j (by omega)
        · simp only [leq, leA, ev0, evA, evB, evP, fl, gp, tab, simprocAttr, reduceCtorEq, reduceIte] <;> omega
  · (try simp only [nhs] at hC1)
    refine qj (qc (qc (qf (qa (qm ?_)))))
    refine hk_region fun K hK => runs_eval tab_ok ?_
    simp only [ev0, evA, evB, evP, fl, gp, tab, simprocAttr, reduceCtorEq, reduceIte]
    refine fin_run trivial (hK _ ?_) <;> clear hK <;> clear K
    refine qa (qk ?_)
    simp only [Tryd.results71, enA, ev0, evA, evB, evP, fl, gp, tab, simprocAttr, reduceCtorEq, reduceIte]
    all_goals (unfold eI; rw [fst_none fun j hj => decide_eq_false (hi2 j (by omega))])
end Go.Proofs.YtjikchbmkodgfaaDoor
