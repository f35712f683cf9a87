/-
  Walks: the document's words of groups: things, orders, powers. Conditions: none.
-/
import Derived.Test.YtjikchbmkodgfaaDoorG2
set_option linter.all false
namespace Go.Proofs.YtjikchbmkodgfaaDoor
open Go.Pv

/-! ### Things -/

def okT (N : Int) (l : List Int) (i : Nat) : Prop := ¬ (l.getD i 0 < 0 ∨ l.getD i 0 ≥ N)
instance (N : Int) (l : List Int) (i : Nat) : Decidable (okT N l i) := by unfold okT; infer_instance

/-- The fault of a group and things of it. -/
def tf (N : Int) (m l : List Int) : Int × Int :=
  if ¬ (gf N m).1 = 0 then gf N m
  else match fst' (fun i => decide (¬ okT N l i)) l.length with
    | some i => (3, (i : Int) + 1)
    | none => (0, 0)

theorem gf_zero {N : Int} {m : List Int} (h : (gf N m).1 = 0) : gf N m = (0, 0) := by
  obtain ⟨n, e, hg, _⟩ := gf_ok h
  exact gf_of hg
theorem tf_gf {N : Int} {m l : List Int} (h : ¬ (gf N m).1 = 0) : tf N m l = gf N m := by unfold tf; rw [if_pos h]
theorem tf_at {N : Int} {m l : List Int} {i : Nat} (h : (gf N m).1 = 0) (hi : i < l.length) (hn : ¬ okT N l i) (hj : ∀ j, j < i → okT N l j) : tf N m l = (3, (i : Int) + 1) := by
  have h1 : fst' (fun i => decide (¬ okT N l i)) l.length = some i := fst_some hi (decide_eq_true hn) fun j h => decide_eq_false fun h' => h' (hj j h)
  unfold tf; rw [if_neg (by simpa using h), h1]
theorem tf_ok {N : Int} {m l : List Int} (h : (gf N m).1 = 0) (hj : ∀ j, j < l.length → okT N l j) : tf N m l = (0, 0) := by
  have h1 : fst' (fun i => decide (¬ okT N l i)) l.length = none := fst_none fun j h => decide_eq_false fun h' => h' (hj j h)
  unfold tf; rw [if_neg (by simpa using h), h1]
theorem tf_zero {N : Int} {m l : List Int} (h : (tf N m l).1 = 0) : (gf N m).1 = 0 ∧ (∀ j, j < l.length → okT N l j) ∧ tf N m l = (0, 0) := by
  by_cases h1 : (gf N m).1 = 0
  · refine ⟨h1, ?_⟩
    cases h2 : fst' (fun i => decide (¬ okT N l i)) l.length with
    | some i => unfold tf at h; rw [if_neg (by simpa using h1), h2] at h; simp at h
    | none =>
      have : ∀ j, j < l.length → okT N l j := fun j hj => Classical.not_not.1 (of_decide_eq_false (fst_spec0 h2 j hj))
      exact ⟨this, tf_ok h1 this⟩
  · rw [tf_gf h1] at h; exact absurd h h1

/-! ### Orders, powers -/

theorem o_c {n e : Nat} {m : List Int} (h : GT n m n e) {a : Nat} (ha : a < n) : FnC Tryd.prog 44 [gp n m, .int .i64 a] (.int .i64 (ord n (op m n) e a : Nat)) := by
  have G := h.2.2
  have T := h.2.1
  have hb := T.big
  obtain ⟨o1, o2, o3, o4⟩ := G.ord_spec ha
  refine fnc_of tab_ok Tryd.func44 rfl (by kernel_rfl) (by rw [Tryd.ntmps44]; exact Nat.le_add_left 2 _) ?_; rw [Tryd.ntmps44]
  refine qm ?_
  refine hk_region fun K hK => runs_eval tab_ok ?_
  simp only [ev0, evA, evB, evP, fl, gp, tab, simprocAttr, reduceCtorEq, reduceIte]
  refine fin_run ?_ (hK _ ?_) <;> clear hK <;> clear K
  · (first | exact trivial | omega | (simp only [In64] at *; omega) | (simp [In64] at *; omega) | (simp_all; done) | skip)
  refine qa (qm ?_)
  refine hk_region fun K hK => runs_eval tab_ok ?_
  simp only [ev0, evA, evB, evP, fl, gp, tab, simprocAttr, reduceCtorEq, reduceIte]
  refine fin_stop trivial (runs_call (e_c T) rfl rfl rfl (by simp only [dstOk, Nat.reduceLT]) (by repeat (first | exact trivial | constructor)) (runs_eval tab_ok ?_))
  simp only [ev0, evA, evB, evP, fl, gp, tab, simprocAttr, reduceCtorEq, reduceIte, h.eI]
  refine fin_run ?_ (hK _ ?_) <;> clear hK <;> clear K
  · (first | exact trivial | omega | (simp only [In64] at *; omega) | (simp [In64] at *; omega) | (simp_all; done) | skip)
  refine qa (qm ?_)
  refine hk_region fun K hK => runs_eval tab_ok ?_
  simp only [ev0, evA, evB, evP, fl, gp, tab, simprocAttr, reduceCtorEq, reduceIte]
  refine fin_run trivial (hK _ ?_) <;> clear hK <;> clear K
  refine qa (qm ?_)
  refine hk_region fun K hK => runs_eval tab_ok ?_
  simp only [ev0, evA, evB, evP, fl, gp, tab, simprocAttr, reduceCtorEq, reduceIte]
  refine fin_run trivial (hK _ ?_) <;> clear hK <;> clear K
  refine qa (qm (ql ?_))
  refine hk_loop (ι := Nat) (fun k => ⟨21, [(1, .p (.int .i64 a)), (2, .ptr 0 0), (5, .p (.int .i64 e)), (6, .p (.int .i64 (pw (op m n) e a k : Nat))), (7, .p (.int .i64 k))], [.own [.p (.int .i64 n), .p (.list (il m))]]⟩) (fun k => 1 ≤ k ∧ k ≤ ord n (op m n) e a) (fun k => ord n (op m n) e a - k) 1 ⟨Nat.le_refl _, o1⟩ [0] (by rw [G.pw_one ha]; simp only [leq, leA, ev0, evA, evB, evP, fl, gp, tab, simprocAttr, reduceCtorEq, reduceIte] <;> trivial) fun k hk => ?_
  obtain ⟨hk1, hk2⟩ := hk
  refine qm (qm ?_)
  refine hk_region fun K hK => runs_eval tab_ok ?_
  simp only [ev0, evA, evB, evP, fl, gp, tab, simprocAttr, reduceCtorEq, reduceIte]
  refine fin_run trivial (hK _ ?_) <;> clear hK <;> clear K
  refine qa ?_
  refine hk_cond rfl (fun hC1 => ?_) (fun hC1 => ?_)
  · (try simp only [nhs] at hC1)
    have hne : k ≠ ord n (op m n) e a := fun h => hC1 (by rw [h, o3])
    refine qh (qa (ql (qm ?_)))
    refine hk_region fun K hK => runs_eval tab_ok ?_
    simp only [ev0, evA, evB, evP, fl, gp, tab, simprocAttr, reduceCtorEq, reduceIte]
    refine fin_stop trivial (runs_call (m_c T ha (G.pw_lt ha k)) rfl rfl rfl (by simp only [dstOk, Nat.reduceLT]) (by repeat (first | exact trivial | constructor)) (runs_eval tab_ok ?_))
    simp only [ev0, evA, evB, evP, fl, gp, tab, simprocAttr, reduceCtorEq, reduceIte, (G.pw_succ' ha k).symm]
    refine fin_run ?_ (hK _ ?_) <;> clear hK <;> clear K
    · (first | exact trivial | omega | (simp only [In64] at *; omega) | (simp [In64] at *; omega) | (simp_all; done) | skip)
    refine qa ?_
    refine hk_region fun K hK => runs_eval tab_ok ?_
    simp only [ev0, evA, evB, evP, fl, gp, tab, simprocAttr, reduceCtorEq, reduceIte]
    refine fin_run ?_ (hK _ ?_) <;> clear hK <;> clear K
    · (first | exact trivial | omega | (simp only [In64] at *; omega) | (simp [In64] at *; omega) | (simp_all; done) | skip)
    refine qd (qa ?_)
    refine ⟨k + 1, [0], ⟨by omega, by omega⟩, by omega, ?_⟩
    simp only [leq, leA, ev0, evA, evB, evP, fl, gp, tab, simprocAttr, reduceCtorEq, reduceIte] <;> omega
  · (try simp only [nhs] at hC1)
    have hek : k = ord n (op m n) e a := by
      rcases Nat.lt_or_ge k (ord n (op m n) e a) with hlt | hge
      · exact absurd (by omega) (o4 k hk1 hlt)
      · omega
    refine qj (qc (qc (qf (qa (qm ?_)))))
    refine hk_region fun K hK => runs_eval tab_ok ?_
    simp only [ev0, evA, evB, evP, fl, gp, tab, simprocAttr, reduceCtorEq, reduceIte]
    refine fin_run trivial (hK _ ?_) <;> clear hK <;> clear K
    refine qa (qk ?_)
    simp only [Tryd.results44, enA, ev0, evA, evB, evP, fl, gp, tab, simprocAttr, reduceCtorEq, reduceIte]
    all_goals (rw [hek])

theorem emod_adj {n o : Int} (ho : 0 < o) : (if n.tmod o < 0 then n.tmod o + o else n.tmod o) = n % o := by
  have h1 := Int.emod_nonneg n (show o ≠ 0 by omega)
  have h2 := Int.emod_lt_of_pos n ho
  rw [Int.tmod_eq_emod]
  by_cases h : 0 ≤ n ∨ o ∣ n
  · rw [if_pos h]; split <;> omega
  · rw [if_neg h]; split <;> omega

def abel (m : List Int) (n : Nat) : Prop := ∀ a, a < n → ∀ b, b < n → op m n a b = op m n b a
instance (m : List Int) (n : Nat) : Decidable (abel m n) := by unfold abel; infer_instance

theorem commutes_c {n : Nat} {m : List Int} (T : Tab n m) : FnC Tryd.prog 86 [gp n m] (.bool (decide (abel m n))) := by
  have hb := T.big
  refine fnc_of tab_ok Tryd.func86 rfl (by kernel_rfl) (by rw [Tryd.ntmps86]; exact Nat.le_add_left 1 _) ?_; rw [Tryd.ntmps86]
  refine qm ?_
  refine hk_region fun K hK => runs_eval tab_ok ?_
  simp only [ev0, evA, evB, evP, fl, gp, tab, simprocAttr, reduceCtorEq, reduceIte]
  refine fin_run ?_ (hK _ ?_) <;> clear hK <;> clear K
  · (first | exact trivial | omega | (simp only [In64] at *; omega) | (simp [In64] at *; omega) | (simp_all; done) | skip)
  refine qa (qm (qm ?_))
  refine hk_region fun K hK => runs_eval tab_ok ?_
  simp only [ev0, evA, evB, evP, fl, gp, tab, simprocAttr, reduceCtorEq, reduceIte]
  refine fin_run trivial (hK _ ?_) <;> clear hK <;> clear K
  refine qa (ql ?_)
  refine hk_loop (ι := Nat) (fun i => ⟨26, [(1, .ptr 0 0), (3, .p (.int .i64 i))], [.own [.p (.int .i64 n), .p (.list (il m))]]⟩) (fun i => i ≤ n ∧ ∀ j, j < i → ∀ b, b < n → op m n j b = op m n b j) (fun i => n - i) 0 ⟨Nat.zero_le _, fun j hj => by omega⟩ [0] (by simp only [leq, leA, ev0, evA, evB, evP, fl, gp, tab, simprocAttr, reduceCtorEq, reduceIte] <;> trivial) fun i hi => ?_
  obtain ⟨hi1, hi2⟩ := hi
  refine qm (qm ?_)
  refine hk_region fun K hK => runs_eval tab_ok ?_
  simp only [ev0, evA, evB, evP, fl, gp, tab, simprocAttr, reduceCtorEq, reduceIte]
  refine fin_run ?_ (hK _ ?_) <;> clear hK <;> clear K
  · (first | exact trivial | omega | (simp only [In64] at *; omega) | (simp [In64] at *; omega) | (simp_all; done) | skip)
  refine qa ?_
  refine hk_cond rfl (fun hC1 => ?_) (fun hC1 => ?_)
  · (try simp only [nhs] at hC1)
    have hlt : i < n := by omega
    refine qh (qa (qm (ql (qm ?_))))
    refine hk_region fun K hK => runs_eval tab_ok ?_
    simp only [ev0, evA, evB, evP, fl, gp, tab, simprocAttr, reduceCtorEq, reduceIte]
    refine fin_run trivial (hK _ ?_) <;> clear hK <;> clear K
    refine qa (ql ?_)
    refine hk_loop (ι := Nat) (fun b => ⟨26, [(1, .ptr 0 0), (3, .p (.int .i64 i)), (4, .p (.int .i64 b))], [.own [.p (.int .i64 n), .p (.list (il m))]]⟩) (fun b => b ≤ n ∧ ∀ c, c < b → op m n i c = op m n c i) (fun b => n - b) 0 ⟨Nat.zero_le _, fun j hj => by omega⟩ [0] (by simp only [leq, leA, ev0, evA, evB, evP, fl, gp, tab, simprocAttr, reduceCtorEq, reduceIte] <;> trivial) fun b hb => ?_
    obtain ⟨hb1, hb2⟩ := hb
    refine qm (qm ?_)
    refine hk_region fun K hK => runs_eval tab_ok ?_
    simp only [ev0, evA, evB, evP, fl, gp, tab, simprocAttr, reduceCtorEq, reduceIte]
    refine fin_run ?_ (hK _ ?_) <;> clear hK <;> clear K
    · (first | exact trivial | omega | (simp only [In64] at *; omega) | (simp [In64] at *; omega) | (simp_all; done) | skip)
    refine qa ?_
    refine hk_cond rfl (fun hC2 => ?_) (fun hC2 => ?_)
    · (try simp only [nhs] at hC2)
      have hbl : b < n := by omega
      refine qh (qa (qm (ql (qm ?_))))
      refine hk_draw mixed (by kernel_rfl) fun K hK => runs_eval tab_ok ?_
      simp only [ev0, evA, evB, evP, fl, gp, tab, simprocAttr, reduceCtorEq, reduceIte]
      refine fin_stop trivial (runs_call (m_c T hlt hbl) rfl rfl rfl (by simp only [dstOk, Nat.reduceLT]) (by repeat (first | exact trivial | constructor)) (runs_eval tab_ok ?_))
      simp only [ev0, evA, evB, evP, fl, gp, tab, simprocAttr, reduceCtorEq, reduceIte]
      refine fin_stop trivial (runs_call (m_c T hbl hlt) rfl rfl rfl (by simp only [dstOk, Nat.reduceLT]) (by repeat (first | exact trivial | constructor)) (runs_eval tab_ok ?_))
      simp only [ev0, evA, evB, evP, fl, gp, tab, simprocAttr, reduceCtorEq, reduceIte]
      refine fin_run ?_ (hK _ ?_) <;> clear hK <;> clear K
      · (first | exact trivial | omega | (simp only [In64] at *; omega) | (simp [In64] at *; omega) | (simp_all; done) | skip)
      refine qa ?_
      refine hk_cond rfl (fun hC3 => ?_) (fun hC3 => ?_)
      · (try simp only [nhs] at hC3)
        refine qm ?_
        refine hk_region fun K hK => runs_eval tab_ok ?_
        simp only [ev0, evA, evB, evP, fl, gp, tab, simprocAttr, reduceCtorEq, reduceIte]
        refine fin_run trivial (hK _ ?_) <;> clear hK <;> clear K
        refine qa (qk (qe (qb (qb (qe (qe (qb (qb (qe (qb ?_))))))))))
        simp only [Tryd.results86, enA, ev0, evA, evB, evP, fl, gp, tab, simprocAttr, reduceCtorEq, reduceIte]
        all_goals (simp only [decide_eq_false_iff_not, eq_comm (a := false)]; exact fun h => hC3 (by rw [h i hlt b hbl]))
      · (try simp only [nhs] at hC3)
        refine qh (qd (qa ?_))
        refine hk_region fun K hK => runs_eval tab_ok ?_
        simp only [ev0, evA, evB, evP, fl, gp, tab, simprocAttr, reduceCtorEq, reduceIte]
        refine fin_run ?_ (hK _ ?_) <;> clear hK <;> clear K
        · (first | exact trivial | omega | (simp only [In64] at *; omega) | (simp [In64] at *; omega) | (simp_all; done) | skip)
        refine qa ?_
        refine ⟨b + 1, [0], ⟨by omega, fun j hj => ?_⟩, by omega, ?_⟩
        · by_cases hj : j = b
          · subst hj; omega
          · exact hb2 j (by omega)
        · simp only [leq, leA, ev0, evA, evB, evP, fl, gp, tab, simprocAttr, reduceCtorEq, reduceIte] <;> omega
    · (try simp only [nhs] at hC2)
      refine qj (qc (qc (qf (qd (qa ?_)))))
      refine hk_region fun K hK => runs_eval tab_ok ?_
      simp only [ev0, evA, evB, evP, fl, gp, tab, simprocAttr, reduceCtorEq, reduceIte]
      refine fin_run ?_ (hK _ ?_) <;> clear hK <;> clear K
      · (first | exact trivial | omega | (simp only [In64] at *; omega) | (simp [In64] at *; omega) | (simp_all; done) | skip)
      refine qa ?_
      refine ⟨i + 1, [0], ⟨by omega, fun j hj => ?_⟩, by omega, ?_⟩
      · by_cases hj : j = i
        · subst hj; exact fun c' hc' => hb2 c' (by omega)
        · exact hi2 j (by omega)
      · simp only [leq, leA, ev0, evA, evB, evP, fl, gp, tab, simprocAttr, reduceCtorEq, reduceIte] <;> omega
  · (try simp only [nhs] at hC1)
    refine qj (qc (qc (qf (qa (qm ?_)))))
    refine hk_region fun K hK => runs_eval tab_ok ?_
    simp only [ev0, evA, evB, evP, fl, gp, tab, simprocAttr, reduceCtorEq, reduceIte]
    refine fin_run trivial (hK _ ?_) <;> clear hK <;> clear K
    refine qa (qk ?_)
    simp only [Tryd.results86, enA, ev0, evA, evB, evP, fl, gp, tab, simprocAttr, reduceCtorEq, reduceIte]
    all_goals (simp only [decide_eq_true_eq, eq_comm (a := true)]; exact fun a ha => hi2 a (by omega))
end Go.Proofs.YtjikchbmkodgfaaDoor
