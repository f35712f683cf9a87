/-
  Walks: the law QuotSimple. Conditions: none.
-/
import Derived.Test.YtgnhcdpjmfoklaaDoorS12
import Derived.Test.YtgnhcdpjmfoklaaDoorS11
import Derived.Test.YtgnhcdpjmfoklaaDoorG23
import Derived.Test.YtgnhcdpjmfoklaaDoorLS16
set_option linter.all false
namespace Go.Proofs.YtgnhcdpjmfoklaaDoor
open Go.Pv

/-- A group whose things make it, each with its conjugates. -/
def SimP (n e : Nat) (cw : Nat → Nat → Bool) (k : Nat) : Prop := 1 < n ∧ ∀ a, a < k → a = e ∨ (thl n (cw a)).length = n

theorem em3 (P Q : Prop) : ¬ P ∨ (P ∧ Q) ∨ (P ∧ ¬ Q) := by
  by_cases h1 : P <;> by_cases h2 : Q <;> simp [h1, h2]

theorem simple_no (N : Int) (m : List Int) (hm : m.length ≤ 1000000000000000) (hf : ¬ (gf N m).1 = 0) : FnC Tryd.prog 43 [gp N m] (.tup [.bool false, fl (gf N m)]) := by
  refine fnc_of tab_ok Tryd.func43 rfl (by kernel_rfl) (by rw [Tryd.ntmps43]; exact Nat.le_add_left 1 _) ?_; rw [Tryd.ntmps43]
  refine qm ?_
  refine hk_region fun K hK => runs_eval tab_ok ?_
  simp only [ev0, evA, evB, evP, fl, gp, tab, simprocAttr, reduceCtorEq, reduceIte]
  refine fin_run ?_ (hK _ ?_) <;> clear hK <;> clear K
  · (first | exact trivial | omega | (simp only [In64] at *; omega) | (simp [In64] at *; omega) | (simp_all; done) | skip)
  refine qa (qm (qm ?_))
  refine hk_region fun K hK => runs_eval tab_ok ?_
  simp only [ev0, evA, evB, evP, fl, gp, tab, simprocAttr, reduceCtorEq, reduceIte]
  refine fin_stop trivial (runs_call (check_c N m hm) rfl rfl rfl (by simp only [dstOk, Nat.reduceLT]) (by repeat (first | exact trivial | constructor)) (runs_eval tab_ok ?_))
  simp only [ev0, evA, evB, evP, fl, gp, tab, simprocAttr, reduceCtorEq, reduceIte]
  refine fin_run ?_ (hK _ ?_) <;> clear hK <;> clear K
  · (first | exact trivial | omega | (simp only [In64] at *; omega) | (simp [In64] at *; omega) | (simp_all; done) | skip)
  refine qa (qm ?_)
  refine hk_region fun K hK => runs_eval tab_ok ?_
  simp only [ev0, evA, evB, evP, fl, gp, tab, simprocAttr, reduceCtorEq, reduceIte]
  refine fin_run ?_ (hK _ ?_) <;> clear hK <;> clear K
  · (first | exact trivial | omega | (simp only [In64] at *; omega) | (simp [In64] at *; omega) | (simp_all; done) | skip)
  refine qa ?_
  refine hk_cond rfl (fun hC1 => ?_) (fun hC1 => ?_)
  · (try simp only [nhs] at hC1)
    refine qm ?_
    refine hk_draw mixed (by kernel_rfl) fun K hK => runs_eval tab_ok ?_
    simp only [ev0, evA, evB, evP, fl, gp, tab, simprocAttr, reduceCtorEq, reduceIte]
    refine fin_run ?_ (hK _ ?_) <;> clear hK <;> clear K
    · (first | exact trivial | omega | (simp only [In64] at *; omega) | (simp [In64] at *; omega) | (simp_all; done) | skip)
    refine qa (qk (qb ?_))
    simp only [Tryd.results43, enA, ev0, evA, evB, evP, fl, gp, tab, simprocAttr, reduceCtorEq, reduceIte]
    all_goals ((first | exact rfl | exact ⟨rfl, rfl⟩ | exact ⟨rfl, rfl, rfl⟩ | exact ⟨trivial, rfl⟩ | exact ⟨Nat.le_refl _, rfl⟩ | trivial | (simp; done)))
  · (try simp only [nhs] at hC1)
    exact absurd hC1 hf
theorem simple_ok {n e : Nat} {m : List Int} (h : GT n m n e) (cw : Nat → Nat → Bool) (hqa : ∀ a x, x < n → (cw a x = true ↔ Gen n (op m n) e (cup n (op m n) e (onp a)) x)) (b : Bool) (hbs : b = true ↔ SimP n e cw n) :
    FnC Tryd.prog 43 [gp n m] (.tup [.bool b, fl (0, 0)]) := by
  have G := h.2.2
  have hb := h.2.1.big
  have hml := h.2.1.len
  have hsq := sq_le hb
  refine fnc_of tab_ok Tryd.func43 rfl (by kernel_rfl) (by rw [Tryd.ntmps43]; exact Nat.le_add_left 1 _) ?_; rw [Tryd.ntmps43]
  refine qm ?_
  refine hk_region fun K hK => runs_eval tab_ok ?_
  simp only [ev0, evA, evB, evP, fl, gp, tab, simprocAttr, reduceCtorEq, reduceIte]
  refine fin_run ?_ (hK _ ?_) <;> clear hK <;> clear K
  · (first | exact trivial | omega | (simp only [In64] at *; omega) | (simp [In64] at *; omega) | (simp_all; done) | skip)
  refine qa (qm (qm ?_))
  refine hk_region fun K hK => runs_eval tab_ok ?_
  simp only [ev0, evA, evB, evP, fl, gp, tab, simprocAttr, reduceCtorEq, reduceIte]
  refine fin_stop trivial (runs_call (check_c n m (by omega)) rfl rfl rfl (by simp only [dstOk, Nat.reduceLT]) (by repeat (first | exact trivial | constructor)) (runs_eval tab_ok ?_))
  simp only [ev0, evA, evB, evP, fl, gp, tab, simprocAttr, reduceCtorEq, reduceIte, gf_of h]
  refine fin_run ?_ (hK _ ?_) <;> clear hK <;> clear K
  · (first | exact trivial | omega | (simp only [In64] at *; omega) | (simp [In64] at *; omega) | (simp_all; done) | skip)
  refine qa (qm ?_)
  refine hk_region fun K hK => runs_eval tab_ok ?_
  simp only [ev0, evA, evB, evP, fl, gp, tab, simprocAttr, reduceCtorEq, reduceIte]
  refine fin_run ?_ (hK _ ?_) <;> clear hK <;> clear K
  · (first | exact trivial | omega | (simp only [In64] at *; omega) | (simp [In64] at *; omega) | (simp_all; done) | skip)
  refine qa ?_
  refine hk_cond rfl (fun hC1 => ?_) (fun hC1 => ?_)
  · cases hC1
  · (try simp only [nhs] at hC1)
    refine qh (qa (qm (qm ?_)))
    refine hk_region fun K hK => runs_eval tab_ok ?_
    simp only [ev0, evA, evB, evP, fl, gp, tab, simprocAttr, reduceCtorEq, reduceIte]
    refine fin_run ?_ (hK _ ?_) <;> clear hK <;> clear K
    · (first | exact trivial | omega | (simp only [In64] at *; omega) | (simp [In64] at *; omega) | (simp_all; done) | skip)
    refine qa (ql ?_)
    refine hk_loop (ι := Nat) (fun a => ⟨41, [(1, .ptr 0 0), (3, .ptr 1 0), (15, .p (.int .i64 n)), (16, .p (.int .i64 a))], [.own [.p (.int .i64 n), .p (.list (il m))], .own [.p (.int .i64 0), .p (.int .i64 0)]]⟩) (fun a => a ≤ n ∧ ∀ c, c < a → c = e ∨ (thl n (cw c)).length = n) (fun a => n - a) 0 ⟨Nat.zero_le _, fun j hj => by omega⟩ [0, 1] (by simp only [leq, leA, ev0, evA, evB, evP, fl, gp, tab, simprocAttr, reduceCtorEq, reduceIte] <;> trivial) fun a ha => ?_
    obtain ⟨ha1, ha2⟩ := ha
    refine qm ?_
    refine hk_region fun K hK => runs_eval tab_ok ?_
    simp only [ev0, evA, evB, evP, fl, gp, tab, simprocAttr, reduceCtorEq, reduceIte]
    refine fin_run trivial (hK _ ?_) <;> clear hK <;> clear K
    refine qa (qm ?_)
    refine hk_cond rfl (fun hC2 => ?_) (fun hC2 => ?_)
    · (try simp only [nhs] at hC2)
      have hal : a < n := by omega
      refine qh (qa (qm (ql (qm ?_))))
      refine hk_region fun K hK => runs_eval tab_ok ?_
      simp only [ev0, evA, evB, evP, fl, gp, tab, simprocAttr, reduceCtorEq, reduceIte]
      refine fin_run trivial (hK _ ?_) <;> clear hK <;> clear K
      refine qa (qm (qm ?_))
      refine hk_region fun K hK => runs_eval tab_ok ?_
      simp only [ev0, evA, evB, evP, fl, gp, tab, simprocAttr, reduceCtorEq, reduceIte]
      refine fin_stop trivial (runs_call (oneOf_c h) rfl rfl rfl (by simp only [dstOk, Nat.reduceLT]) (by repeat (first | exact trivial | constructor)) (runs_eval tab_ok ?_))
      simp only [ev0, evA, evB, evP, fl, gp, tab, simprocAttr, reduceCtorEq, reduceIte]
      refine fin_run ?_ (hK _ ?_) <;> clear hK <;> clear K
      · (first | exact trivial | omega | (simp only [In64] at *; omega) | (simp [In64] at *; omega) | (simp_all; done) | skip)
      refine qa ?_
      refine hk_cond rfl (fun hC3 => ?_) (fun hC3 => ?_)
      · (try simp only [nhs] at hC3)
        refine qj (qc (qf (qa ?_)))
        refine hk_region fun K hK => runs_eval tab_ok ?_
        simp only [ev0, evA, evB, evP, fl, gp, tab, simprocAttr, reduceCtorEq, reduceIte]
        refine fin_run ?_ (hK _ ?_) <;> clear hK <;> clear K
        · (first | exact trivial | omega | (simp only [In64] at *; omega) | (simp [In64] at *; omega) | (simp_all; done) | skip)
        refine qa ?_
        have hae : a = e := by omega
        refine ⟨a + 1, [0, 1], ⟨by omega, fun c hc => ?_⟩, by omega, ?_⟩
        · by_cases hca : c = a
          · rw [hca]; exact .inl hae
          · exact ha2 c (by omega)
        · simp only [leq, leA, ev0, evA, evB, evP, fl, gp, tab, simprocAttr, reduceCtorEq, reduceIte] <;> first | trivial | omega
      · (try simp only [nhs] at hC3)
        have hae : a ≠ e := fun he => hC3 (by rw [he])
        have hcl := closure_ok h (onp a) (cw a) (hqa a)
        have h1 : thl n (onp a) = [(a : Int)] := thl_one hal
        rw [h1] at hcl
        have hlq := thl_le n (cw a)
        refine qh (qa (qm ?_))
        refine hk_region fun K hK => runs_eval tab_ok ?_
        simp only [ev0, evA, evB, evP, fl, gp, tab, simprocAttr, reduceCtorEq, reduceIte]
        refine fin_stop ?_ (runs_call (FnC.sub (args' := [gp n m, .nn (il [(a : Int)])]) hcl (And.intro (.same _) (And.intro (.nn _) trivial))) rfl rfl rfl (by simp only [dstOk, Nat.reduceLT]) (by repeat (first | exact trivial | constructor)) (runs_eval tab_ok ?_))
        · (first | exact trivial | omega | (simp only [In64] at *; omega) | (simp [In64] at *; omega) | (simp_all; done) | skip)
        simp only [ev0, evA, evB, evP, fl, gp, tab, simprocAttr, reduceCtorEq, reduceIte]
        refine fin_run ?_ (hK _ ?_) <;> clear hK <;> clear K
        · (first | exact trivial | omega | (simp only [In64] at *; omega) | (simp [In64] at *; omega) | (simp_all; done) | skip)
        refine qa (qm ?_)
        refine hk_region fun K hK => runs_eval tab_ok ?_
        simp only [ev0, evA, evB, evP, fl, gp, tab, simprocAttr, reduceCtorEq, reduceIte, il_length]
        refine fin_run ?_ (hK _ ?_) <;> clear hK <;> clear K
        · (first | exact trivial | omega | (simp only [In64] at *; omega) | (simp [In64] at *; omega) | (simp_all; done) | skip)
        refine qa ?_
        refine hk_cond rfl (fun hC4 => ?_) (fun hC4 => ?_)
        · (try simp only [nhs] at hC4)
          refine qm ?_
          refine hk_region fun K hK => runs_eval tab_ok ?_
          simp only [ev0, evA, evB, evP, fl, gp, tab, simprocAttr, reduceCtorEq, reduceIte]
          refine fin_run ?_ (hK _ ?_) <;> clear hK <;> clear K
          · (first | exact trivial | omega | (simp only [In64] at *; omega) | (simp [In64] at *; omega) | (simp_all; done) | skip)
          refine qa (qk (qe (qb (qb (qe (qb ?_))))))
          simp only [Tryd.results43, enA, ev0, evA, evB, evP, fl, gp, tab, simprocAttr, reduceCtorEq, reduceIte]
          have hbf : b = false := by
            cases b with
            | false => rfl
            | true =>
              rcases (hbs.1 rfl).2 a hal with h' | h'
              · exact absurd h' hae
              · omega
          rw [hbf]
        · (try simp only [nhs] at hC4)
          have hfull : (thl n (cw a)).length = n := by omega
          refine qh (qd (qa ?_))
          refine hk_region fun K hK => runs_eval tab_ok ?_
          simp only [ev0, evA, evB, evP, fl, gp, tab, simprocAttr, reduceCtorEq, reduceIte]
          refine fin_run ?_ (hK _ ?_) <;> clear hK <;> clear K
          · (first | exact trivial | omega | (simp only [In64] at *; omega) | (simp [In64] at *; omega) | (simp_all; done) | skip)
          refine qa ?_
          refine ⟨a + 1, [0, 1], ⟨by omega, fun c hc => ?_⟩, by omega, ?_⟩
          · by_cases hca : c = a
            · rw [hca]; exact .inr hfull
            · exact ha2 c (by omega)
          · simp only [leq, leA, ev0, evA, evB, evP, fl, gp, tab, simprocAttr, reduceCtorEq, reduceIte] <;> first | trivial | omega
    · (try simp only [nhs] at hC2)
      refine qj (qc (qc (qf (qa (qm ?_)))))
      refine hk_region fun K hK => runs_eval tab_ok ?_
      simp only [ev0, evA, evB, evP, fl, gp, tab, simprocAttr, reduceCtorEq, reduceIte]
      refine fin_run ?_ (hK _ ?_) <;> clear hK <;> clear K
      · (first | exact trivial | omega | (simp only [In64] at *; omega) | (simp [In64] at *; omega) | (simp_all; done) | skip)
      refine qa (qk ?_)
      simp only [Tryd.results43, enA, ev0, evA, evB, evP, fl, gp, tab, simprocAttr, reduceCtorEq, reduceIte]
      have hbt : decide ((n : Int) > 1) = b := by
        rw [Bool.eq_iff_iff, decide_eq_true_eq, hbs]
        exact ⟨fun h' => ⟨by omega, fun c hc => ha2 c (by omega)⟩, fun h' => by have := h'.1; omega⟩
      rw [hbt]

theorem abel_no (N : Int) (m : List Int) (hm : m.length ≤ 1000000000000000) (hf : ¬ (gf N m).1 = 0) : FnC Tryd.prog 44 [gp N m] (.tup [gp 0 [], .list [], fl (gf N m)]) := by
  refine fnc_of tab_ok Tryd.func44 rfl (by kernel_rfl) (by rw [Tryd.ntmps44]; exact Nat.le_add_left 1 _) ?_; rw [Tryd.ntmps44]
  refine qm ?_
  refine hk_region fun K hK => runs_eval tab_ok ?_
  simp only [ev0, evA, evB, evP, fl, gp, tab, simprocAttr, reduceCtorEq, reduceIte]
  refine fin_run ?_ (hK _ ?_) <;> clear hK <;> clear K
  · (first | exact trivial | omega | (simp only [In64] at *; omega) | (simp [In64] at *; omega) | (simp_all; done) | skip)
  refine qa (qm ?_)
  refine hk_region fun K hK => runs_eval tab_ok ?_
  simp only [ev0, evA, evB, evP, fl, gp, tab, simprocAttr, reduceCtorEq, reduceIte]
  refine fin_run trivial (hK _ ?_) <;> clear hK <;> clear K
  refine qa (qm (qm ?_))
  refine hk_region fun K hK => runs_eval tab_ok ?_
  simp only [ev0, evA, evB, evP, fl, gp, tab, simprocAttr, reduceCtorEq, reduceIte]
  refine fin_stop trivial (runs_call (check_c N m hm) rfl rfl rfl (by simp only [dstOk, Nat.reduceLT]) (by repeat (first | exact trivial | constructor)) (runs_eval tab_ok ?_))
  simp only [ev0, evA, evB, evP, fl, gp, tab, simprocAttr, reduceCtorEq, reduceIte]
  refine fin_run ?_ (hK _ ?_) <;> clear hK <;> clear K
  · (first | exact trivial | omega | (simp only [In64] at *; omega) | (simp [In64] at *; omega) | (simp_all; done) | skip)
  refine qa (qm ?_)
  refine hk_region fun K hK => runs_eval tab_ok ?_
  simp only [ev0, evA, evB, evP, fl, gp, tab, simprocAttr, reduceCtorEq, reduceIte]
  refine fin_run ?_ (hK _ ?_) <;> clear hK <;> clear K
  · (first | exact trivial | omega | (simp only [In64] at *; omega) | (simp [In64] at *; omega) | (simp_all; done) | skip)
  refine qa ?_
  refine hk_cond rfl (fun hC1 => ?_) (fun hC1 => ?_)
  · (try simp only [nhs] at hC1)
    refine qm ?_
    refine hk_draw2 mixed fun K hK => runs2_eval tab_ok ?_
    simp only [evD, ev0, evA, evB, evP, fl, gp, tab, simprocAttr, reduceCtorEq, reduceIte]
    refine fin2_run ?_ (hK _ _ (by first | kernel_rfl | rfl) ?_) <;> clear hK <;> clear K
    · (first | exact trivial | omega | (simp only [In64] at *; omega) | (simp [In64] at *; omega) | (simp_all; done) | skip)
    refine qa (qk (qb ?_))
    simp only [Tryd.results44, enA, ev0, evA, evB, evP, fl, gp, tab, simprocAttr, reduceCtorEq, reduceIte]
    all_goals (simp [il])
  · (try simp only [nhs] at hC1)
    exact absurd hC1 hf
theorem abel_ok {n e : Nat} {m : List Int} (h : GT n m n e) (d : Nat → Bool) (hd : ∀ a, a < n → (d a = true ↔ Gen n (op m n) e (dnp n (op m n) e (fun _ => true) fun _ => true) a)) (hs : Sub n (op m n) e d) (hN : Nml n (op m n) e d) :
    FnC Tryd.prog 44 [gp n m] (.tup [gp (cst n (dco n (op m n) d (onp e))).length (qtb n (op m n) (dco n (op m n) d (onp e))), .list (il (whl n (dco n (op m n) d (onp e)))), fl (0, 0)]) := by
  have hb := h.2.1.big
  have hml := h.2.1.len
  have hsq := sq_le hb
  refine fnc_of tab_ok Tryd.func44 rfl (by kernel_rfl) (by rw [Tryd.ntmps44]; exact Nat.le_add_left 1 _) ?_; rw [Tryd.ntmps44]
  refine qm ?_
  refine hk_region fun K hK => runs_eval tab_ok ?_
  simp only [ev0, evA, evB, evP, fl, gp, tab, simprocAttr, reduceCtorEq, reduceIte]
  refine fin_run ?_ (hK _ ?_) <;> clear hK <;> clear K
  · (first | exact trivial | omega | (simp only [In64] at *; omega) | (simp [In64] at *; omega) | (simp_all; done) | skip)
  refine qa (qm ?_)
  refine hk_region fun K hK => runs_eval tab_ok ?_
  simp only [ev0, evA, evB, evP, fl, gp, tab, simprocAttr, reduceCtorEq, reduceIte]
  refine fin_run trivial (hK _ ?_) <;> clear hK <;> clear K
  refine qa (qm (qm ?_))
  refine hk_own0 5 rfl ?_
  refine hk_region fun K hK => runs_eval tab_ok ?_
  simp only [ev0, evA, evB, evP, fl, gp, tab, simprocAttr, reduceCtorEq, reduceIte]
  refine fin_stop trivial (runs_call (check_c n m (by omega)) rfl rfl rfl (by simp only [dstOk, Nat.reduceLT]) (by repeat (first | exact trivial | constructor)) (runs_eval tab_ok ?_))
  simp only [ev0, evA, evB, evP, fl, gp, tab, simprocAttr, reduceCtorEq, reduceIte, gf_of h]
  refine fin_run ?_ (hK _ ?_) <;> clear hK <;> clear K
  · (first | exact trivial | omega | (simp only [In64] at *; omega) | (simp [In64] at *; omega) | (simp_all; done) | skip)
  refine qa (qm ?_)
  refine hk_region fun K hK => runs_eval tab_ok ?_
  simp only [ev0, evA, evB, evP, fl, gp, tab, simprocAttr, reduceCtorEq, reduceIte]
  refine fin_run ?_ (hK _ ?_) <;> clear hK <;> clear K
  · (first | exact trivial | omega | (simp only [In64] at *; omega) | (simp [In64] at *; omega) | (simp_all; done) | skip)
  refine qa ?_
  refine hk_cond rfl (fun hC1 => ?_) (fun hC1 => ?_)
  · cases hC1
  · (try simp only [nhs] at hC1)
    refine qh (qa (qm (qm ?_)))
    refine hk_region fun K hK => runs_eval tab_ok ?_
    simp only [ev0, evA, evB, evP, fl, gp, tab, simprocAttr, reduceCtorEq, reduceIte]
    refine fin_run ?_ (hK _ ?_) <;> clear hK <;> clear K
    · (first | exact trivial | omega | (simp only [In64] at *; omega) | (simp [In64] at *; omega) | (simp_all; done) | skip)
    refine qa (ql ?_)
    refine hk_loop (ι := Nat) (fun a => ⟨45, [(1, .ptr 0 0), (2, .ptr 1 0), (4, .ptr 2 0), (5, .sl 3 0 (thl a fun _ => true).length), (18, .p (.int .i64 n)), (19, .p (.int .i64 a))], [.own [.p (.int .i64 n), .p (.list (il m))], .own [.p (.int .i64 0), .p .nil], .own [.p (.int .i64 0), .p (.int .i64 0)], .own (ol (thl a fun _ => true))]⟩) (fun a => a ≤ n) (fun a => n - a) 0 (Nat.zero_le _) [0, 1, 2, 3] (by simp only [leq, leA, ev0, evA, evB, evP, fl, gp, tab, simprocAttr, reduceCtorEq, reduceIte] <;> first | trivial | simp [thl, thn', ol_nil]) fun a ha => ?_
    have hl := thl_le a fun _ => true
    refine qm ?_
    refine hk_region fun K hK => runs_eval tab_ok ?_
    simp only [ev0, evA, evB, evP, fl, gp, tab, simprocAttr, reduceCtorEq, reduceIte]
    refine fin_run trivial (hK _ ?_) <;> clear hK <;> clear K
    refine qa (qm ?_)
    refine hk_cond rfl (fun hC2 => ?_) (fun hC2 => ?_)
    · (try simp only [nhs] at hC2)
      have hlt : a < n := by omega
      have hs' := thl_succ a fun _ => true
      rw [if_pos rfl] at hs'
      refine qh (qa (qm (ql (qm ?_))))
      refine hk_region fun K hK => runs_eval tab_ok ?_
      simp only [ev0, evA, evB, evP, fl, gp, tab, simprocAttr, reduceCtorEq, reduceIte]
      refine fin_run trivial (hK _ ?_) <;> clear hK <;> clear K
      refine qa ?_
      refine hk_region fun K hK => runs_eval tab_ok ?_
      simp only [ev0, evA, evB, evP, fl, gp, tab, simprocAttr, reduceCtorEq, reduceIte]
      refine fin_run ?_ (hK _ ?_) <;> clear hK <;> clear K
      · (first | exact trivial | omega | (simp only [In64] at *; omega) | (simp [In64] at *; omega) | (simp_all; done) | skip)
      refine qd (qa ?_)
      refine hk_region fun K hK => runs_eval tab_ok ?_
      simp only [ev0, evA, evB, evP, fl, gp, tab, simprocAttr, reduceCtorEq, reduceIte]
      refine fin_run ?_ (hK _ ?_) <;> clear hK <;> clear K
      · (first | exact trivial | omega | (simp only [In64] at *; omega) | (simp [In64] at *; omega) | (simp_all; done) | skip)
      refine qa ?_
      refine ⟨a + 1, [0, 1, 2, 4], by omega, by omega, ?_⟩
      rw [hs']
      simp only [leq, leA, ev0, evA, evB, evP, fl, gp, tab, simprocAttr, reduceCtorEq, reduceIte] <;> first | trivial | omega
    · (try simp only [nhs] at hC2)
      have han : a = n := by omega
      subst han
      refine hk_seal 5 3 rfl rfl ?_
      refine qj (qc (qc (qf (qa (qm ?_)))))
      refine hk_region fun K hK => runs_eval tab_ok ?_
      simp only [ev0, evA, evB, evP, fl, gp, tab, simprocAttr, reduceCtorEq, reduceIte]
      refine fin_stop trivial (runs_call (comm_ok h (fun _ => true) (fun _ => true) d (fun a ha => by rw [tst_cml]; exact hd a ha)) rfl rfl rfl (by simp only [dstOk, Nat.reduceLT]) (by repeat (first | exact trivial | constructor)) (runs_eval tab_ok ?_))
      simp only [ev0, evA, evB, evP, fl, gp, tab, simprocAttr, reduceCtorEq, reduceIte]
      refine fin_run ?_ (hK _ ?_) <;> clear hK <;> clear K
      · (first | exact trivial | omega | (simp only [In64] at *; omega) | (simp [In64] at *; omega) | (simp_all; done) | skip)
      refine qa (qm (qm ?_))
      refine hk_region fun K hK => runs_eval tab_ok ?_
      simp only [ev0, evA, evB, evP, fl, gp, tab, simprocAttr, reduceCtorEq, reduceIte]
      refine fin_run ?_ (hK _ ?_) <;> clear hK <;> clear K
      · (first | exact trivial | omega | (simp only [In64] at *; omega) | (simp [In64] at *; omega) | (simp_all; done) | skip)
      refine qa ?_
      refine hk_cond rfl (fun hC3 => ?_) (fun hC3 => ?_)
      · cases hC3
      · (try simp only [nhs] at hC3)
        refine qh (qa (qm ?_))
        refine hk_region fun K hK => runs_eval tab_ok ?_
        simp only [ev0, evA, evB, evP, fl, gp, tab, simprocAttr, reduceCtorEq, reduceIte]
        refine fin_stop trivial (runs_call (quotient_ok h d hs hN) rfl rfl rfl (by simp only [dstOk, Nat.reduceLT]) (by repeat (first | exact trivial | constructor)) (runs_eval tab_ok ?_))
        simp only [ev0, evA, evB, evP, fl, gp, tab, simprocAttr, reduceCtorEq, reduceIte]
        refine fin_run ?_ (hK _ ?_) <;> clear hK <;> clear K
        · (first | exact trivial | omega | (simp only [In64] at *; omega) | (simp [In64] at *; omega) | (simp_all; done) | skip)
        refine qa (qk ?_)
        simp only [Tryd.results44, enA, ev0, evA, evB, evP, fl, gp, tab, simprocAttr, reduceCtorEq, reduceIte]
        all_goals ((first | exact rfl | exact ⟨rfl, rfl⟩ | exact ⟨rfl, rfl, rfl⟩ | exact ⟨trivial, rfl⟩ | exact ⟨Nat.le_refl _, rfl⟩ | trivial | (simp; done)))

theorem ta_get {n i : Nat} (hi : i < n) : (thl n fun _ => true).getD i 0 = (i : Int) ∧ (thl n fun _ => true).length = n := by
  have h1 : thl n (fun _ => true) = List.map (fun a : Nat => (a : Int)) (List.range n) := by unfold thl thn'; rw [List.filter_eq_self.2 (fun _ _ => rfl)]
  rw [h1]
  exact ⟨by simp [List.getD, List.getElem?_map, List.getElem?_range hi], by simp⟩
theorem ta_len (n : Nat) : (thl n fun _ => true).length = n := by
  have h1 : thl n (fun _ => true) = List.map (fun a : Nat => (a : Int)) (List.range n) := by unfold thl thn'; rw [List.filter_eq_self.2 (fun _ _ => rfl)]
  rw [h1]; simp
/-- What a thing is conjugated to. -/
def conl (n : Nat) (f : Nat → Nat → Nat) (e a b : Nat) : List Int := (List.range b).map fun c => ((cjr n f e a c : Nat) : Int)
theorem conl_succ (n : Nat) (f : Nat → Nat → Nat) (e a b : Nat) : conl n f e a (b + 1) = conl n f e a b ++ [((cjr n f e a b : Nat) : Int)] := by
  unfold conl
  rw [List.range_succ, List.map_append]; rfl
theorem conl_len (n : Nat) (f : Nat → Nat → Nat) (e a b : Nat) : (conl n f e a b).length = b := by simp [conl]
theorem tst_conl {n e a : Nat} {f : Nat → Nat → Nat} (ha : a < n) : tst (conl n f e a n) = cup n f e (onp a) := by
  funext x
  rw [Bool.eq_iff_iff, cup_iff]
  unfold tst conl
  rw [decide_eq_true_eq, List.mem_map]
  constructor
  · rintro ⟨c, hc, h⟩
    exact ⟨a, c, ha, List.mem_range.1 hc, onp_iff.2 rfl, by omega⟩
  · rintro ⟨y, c, y1, c1, y2, h⟩
    rw [onp_iff] at y2
    subst y2
    exact ⟨c, List.mem_range.2 c1, by omega⟩

set_option maxRecDepth 20000 in
set_option maxHeartbeats 8000000 in
theorem quotSimple_c (N : Int) (m : List Int) (hm : m.length ≤ 17592186043904) : FnC Tryd.prog 10 [gp N m] (.bool true) := by
  refine fnc_of tab_ok Tryd.func10 rfl (by kernel_rfl) (by rw [Tryd.ntmps10]; exact Nat.le_add_left 1 _) ?_; rw [Tryd.ntmps10]
  refine qm ?_
  refine hk_region fun K hK => runs_eval tab_ok ?_
  simp only [ev0, evA, evB, evP, fl, gp, tab, simprocAttr, reduceCtorEq, reduceIte]
  refine fin_run ?_ (hK _ ?_) <;> clear hK <;> clear K
  · (first | exact trivial | omega | (simp only [In64] at *; omega) | (simp [In64] at *; omega) | (simp_all; done) | skip)
  refine qa (qm ?_)
  by_cases hf : (gf N m).1 = 0
  · obtain ⟨n, e, h, heI⟩ := gf_ok hf
    obtain rfl := h.1
    have G := h.2.2
    have hb := h.2.1.big
    have hqe : ∃ cw : Nat → Nat → Bool, ∀ a x, x < n → (cw a x = true ↔ Gen n (op m n) e (cup n (op m n) e (onp a)) x) :=
      ⟨fun a => Classical.choose (gen_ex n (op m n) e (cup n (op m n) e (onp a))), fun a => Classical.choose_spec (gen_ex n (op m n) e (cup n (op m n) e (onp a)))⟩
    obtain ⟨cw, hqa⟩ := hqe
    obtain ⟨bs, hbs⟩ := truth (SimP n e cw n)
    obtain ⟨d, hd⟩ := gen_ex n (op m n) e (dnp n (op m n) e (fun _ => true) fun _ => true)
    have hds := gen_sub G hd
    have hdn := G.gen_nml (G.da_nml (fun _ => true) fun _ _ _ _ _ => rfl) hd
    have hQ := qtb_GT h hds hdn
    have hSI := simple_ok h cw hqa bs hbs
    have hAB := abel_ok h d hd hds hdn
    have hQI := quotientIs_c h d hds hdn
    have hE := G.dco_eqv hds G.onp_sub
    have Qm := cst_qm G hE fun a b c d ha hb' hc hd h1 h2 => G.rco_cong hds hdn ha hb' hc hd h1 h2
    have habel : decide (abel (qtb n (op m n) (dco n (op m n) d (onp e))) (cst n (dco n (op m n) d (onp e))).length) = true := by
      rw [decide_eq_true_eq]
      intro i hi j hj
      rw [qtb_op hi hj, qtb_op hj hi]
      unfold qop
      have hri := Qm.rlt i hi
      have hrj := Qm.rlt j hj
      rw [clq_iff hE (G.cl _ _ hri hrj) (G.cl _ _ hrj hri)]
      exact G.abel_cl hds (fun a b ha hb' => (hd _ (G.cmt_lt ha hb')).2 (.mem G (G.cmt_lt ha hb') (dnp_iff.2 ⟨a, b, ha, hb', rfl, rfl, rfl⟩))) hrj hri
    have hcl : (cst n (dco n (op m n) d (onp e))).length ≤ n := cstp_len _ _ _
    generalize (cst n (dco n (op m n) d (onp e))).length = kq at *
    generalize qtb n (op m n) (dco n (op m n) d (onp e)) = tq at *
    generalize whl n (dco n (op m n) d (onp e)) = wq at *
    have hlen := cml_len n (op m n) e (thl n fun _ => true)
    have htl := ta_len n
    have hsz : ∀ a, a ≤ n → (cml n (op m n) e ((thl n fun _ => true).take a) (thl n fun _ => true)).length ≤ 3600 := fun a ha => by
      rw [hlen, List.length_take]
      exact Nat.mul_le_mul (by omega : min a (thl n fun _ => true).length ≤ 60) (by omega : (thl n fun _ => true).length ≤ 60)
    refine hk_region fun K hK => runs_eval tab_ok ?_
    simp only [ev0, evA, evB, evP, fl, gp, tab, simprocAttr, reduceCtorEq, reduceIte]
    refine fin_stop trivial (runs_call (ownGroup_c n m hm) rfl rfl rfl (by simp only [dstOk, Nat.reduceLT]) (by repeat (first | exact trivial | constructor)) (runs_eval tab_ok ?_))
    simp only [ev0, evA, evB, evP, fl, gp, tab, simprocAttr, reduceCtorEq, reduceIte]
    refine fin_stop trivial (runs_call (hSI) rfl rfl rfl (by simp only [dstOk, Nat.reduceLT]) (by repeat (first | exact trivial | constructor)) (runs_eval tab_ok ?_))
    simp only [ev0, evA, evB, evP, fl, gp, tab, simprocAttr, reduceCtorEq, reduceIte]
    refine fin_run ?_ (hK _ ?_) <;> clear hK <;> clear K
    · (first | exact trivial | omega | (simp only [In64] at *; omega) | (simp [In64] at *; omega) | (simp_all; done) | skip)
    refine qa (qm ?_)
    refine hk_region fun K hK => runs_eval tab_ok ?_
    simp only [ev0, evA, evB, evP, fl, gp, tab, simprocAttr, reduceCtorEq, reduceIte]
    refine fin_stop trivial (runs_call (ownGroup_c n m hm) rfl rfl rfl (by simp only [dstOk, Nat.reduceLT]) (by repeat (first | exact trivial | constructor)) (runs_eval tab_ok ?_))
    simp only [ev0, evA, evB, evP, fl, gp, tab, simprocAttr, reduceCtorEq, reduceIte]
    refine fin_stop trivial (runs_call (hAB) rfl rfl rfl (by simp only [dstOk, Nat.reduceLT]) (by repeat (first | exact trivial | constructor)) (runs_eval tab_ok ?_))
    simp only [ev0, evA, evB, evP, fl, gp, tab, simprocAttr, reduceCtorEq, reduceIte]
    refine fin_run ?_ (hK _ ?_) <;> clear hK <;> clear K
    · (first | exact trivial | omega | (simp only [In64] at *; omega) | (simp [In64] at *; omega) | (simp_all; done) | skip)
    refine qa (qm ?_)
    refine hk_region fun K hK => runs_eval tab_ok ?_
    simp only [ev0, evA, evB, evP, fl, gp, tab, simprocAttr, reduceCtorEq, reduceIte, gf_of h]
    refine fin_stop trivial (runs_call (gf_c n m (by omega)) rfl rfl rfl (by simp only [dstOk, Nat.reduceLT]) (by repeat (first | exact trivial | constructor)) (runs_eval tab_ok ?_))
    simp only [ev0, evA, evB, evP, fl, gp, tab, simprocAttr, reduceCtorEq, reduceIte, gf_of h]
    refine fin_run ?_ (hK _ ?_) <;> clear hK <;> clear K
    · (first | exact trivial | omega | (simp only [In64] at *; omega) | (simp [In64] at *; omega) | (simp_all; done) | skip)
    refine qa (qm (qm ?_))
    refine hk_region fun K hK => runs_eval tab_ok ?_
    simp only [ev0, evA, evB, evP, fl, gp, tab, simprocAttr, reduceCtorEq, reduceIte, bne_self_eq_false]
    refine fin_stop trivial (runs_call (quotBegun_c) rfl rfl rfl (by simp only [dstOk, Nat.reduceLT]) (by repeat (first | exact trivial | constructor)) (runs_eval tab_ok ?_))
    simp only [ev0, evA, evB, evP, fl, gp, tab, simprocAttr, reduceCtorEq, reduceIte, bne_self_eq_false]
    refine fin_run ?_ (hK _ ?_) <;> clear hK <;> clear K
    · (first | exact trivial | omega | (simp only [In64] at *; omega) | (simp [In64] at *; omega) | (simp_all; done) | skip)
    refine qa ?_
    refine hk_cond rfl (fun hC1 => ?_) (fun hC1 => ?_)
    · cases hC1
    · (try simp only [nhs] at hC1)
      refine qh (qa (qm (qm ?_)))
      refine hk_region fun K hK => runs_eval tab_ok ?_
      simp only [ev0, evA, evB, evP, fl, gp, tab, simprocAttr, reduceCtorEq, reduceIte]
      refine fin_run ?_ (hK _ ?_) <;> clear hK <;> clear K
      · (first | exact trivial | omega | (simp only [In64] at *; omega) | (simp [In64] at *; omega) | (simp_all; done) | skip)
      refine qa ?_
      refine hk_cond rfl (fun hC2 => ?_) (fun hC2 => ?_)
      · cases hC2
      · (try simp only [nhs] at hC2)
        refine qh (qa (qm ?_))
        refine hk_region fun K hK => runs_eval tab_ok ?_
        simp only [ev0, evA, evB, evP, fl, gp, tab, simprocAttr, reduceCtorEq, reduceIte]
        refine fin_run ?_ (hK _ ?_) <;> clear hK <;> clear K
        · (first | exact trivial | omega | (simp only [In64] at *; omega) | (simp [In64] at *; omega) | (simp_all; done) | skip)
        refine qa (qm (qm ?_))
        refine hk_region fun K hK => runs_eval tab_ok ?_
        simp only [ev0, evA, evB, evP, fl, gp, tab, simprocAttr, reduceCtorEq, reduceIte]
        refine fin_run trivial (hK _ ?_) <;> clear hK <;> clear K
        refine qa (ql ?_)
        refine hk_loop (ι := Nat) (fun a => ⟨130, [(1, .ptr 0 0), (3, .p (.bool bs)), (5, .ptr 1 0), (6, .p (.list (il wq))), (9, .p (.bool (decide (1 < n ∧ ∀ c, c < a → c = e ∨ (thl n (cw c)).length = n)))), (10, .p (.int .i64 a))], [.own [.p (.int .i64 n), .p (.list (il m))], .own [.p (.int .i64 kq), .p (.list (il tq))]]⟩) (fun a => a ≤ n) (fun a => n - a) 0 (Nat.zero_le _) [0, 2] (by simp only [leq, leA, ev0, evA, evB, evP, fl, gp, tab, simprocAttr, reduceCtorEq, reduceIte] <;> first | trivial | exact decide_eq_decide.2 ⟨fun h' => ⟨by omega, fun c hc => by omega⟩, fun h' => by have := h'.1; omega⟩) fun a ha => ?_
        refine qm (qm ?_)
        refine hk_region fun K hK => runs_eval tab_ok ?_
        simp only [ev0, evA, evB, evP, fl, gp, tab, simprocAttr, reduceCtorEq, reduceIte]
        refine fin_run ?_ (hK _ ?_) <;> clear hK <;> clear K
        · (first | exact trivial | omega | (simp only [In64] at *; omega) | (simp [In64] at *; omega) | (simp_all; done) | skip)
        refine qa ?_
        refine hk_cond rfl (fun hC3 => ?_) (fun hC3 => ?_)
        · (try simp only [nhs] at hC3)
          have hal : a < n := by omega
          refine qh (qa (qm (ql (qm ?_))))
          refine hk_region fun K hK => runs_eval tab_ok ?_
          simp only [ev0, evA, evB, evP, fl, gp, tab, simprocAttr, reduceCtorEq, reduceIte]
          refine fin_run trivial (hK _ ?_) <;> clear hK <;> clear K
          refine qa (qm (qm ?_))
          refine hk_own0 11 rfl ?_
          refine hk_region fun K hK => runs_eval tab_ok ?_
          simp only [ev0, evA, evB, evP, fl, gp, tab, simprocAttr, reduceCtorEq, reduceIte]
          refine fin_run trivial (hK _ ?_) <;> clear hK <;> clear K
          refine qa (ql ?_)
          refine hk_loop (ι := Nat) (fun b => ⟨130, [(1, .ptr 0 0), (3, .p (.bool bs)), (5, .ptr 1 0), (6, .p (.list (il wq))), (9, .p (.bool (decide (1 < n ∧ ∀ c, c < a → c = e ∨ (thl n (cw c)).length = n)))), (10, .p (.int .i64 a)), (11, .sl 2 0 (conl n (op m n) e a b).length), (12, .p (.int .i64 b))], [.own [.p (.int .i64 n), .p (.list (il m))], .own [.p (.int .i64 kq), .p (.list (il tq))], .own (ol (conl n (op m n) e a b))]⟩) (fun b => b ≤ n) (fun b => n - b) 0 (Nat.zero_le _) [0, 1, 2] (by simp only [leq, leA, ev0, evA, evB, evP, fl, gp, tab, simprocAttr, reduceCtorEq, reduceIte] <;> first | trivial | simp [conl, ol_nil]) fun b hb' => ?_
          have hcl2 := conl_len n (op m n) e a b
          refine qm (qm ?_)
          refine hk_region fun K hK => runs_eval tab_ok ?_
          simp only [ev0, evA, evB, evP, fl, gp, tab, simprocAttr, reduceCtorEq, reduceIte]
          refine fin_run ?_ (hK _ ?_) <;> clear hK <;> clear K
          · (first | exact trivial | omega | (simp only [In64] at *; omega) | (simp [In64] at *; omega) | (simp_all; done) | skip)
          refine qa ?_
          refine hk_cond rfl (fun hC4 => ?_) (fun hC4 => ?_)
          · (try simp only [nhs] at hC4)
            have hbl : b < n := by omega
            refine qh (qa (qm (ql ?_)))
            refine hk_region fun K hK => runs_eval tab_ok ?_
            simp only [ev0, evA, evB, evP, fl, gp, tab, simprocAttr, reduceCtorEq, reduceIte]
            refine fin_stop trivial (runs_call (c_r h hal hbl) rfl rfl rfl (by simp only [dstOk, Nat.reduceLT]) (by repeat (first | exact trivial | constructor)) (runs_eval tab_ok ?_))
            simp only [ev0, evA, evB, evP, fl, gp, tab, simprocAttr, reduceCtorEq, reduceIte]
            refine fin_run ?_ (hK _ ?_) <;> clear hK <;> clear K
            · (first | exact trivial | omega | (simp only [In64] at *; omega) | (simp [In64] at *; omega) | (simp_all; done) | skip)
            refine qd (qa ?_)
            refine hk_region fun K hK => runs_eval tab_ok ?_
            simp only [ev0, evA, evB, evP, fl, gp, tab, simprocAttr, reduceCtorEq, reduceIte]
            refine fin_run ?_ (hK _ ?_) <;> clear hK <;> clear K
            · (first | exact trivial | omega | (simp only [In64] at *; omega) | (simp [In64] at *; omega) | (simp_all; done) | skip)
            refine qa ?_
            refine ⟨b + 1, [0, 1, 3], by omega, by omega, ?_⟩
            rw [conl_succ]
            simp only [leq, leA, ev0, evA, evB, evP, fl, gp, tab, simprocAttr, reduceCtorEq, reduceIte] <;> first | trivial | omega
          · (try simp only [nhs] at hC4)
            have hbn : b = n := by omega
            subst hbn
            have hrng : ∀ x ∈ conl b (op m b) e a b, ∃ c, c < b ∧ x = ((c : Nat) : Int) := fun x hx => by
              obtain ⟨c, hc, rfl⟩ := List.mem_map.1 hx
              exact ⟨_, G.cjr_lt hal (List.mem_range.1 hc), rfl⟩
            refine hk_seal 11 2 rfl rfl ?_
            refine qj (qc (qc (qf (qa ?_))))
            rcases em3 (1 < b ∧ ∀ c, c < a → c = e ∨ (thl b (cw c)).length = b) ((a : Int) = (e : Nat)) with k1 | ⟨k1, k2⟩ | ⟨k1, k2⟩
            · rw [show decide (1 < b ∧ ∀ c, c < a → c = e ∨ (thl b (cw c)).length = b) = false from decide_eq_false k1]
              refine hk_draw mixed (by kernel_rfl) fun K hK => runs_eval tab_ok ?_
              simp only [ev0, evA, evB, evP, fl, gp, tab, simprocAttr, reduceCtorEq, reduceIte]
              refine fin_run trivial (hK _ ?_) <;> clear hK <;> clear K
              refine qd (qa ?_)
              refine hk_region fun K hK => runs_eval tab_ok ?_
              simp only [ev0, evA, evB, evP, fl, gp, tab, simprocAttr, reduceCtorEq, reduceIte]
              refine fin_run ?_ (hK _ ?_) <;> clear hK <;> clear K
              · (first | exact trivial | omega | (simp only [In64] at *; omega) | (simp [In64] at *; omega) | (simp_all; done) | skip)
              refine qa ?_
              refine ⟨a + 1, [0, 1], by omega, by omega, ?_⟩
              have hn : decide (1 < b ∧ ∀ c, c < a + 1 → c = e ∨ (thl b (cw c)).length = b) = false := decide_eq_false fun h' => k1 ⟨h'.1, fun c hc => h'.2 c (by omega)⟩
              rw [hn]
              simp only [leq, leA, ev0, evA, evB, evP, fl, gp, tab, simprocAttr, reduceCtorEq, reduceIte] <;> first | trivial | omega
            · rw [show decide (1 < b ∧ ∀ c, c < a → c = e ∨ (thl b (cw c)).length = b) = true from decide_eq_true k1]
              refine hk_draw mixed (by kernel_rfl) fun K hK => runs_eval tab_ok ?_
              simp only [ev0, evA, evB, evP, fl, gp, tab, simprocAttr, reduceCtorEq, reduceIte, h.eI, decide_eq_true k2]
              refine fin_stop trivial (runs_call (e_c h.2.1) rfl rfl rfl (by simp only [dstOk, Nat.reduceLT]) (by repeat (first | exact trivial | constructor)) (runs_eval tab_ok ?_))
              simp only [ev0, evA, evB, evP, fl, gp, tab, simprocAttr, reduceCtorEq, reduceIte, h.eI, decide_eq_true k2]
              refine fin_run ?_ (hK _ ?_) <;> clear hK <;> clear K
              · (first | exact trivial | omega | (simp only [In64] at *; omega) | (simp [In64] at *; omega) | (simp_all; done) | skip)
              refine qd (qa ?_)
              refine hk_region fun K hK => runs_eval tab_ok ?_
              simp only [ev0, evA, evB, evP, fl, gp, tab, simprocAttr, reduceCtorEq, reduceIte]
              refine fin_run ?_ (hK _ ?_) <;> clear hK <;> clear K
              · (first | exact trivial | omega | (simp only [In64] at *; omega) | (simp [In64] at *; omega) | (simp_all; done) | skip)
              refine qa ?_
              refine ⟨a + 1, [0, 1], by omega, by omega, ?_⟩
              have hn : decide (1 < b ∧ ∀ c, c < a + 1 → c = e ∨ (thl b (cw c)).length = b) = true := decide_eq_true ⟨k1.1, fun c hc => by
                by_cases hca : c = a
                · left; omega
                · exact k1.2 c (by omega)⟩
              rw [hn]
              simp only [leq, leA, ev0, evA, evB, evP, fl, gp, tab, simprocAttr, reduceCtorEq, reduceIte] <;> first | trivial | omega
            · rw [show decide (1 < b ∧ ∀ c, c < a → c = e ∨ (thl b (cw c)).length = b) = true from decide_eq_true k1]
              refine hk_draw mixed (by kernel_rfl) fun K hK => runs_eval tab_ok ?_
              simp only [ev0, evA, evB, evP, fl, gp, tab, simprocAttr, reduceCtorEq, reduceIte, h.eI, decide_eq_false k2, il_length]
              refine fin_stop trivial (runs_call (e_c h.2.1) rfl rfl rfl (by simp only [dstOk, Nat.reduceLT]) (by repeat (first | exact trivial | constructor)) (runs_eval tab_ok ?_))
              simp only [ev0, evA, evB, evP, fl, gp, tab, simprocAttr, reduceCtorEq, reduceIte, h.eI, decide_eq_false k2, il_length]
              refine fin_stop trivial (runs_call (span_c h (conl b (op m b) e a b) (by omega) hrng (cw a) (fun x hx => by rw [tst_conl hal]; exact hqa a x hx)) rfl rfl rfl (by simp only [dstOk, Nat.reduceLT]) (by repeat (first | exact trivial | constructor)) (runs_eval tab_ok ?_))
              simp only [ev0, evA, evB, evP, fl, gp, tab, simprocAttr, reduceCtorEq, reduceIte, h.eI, decide_eq_false k2, il_length]
              refine fin_run ?_ (hK _ ?_) <;> clear hK <;> clear K
              · (first | exact trivial | omega | (simp only [In64] at *; omega) | (simp [In64] at *; omega) | (simp_all; done) | skip)
              refine qd (qa ?_)
              refine hk_region fun K hK => runs_eval tab_ok ?_
              simp only [ev0, evA, evB, evP, fl, gp, tab, simprocAttr, reduceCtorEq, reduceIte]
              refine fin_run ?_ (hK _ ?_) <;> clear hK <;> clear K
              · (first | exact trivial | omega | (simp only [In64] at *; omega) | (simp [In64] at *; omega) | (simp_all; done) | skip)
              refine qa ?_
              refine ⟨a + 1, [0, 1], by omega, by omega, ?_⟩
              have hn : decide (1 < b ∧ ∀ c, c < a + 1 → c = e ∨ (thl b (cw c)).length = b) = decide (((thl b (cw a)).length : Int) = (b : Int)) := decide_eq_decide.2 ⟨fun h' => by
                rcases h'.2 a (by omega) with h1 | h1
                · exact absurd (by rw [h1]) k2
                · omega, fun h' => ⟨k1.1, fun c hc => by
                by_cases hca : c = a
                · right; rw [hca]; omega
                · exact k1.2 c (by omega)⟩⟩
              rw [hn]
              simp only [leq, leA, ev0, evA, evB, evP, fl, gp, tab, simprocAttr, reduceCtorEq, reduceIte] <;> first | trivial | omega
        · (try simp only [nhs] at hC3)
          have han : a = n := by omega
          have hwant : decide (1 < n ∧ ∀ c, c < a → c = e ∨ (thl n (cw c)).length = n) = bs := by
            rw [han, Bool.eq_iff_iff, decide_eq_true_eq, hbs]; exact Iff.rfl
          rw [hwant]
          refine qj (qc (qc (qf (qa (qm ?_)))))
          refine hk_region fun K hK => runs_eval tab_ok ?_
          simp only [ev0, evA, evB, evP, fl, gp, tab, simprocAttr, reduceCtorEq, reduceIte]
          refine fin_run trivial (hK _ ?_) <;> clear hK <;> clear K
          refine qa (qm (qm ?_))
          refine hk_own0 13 rfl ?_
          refine hk_region fun K hK => runs_eval tab_ok ?_
          simp only [ev0, evA, evB, evP, fl, gp, tab, simprocAttr, reduceCtorEq, reduceIte]
          refine fin_run trivial (hK _ ?_) <;> clear hK <;> clear K
          refine qa (ql ?_)
          refine hk_loop (ι := Nat) (fun i => ⟨130, [(1, .ptr 0 0), (3, .p (.bool bs)), (5, .ptr 1 0), (6, .p (.list (il wq))), (9, .p (.bool bs)), (13, .sl 2 0 (cml n (op m n) e ((thl n fun _ => true).take i) (thl n fun _ => true)).length), (14, .p (.int .i64 i))], [.own [.p (.int .i64 n), .p (.list (il m))], .own [.p (.int .i64 kq), .p (.list (il tq))], .own (ol (cml n (op m n) e ((thl n fun _ => true).take i) (thl n fun _ => true)))]⟩) (fun i => i ≤ n) (fun i => n - i) 0 (Nat.zero_le _) [0, 1, 2] (by simp only [leq, leA, ev0, evA, evB, evP, fl, gp, tab, simprocAttr, reduceCtorEq, reduceIte] <;> first | trivial | simp [cml, ol_nil]) fun i hi => ?_
          have hszi := hsz i hi
          refine qm (qm ?_)
          refine hk_region fun K hK => runs_eval tab_ok ?_
          simp only [ev0, evA, evB, evP, fl, gp, tab, simprocAttr, reduceCtorEq, reduceIte]
          refine fin_run ?_ (hK _ ?_) <;> clear hK <;> clear K
          · (first | exact trivial | omega | (simp only [In64] at *; omega) | (simp [In64] at *; omega) | (simp_all; done) | skip)
          refine qa ?_
          refine hk_cond rfl (fun hC5 => ?_) (fun hC5 => ?_)
          · (try simp only [nhs] at hC5)
            have hil2 : i < n := by omega
            have hgi := (ta_get hil2).1
            refine qh (qa (qm (ql (qm ?_))))
            refine hk_region fun K hK => runs_eval tab_ok ?_
            simp only [ev0, evA, evB, evP, fl, gp, tab, simprocAttr, reduceCtorEq, reduceIte]
            refine fin_run trivial (hK _ ?_) <;> clear hK <;> clear K
            refine qa (ql ?_)
            refine hk_loop (ι := Nat) (fun j => ⟨130, [(1, .ptr 0 0), (3, .p (.bool bs)), (5, .ptr 1 0), (6, .p (.list (il wq))), (9, .p (.bool bs)), (13, .sl 2 0 (cml n (op m n) e ((thl n fun _ => true).take i) (thl n fun _ => true) ++ cmr n (op m n) e i ((thl n fun _ => true).take j)).length), (14, .p (.int .i64 i)), (15, .p (.int .i64 j))], [.own [.p (.int .i64 n), .p (.list (il m))], .own [.p (.int .i64 kq), .p (.list (il tq))], .own (ol (cml n (op m n) e ((thl n fun _ => true).take i) (thl n fun _ => true) ++ cmr n (op m n) e i ((thl n fun _ => true).take j)))]⟩) (fun j => j ≤ n) (fun j => n - j) 0 (Nat.zero_le _) [0, 1, 2] (by simp only [leq, leA, ev0, evA, evB, evP, fl, gp, tab, simprocAttr, reduceCtorEq, reduceIte] <;> first | trivial | simp [cmr]) fun j hj => ?_
            have hszj : (cml n (op m n) e ((thl n fun _ => true).take i) (thl n fun _ => true) ++ cmr n (op m n) e i ((thl n fun _ => true).take j)).length ≤ 3660 := by
              rw [List.length_append]
              have : (cmr n (op m n) e i ((thl n fun _ => true).take j)).length ≤ 60 := by unfold cmr; rw [List.length_map, List.length_take]; omega
              omega
            refine qm (qm ?_)
            refine hk_region fun K hK => runs_eval tab_ok ?_
            simp only [ev0, evA, evB, evP, fl, gp, tab, simprocAttr, reduceCtorEq, reduceIte]
            refine fin_run ?_ (hK _ ?_) <;> clear hK <;> clear K
            · (first | exact trivial | omega | (simp only [In64] at *; omega) | (simp [In64] at *; omega) | (simp_all; done) | skip)
            refine qa ?_
            refine hk_cond rfl (fun hC6 => ?_) (fun hC6 => ?_)
            · (try simp only [nhs] at hC6)
              have hjl : j < n := by omega
              have hgj := (ta_get hjl).1
              refine qh (qa (qm (ql ?_)))
              refine hk_region fun K hK => runs_eval tab_ok ?_
              simp only [ev0, evA, evB, evP, fl, gp, tab, simprocAttr, reduceCtorEq, reduceIte]
              refine fin_stop trivial (runs_call (commutator_r h hil2 hjl) rfl rfl rfl (by simp only [dstOk, Nat.reduceLT]) (by repeat (first | exact trivial | constructor)) (runs_eval tab_ok ?_))
              simp only [ev0, evA, evB, evP, fl, gp, tab, simprocAttr, reduceCtorEq, reduceIte]
              refine fin_run ?_ (hK _ ?_) <;> clear hK <;> clear K
              · (first | exact trivial | omega | (simp only [In64] at *; omega) | (simp [In64] at *; omega) | (simp_all; done) | skip)
              refine qd (qa ?_)
              refine hk_region fun K hK => runs_eval tab_ok ?_
              simp only [ev0, evA, evB, evP, fl, gp, tab, simprocAttr, reduceCtorEq, reduceIte]
              refine fin_run ?_ (hK _ ?_) <;> clear hK <;> clear K
              · (first | exact trivial | omega | (simp only [In64] at *; omega) | (simp [In64] at *; omega) | (simp_all; done) | skip)
              refine qa ?_
              refine ⟨j + 1, [0, 1, 3], by omega, by omega, ?_⟩
              rw [cmr_succ n (op m n) e i (by omega : j < (thl n fun _ => true).length), ← List.append_assoc, hgj]
              simp only [leq, leA, ev0, evA, evB, evP, fl, gp, tab, simprocAttr, reduceCtorEq, reduceIte] <;> first | trivial | omega | (simp only [List.length_append, List.length_cons, List.length_nil]; omega) | exact congrArg ol (List.take_of_length_le (by simp only [List.length_append, List.length_cons, List.length_nil]; omega)).symm
            · (try simp only [nhs] at hC6)
              have hjn : (thl n fun _ => true).take j = thl n fun _ => true := List.take_of_length_le (by omega)
              rw [hjn]
              refine qj (qc (qc (qf (qd (qa ?_)))))
              refine hk_region fun K hK => runs_eval tab_ok ?_
              simp only [ev0, evA, evB, evP, fl, gp, tab, simprocAttr, reduceCtorEq, reduceIte]
              refine fin_run ?_ (hK _ ?_) <;> clear hK <;> clear K
              · (first | exact trivial | omega | (simp only [In64] at *; omega) | (simp [In64] at *; omega) | (simp_all; done) | skip)
              refine qa ?_
              refine ⟨i + 1, [0, 1, 2], by omega, by omega, ?_⟩
              rw [cml_succ n (op m n) e (thl n fun _ => true) (by omega : i < (thl n fun _ => true).length), hgi]
              simp only [leq, leA, ev0, evA, evB, evP, fl, gp, tab, simprocAttr, reduceCtorEq, reduceIte] <;> first | trivial | omega
          · (try simp only [nhs] at hC5)
            have hin : (thl n fun _ => true).take i = thl n fun _ => true := List.take_of_length_le (by omega)
            rw [hin]
            rw [hin] at hszi
            refine hk_seal 13 2 rfl rfl ?_
            refine qj (qc (qc (qf (qa (qm ?_)))))
            refine hk_draw mixed (by kernel_rfl) fun K hK => runs_eval tab_ok ?_
            simp only [ev0, evA, evB, evP, fl, gp, tab, simprocAttr, reduceCtorEq, reduceIte, beq_self_eq_true, habel]
            refine fin_stop trivial (runs_call (span_c h (cml n (op m n) e (thl n fun _ => true) (thl n fun _ => true)) (by omega) (cml_rng G) d (fun a ha => by rw [tst_cml]; exact hd a ha)) rfl rfl rfl (by simp only [dstOk, Nat.reduceLT]) (by repeat (first | exact trivial | constructor)) (runs_eval tab_ok ?_))
            simp only [ev0, evA, evB, evP, fl, gp, tab, simprocAttr, reduceCtorEq, reduceIte, beq_self_eq_true, habel]
            refine fin_stop trivial (runs_call (hQI) rfl rfl rfl (by simp only [dstOk, Nat.reduceLT]) (by repeat (first | exact trivial | constructor)) (runs_eval tab_ok ?_))
            simp only [ev0, evA, evB, evP, fl, gp, tab, simprocAttr, reduceCtorEq, reduceIte, beq_self_eq_true, habel]
            refine fin_stop trivial (runs_call (commutes_c hQ.2.1) rfl rfl rfl (by simp only [dstOk, Nat.reduceLT]) (by repeat (first | exact trivial | constructor)) (runs_eval tab_ok ?_))
            simp only [ev0, evA, evB, evP, fl, gp, tab, simprocAttr, reduceCtorEq, reduceIte, beq_self_eq_true, habel]
            refine fin_run ?_ (hK _ ?_) <;> clear hK <;> clear K
            · (first | exact trivial | omega | (simp only [In64] at *; omega) | (simp [In64] at *; omega) | (simp_all; done) | skip)
            refine qa (qk ?_)
            simp only [Tryd.results10, enA, ev0, evA, evB, evP, fl, gp, tab, simprocAttr, reduceCtorEq, reduceIte]
            all_goals (rfl)
  · refine hk_region fun K hK => runs_eval tab_ok ?_
    simp only [ev0, evA, evB, evP, fl, gp, tab, simprocAttr, reduceCtorEq, reduceIte]
    refine fin_stop trivial (runs_call (ownGroup_c N m hm) rfl rfl rfl (by simp only [dstOk, Nat.reduceLT]) (by repeat (first | exact trivial | constructor)) (runs_eval tab_ok ?_))
    simp only [ev0, evA, evB, evP, fl, gp, tab, simprocAttr, reduceCtorEq, reduceIte]
    refine fin_stop trivial (runs_call (simple_no N m (by omega) hf) rfl rfl rfl (by simp only [dstOk, Nat.reduceLT]) (by repeat (first | exact trivial | constructor)) (runs_eval tab_ok ?_))
    simp only [ev0, evA, evB, evP, fl, gp, tab, simprocAttr, reduceCtorEq, reduceIte]
    refine fin_run ?_ (hK _ ?_) <;> clear hK <;> clear K
    · (first | exact trivial | omega | (simp only [In64] at *; omega) | (simp [In64] at *; omega) | (simp_all; done) | skip)
    refine qa (qm ?_)
    refine hk_region fun K hK => runs_eval tab_ok ?_
    simp only [ev0, evA, evB, evP, fl, gp, tab, simprocAttr, reduceCtorEq, reduceIte]
    refine fin_stop trivial (runs_call (ownGroup_c N m hm) rfl rfl rfl (by simp only [dstOk, Nat.reduceLT]) (by repeat (first | exact trivial | constructor)) (runs_eval tab_ok ?_))
    simp only [ev0, evA, evB, evP, fl, gp, tab, simprocAttr, reduceCtorEq, reduceIte]
    refine fin_stop trivial (runs_call (abel_no N m (by omega) hf) rfl rfl rfl (by simp only [dstOk, Nat.reduceLT]) (by repeat (first | exact trivial | constructor)) (runs_eval tab_ok ?_))
    simp only [ev0, evA, evB, evP, fl, gp, tab, simprocAttr, reduceCtorEq, reduceIte]
    refine fin_run ?_ (hK _ ?_) <;> clear hK <;> clear K
    · (first | exact trivial | omega | (simp only [In64] at *; omega) | (simp [In64] at *; omega) | (simp_all; done) | skip)
    refine qa (qm ?_)
    refine hk_region fun K hK => runs_eval tab_ok ?_
    simp only [ev0, evA, evB, evP, fl, gp, tab, simprocAttr, reduceCtorEq, reduceIte]
    refine fin_stop trivial (runs_call (gf_c N m (by omega)) rfl rfl rfl (by simp only [dstOk, Nat.reduceLT]) (by repeat (first | exact trivial | constructor)) (runs_eval tab_ok ?_))
    simp only [ev0, evA, evB, evP, fl, gp, tab, simprocAttr, reduceCtorEq, reduceIte]
    refine fin_run ?_ (hK _ ?_) <;> clear hK <;> clear K
    · (first | exact trivial | omega | (simp only [In64] at *; omega) | (simp [In64] at *; omega) | (simp_all; done) | skip)
    refine qa (qm (qm ?_))
    refine hk_region fun K hK => runs_eval tab_ok ?_
    simp only [ev0, evA, evB, evP, fl, gp, tab, simprocAttr, reduceCtorEq, reduceIte, bne_self_eq_false]
    refine fin_stop trivial (runs_call (quotBegun_c) rfl rfl rfl (by simp only [dstOk, Nat.reduceLT]) (by repeat (first | exact trivial | constructor)) (runs_eval tab_ok ?_))
    simp only [ev0, evA, evB, evP, fl, gp, tab, simprocAttr, reduceCtorEq, reduceIte, bne_self_eq_false]
    refine fin_run ?_ (hK _ ?_) <;> clear hK <;> clear K
    · (first | exact trivial | omega | (simp only [In64] at *; omega) | (simp [In64] at *; omega) | (simp_all; done) | skip)
    refine qa ?_
    refine hk_cond rfl (fun hC1 => ?_) (fun hC1 => ?_)
    · cases hC1
    · (try simp only [nhs] at hC1)
      refine qh (qa (qm (qm ?_)))
      refine hk_region fun K hK => runs_eval tab_ok ?_
      simp only [ev0, evA, evB, evP, fl, gp, tab, simprocAttr, reduceCtorEq, reduceIte, decide_eq_false hf]
      refine fin_run ?_ (hK _ ?_) <;> clear hK <;> clear K
      · (first | exact trivial | omega | (simp only [In64] at *; omega) | (simp [In64] at *; omega) | (simp_all; done) | skip)
      refine qa ?_
      refine hk_cond rfl (fun hC2 => ?_) (fun hC2 => ?_)
      · (try simp only [nhs] at hC2)
        refine qm ?_
        refine hk_region fun K hK => runs_eval tab_ok ?_
        simp only [ev0, evA, evB, evP, fl, gp, tab, simprocAttr, reduceCtorEq, reduceIte]
        refine fin_stop trivial (runs_call (noGroup_c 0 []) rfl rfl rfl (by simp only [dstOk, Nat.reduceLT]) (by repeat (first | exact trivial | constructor)) (runs_eval tab_ok ?_))
        simp only [ev0, evA, evB, evP, fl, gp, tab, simprocAttr, reduceCtorEq, reduceIte]
        refine fin_run ?_ (hK _ ?_) <;> clear hK <;> clear K
        · (first | exact trivial | omega | (simp only [In64] at *; omega) | (simp [In64] at *; omega) | (simp_all; done) | skip)
        refine qa (qk (qb ?_))
        simp only [Tryd.results10, enA, ev0, evA, evB, evP, fl, gp, tab, simprocAttr, reduceCtorEq, reduceIte]
        all_goals (rfl)
      · cases hC2
end Go.Proofs.YtgnhcdpjmfoklaaDoor
