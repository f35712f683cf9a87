/-
  Walks: extensions: Bound, Same, Made. Conditions: none.
-/
import Derived.Test.YthdmioeddgednaaE5
import Derived.Test.YthdmioeddgednaaT7
set_option linter.all false
namespace Go.Proofs.Ythdmioeddgednaa
open Go.Pv

/-- The fault of a list of so many numbers. -/
def bf (n p : Nat) (c : List Int) : Int × Int :=
  if ¬ c.length = n then (8, 0)
  else match fst' (fun i => decide (c.getD i 0 < 0 ∨ c.getD i 0 ≥ p)) c.length with | some i => (5, (i : Int)) | none => (0, 0)

theorem bf_5 {n p : Nat} {c : List Int} {i : Nat} (h : c.length = n) (hi : i < c.length) (h1 : c.getD i 0 < 0 ∨ c.getD i 0 ≥ p) (h2 : ∀ j, j < i → 0 ≤ c.getD j 0 ∧ c.getD j 0 < p) : bf n p c = (5, (i : Int)) := by
  unfold bf
  rw [if_neg (by simpa using h), fst_some (p := fun i => decide (c.getD i 0 < 0 ∨ c.getD i 0 ≥ p)) hi (decide_eq_true h1) fun j hj => decide_eq_false (by have := h2 j hj; omega)]
theorem bf_0 {n p : Nat} {c : List Int} (h : c.length = n) (h2 : rng p c) : bf n p c = (0, 0) := by
  unfold bf
  rw [if_neg (by simpa using h), fst_none (p := fun i => decide (c.getD i 0 < 0 ∨ c.getD i 0 ≥ p)) fun j hj => decide_eq_false (by have := h2 j hj; omega)]
theorem bf_ok {n p : Nat} {c : List Int} (h : (bf n p c).1 = 0) : c.length = n ∧ rng p c ∧ bf n p c = (0, 0) := by
  by_cases h1 : c.length = n
  · have hr : rng p c := by
      unfold bf at h
      rw [if_neg (by simpa using h1)] at h
      cases h2 : fst' (fun i => decide (c.getD i 0 < 0 ∨ c.getD i 0 ≥ p)) c.length with
      | some i => rw [h2] at h; simp at h
      | none =>
        intro t ht
        have := of_decide_eq_false (fst_spec0 h2 t ht)
        omega
    exact ⟨h1, hr, bf_0 h1 hr⟩
  · unfold bf at h
    rw [if_pos h1] at h; simp at h

theorem bound_no (N : Int) (m : List Int) (p : Int) (c : List Int) (hm : m.length ≤ 1000000000000000) (hx : ¬ (xf N m p).1 = 0) : FnC Try.prog 20 [gp N m, .int .i64 p, .list (il c)] (.tup [.list [], fl (xf N m p)]) := by
  refine fnc_of tab_ok Try.func20 rfl (by kernel_rfl) (by rw [Try.ntmps20]; exact Nat.le_add_left 3 _) ?_; rw [Try.ntmps20]
  refine qm ?_
  refine hk_region fun K hK => runs_eval tab_ok ?_
  simp only [ev0, evA, evB, evP, fl, gp, tab, simprocAttr, reduceCtorEq, reduceIte]
  refine fin_run ?_ (hK _ ?_) <;> clear hK <;> clear K
  · (first | exact trivial | omega | (simp only [In64] at *; omega) | (simp [In64] at *; omega) | (simp_all; done) | skip)
  refine qa (qm (qm ?_))
  refine hk_region fun K hK => runs_eval tab_ok ?_
  simp only [ev0, evA, evB, evP, fl, gp, tab, simprocAttr, reduceCtorEq, reduceIte]
  refine fin_stop trivial (runs_call (xlook_c N m p hm) rfl rfl rfl (by simp only [dstOk, Nat.reduceLT]) (by repeat (first | exact trivial | constructor)) (runs_eval tab_ok ?_))
  simp only [ev0, evA, evB, evP, fl, gp, tab, simprocAttr, reduceCtorEq, reduceIte]
  refine fin_run ?_ (hK _ ?_) <;> clear hK <;> clear K
  · (first | exact trivial | omega | (simp only [In64] at *; omega) | (simp [In64] at *; omega) | (simp_all; done) | skip)
  refine qa (qm ?_)
  refine hk_region fun K hK => runs_eval tab_ok ?_
  simp only [ev0, evA, evB, evP, fl, gp, tab, simprocAttr, reduceCtorEq, reduceIte]
  refine fin_run ?_ (hK _ ?_) <;> clear hK <;> clear K
  · (first | exact trivial | omega | (simp only [In64] at *; omega) | (simp [In64] at *; omega) | (simp_all; done) | skip)
  refine qa ?_
  refine hk_cond rfl (fun hC1 => ?_) (fun hC1 => ?_)
  · (try simp only [nhs] at hC1)
    refine qm ?_
    refine hk_draw mixed (by kernel_rfl) fun K hK => runs_eval tab_ok ?_
    simp only [ev0, evA, evB, evP, fl, gp, tab, simprocAttr, reduceCtorEq, reduceIte]
    refine fin_run ?_ (hK _ ?_) <;> clear hK <;> clear K
    · (first | exact trivial | omega | (simp only [In64] at *; omega) | (simp [In64] at *; omega) | (simp_all; done) | skip)
    refine qa (qk (qb ?_))
    simp only [Try.results20, enA, ev0, evA, evB, evP, fl, gp, tab, simprocAttr, reduceCtorEq, reduceIte]
    all_goals ((first | exact rfl | exact ⟨rfl, rfl⟩ | exact ⟨rfl, rfl, rfl⟩ | exact ⟨trivial, rfl⟩ | exact ⟨Nat.le_refl _, rfl⟩ | trivial | (simp; done)))
  · (try simp only [nhs] at hC1)
    exact absurd hC1 hx

def bdL (n : Nat) (m : List Int) (p : Nat) (c : List Int) : List Int := if (bf n p c).1 = 0 then dl n m p c else []

theorem bound_ok {n e p : Nat} {m : List Int} (h : GT n m n e) (hn : n ≤ 12) (hp : pr p) (c : List Int) (hc : c.length ≤ 1000000000000000) :
    FnC Try.prog 20 [gp n m, .int .i64 p, .list (il c)] (.tup [.list (il (bdL n m p c)), fl (bf n p c)]) := by
  have hsq : n * n ≤ 144 := Nat.mul_le_mul hn hn
  have hml := h.2.1.len
  have hp2 := hp.le
  refine fnc_of tab_ok Try.func20 rfl (by kernel_rfl) (by rw [Try.ntmps20]; exact Nat.le_add_left 3 _) ?_; rw [Try.ntmps20]
  refine qm ?_
  refine hk_region fun K hK => runs_eval tab_ok ?_
  simp only [ev0, evA, evB, evP, fl, gp, tab, simprocAttr, reduceCtorEq, reduceIte]
  refine fin_run ?_ (hK _ ?_) <;> clear hK <;> clear K
  · (first | exact trivial | omega | (simp only [In64] at *; omega) | (simp [In64] at *; omega) | (simp_all; done) | skip)
  refine qa (qm (qm ?_))
  refine hk_region fun K hK => runs_eval tab_ok ?_
  simp only [ev0, evA, evB, evP, fl, gp, tab, simprocAttr, reduceCtorEq, reduceIte]
  refine fin_stop trivial (runs_call (xlook_c n m p (by omega)) rfl rfl rfl (by simp only [dstOk, Nat.reduceLT]) (by repeat (first | exact trivial | constructor)) (runs_eval tab_ok ?_))
  simp only [ev0, evA, evB, evP, fl, gp, tab, simprocAttr, reduceCtorEq, reduceIte, xf_of h hn hp]
  refine fin_run ?_ (hK _ ?_) <;> clear hK <;> clear K
  · (first | exact trivial | omega | (simp only [In64] at *; omega) | (simp [In64] at *; omega) | (simp_all; done) | skip)
  refine qa (qm ?_)
  refine hk_region fun K hK => runs_eval tab_ok ?_
  simp only [ev0, evA, evB, evP, fl, gp, tab, simprocAttr, reduceCtorEq, reduceIte]
  refine fin_run ?_ (hK _ ?_) <;> clear hK <;> clear K
  · (first | exact trivial | omega | (simp only [In64] at *; omega) | (simp [In64] at *; omega) | (simp_all; done) | skip)
  refine qa ?_
  refine hk_cond rfl (fun hC1 => ?_) (fun hC1 => ?_)
  · cases hC1
  · (try simp only [nhs] at hC1)
    refine qh (qa (qm (qm ?_)))
    refine hk_region fun K hK => runs_eval tab_ok ?_
    simp only [ev0, evA, evB, evP, fl, gp, tab, simprocAttr, reduceCtorEq, reduceIte]
    refine fin_run ?_ (hK _ ?_) <;> clear hK <;> clear K
    · (first | exact trivial | omega | (simp only [In64] at *; omega) | (simp [In64] at *; omega) | (simp_all; done) | skip)
    refine qa ?_
    refine hk_cond rfl (fun hC2 => ?_) (fun hC2 => ?_)
    · (try simp only [nhs] at hC2)
      have hb : bf n p c = (8, 0) := by unfold bf; rw [if_pos (by omega)]
      refine qm ?_
      refine hk_region fun K hK => runs_eval tab_ok ?_
      simp only [ev0, evA, evB, evP, fl, gp, tab, simprocAttr, reduceCtorEq, reduceIte]
      refine fin_stop trivial (runs_call (xfault_c 8 0) rfl rfl rfl (by simp only [dstOk, Nat.reduceLT]) (by repeat (first | exact trivial | constructor)) (runs_eval tab_ok ?_))
      simp only [ev0, evA, evB, evP, fl, gp, tab, simprocAttr, reduceCtorEq, reduceIte]
      refine fin_run ?_ (hK _ ?_) <;> clear hK <;> clear K
      · (first | exact trivial | omega | (simp only [In64] at *; omega) | (simp [In64] at *; omega) | (simp_all; done) | skip)
      refine qa (qk (qb ?_))
      simp only [Try.results20, enA, ev0, evA, evB, evP, fl, gp, tab, simprocAttr, reduceCtorEq, reduceIte]
      all_goals (simp [bdL, hb, il])
    · (try simp only [nhs] at hC2)
      have hcl : c.length = n := by omega
      refine qh (qa (qm (qm ?_)))
      refine hk_region fun K hK => runs_eval tab_ok ?_
      simp only [ev0, evA, evB, evP, fl, gp, tab, simprocAttr, reduceCtorEq, reduceIte]
      refine fin_run trivial (hK _ ?_) <;> clear hK <;> clear K
      refine qa (ql ?_)
      refine hk_loop (ι := Nat) (fun i => ⟨46, [(1, .p (.int .i64 p)), (2, .p (.list (il c))), (3, .ptr 0 0), (7, .ptr 1 0), (24, .p (.list (il c))), (25, .p (.int .i64 c.length)), (26, .p (.int .i64 i))], [.own [.p (.int .i64 n), .p (.list (il m))], .own [.p (.int .i64 0), .p (.int .i64 0)]]⟩) (fun i => i ≤ c.length ∧ ∀ j, j < i → 0 ≤ c.getD j 0 ∧ c.getD j 0 < p) (fun i => c.length - i) 0 ⟨Nat.zero_le _, fun j hj => by omega⟩ [0, 1] (by simp only [leq, leA, ev0, evA, evB, evP, fl, gp, tab, simprocAttr, reduceCtorEq, reduceIte] <;> trivial) fun i hi => ?_
      obtain ⟨hi1, hi2⟩ := hi
      refine qm ?_
      refine hk_region fun K hK => runs_eval tab_ok ?_
      simp only [ev0, evA, evB, evP, fl, gp, tab, simprocAttr, reduceCtorEq, reduceIte]
      refine fin_run trivial (hK _ ?_) <;> clear hK <;> clear K
      refine qa (qm ?_)
      refine hk_cond rfl (fun hC3 => ?_) (fun hC3 => ?_)
      · (try simp only [nhs] at hC3)
        have hlt : i < c.length := by omega
        refine qh (qa (qm (ql (qm ?_))))
        refine hk_region fun K hK => runs_eval tab_ok ?_
        simp only [ev0, evA, evB, evP, fl, gp, tab, simprocAttr, reduceCtorEq, reduceIte, il_get hlt]
        refine fin_run ?_ (hK _ ?_) <;> clear hK <;> clear K
        · (first | exact trivial | omega | (simp only [In64] at *; omega) | (simp [In64] at *; omega) | (simp_all; done) | skip)
        refine qa (qm ?_)
        by_cases g9a : c.getD i 0 < 0
        · refine hk_region fun K hK => runs_eval tab_ok ?_
          simp only [ev0, evA, evB, evP, fl, gp, tab, simprocAttr, reduceCtorEq, reduceIte, decide_eq_true g9a]
          refine fin_run trivial (hK _ ?_) <;> clear hK <;> clear K
          refine qa ?_
          refine hk_cond rfl (fun hC4 => ?_) (fun hC4 => ?_)
          · refine qm ?_
            refine hk_region fun K hK => runs_eval tab_ok ?_
            simp only [ev0, evA, evB, evP, fl, gp, tab, simprocAttr, reduceCtorEq, reduceIte]
            refine fin_stop trivial (runs_call (xfault_c 5 i) rfl rfl rfl (by simp only [dstOk, Nat.reduceLT]) (by repeat (first | exact trivial | constructor)) (runs_eval tab_ok ?_))
            simp only [ev0, evA, evB, evP, fl, gp, tab, simprocAttr, reduceCtorEq, reduceIte]
            refine fin_run ?_ (hK _ ?_) <;> clear hK <;> clear K
            · (first | exact trivial | omega | (simp only [In64] at *; omega) | (simp [In64] at *; omega) | (simp_all; done) | skip)
            refine qa (qk (qe (qb (qb (qe (qb ?_))))))
            simp only [Try.results20, enA, ev0, evA, evB, evP, fl, gp, tab, simprocAttr, reduceCtorEq, reduceIte]
            have hb := bf_5 hcl hlt (.inl g9a) hi2
            simp [bdL, hb, il]
          · cases hC4
        · refine hk_region fun K hK => runs_eval tab_ok ?_
          simp only [ev0, evA, evB, evP, fl, gp, tab, simprocAttr, reduceCtorEq, reduceIte, decide_eq_false g9a]
          refine fin_run trivial (hK _ ?_) <;> clear hK <;> clear K
          refine qa ?_
          refine hk_cond rfl (fun hC4 => ?_) (fun hC4 => ?_)
          · (try simp only [nhs] at hC4)
            refine qm ?_
            refine hk_region fun K hK => runs_eval tab_ok ?_
            simp only [ev0, evA, evB, evP, fl, gp, tab, simprocAttr, reduceCtorEq, reduceIte]
            refine fin_stop trivial (runs_call (xfault_c 5 i) rfl rfl rfl (by simp only [dstOk, Nat.reduceLT]) (by repeat (first | exact trivial | constructor)) (runs_eval tab_ok ?_))
            simp only [ev0, evA, evB, evP, fl, gp, tab, simprocAttr, reduceCtorEq, reduceIte]
            refine fin_run ?_ (hK _ ?_) <;> clear hK <;> clear K
            · (first | exact trivial | omega | (simp only [In64] at *; omega) | (simp [In64] at *; omega) | (simp_all; done) | skip)
            refine qa (qk (qe (qb (qb (qe (qb ?_))))))
            simp only [Try.results20, enA, ev0, evA, evB, evP, fl, gp, tab, simprocAttr, reduceCtorEq, reduceIte]
            have hb := bf_5 hcl hlt (.inr hC4) hi2
            simp [bdL, hb, il]
          · (try simp only [nhs] at hC4)
            refine qh (qd (qa ?_))
            refine hk_region fun K hK => runs_eval tab_ok ?_
            simp only [ev0, evA, evB, evP, fl, gp, tab, simprocAttr, reduceCtorEq, reduceIte]
            refine fin_run ?_ (hK _ ?_) <;> clear hK <;> clear K
            · (first | exact trivial | omega | (simp only [In64] at *; omega) | (simp [In64] at *; omega) | (simp_all; done) | skip)
            refine qa ?_
            refine ⟨i + 1, [0, 1], ⟨by omega, fun j hj => ?_⟩, by omega, ?_⟩
            · by_cases hj : j = i
              · subst hj; omega
              · exact hi2 j (by omega)
            · simp only [leq, leA, ev0, evA, evB, evP, fl, gp, tab, simprocAttr, reduceCtorEq, reduceIte] <;> first | trivial | omega
      · (try simp only [nhs] at hC3)
        have hr : rng p c := fun t ht => hi2 t (by omega)
        have hb := bf_0 hcl hr
        refine qj (qc (qc (qf (qa (qm ?_)))))
        refine hk_region fun K hK => runs_eval tab_ok ?_
        simp only [ev0, evA, evB, evP, fl, gp, tab, simprocAttr, reduceCtorEq, reduceIte]
        refine fin_stop trivial (runs_call (bounds_c h hn hp c hcl (fun t ht => by have := hr t (by omega); omega)) rfl rfl rfl (by simp only [dstOk, Nat.reduceLT]) (by repeat (first | exact trivial | constructor)) (runs_eval tab_ok ?_))
        simp only [ev0, evA, evB, evP, fl, gp, tab, simprocAttr, reduceCtorEq, reduceIte]
        refine fin_run ?_ (hK _ ?_) <;> clear hK <;> clear K
        · (first | exact trivial | omega | (simp only [In64] at *; omega) | (simp [In64] at *; omega) | (simp_all; done) | skip)
        refine qa (qk ?_)
        simp only [Try.results20, enA, ev0, evA, evB, evP, fl, gp, tab, simprocAttr, reduceCtorEq, reduceIte]
        all_goals (simp [bdL, hb])

/-! ### What is the same -/

def pk2 (f h : List Int) (k : Nat) : List Int := if k = 0 then f else h

def saF (n : Nat) (m : List Int) (p : Nat) (f h : List Int) : Int × Int := if ¬ (cf n m p f).1 = 0 then cf n m p f else cf n m p h
def sbl (f h : List Int) : List Int := updR (fun t => f.getD t 0 - h.getD t 0) 0 f.length (List.replicate f.length 0)
def saB (n : Nat) (m : List Int) (p : Nat) (f h : List Int) : Bool := bif decide ((saF n m p f h).1 = 0) then !(addL p (spK n m p n) (sbl f h)).2 else false

theorem same_no (N : Int) (m : List Int) (p : Int) (f h : List Int) (hm : m.length ≤ 1000000000000000) (hx : ¬ (xf N m p).1 = 0) : FnC Try.prog 11 [gp N m, .int .i64 p, .list (il f), .list (il h)] (.tup [.bool false, fl (xf N m p)]) := by
  refine fnc_of tab_ok Try.func11 rfl (by kernel_rfl) (by rw [Try.ntmps11]; exact Nat.le_add_left 4 _) ?_; rw [Try.ntmps11]
  refine qm ?_
  refine hk_region fun K hK => runs_eval tab_ok ?_
  simp only [ev0, evA, evB, evP, fl, gp, tab, simprocAttr, reduceCtorEq, reduceIte]
  refine fin_run ?_ (hK _ ?_) <;> clear hK <;> clear K
  · (first | exact trivial | omega | (simp only [In64] at *; omega) | (simp [In64] at *; omega) | (simp_all; done) | skip)
  refine qa (qm (qm ?_))
  refine hk_region fun K hK => runs_eval tab_ok ?_
  simp only [ev0, evA, evB, evP, fl, gp, tab, simprocAttr, reduceCtorEq, reduceIte]
  refine fin_stop trivial (runs_call (xlook_c N m p hm) rfl rfl rfl (by simp only [dstOk, Nat.reduceLT]) (by repeat (first | exact trivial | constructor)) (runs_eval tab_ok ?_))
  simp only [ev0, evA, evB, evP, fl, gp, tab, simprocAttr, reduceCtorEq, reduceIte]
  refine fin_run ?_ (hK _ ?_) <;> clear hK <;> clear K
  · (first | exact trivial | omega | (simp only [In64] at *; omega) | (simp [In64] at *; omega) | (simp_all; done) | skip)
  refine qa (qm ?_)
  refine hk_region fun K hK => runs_eval tab_ok ?_
  simp only [ev0, evA, evB, evP, fl, gp, tab, simprocAttr, reduceCtorEq, reduceIte]
  refine fin_run ?_ (hK _ ?_) <;> clear hK <;> clear K
  · (first | exact trivial | omega | (simp only [In64] at *; omega) | (simp [In64] at *; omega) | (simp_all; done) | skip)
  refine qa ?_
  refine hk_cond rfl (fun hC1 => ?_) (fun hC1 => ?_)
  · (try simp only [nhs] at hC1)
    refine qm ?_
    refine hk_draw mixed (by kernel_rfl) fun K hK => runs_eval tab_ok ?_
    simp only [ev0, evA, evB, evP, fl, gp, tab, simprocAttr, reduceCtorEq, reduceIte]
    refine fin_run ?_ (hK _ ?_) <;> clear hK <;> clear K
    · (first | exact trivial | omega | (simp only [In64] at *; omega) | (simp [In64] at *; omega) | (simp_all; done) | skip)
    refine qa (qk (qb ?_))
    simp only [Try.results11, enA, ev0, evA, evB, evP, fl, gp, tab, simprocAttr, reduceCtorEq, reduceIte]
    all_goals ((first | exact rfl | exact ⟨rfl, rfl⟩ | exact ⟨rfl, rfl, rfl⟩ | exact ⟨trivial, rfl⟩ | exact ⟨Nat.le_refl _, rfl⟩ | trivial | (simp; done)))
  · (try simp only [nhs] at hC1)
    exact absurd hC1 hx

theorem sbl_len (f h : List Int) : (sbl f h).length = f.length := by rw [sbl, updR_len, List.length_replicate]
theorem sbl_get {f h : List Int} {t : Nat} (ht : t < f.length) : (sbl f h).getD t 0 = f.getD t 0 - h.getD t 0 := by
  rw [sbl, updR_get (by rw [List.length_replicate]; exact ht), if_pos ⟨Nat.zero_le _, ht⟩]

theorem same_ok {n e p : Nat} {m : List Int} (hT : GT n m n e) (hn : n ≤ 12) (hp : pr p) (f h : List Int) (hf : f.length ≤ 1000000000000000) (hh : h.length ≤ 1000000000000000) :
    FnC Try.prog 11 [gp n m, .int .i64 p, .list (il f), .list (il h)] (.tup [.bool (saB n m p f h), fl (saF n m p f h)]) := by
  have hsq : n * n ≤ 144 := Nat.mul_le_mul hn hn
  have hml := hT.2.1.len
  have hp2 := hp.le
  have hpos := hT.2.1.pos
  have hsq1 : 0 < n * n := Nat.mul_pos hpos hpos
  refine fnc_of tab_ok Try.func11 rfl (by kernel_rfl) (by rw [Try.ntmps11]; exact Nat.le_add_left 4 _) ?_; rw [Try.ntmps11]
  refine qm ?_
  refine hk_region fun K hK => runs_eval tab_ok ?_
  simp only [ev0, evA, evB, evP, fl, gp, tab, simprocAttr, reduceCtorEq, reduceIte]
  refine fin_run ?_ (hK _ ?_) <;> clear hK <;> clear K
  · (first | exact trivial | omega | (simp only [In64] at *; omega) | (simp [In64] at *; omega) | (simp_all; done) | skip)
  refine qa (qm (qm ?_))
  refine hk_region fun K hK => runs_eval tab_ok ?_
  simp only [ev0, evA, evB, evP, fl, gp, tab, simprocAttr, reduceCtorEq, reduceIte]
  refine fin_stop trivial (runs_call (xlook_c n m p (by omega)) rfl rfl rfl (by simp only [dstOk, Nat.reduceLT]) (by repeat (first | exact trivial | constructor)) (runs_eval tab_ok ?_))
  simp only [ev0, evA, evB, evP, fl, gp, tab, simprocAttr, reduceCtorEq, reduceIte, xf_of hT hn hp]
  refine fin_run ?_ (hK _ ?_) <;> clear hK <;> clear K
  · (first | exact trivial | omega | (simp only [In64] at *; omega) | (simp [In64] at *; omega) | (simp_all; done) | skip)
  refine qa (qm ?_)
  refine hk_region fun K hK => runs_eval tab_ok ?_
  simp only [ev0, evA, evB, evP, fl, gp, tab, simprocAttr, reduceCtorEq, reduceIte]
  refine fin_run ?_ (hK _ ?_) <;> clear hK <;> clear K
  · (first | exact trivial | omega | (simp only [In64] at *; omega) | (simp [In64] at *; omega) | (simp_all; done) | skip)
  refine qa ?_
  refine hk_cond rfl (fun hC1 => ?_) (fun hC1 => ?_)
  · cases hC1
  · (try simp only [nhs] at hC1)
    refine qh (qa (qm (qm ?_)))
    refine hk_region fun K hK => runs_eval tab_ok ?_
    simp only [ev0, evA, evB, evP, fl, gp, tab, simprocAttr, reduceCtorEq, reduceIte]
    refine fin_run ?_ (hK _ ?_) <;> clear hK <;> clear K
    · (first | exact trivial | omega | (simp only [In64] at *; omega) | (simp [In64] at *; omega) | (simp_all; done) | skip)
    refine qa (ql ?_)
    refine hk_loop (ι := Nat) (fun k => ⟨68, [(1, .p (.int .i64 p)), (2, .p (.list (il f))), (3, .p (.list (il h))), (4, .ptr 0 0), (9, .ptr 1 0), (25, .p (.nn [.list (il f), .list (il h)])), (26, .p (.int .i64 2)), (27, .p (.int .i64 k))], [.own [.p (.int .i64 n), .p (.list (il m))], .own [.p (.int .i64 0), .p (.int .i64 0)]]⟩) (fun k => k ≤ 2 ∧ ∀ j, j < k → (cf n m p (pk2 f h j)).1 = 0) (fun k => 2 - k) 0 ⟨Nat.zero_le _, fun j hj => by omega⟩ [0, 1] (by simp only [leq, leA, ev0, evA, evB, evP, fl, gp, tab, simprocAttr, reduceCtorEq, reduceIte] <;> trivial) fun k hk => ?_
    obtain ⟨hk1, hk2⟩ := hk
    refine qm ?_
    refine hk_region fun K hK => runs_eval tab_ok ?_
    simp only [ev0, evA, evB, evP, fl, gp, tab, simprocAttr, reduceCtorEq, reduceIte]
    refine fin_run trivial (hK _ ?_) <;> clear hK <;> clear K
    refine qa (qm ?_)
    refine hk_cond rfl (fun hC2 => ?_) (fun hC2 => ?_)
    · (try simp only [nhs] at hC2)
      have hkl : k < 2 := by omega
      have hpk : [PV.list (il f), PV.list (il h)].getD k default = .list (il (pk2 f h k)) := by
        match k, hkl with
        | 0, _ => rfl
        | 1, _ => rfl
      have hpl : (pk2 f h k).length ≤ 1000000000000000 := by unfold pk2; split <;> omega
      refine qh (qa (qm (ql (qm ?_))))
      refine hk_region fun K hK => runs_eval tab_ok ?_
      simp only [ev0, evA, evB, evP, fl, gp, tab, simprocAttr, reduceCtorEq, reduceIte, hpk]
      refine fin_run ?_ (hK _ ?_) <;> clear hK <;> clear K
      · (first | exact trivial | omega | (simp only [In64] at *; omega) | (simp [In64] at *; omega) | (simp_all; done) | skip)
      refine qa (qm ?_)
      refine hk_region fun K hK => runs_eval tab_ok ?_
      simp only [ev0, evA, evB, evP, fl, gp, tab, simprocAttr, reduceCtorEq, reduceIte]
      refine fin_stop trivial (runs_call (xlist_c hT hn hp (pk2 f h k) hpl) rfl rfl rfl (by simp only [dstOk, Nat.reduceLT]) (by repeat (first | exact trivial | constructor)) (runs_eval tab_ok ?_))
      simp only [ev0, evA, evB, evP, fl, gp, tab, simprocAttr, reduceCtorEq, reduceIte]
      refine fin_run ?_ (hK _ ?_) <;> clear hK <;> clear K
      · (first | exact trivial | omega | (simp only [In64] at *; omega) | (simp [In64] at *; omega) | (simp_all; done) | skip)
      refine qa (qm ?_)
      refine hk_region fun K hK => runs_eval tab_ok ?_
      simp only [ev0, evA, evB, evP, fl, gp, tab, simprocAttr, reduceCtorEq, reduceIte]
      refine fin_run ?_ (hK _ ?_) <;> clear hK <;> clear K
      · (first | exact trivial | omega | (simp only [In64] at *; omega) | (simp [In64] at *; omega) | (simp_all; done) | skip)
      refine qa ?_
      refine hk_cond rfl (fun hC3 => ?_) (fun hC3 => ?_)
      · (try simp only [nhs] at hC3)
        refine qm ?_
        refine hk_draw mixed (by kernel_rfl) fun K hK => runs_eval tab_ok ?_
        simp only [ev0, evA, evB, evP, fl, gp, tab, simprocAttr, reduceCtorEq, reduceIte]
        refine fin_run ?_ (hK _ ?_) <;> clear hK <;> clear K
        · (first | exact trivial | omega | (simp only [In64] at *; omega) | (simp [In64] at *; omega) | (simp_all; done) | skip)
        refine qa (qk (qe (qb (qb (qe (qb ?_))))))
        simp only [Try.results11, enA, ev0, evA, evB, evP, fl, gp, tab, simprocAttr, reduceCtorEq, reduceIte]
        have hF : saF n m p f h = cf n m p (pk2 f h k) := by
          unfold saF
          match k, hkl, hk2, hC3 with
          | 0, _, _, hC3 => exact if_pos (show ¬ (cf n m p f).1 = 0 from hC3)
          | 1, _, hk2, hC3 => exact if_neg (fun h0 => h0 (show (cf n m p f).1 = 0 from hk2 0 (by omega)))
        have hB : saB n m p f h = false := by unfold saB; rw [hF, decide_eq_false hC3]; rfl
        simp [hF, hB]
      · (try simp only [nhs] at hC3)
        refine qh (qd (qa ?_))
        refine hk_region fun K hK => runs_eval tab_ok ?_
        simp only [ev0, evA, evB, evP, fl, gp, tab, simprocAttr, reduceCtorEq, reduceIte]
        refine fin_run ?_ (hK _ ?_) <;> clear hK <;> clear K
        · (first | exact trivial | omega | (simp only [In64] at *; omega) | (simp [In64] at *; omega) | (simp_all; done) | skip)
        refine qa ?_
        refine ⟨k + 1, [0, 1], ⟨by omega, fun j hj => ?_⟩, by omega, ?_⟩
        · by_cases hj : j = k
          · subst hj; simpa using hC3
          · exact hk2 j (by omega)
        · simp only [leq, leA, ev0, evA, evB, evP, fl, gp, tab, simprocAttr, reduceCtorEq, reduceIte] <;> first | trivial | omega
    · (try simp only [nhs] at hC2)
      have hf0 : (cf n m p f).1 = 0 := hk2 0 (by omega)
      have hh0 : (cf n m p h).1 = 0 := hk2 1 (by omega)
      obtain ⟨f1, f2, _, _⟩ := cf_0 hf0
      obtain ⟨h1, h2, _, h4⟩ := cf_0 hh0
      refine qj (qc (qc (qf (qa (qm ?_)))))
      refine hk_region fun K hK => runs_eval tab_ok ?_
      simp only [ev0, evA, evB, evP, fl, gp, tab, simprocAttr, reduceCtorEq, reduceIte, ol_replicate]
      refine fin_run ?_ (hK _ ?_) <;> clear hK <;> clear K
      · (first | exact trivial | omega | (simp only [In64] at *; omega) | (simp [In64] at *; omega) | (simp_all; done) | skip)
      refine qa (qm (qm ?_))
      refine hk_region fun K hK => runs_eval tab_ok ?_
      simp only [ev0, evA, evB, evP, fl, gp, tab, simprocAttr, reduceCtorEq, reduceIte]
      refine fin_run trivial (hK _ ?_) <;> clear hK <;> clear K
      refine qa (ql ?_)
      refine hk_loop (ι := Nat) (fun i => ⟨68, [(1, .p (.int .i64 p)), (2, .p (.list (il f))), (3, .p (.list (il h))), (4, .ptr 0 0), (9, .ptr 1 0), (14, .sl 2 0 f.length), (44, .p (.int .i64 f.length)), (45, .p (.int .i64 i))], [.own [.p (.int .i64 n), .p (.list (il m))], .own [.p (.int .i64 0), .p (.int .i64 0)], .own (ol (updR (fun t => f.getD t 0 - h.getD t 0) 0 i (List.replicate f.length 0)))]⟩) (fun i => i ≤ f.length) (fun i => f.length - i) 0 (Nat.zero_le _) [0, 1, 2] (by rw [updR_start]; simp only [leq, leA, ev0, evA, evB, evP, fl, gp, tab, simprocAttr, reduceCtorEq, reduceIte]) fun i hi => ?_
      refine qm ?_
      refine hk_region fun K hK => runs_eval tab_ok ?_
      simp only [ev0, evA, evB, evP, fl, gp, tab, simprocAttr, reduceCtorEq, reduceIte]
      refine fin_run trivial (hK _ ?_) <;> clear hK <;> clear K
      refine qa (qm ?_)
      refine hk_cond rfl (fun hC4 => ?_) (fun hC4 => ?_)
      · (try simp only [nhs] at hC4)
        have hil : i < f.length := by omega
        have b1 := f2 i hil
        have b2 := h2 i (by omega)
        have hl : (updR (fun t => f.getD t 0 - h.getD t 0) 0 i (List.replicate f.length 0)).length = f.length := by rw [updR_len, List.length_replicate]
        have hs : (updR (fun t => f.getD t 0 - h.getD t 0) 0 i (List.replicate f.length 0)).set i (f.getD i 0 - h.getD i 0) = updR (fun t => f.getD t 0 - h.getD t 0) 0 (i + 1) (List.replicate f.length 0) := updR_set (f := fun t => f.getD t 0 - h.getD t 0) (Nat.zero_le _) (by rw [List.length_replicate]; exact hil)
        refine qh (qa (qm (ql (qm ?_))))
        refine hk_region fun K hK => runs_eval tab_ok ?_
        simp only [ev0, evA, evB, evP, fl, gp, tab, simprocAttr, reduceCtorEq, reduceIte]
        refine fin_run trivial (hK _ ?_) <;> clear hK <;> clear K
        refine qa ?_
        refine hk_draw mixed (by kernel_rfl) fun K hK => runs_eval tab_ok ?_
        simp only [ev0, evA, evB, evP, fl, gp, tab, simprocAttr, reduceCtorEq, reduceIte, il_get hil, il_get (show i < h.length by omega), ol_set, hs, hl]
        refine fin_run ?_ (hK _ ?_) <;> clear hK <;> clear K
        · (first | exact trivial | omega | (simp only [In64] at *; omega) | (simp [In64] at *; omega) | (simp_all; done) | skip)
        refine qd (qa ?_)
        refine hk_region fun K hK => runs_eval tab_ok ?_
        simp only [ev0, evA, evB, evP, fl, gp, tab, simprocAttr, reduceCtorEq, reduceIte]
        refine fin_run ?_ (hK _ ?_) <;> clear hK <;> clear K
        · (first | exact trivial | omega | (simp only [In64] at *; omega) | (simp [In64] at *; omega) | (simp_all; done) | skip)
        refine qa ?_
        refine ⟨i + 1, [0, 1, 2], by omega, by omega, ?_⟩
        simp only [leq, leA, ev0, evA, evB, evP, fl, gp, tab, simprocAttr, reduceCtorEq, reduceIte] <;> omega
      · (try simp only [nhs] at hC4)
        refine qj (qc (qc (qf (qa (qm ?_)))))
        have hie : i = f.length := by omega
        refine hk_seal 14 2 (w := sbl f h) (by rw [sbl_len]; rfl) (by rw [hie]; rfl) ?_
        refine hk_region fun K hK => runs_eval tab_ok ?_
        simp only [ev0, evA, evB, evP, fl, gp, tab, simprocAttr, reduceCtorEq, reduceIte]
        refine fin_stop ?_ (runs_callM [] (xspan_c hT hn hp) rfl rfl ?_ (by simp only [leA, ev0, evA, evB, evP, fl, gp, tab, simprocAttr, reduceCtorEq, reduceIte]; first | trivial | (repeat constructor)) (by decide) (by first | rfl | (simp only [List.length_cons, List.length_nil, List.length_append]; decide)) (by first | rfl | (simp [scM, scA, sc1, mpKeep, notAnc]; done)) (by simp only [dstOk, Nat.reduceLT]) (runs_eval tab_ok ?_))
        · (first | exact trivial | omega | (simp only [In64] at *; omega) | (simp [In64] at *; omega) | (simp_all; done) | skip)
        · (simp only [argsM, argM1, peekG, peekS, scA, sc1, ren, ren1, List.map_cons, List.map_nil, List.append_nil, List.cons_append, List.nil_append, enA, ev0, evA, evB, evP, fl, gp, tab, simprocAttr, reduceCtorEq, reduceIte]; try trivial)
        simp only [putM, hset, List.range', Blk.ren, ren, ren1, List.map_cons, List.map_nil, List.cons_append, List.nil_append, List.append_nil, List.length_cons, List.length_nil, ev0, evA, evB, evP, fl, gp, tab, simprocAttr, reduceCtorEq, reduceIte]
        refine fin_stop ?_ (runs_callM [3, 4] (add_c hp hsq1 (by omega) (spK n m p n) (spK_ech hp m n) (sbl f h) (by rw [sbl_len]; exact f1) (fun t ht => by rw [sbl_get (by omega)]; have := f2 t (by omega); have := h2 t (by omega); omega)) rfl rfl ?_ (by simp only [leA, ev0, evA, evB, evP, fl, gp, tab, simprocAttr, reduceCtorEq, reduceIte]; first | trivial | (repeat constructor)) (by decide) (by first | rfl | (simp only [List.length_cons, List.length_nil, List.length_append]; decide)) (by first | rfl | (simp [scM, scA, sc1, mpKeep, notAnc]; done)) (by simp only [dstOk, Nat.reduceLT]) (runs_eval tab_ok ?_))
        · (first | exact trivial | omega | (simp only [In64] at *; omega) | (simp [In64] at *; omega) | (simp_all; done) | skip)
        · (simp only [argsM, argM1, peekG, peekS, scA, sc1, ren, ren1, List.map_cons, List.map_nil, List.append_nil, List.cons_append, List.nil_append, enA, ev0, evA, evB, evP, fl, gp, tab, simprocAttr, reduceCtorEq, reduceIte]; try trivial)
        simp only [putM, hset, List.range', Blk.ren, ren, ren1, List.map_cons, List.map_nil, List.cons_append, List.nil_append, List.append_nil, List.length_cons, List.length_nil, ev0, evA, evB, evP, fl, gp, tab, simprocAttr, reduceCtorEq, reduceIte]
        refine fin_run ?_ (hK _ ?_) <;> clear hK <;> clear K
        · (first | exact trivial | omega | (simp only [In64] at *; omega) | (simp [In64] at *; omega) | (simp_all; done) | skip)
        refine qa (qk ?_)
        simp only [Try.results11, enA, ev0, evA, evB, evP, fl, gp, tab, simprocAttr, reduceCtorEq, reduceIte]
        have hF : saF n m p f h = (0, 0) := by unfold saF; rw [if_neg (by simpa using hf0), h4]
        have hB : saB n m p f h = !(addL p (spK n m p n) (sbl f h)).2 := by unfold saB; rw [hF]; rfl
        simp [hF, hB]

/-! ### What is made -/

def exO (n : Nat) (m : List Int) (p : Nat) (f : List Int) (i k : Nat) : Nat := op m n (i / p) (k / p) * p + (i % p + k % p + (F2 n f (i / p) (k / p)).toNat) % p

/-- The fault of what is made. -/
def maF (N : Int) (m : List Int) (p : Int) (f : List Int) : Int × Int :=
  if ¬ (xf N m p).1 = 0 then xf N m p else if ¬ (cf N.toNat m p.toNat f).1 = 0 then cf N.toNat m p.toNat f else if N * p > 60 then (9, 0) else (0, 0)

theorem made_no1 (N : Int) (m : List Int) (p : Int) (f : List Int) (hm : m.length ≤ 1000000000000000) (hx : ¬ (xf N m p).1 = 0) : FnC Try.prog 12 [gp N m, .int .i64 p, .list (il f)] (.tup [gp 0 [], fl (xf N m p)]) := by
  refine fnc_of tab_ok Try.func12 rfl (by kernel_rfl) (by rw [Try.ntmps12]; exact Nat.le_add_left 3 _) ?_; rw [Try.ntmps12]
  refine qm ?_
  refine hk_region fun K hK => runs_eval tab_ok ?_
  simp only [ev0, evA, evB, evP, fl, gp, tab, simprocAttr, reduceCtorEq, reduceIte]
  refine fin_run ?_ (hK _ ?_) <;> clear hK <;> clear K
  · (first | exact trivial | omega | (simp only [In64] at *; omega) | (simp [In64] at *; omega) | (simp_all; done) | skip)
  refine qa (qm (qm ?_))
  refine hk_region fun K hK => runs_eval tab_ok ?_
  simp only [ev0, evA, evB, evP, fl, gp, tab, simprocAttr, reduceCtorEq, reduceIte]
  refine fin_stop trivial (runs_call (xcheck_no N m p f hm hx) rfl rfl rfl (by simp only [dstOk, Nat.reduceLT]) (by repeat (first | exact trivial | constructor)) (runs_eval tab_ok ?_))
  simp only [ev0, evA, evB, evP, fl, gp, tab, simprocAttr, reduceCtorEq, reduceIte]
  refine fin_run ?_ (hK _ ?_) <;> clear hK <;> clear K
  · (first | exact trivial | omega | (simp only [In64] at *; omega) | (simp [In64] at *; omega) | (simp_all; done) | skip)
  refine qa (qm ?_)
  refine hk_region fun K hK => runs_eval tab_ok ?_
  simp only [ev0, evA, evB, evP, fl, gp, tab, simprocAttr, reduceCtorEq, reduceIte]
  refine fin_run ?_ (hK _ ?_) <;> clear hK <;> clear K
  · (first | exact trivial | omega | (simp only [In64] at *; omega) | (simp [In64] at *; omega) | (simp_all; done) | skip)
  refine qa ?_
  refine hk_cond rfl (fun hC1 => ?_) (fun hC1 => ?_)
  · (try simp only [nhs] at hC1)
    refine qm ?_
    refine hk_draw2 mixed fun K hK => runs2_eval tab_ok ?_
    simp only [evD, ev0, evA, evB, evP, fl, gp, tab, simprocAttr, reduceCtorEq, reduceIte]
    refine fin2_run ?_ (hK _ _ (by first | kernel_rfl | rfl) ?_) <;> clear hK <;> clear K
    · (first | exact trivial | omega | (simp only [In64] at *; omega) | (simp [In64] at *; omega) | (simp_all; done) | skip)
    refine qa (qk (qb ?_))
    simp only [Try.results12, enA, ev0, evA, evB, evP, fl, gp, tab, simprocAttr, reduceCtorEq, reduceIte]
    all_goals ((first | exact rfl | exact ⟨rfl, rfl⟩ | exact ⟨rfl, rfl, rfl⟩ | exact ⟨trivial, rfl⟩ | exact ⟨Nat.le_refl _, rfl⟩ | trivial | (simp; done)))
  · (try simp only [nhs] at hC1)
    exact absurd hC1 hx

theorem made_no2 {n e p : Nat} {m : List Int} (h : GT n m n e) (hn : n ≤ 12) (hp : pr p) (f : List Int) (hf : f.length ≤ 1000000000000000) (hx : ¬ (cf n m p f).1 = 0) : FnC Try.prog 12 [gp n m, .int .i64 p, .list (il f)] (.tup [gp 0 [], fl (cf n m p f)]) := by
  refine fnc_of tab_ok Try.func12 rfl (by kernel_rfl) (by rw [Try.ntmps12]; exact Nat.le_add_left 3 _) ?_; rw [Try.ntmps12]
  refine qm ?_
  refine hk_region fun K hK => runs_eval tab_ok ?_
  simp only [ev0, evA, evB, evP, fl, gp, tab, simprocAttr, reduceCtorEq, reduceIte]
  refine fin_run ?_ (hK _ ?_) <;> clear hK <;> clear K
  · (first | exact trivial | omega | (simp only [In64] at *; omega) | (simp [In64] at *; omega) | (simp_all; done) | skip)
  refine qa (qm (qm ?_))
  refine hk_region fun K hK => runs_eval tab_ok ?_
  simp only [ev0, evA, evB, evP, fl, gp, tab, simprocAttr, reduceCtorEq, reduceIte]
  refine fin_stop trivial (runs_call (xcheck_ok h hn hp f hf) rfl rfl rfl (by simp only [dstOk, Nat.reduceLT]) (by repeat (first | exact trivial | constructor)) (runs_eval tab_ok ?_))
  simp only [ev0, evA, evB, evP, fl, gp, tab, simprocAttr, reduceCtorEq, reduceIte]
  refine fin_run ?_ (hK _ ?_) <;> clear hK <;> clear K
  · (first | exact trivial | omega | (simp only [In64] at *; omega) | (simp [In64] at *; omega) | (simp_all; done) | skip)
  refine qa (qm ?_)
  refine hk_region fun K hK => runs_eval tab_ok ?_
  simp only [ev0, evA, evB, evP, fl, gp, tab, simprocAttr, reduceCtorEq, reduceIte]
  refine fin_run ?_ (hK _ ?_) <;> clear hK <;> clear K
  · (first | exact trivial | omega | (simp only [In64] at *; omega) | (simp [In64] at *; omega) | (simp_all; done) | skip)
  refine qa ?_
  refine hk_cond rfl (fun hC1 => ?_) (fun hC1 => ?_)
  · (try simp only [nhs] at hC1)
    refine qm ?_
    refine hk_draw2 mixed fun K hK => runs2_eval tab_ok ?_
    simp only [evD, ev0, evA, evB, evP, fl, gp, tab, simprocAttr, reduceCtorEq, reduceIte]
    refine fin2_run ?_ (hK _ _ (by first | kernel_rfl | rfl) ?_) <;> clear hK <;> clear K
    · (first | exact trivial | omega | (simp only [In64] at *; omega) | (simp [In64] at *; omega) | (simp_all; done) | skip)
    refine qa (qk (qb ?_))
    simp only [Try.results12, enA, ev0, evA, evB, evP, fl, gp, tab, simprocAttr, reduceCtorEq, reduceIte]
    all_goals ((first | exact rfl | exact ⟨rfl, rfl⟩ | exact ⟨rfl, rfl, rfl⟩ | exact ⟨trivial, rfl⟩ | exact ⟨Nat.le_refl _, rfl⟩ | trivial | (simp; done)))
  · (try simp only [nhs] at hC1)
    exact absurd hC1 hx

theorem made_no3 {n e p : Nat} {m : List Int} (h : GT n m n e) (hn : n ≤ 12) (hp : pr p) (f : List Int) (hf : f.length ≤ 1000000000000000) (hx : (cf n m p f).1 = 0) (hb : n * p > 60) : FnC Try.prog 12 [gp n m, .int .i64 p, .list (il f)] (.tup [gp 0 [], fl (9, 0)]) := by
  have hp2 := hp.le
  have c0 : (n : Int) * (p : Int) = ((n * p : Nat) : Int) := (Int.natCast_mul n p).symm
  have hnp : n * p ≤ 84 := Nat.mul_le_mul hn hp2.2
  refine fnc_of tab_ok Try.func12 rfl (by kernel_rfl) (by rw [Try.ntmps12]; exact Nat.le_add_left 3 _) ?_; rw [Try.ntmps12]
  refine qm ?_
  refine hk_region fun K hK => runs_eval tab_ok ?_
  simp only [ev0, evA, evB, evP, fl, gp, tab, simprocAttr, reduceCtorEq, reduceIte]
  refine fin_run ?_ (hK _ ?_) <;> clear hK <;> clear K
  · (first | exact trivial | omega | (simp only [In64] at *; omega) | (simp [In64] at *; omega) | (simp_all; done) | skip)
  refine qa (qm (qm ?_))
  refine hk_region fun K hK => runs_eval tab_ok ?_
  simp only [ev0, evA, evB, evP, fl, gp, tab, simprocAttr, reduceCtorEq, reduceIte]
  refine fin_stop trivial (runs_call (xcheck_ok h hn hp f hf) rfl rfl rfl (by simp only [dstOk, Nat.reduceLT]) (by repeat (first | exact trivial | constructor)) (runs_eval tab_ok ?_))
  simp only [ev0, evA, evB, evP, fl, gp, tab, simprocAttr, reduceCtorEq, reduceIte]
  refine fin_run ?_ (hK _ ?_) <;> clear hK <;> clear K
  · (first | exact trivial | omega | (simp only [In64] at *; omega) | (simp [In64] at *; omega) | (simp_all; done) | skip)
  refine qa (qm ?_)
  refine hk_region fun K hK => runs_eval tab_ok ?_
  simp only [ev0, evA, evB, evP, fl, gp, tab, simprocAttr, reduceCtorEq, reduceIte]
  refine fin_run ?_ (hK _ ?_) <;> clear hK <;> clear K
  · (first | exact trivial | omega | (simp only [In64] at *; omega) | (simp [In64] at *; omega) | (simp_all; done) | skip)
  refine qa ?_
  refine hk_cond rfl (fun hC1 => ?_) (fun hC1 => ?_)
  · (try simp only [nhs] at hC1)
    exact absurd hx hC1
  · (try simp only [nhs] at hC1)
    refine qh (qa (qm (qm ?_)))
    refine hk_region fun K hK => runs_eval tab_ok ?_
    simp only [ev0, evA, evB, evP, fl, gp, tab, simprocAttr, reduceCtorEq, reduceIte, c0]
    refine fin_run ?_ (hK _ ?_) <;> clear hK <;> clear K
    · (first | exact trivial | omega | (simp only [In64] at *; omega) | (simp [In64] at *; omega) | (simp_all; done) | skip)
    refine qa ?_
    refine hk_cond rfl (fun hC2 => ?_) (fun hC2 => ?_)
    · (try simp only [nhs] at hC2)
      refine qm ?_
      refine hk_region fun K hK => runs_eval tab_ok ?_
      simp only [ev0, evA, evB, evP, fl, gp, tab, simprocAttr, reduceCtorEq, reduceIte]
      refine fin_stop trivial (runs_call (xfault_c 9 0) rfl rfl rfl (by simp only [dstOk, Nat.reduceLT]) (by repeat (first | exact trivial | constructor)) (runs_eval tab_ok ?_))
      simp only [ev0, evA, evB, evP, fl, gp, tab, simprocAttr, reduceCtorEq, reduceIte]
      refine fin_run ?_ (hK _ ?_) <;> clear hK <;> clear K
      · (first | exact trivial | omega | (simp only [In64] at *; omega) | (simp [In64] at *; omega) | (simp_all; done) | skip)
      refine qa (qk (qb ?_))
      simp only [Try.results12, enA, ev0, evA, evB, evP, fl, gp, tab, simprocAttr, reduceCtorEq, reduceIte]
      all_goals ((first | exact rfl | exact ⟨rfl, rfl⟩ | exact ⟨rfl, rfl, rfl⟩ | exact ⟨trivial, rfl⟩ | exact ⟨Nat.le_refl _, rfl⟩ | trivial | (simp; done)))
    · (try simp only [nhs] at hC2)
      omega

theorem xmade_ok {n e p : Nat} {m : List Int} (h : GT n m n e) (hn : n ≤ 12) (hp : pr p) (f : List Int) (hf : f.length ≤ 1000000000000000) (hx : (cf n m p f).1 = 0) (hb : n * p ≤ 60) :
    FnC Try.prog 12 [gp n m, .int .i64 p, .list (il f)] (.tup [gp (n * p : Nat) (tbl (fun i k => ((exO n m p f i k : Nat) : Int)) (n * p)), fl (0, 0)]) := by
  have T := h.2.1
  have hp2 := hp.le
  have c0 : (n : Int) * (p : Int) = ((n * p : Nat) : Int) := (Int.natCast_mul n p).symm
  obtain ⟨f1, f2, f3, f4⟩ := cf_0 hx
  have hsq : n * p * (n * p) ≤ 3600 := Nat.mul_le_mul hb hb
  have hnn : n * n ≤ 144 := Nat.mul_le_mul hn hn
  have hlen := tbr_len (fun i k => ((exO n m p f i k : Nat) : Int)) (n * p)
  refine fnc_of tab_ok Try.func12 rfl (by kernel_rfl) (by rw [Try.ntmps12]; exact Nat.le_add_left 3 _) ?_; rw [Try.ntmps12]
  refine qm ?_
  refine hk_region fun K hK => runs_eval tab_ok ?_
  simp only [ev0, evA, evB, evP, fl, gp, tab, simprocAttr, reduceCtorEq, reduceIte]
  refine fin_run ?_ (hK _ ?_) <;> clear hK <;> clear K
  · (first | exact trivial | omega | (simp only [In64] at *; omega) | (simp [In64] at *; omega) | (simp_all; done) | skip)
  refine qa (qm (qm ?_))
  refine hk_region fun K hK => runs_eval tab_ok ?_
  simp only [ev0, evA, evB, evP, fl, gp, tab, simprocAttr, reduceCtorEq, reduceIte]
  refine fin_stop trivial (runs_call (xcheck_ok h hn hp f hf) rfl rfl rfl (by simp only [dstOk, Nat.reduceLT]) (by repeat (first | exact trivial | constructor)) (runs_eval tab_ok ?_))
  simp only [ev0, evA, evB, evP, fl, gp, tab, simprocAttr, reduceCtorEq, reduceIte]
  refine fin_run ?_ (hK _ ?_) <;> clear hK <;> clear K
  · (first | exact trivial | omega | (simp only [In64] at *; omega) | (simp [In64] at *; omega) | (simp_all; done) | skip)
  refine qa (qm ?_)
  refine hk_region fun K hK => runs_eval tab_ok ?_
  simp only [ev0, evA, evB, evP, fl, gp, tab, simprocAttr, reduceCtorEq, reduceIte]
  refine fin_run ?_ (hK _ ?_) <;> clear hK <;> clear K
  · (first | exact trivial | omega | (simp only [In64] at *; omega) | (simp [In64] at *; omega) | (simp_all; done) | skip)
  refine qa ?_
  refine hk_cond rfl (fun hC1 => ?_) (fun hC1 => ?_)
  · (try simp only [nhs] at hC1)
    exact absurd hx hC1
  · (try simp only [nhs] at hC1)
    refine qh (qa (qm (qm ?_)))
    refine hk_region fun K hK => runs_eval tab_ok ?_
    simp only [ev0, evA, evB, evP, fl, gp, tab, simprocAttr, reduceCtorEq, reduceIte, c0]
    refine fin_run ?_ (hK _ ?_) <;> clear hK <;> clear K
    · (first | exact trivial | omega | (simp only [In64] at *; omega) | (simp [In64] at *; omega) | (simp_all; done) | skip)
    refine qa ?_
    refine hk_cond rfl (fun hC2 => ?_) (fun hC2 => ?_)
    · (try simp only [nhs] at hC2)
      omega
    · (try simp only [nhs] at hC2)
      refine qh (qa (qm ?_))
      refine hk_region fun K hK => runs_eval tab_ok ?_
      simp only [ev0, evA, evB, evP, fl, gp, tab, simprocAttr, reduceCtorEq, reduceIte, c0]
      refine fin_run ?_ (hK _ ?_) <;> clear hK <;> clear K
      · (first | exact trivial | omega | (simp only [In64] at *; omega) | (simp [In64] at *; omega) | (simp_all; done) | skip)
      refine qa (qm (qm ?_))
      refine hk_own0c 4 1 rfl rfl ?_
      simp only [hset, List.cons_append, List.nil_append, List.set, List.length_cons, List.length_nil]
      refine hk_region fun K hK => runs_eval tab_ok ?_
      simp only [ev0, evA, evB, evP, fl, gp, tab, simprocAttr, reduceCtorEq, reduceIte]
      refine fin_run ?_ (hK _ ?_) <;> clear hK <;> clear K
      · (first | exact trivial | omega | (simp only [In64] at *; omega) | (simp [In64] at *; omega) | (simp_all; done) | skip)
      refine qa (ql ?_)
      refine hk_loop (ι := Nat) (fun i => ⟨90, [(1, .p (.int .i64 p)), (2, .p (.list (il f))), (3, .ptr 0 0), (6, .ptr 1 0), (7, .ptr 2 0), (9, .ptr 3 0), (38, .p (.int .i64 (n * p : Nat))), (39, .p (.int .i64 i))], [.own [.p (.int .i64 n), .p (.list (il m))], .own [.p (.int .i64 0), .p .nil], .own [.p (.int .i64 0), .p (.int .i64 0)], .own [.p (.int .i64 (n * p : Nat)), .sl 4 0 (tbr (fun i k => ((exO n m p f i k : Nat) : Int)) (n * p) (i * (n * p))).length], .own (ol (tbr (fun i k => ((exO n m p f i k : Nat) : Int)) (n * p) (i * (n * p))))]⟩) (fun i => i ≤ n * p) (fun i => n * p - i) 0 (Nat.zero_le _) [0, 1, 2, 4, 5] (by rw [Nat.zero_mul]; simp only [leq, leA, ev0, evA, evB, evP, fl, gp, tab, simprocAttr, reduceCtorEq, reduceIte] <;> simp [tbr, rg, ol_nil]) fun i hi => ?_
      refine qm ?_
      refine hk_region fun K hK => runs_eval tab_ok ?_
      simp only [ev0, evA, evB, evP, fl, gp, tab, simprocAttr, reduceCtorEq, reduceIte]
      refine fin_run trivial (hK _ ?_) <;> clear hK <;> clear K
      refine qa (qm ?_)
      refine hk_cond rfl (fun hC3 => ?_) (fun hC3 => ?_)
      · (try simp only [nhs] at hC3)
        have hil : i < n * p := by omega
        refine qh (qa (qm (ql (qm ?_))))
        refine hk_region fun K hK => runs_eval tab_ok ?_
        simp only [ev0, evA, evB, evP, fl, gp, tab, simprocAttr, reduceCtorEq, reduceIte]
        refine fin_run trivial (hK _ ?_) <;> clear hK <;> clear K
        refine qa (qm ?_)
        refine hk_region fun K hK => runs_eval tab_ok ?_
        simp only [ev0, evA, evB, evP, fl, gp, tab, simprocAttr, reduceCtorEq, reduceIte]
        refine fin_run ?_ (hK _ ?_) <;> clear hK <;> clear K
        · (first | exact trivial | omega | (simp only [In64] at *; omega) | (simp [In64] at *; omega) | (simp_all; done) | skip)
        refine qa (ql ?_)
        refine hk_loop (ι := Nat) (fun k => ⟨90, [(1, .p (.int .i64 p)), (2, .p (.list (il f))), (3, .ptr 0 0), (6, .ptr 1 0), (7, .ptr 2 0), (9, .ptr 3 0), (10, .p (.int .i64 i)), (38, .p (.int .i64 (n * p : Nat))), (39, .p (.int .i64 i)), (43, .p (.int .i64 (n * p : Nat))), (44, .p (.int .i64 k))], [.own [.p (.int .i64 n), .p (.list (il m))], .own [.p (.int .i64 0), .p .nil], .own [.p (.int .i64 0), .p (.int .i64 0)], .own [.p (.int .i64 (n * p : Nat)), .sl 4 0 (tbr (fun i k => ((exO n m p f i k : Nat) : Int)) (n * p) (i * (n * p) + k)).length], .own (ol (tbr (fun i k => ((exO n m p f i k : Nat) : Int)) (n * p) (i * (n * p) + k)))]⟩) (fun k => k ≤ n * p) (fun k => n * p - k) 0 (Nat.zero_le _) [0, 1, 2, 3, 4] (by rw [Nat.add_zero]; simp only [leq, leA, ev0, evA, evB, evP, fl, gp, tab, simprocAttr, reduceCtorEq, reduceIte] <;> trivial) fun k hk => ?_
        refine qm ?_
        refine hk_region fun K hK => runs_eval tab_ok ?_
        simp only [ev0, evA, evB, evP, fl, gp, tab, simprocAttr, reduceCtorEq, reduceIte]
        refine fin_run trivial (hK _ ?_) <;> clear hK <;> clear K
        refine qa (qm ?_)
        refine hk_cond rfl (fun hC4 => ?_) (fun hC4 => ?_)
        · (try simp only [nhs] at hC4)
          have hkl : k < n * p := by omega
          have hip : i / p < n := (Nat.div_lt_iff_lt_mul (by omega)).2 hil
          have hkp : k / p < n := (Nat.div_lt_iff_lt_mul (by omega)).2 hkl
          have q1 : (0 : Int) ≤ ((i / p : Nat) : Int) := Int.natCast_nonneg _
          have q2 : (0 : Int) ≤ ((k / p : Nat) : Int) := Int.natCast_nonneg _
          have hop := T.lt hip hkp
          have hat := at_lt hip hkp
          have hat2 := at_lt hil hkl
          have hl := hlen (i * (n * p) + k)
          have hm1 : i % p < p := Nat.mod_lt _ (by omega)
          have hm2 : k % p < p := Nat.mod_lt _ (by omega)
          have hF := f2 (i / p * n + k / p) (by omega)
          have hFe : (il f).getD (i / p * n + k / p) default = .int .i64 (((F2 n f (i / p) (k / p)).toNat : Nat) : Int) := by
            rw [il_get (by omega)]
            congr 1
            unfold F2
            omega
          have hFl : (F2 n f (i / p) (k / p)).toNat < p := by unfold F2; omega
          have c1 : ((i / p : Nat) : Int) * (n : Int) = ((i / p * n : Nat) : Int) := (Int.natCast_mul _ n).symm
          have c2 : ((op m n (i / p) (k / p) : Nat) : Int) * (p : Int) = ((op m n (i / p) (k / p) * p : Nat) : Int) := (Int.natCast_mul _ p).symm
          have c3 : op m n (i / p) (k / p) * p ≤ 84 := Nat.le_trans (Nat.mul_le_mul (Nat.le_of_lt (Nat.lt_of_lt_of_le hop hn)) hp2.2) (by decide)
          have c4 : ((i % p : Nat) : Int) + ((k % p : Nat) : Int) + (((F2 n f (i / p) (k / p)).toNat : Nat) : Int) = ((i % p + k % p + (F2 n f (i / p) (k / p)).toNat : Nat) : Int) := rfl
          have c5 : ((op m n (i / p) (k / p) * p : Nat) : Int) + (((i % p + k % p + (F2 n f (i / p) (k / p)).toNat) % p : Nat) : Int) = ((exO n m p f i k : Nat) : Int) := rfl
          have c6 : exO n m p f i k ≤ 100 := by
            have := Nat.mod_lt (i % p + k % p + (F2 n f (i / p) (k / p)).toNat) (show p > 0 by omega)
            unfold exO; omega
          refine qh (qa (qm (ql (qm ?_))))
          refine hk_region fun K hK => runs_eval tab_ok ?_
          simp only [ev0, evA, evB, evP, fl, gp, tab, simprocAttr, reduceCtorEq, reduceIte]
          refine fin_run trivial (hK _ ?_) <;> clear hK <;> clear K
          refine qa (qm ?_)
          refine hk_draw mixed (by kernel_rfl) fun K hK => runs_eval tab_ok ?_
          simp only [ev0, evA, evB, evP, fl, gp, tab, simprocAttr, reduceCtorEq, reduceIte, td_nat, tm_nat]
          refine fin_run ?_ (hK _ ?_) <;> clear hK <;> clear K
          · simp only [In64]; refine ⟨⟨⟨⟨by omega, by omega⟩, by omega⟩, by omega, by omega⟩, by omega⟩
          refine qa ?_
          refine hk_draw mixed (by kernel_rfl) fun K hK => runs_eval tab_ok ?_
          simp only [ev0, evA, evB, evP, fl, gp, tab, simprocAttr, reduceCtorEq, reduceIte, at_nat, hFe, c2, c4, tm_nat, c5]
          refine fin_stop trivial (runs_call (of_c T hip hkp) rfl rfl rfl (by simp only [dstOk, Nat.reduceLT]) (by repeat (first | exact trivial | constructor)) (runs_eval tab_ok ?_))
          simp only [ev0, evA, evB, evP, fl, gp, tab, simprocAttr, reduceCtorEq, reduceIte, at_nat, hFe, c2, c4, tm_nat, c5]
          refine fin_run ?_ (hK _ ?_) <;> clear hK <;> clear K
          · rw [c1]; simp only [In64]; omega
          refine qd (qa ?_)
          refine hk_region fun K hK => runs_eval tab_ok ?_
          simp only [ev0, evA, evB, evP, fl, gp, tab, simprocAttr, reduceCtorEq, reduceIte]
          refine fin_run ?_ (hK _ ?_) <;> clear hK <;> clear K
          · (first | exact trivial | omega | (simp only [In64] at *; omega) | (simp [In64] at *; omega) | (simp_all; done) | skip)
          refine qa ?_
          refine ⟨k + 1, [0, 1, 2, 3, 5], by omega, by omega, ?_⟩
          rw [← Nat.add_assoc, show i * (n * p) + k + 1 = i * (n * p) + (k + 1) by omega, tbr_succ _ hkl]
          simp only [leq, leA, ev0, evA, evB, evP, fl, gp, tab, simprocAttr, reduceCtorEq, reduceIte] <;> first | trivial | omega
        · (try simp only [nhs] at hC4)
          have hkn : k = n * p := by omega
          refine qj (qc (qc (qf (qd (qa ?_)))))
          refine hk_region fun K hK => runs_eval tab_ok ?_
          simp only [ev0, evA, evB, evP, fl, gp, tab, simprocAttr, reduceCtorEq, reduceIte]
          refine fin_run ?_ (hK _ ?_) <;> clear hK <;> clear K
          · (first | exact trivial | omega | (simp only [In64] at *; omega) | (simp [In64] at *; omega) | (simp_all; done) | skip)
          refine qa ?_
          refine ⟨i + 1, [0, 1, 2, 3, 4], by omega, by omega, ?_⟩
          rw [hkn, show (i + 1) * (n * p) = i * (n * p) + n * p by rw [Nat.add_mul, Nat.one_mul]]
          simp only [leq, leA, ev0, evA, evB, evP, fl, gp, tab, simprocAttr, reduceCtorEq, reduceIte] <;> first | trivial | omega
      · (try simp only [nhs] at hC3)
        have hin : i = n * p := by omega
        refine qj (qc (qc (qf (qa (qm ?_)))))
        refine hk_region fun K hK => runs_eval tab_ok ?_
        simp only [ev0, evA, evB, evP, fl, gp, tab, simprocAttr, reduceCtorEq, reduceIte]
        refine fin_run ?_ (hK _ ?_) <;> clear hK <;> clear K
        · (first | exact trivial | omega | (simp only [In64] at *; omega) | (simp [In64] at *; omega) | (simp_all; done) | skip)
        refine qa (qk ?_)
        simp only [Try.results12, enA, ev0, evA, evB, evP, fl, gp, tab, simprocAttr, reduceCtorEq, reduceIte]
        all_goals (simp [hin, tbl])

end Go.Proofs.Ythdmioeddgednaa
