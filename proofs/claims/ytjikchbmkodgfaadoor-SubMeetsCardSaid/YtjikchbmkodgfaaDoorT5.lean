/-
  Walks: the program's words of groups: faults, the one, inverses. Conditions: none.
-/
import Derived.Test.YtjikchbmkodgfaaDoorT4
set_option linter.all false
namespace Go.Proofs.YtjikchbmkodgfaaDoor
open Go.Pv

theorem fault_c (c a : Int) : FnC Tryd.prog 106 [.int .i64 c, .int .i64 a] (fl (c, a)) := by
  refine fnc_of tab_ok Tryd.func106 rfl (by kernel_rfl) (by rw [Tryd.ntmps106]; exact Nat.le_add_left 2 _) ?_; rw [Tryd.ntmps106]
  refine qm ?_
  refine hk_region fun K hK => runs_eval tab_ok ?_
  simp only [ev0, evA, evB, evP, fl, gp, tab, simprocAttr, reduceCtorEq, reduceIte]
  refine fin_run ?_ (hK _ ?_) <;> clear hK <;> clear K
  · (first | exact trivial | omega | (simp only [In64] at *; omega) | (simp [In64] at *; omega) | (simp_all; done) | skip)
  refine qa (qm ?_)
  refine hk_region fun K hK => runs_eval tab_ok ?_
  simp only [ev0, evA, evB, evP, fl, gp, tab, simprocAttr, reduceCtorEq, reduceIte]
  refine fin_run ?_ (hK _ ?_) <;> clear hK <;> clear K
  · (first | exact trivial | omega | (simp only [In64] at *; omega) | (simp [In64] at *; omega) | (simp_all; done) | skip)
  refine qa (qk ?_)
  simp only [Tryd.results106, enA, ev0, evA, evB, evP, fl, gp, tab, simprocAttr, reduceCtorEq, reduceIte]
  all_goals (rfl)

theorem of_c {n : Nat} {m : List Int} (T : Tab n m) {a b : Nat} (ha : a < n) (hb : b < n) : FnC Tryd.prog 98 [gp n m, .int .i64 a, .int .i64 b] (.int .i64 (op m n a b : Nat)) := by
  have h1 := at_lt ha hb
  have h2 := sq_le T.big
  have h3 := T.len
  have hc : (a : Int) * (n : Int) = ((a * n : Nat) : Int) := (Int.natCast_mul a n).symm
  have hv := T.val ha hb
  refine fnc_of tab_ok Tryd.func98 rfl (by kernel_rfl) (by rw [Tryd.ntmps98]; exact Nat.le_add_left 3 _) ?_; rw [Tryd.ntmps98]
  refine qm ?_
  refine hk_region fun K hK => runs_eval tab_ok ?_
  simp only [ev0, evA, evB, evP, fl, gp, tab, simprocAttr, reduceCtorEq, reduceIte]
  refine fin_run ?_ (hK _ ?_) <;> clear hK <;> clear K
  · (first | exact trivial | omega | (simp only [In64] at *; omega) | (simp [In64] at *; omega) | (simp_all; done) | skip)
  refine qa (qm ?_)
  refine hk_region fun K hK => runs_eval tab_ok ?_
  simp only [ev0, evA, evB, evP, fl, gp, tab, simprocAttr, reduceCtorEq, reduceIte, at_nat, il_get (show a * n + b < m.length by omega), hv]
  refine fin_run ?_ (hK _ ?_) <;> clear hK <;> clear K
  · rw [hc]; simp only [In64]; omega
  refine qa (qk ?_)
  simp only [Tryd.results98, enA, ev0, evA, evB, evP, fl, gp, tab, simprocAttr, reduceCtorEq, reduceIte]
  all_goals (rfl)

def ix (l : List Int) (x : Int) : Int := match fst' (fun i => decide (l.getD i 0 = x)) l.length with | some i => (i : Int) | none => -1

theorem index_c (l : List Int) (x : Int) (hl : l.length ≤ 1000000000000) : FnC Tryd.prog 129 [.list (il l), .int .i64 x] (.int .i64 (ix l x)) := by
  refine fnc_of tab_ok Tryd.func129 rfl (by kernel_rfl) (by rw [Tryd.ntmps129]; exact Nat.le_add_left 2 _) ?_; rw [Tryd.ntmps129]
  refine qm ?_
  refine hk_region fun K hK => runs_eval tab_ok ?_
  simp only [ev0, evA, evB, evP, fl, gp, tab, simprocAttr, reduceCtorEq, reduceIte]
  refine fin_run trivial (hK _ ?_) <;> clear hK <;> clear K
  refine qa (qm (qm ?_))
  refine hk_region fun K hK => runs_eval tab_ok ?_
  simp only [ev0, evA, evB, evP, fl, gp, tab, simprocAttr, reduceCtorEq, reduceIte]
  refine fin_run trivial (hK _ ?_) <;> clear hK <;> clear K
  refine qa (ql ?_)
  refine hk_loop (ι := Nat) (fun i => ⟨19, [(0, .p (.list (il l))), (1, .p (.int .i64 x)), (7, .p (.int .i64 l.length)), (8, .p (.int .i64 i))], []⟩) (fun i => i ≤ l.length ∧ ∀ j, j < i → ¬ l.getD j 0 = x) (fun i => l.length - i) 0 ⟨Nat.zero_le _, fun j hj => by omega⟩ [] (by simp only [leq, leA, ev0, evA, evB, evP, fl, gp, tab, simprocAttr, reduceCtorEq, reduceIte] <;> trivial) fun i hi => ?_
  obtain ⟨hi1, hi2⟩ := hi
  refine qm ?_
  refine hk_region fun K hK => runs_eval tab_ok ?_
  simp only [ev0, evA, evB, evP, fl, gp, tab, simprocAttr, reduceCtorEq, reduceIte]
  refine fin_run trivial (hK _ ?_) <;> clear hK <;> clear K
  refine qa (qm ?_)
  refine hk_cond rfl (fun hC1 => ?_) (fun hC1 => ?_)
  · (try simp only [nhs] at hC1)
    have hlt : i < l.length := by omega
    refine qh (qa (qm (ql (qm ?_))))
    refine hk_region fun K hK => runs_eval tab_ok ?_
    simp only [ev0, evA, evB, evP, fl, gp, tab, simprocAttr, reduceCtorEq, reduceIte]
    refine fin_run trivial (hK _ ?_) <;> clear hK <;> clear K
    refine qa (qm ?_)
    refine hk_region fun K hK => runs_eval tab_ok ?_
    simp only [ev0, evA, evB, evP, fl, gp, tab, simprocAttr, reduceCtorEq, reduceIte, il_get hlt]
    refine fin_run ?_ (hK _ ?_) <;> clear hK <;> clear K
    · (first | exact trivial | omega | (simp only [In64] at *; omega) | (simp [In64] at *; omega) | (simp_all; done) | skip)
    refine qa ?_
    refine hk_cond rfl (fun hC2 => ?_) (fun hC2 => ?_)
    · (try simp only [nhs] at hC2)
      refine qm ?_
      refine hk_region fun K hK => runs_eval tab_ok ?_
      simp only [ev0, evA, evB, evP, fl, gp, tab, simprocAttr, reduceCtorEq, reduceIte]
      refine fin_run trivial (hK _ ?_) <;> clear hK <;> clear K
      refine qa (qk (qe (qb (qb (qe (qb ?_))))))
      simp only [Tryd.results129, enA, ev0, evA, evB, evP, fl, gp, tab, simprocAttr, reduceCtorEq, reduceIte]
      all_goals (unfold ix; rw [fst_some hlt (decide_eq_true hC2.symm) fun j hj => decide_eq_false (hi2 j hj)])
    · (try simp only [nhs] at hC2)
      refine qh (qd (qa ?_))
      refine hk_region fun K hK => runs_eval tab_ok ?_
      simp only [ev0, evA, evB, evP, fl, gp, tab, simprocAttr, reduceCtorEq, reduceIte]
      refine fin_run ?_ (hK _ ?_) <;> clear hK <;> clear K
      · (first | exact trivial | omega | (simp only [In64] at *; omega) | (simp [In64] at *; omega) | (simp_all; done) | skip)
      refine qa ?_
      refine ⟨i + 1, [], ⟨by omega, fun j hj => ?_⟩, by omega, ?_⟩
      · by_cases hj : j = i
        · subst hj; exact fun h => hC2 h.symm
        · exact hi2 j (by omega)
      · simp only [leq, leA, ev0, evA, evB, evP, fl, gp, tab, simprocAttr, reduceCtorEq, reduceIte] <;> first | trivial | omega
  · (try simp only [nhs] at hC1)
    refine qj (qc (qc (qf (qa (qm ?_)))))
    refine hk_region fun K hK => runs_eval tab_ok ?_
    simp only [ev0, evA, evB, evP, fl, gp, tab, simprocAttr, reduceCtorEq, reduceIte]
    refine fin_run trivial (hK _ ?_) <;> clear hK <;> clear K
    refine qa (qk ?_)
    simp only [Tryd.results129, enA, ev0, evA, evB, evP, fl, gp, tab, simprocAttr, reduceCtorEq, reduceIte]
    all_goals (unfold ix; rw [fst_none fun j hj => decide_eq_false (hi2 j (by omega))])

theorem ix_mem (l : List Int) (x : Int) : ix l x ≥ 0 ↔ ∃ i, i < l.length ∧ l.getD i 0 = x := by
  unfold ix
  cases h : fst' (fun i => decide (l.getD i 0 = x)) l.length with
  | none =>
    constructor
    · intro h; simp at h
    · rintro ⟨i, hi, e⟩
      exact absurd e (of_decide_eq_false (fst_spec0 h i hi))
  | some i =>
    obtain ⟨h1, h2, _⟩ := fst_spec h
    exact ⟨fun _ => ⟨i, h1, of_decide_eq_true h2⟩, fun _ => by simp⟩

theorem contains_c (l : List Int) (x : Int) (hl : l.length ≤ 1000000000000) : FnC Tryd.prog 107 [.list (il l), .int .i64 x] (.bool (decide (ix l x ≥ 0))) := by
  refine fnc_of tab_ok Tryd.func107 rfl (by kernel_rfl) (by rw [Tryd.ntmps107]; exact Nat.le_add_left 2 _) ?_; rw [Tryd.ntmps107]
  refine qm ?_
  refine hk_region fun K hK => runs_eval tab_ok ?_
  simp only [ev0, evA, evB, evP, fl, gp, tab, simprocAttr, reduceCtorEq, reduceIte]
  refine fin_run trivial (hK _ ?_) <;> clear hK <;> clear K
  refine qa (qm ?_)
  refine hk_region fun K hK => runs_eval tab_ok ?_
  simp only [ev0, evA, evB, evP, fl, gp, tab, simprocAttr, reduceCtorEq, reduceIte]
  refine fin_stop trivial (runs_call (index_c l x hl) rfl rfl rfl (by simp only [dstOk, Nat.reduceLT]) (by repeat (first | exact trivial | constructor)) (runs_eval tab_ok ?_))
  simp only [ev0, evA, evB, evP, fl, gp, tab, simprocAttr, reduceCtorEq, reduceIte]
  refine fin_run trivial (hK _ ?_) <;> clear hK <;> clear K
  refine qa (qk ?_)
  simp only [Tryd.results107, enA, ev0, evA, evB, evP, fl, gp, tab, simprocAttr, reduceCtorEq, reduceIte]
  all_goals ((first | exact rfl | exact ⟨rfl, rfl⟩ | exact ⟨rfl, rfl, rfl⟩ | exact ⟨trivial, rfl⟩ | exact ⟨Nat.le_refl _, rfl⟩ | trivial | (simp; done)))

/-- A row of the table. -/
def row (m : List Int) (n a : Nat) : List Int := (m.drop (a * n)).take n

theorem row_len {m : List Int} {n a : Nat} (T : Tab n m) (ha : a < n) : (row m n a).length = n := by
  have : (a + 1) * n ≤ n * n := Nat.mul_le_mul_right _ ha
  rw [Nat.add_mul, Nat.one_mul] at this
  have := T.len
  simp [row]; omega
theorem row_get {m : List Int} {n a b : Nat} (T : Tab n m) (ha : a < n) (hb : b < n) : (row m n a).getD b 0 = ((op m n a b : Nat) : Int) := by
  rw [← T.val ha hb]
  simp only [row, List.getD, List.getElem?_take, if_pos hb, List.getElem?_drop]
theorem row_ix {m : List Int} {n a : Nat} (T : Tab n m) (ha : a < n) (x : Int) : ix (row m n a) x ≥ 0 ↔ ∃ b, b < n ∧ ((op m n a b : Nat) : Int) = x := by
  rw [ix_mem, row_len T ha]
  constructor
  · rintro ⟨b, hb, e⟩; exact ⟨b, hb, by rw [← row_get T ha hb]; exact e⟩
  · rintro ⟨b, hb, e⟩; exact ⟨b, hb, by rw [row_get T ha hb]; exact e⟩

/-- The last that is the one, among so many; -1. -/
def oneI (m : List Int) (n : Nat) : Nat → Int
  | 0 => -1
  | i + 1 => if isE m n i then (i : Int) else oneI m n i

theorem oneI_no {m : List Int} {n : Nat} (h : ∀ a, a < n → ¬ isE m n a) : ∀ i, i ≤ n → oneI m n i = -1
  | 0, _ => rfl
  | i + 1, hi => by simp only [oneI]; rw [if_neg (h i (by omega)), oneI_no h i (by omega)]
theorem oneI_yes {m : List Int} {n e : Nat} (he : e < n) (h : isE m n e) : ∀ i, i ≤ n → e < i → oneI m n i = (e : Nat)
  | 0, _, h2 => by omega
  | i + 1, hi, h2 => by
    simp only [oneI]
    by_cases hE : isE m n i
    · rw [if_pos hE, isE_unique he (by omega) h hE]
    · rw [if_neg hE]
      have : e ≠ i := fun h' => hE (h' ▸ h)
      exact oneI_yes he h i (by omega) (by omega)
theorem oneI_eI (m : List Int) (n : Nat) : oneI m n n = eI m n := by
  rcases eI_cases m n with ⟨h1, h2⟩ | ⟨e, he, h1, h2⟩
  · rw [h1, oneI_no h2 n (Nat.le_refl _)]
  · rw [h2, oneI_yes he h1 n (Nat.le_refl _) he]

/-- The program's test of an inverse, and the document's. -/
theorem inv_test {m : List Int} {n a : Nat} (T : Tab n m) (he : ¬ eI m n < 0) (hs : ∀ a, a < n → asc m n a) (ha : a < n) : ix (row m n a) (eI m n) ≥ 0 ↔ ¬ iI m n a < 0 := by
  rw [row_ix T ha]
  rcases eI_cases m n with ⟨h1, _⟩ | ⟨e, hel, hE, heq⟩
  · omega
  constructor
  · rintro ⟨b, hb, h⟩ h2
    rcases iI_cases m n a with ⟨_, h3⟩ | ⟨b', _, _, _, h4⟩
    · refine h3 b hb ⟨h, ?_⟩
      rw [heq] at h ⊢
      have := right_inv (f := op m n) (fun a b ha hb => T.lt ha hb) hel (fun a ha => (hE a ha).1) (fun a ha => (hE a ha).2) (fun a b c ha hb hc => hs a ha b hb c hc) ha hb (by omega)
      omega
    · omega
  · intro h
    rcases iI_cases m n a with ⟨h3, _⟩ | ⟨b, hb, h4, _, _⟩
    · omega
    · exact ⟨b, hb, h4⟩

theorem lo_nat (a n : Nat) : ((a : Int) * (n : Int)).toNat = a * n := by
  rw [← Int.natCast_mul]; rfl
theorem hi_nat (a n : Nat) : (((a : Int) + 1) * (n : Int)).toNat = (a + 1) * n := by
  have : ((a : Int) + 1) * (n : Int) = (((a + 1) * n : Nat) : Int) := by rw [Int.natCast_mul]; rfl
  rw [this]; rfl
theorem hi_sub (a n : Nat) : (a + 1) * n - a * n = n := by rw [Nat.add_mul, Nat.one_mul]; omega

set_option maxHeartbeats 1000000 in
theorem check_c (N : Int) (m : List Int) (hm : m.length ≤ 1000000000000000) : FnC Tryd.prog 65 [gp N m] (fl (gf N m)) := by
  refine fnc_of tab_ok Tryd.func65 rfl (by kernel_rfl) (by rw [Tryd.ntmps65]; exact Nat.le_add_left 1 _) ?_; rw [Tryd.ntmps65]
  refine qm ?_
  refine hk_region fun K hK => runs_eval tab_ok ?_
  simp only [ev0, evA, evB, evP, fl, gp, tab, simprocAttr, reduceCtorEq, reduceIte]
  refine fin_run ?_ (hK _ ?_) <;> clear hK <;> clear K
  · (first | exact trivial | omega | (simp only [In64] at *; omega) | (simp [In64] at *; omega) | (simp_all; done) | skip)
  refine qa (qm (qm ?_))
  by_cases g1a : N < 1
  · refine hk_region fun K hK => runs_eval tab_ok ?_
    simp only [ev0, evA, evB, evP, fl, gp, tab, simprocAttr, reduceCtorEq, reduceIte, decide_eq_true g1a]
    refine fin_run ?_ (hK _ ?_) <;> clear hK <;> clear K
    · (first | exact trivial | omega | (simp only [In64] at *; omega) | (simp [In64] at *; omega) | (simp_all; done) | skip)
    refine qa ?_
    refine hk_cond rfl (fun hC1 => ?_) (fun hC1 => ?_)
    · refine qm ?_
      refine hk_region fun K hK => runs_eval tab_ok ?_
      simp only [ev0, evA, evB, evP, fl, gp, tab, simprocAttr, reduceCtorEq, reduceIte]
      refine fin_stop trivial (runs_call (fault_c 2 0) rfl rfl rfl (by simp only [dstOk, Nat.reduceLT]) (by repeat (first | exact trivial | constructor)) (runs_eval tab_ok ?_))
      simp only [ev0, evA, evB, evP, fl, gp, tab, simprocAttr, reduceCtorEq, reduceIte]
      refine fin_run ?_ (hK _ ?_) <;> clear hK <;> clear K
      · (first | exact trivial | omega | (simp only [In64] at *; omega) | (simp [In64] at *; omega) | (simp_all; done) | skip)
      refine qa (qk (qb ?_))
      simp only [Tryd.results65, enA, ev0, evA, evB, evP, fl, gp, tab, simprocAttr, reduceCtorEq, reduceIte]
      all_goals (unfold gf; rw [if_pos (.inl g1a)]; simp)
    · cases hC1
  · refine hk_region fun K hK => runs_eval tab_ok ?_
    simp only [ev0, evA, evB, evP, fl, gp, tab, simprocAttr, reduceCtorEq, reduceIte, decide_eq_false g1a]
    refine fin_run ?_ (hK _ ?_) <;> clear hK <;> clear K
    · (first | exact trivial | omega | (simp only [In64] at *; omega) | (simp [In64] at *; omega) | (simp_all; done) | skip)
    refine qa ?_
    refine hk_cond rfl (fun hC1 => ?_) (fun hC1 => ?_)
    · (try simp only [nhs] at hC1)
      refine qm ?_
      refine hk_region fun K hK => runs_eval tab_ok ?_
      simp only [ev0, evA, evB, evP, fl, gp, tab, simprocAttr, reduceCtorEq, reduceIte]
      refine fin_stop trivial (runs_call (fault_c 2 0) rfl rfl rfl (by simp only [dstOk, Nat.reduceLT]) (by repeat (first | exact trivial | constructor)) (runs_eval tab_ok ?_))
      simp only [ev0, evA, evB, evP, fl, gp, tab, simprocAttr, reduceCtorEq, reduceIte]
      refine fin_run ?_ (hK _ ?_) <;> clear hK <;> clear K
      · (first | exact trivial | omega | (simp only [In64] at *; omega) | (simp [In64] at *; omega) | (simp_all; done) | skip)
      refine qa (qk (qb ?_))
      simp only [Tryd.results65, enA, ev0, evA, evB, evP, fl, gp, tab, simprocAttr, reduceCtorEq, reduceIte]
      all_goals (unfold gf; rw [if_pos (.inr hC1)]; simp)
    · (try simp only [nhs] at hC1)
      obtain ⟨n, rfl⟩ := Int.eq_ofNat_of_zero_le (show 0 ≤ N by omega)
      have hnn := sq_int n
      have hsq := sq_le (show n ≤ 60 by omega)
      refine qh (qa (qm (qm ?_)))
      refine hk_region fun K hK => runs_eval tab_ok ?_
      simp only [ev0, evA, evB, evP, fl, gp, tab, simprocAttr, reduceCtorEq, reduceIte]
      refine fin_run ?_ (hK _ ?_) <;> clear hK <;> clear K
      · simp only [In64]; omega
      refine qa ?_
      refine hk_cond rfl (fun hC2 => ?_) (fun hC2 => ?_)
      · (try simp only [nhs] at hC2)
        refine qm ?_
        refine hk_region fun K hK => runs_eval tab_ok ?_
        simp only [ev0, evA, evB, evP, fl, gp, tab, simprocAttr, reduceCtorEq, reduceIte]
        refine fin_stop trivial (runs_call (fault_c 8 0) rfl rfl rfl (by simp only [dstOk, Nat.reduceLT]) (by repeat (first | exact trivial | constructor)) (runs_eval tab_ok ?_))
        simp only [ev0, evA, evB, evP, fl, gp, tab, simprocAttr, reduceCtorEq, reduceIte]
        refine fin_run ?_ (hK _ ?_) <;> clear hK <;> clear K
        · (first | exact trivial | omega | (simp only [In64] at *; omega) | (simp [In64] at *; omega) | (simp_all; done) | skip)
        refine qa (qk (qb ?_))
        simp only [Tryd.results65, enA, ev0, evA, evB, evP, fl, gp, tab, simprocAttr, reduceCtorEq, reduceIte]
        all_goals (rw [gf_size (by omega) (by omega) (by omega)]; simp)
      · (try simp only [nhs] at hC2)
        have hl : m.length = n * n := by omega
        refine qh (qa (qm (qm ?_)))
        refine hk_region fun K hK => runs_eval tab_ok ?_
        simp only [ev0, evA, evB, evP, fl, gp, tab, simprocAttr, reduceCtorEq, reduceIte]
        refine fin_run ?_ (hK _ ?_) <;> clear hK <;> clear K
        · (first | exact trivial | omega | (simp only [In64] at *; omega) | (simp [In64] at *; omega) | (simp_all; done) | skip)
        refine qa (ql ?_)
        refine hk_loop (ι := Nat) (fun i => ⟨144, [(1, .ptr 0 0), (2, .ptr 1 0), (33, .p (.list (il m))), (34, .p (.int .i64 m.length)), (35, .p (.int .i64 i))], [.own [.p (.int .i64 n), .p (.list (il m))], .own [.p (.int .i64 0), .p (.int .i64 0)]]⟩) (fun i => i ≤ m.length ∧ ∀ j, j < i → bad n m j = false) (fun i => m.length - i) 0 ⟨Nat.zero_le _, fun j hj => by omega⟩ [0, 1] (by simp only [leq, leA, ev0, evA, evB, evP, fl, gp, tab, simprocAttr, reduceCtorEq, reduceIte] <;> trivial) fun i hi => ?_
        obtain ⟨hi1, hi2⟩ := hi
        refine qm ?_
        refine hk_region fun K hK => runs_eval tab_ok ?_
        simp only [ev0, evA, evB, evP, fl, gp, tab, simprocAttr, reduceCtorEq, reduceIte]
        refine fin_run trivial (hK _ ?_) <;> clear hK <;> clear K
        refine qa (qm ?_)
        refine hk_cond rfl (fun hC3 => ?_) (fun hC3 => ?_)
        · (try simp only [nhs] at hC3)
          have hlt : i < m.length := by omega
          refine qh (qa (qm (ql (qm ?_))))
          refine hk_region fun K hK => runs_eval tab_ok ?_
          simp only [ev0, evA, evB, evP, fl, gp, tab, simprocAttr, reduceCtorEq, reduceIte, il_get hlt]
          refine fin_run ?_ (hK _ ?_) <;> clear hK <;> clear K
          · (first | exact trivial | omega | (simp only [In64] at *; omega) | (simp [In64] at *; omega) | (simp_all; done) | skip)
          refine qa (qm ?_)
          by_cases g8a : m.getD i 0 < 0
          · refine hk_region fun K hK => runs_eval tab_ok ?_
            simp only [ev0, evA, evB, evP, fl, gp, tab, simprocAttr, reduceCtorEq, reduceIte, decide_eq_true g8a]
            refine fin_run trivial (hK _ ?_) <;> clear hK <;> clear K
            refine qa ?_
            refine hk_cond rfl (fun hC4 => ?_) (fun hC4 => ?_)
            · refine qm ?_
              refine hk_region fun K hK => runs_eval tab_ok ?_
              simp only [ev0, evA, evB, evP, fl, gp, tab, simprocAttr, reduceCtorEq, reduceIte]
              refine fin_stop trivial (runs_call (fault_c 3 i) rfl rfl rfl (by simp only [dstOk, Nat.reduceLT]) (by repeat (first | exact trivial | constructor)) (runs_eval tab_ok ?_))
              simp only [ev0, evA, evB, evP, fl, gp, tab, simprocAttr, reduceCtorEq, reduceIte]
              refine fin_run ?_ (hK _ ?_) <;> clear hK <;> clear K
              · (first | exact trivial | omega | (simp only [In64] at *; omega) | (simp [In64] at *; omega) | (simp_all; done) | skip)
              refine qa (qk (qe (qb (qb (qe (qb ?_))))))
              simp only [Tryd.results65, enA, ev0, evA, evB, evP, fl, gp, tab, simprocAttr, reduceCtorEq, reduceIte]
              all_goals (rw [gf_range (by omega) (by omega) hl hlt (decide_eq_true (.inl g8a)) hi2]; simp)
            · cases hC4
          · refine hk_region fun K hK => runs_eval tab_ok ?_
            simp only [ev0, evA, evB, evP, fl, gp, tab, simprocAttr, reduceCtorEq, reduceIte, decide_eq_false g8a]
            refine fin_run ?_ (hK _ ?_) <;> clear hK <;> clear K
            · (first | exact trivial | omega | (simp only [In64] at *; omega) | (simp [In64] at *; omega) | (simp_all; done) | skip)
            refine qa ?_
            refine hk_cond rfl (fun hC4 => ?_) (fun hC4 => ?_)
            · (try simp only [nhs] at hC4)
              refine qm ?_
              refine hk_region fun K hK => runs_eval tab_ok ?_
              simp only [ev0, evA, evB, evP, fl, gp, tab, simprocAttr, reduceCtorEq, reduceIte]
              refine fin_stop trivial (runs_call (fault_c 3 i) rfl rfl rfl (by simp only [dstOk, Nat.reduceLT]) (by repeat (first | exact trivial | constructor)) (runs_eval tab_ok ?_))
              simp only [ev0, evA, evB, evP, fl, gp, tab, simprocAttr, reduceCtorEq, reduceIte]
              refine fin_run ?_ (hK _ ?_) <;> clear hK <;> clear K
              · (first | exact trivial | omega | (simp only [In64] at *; omega) | (simp [In64] at *; omega) | (simp_all; done) | skip)
              refine qa (qk (qe (qb (qb (qe (qb ?_))))))
              simp only [Tryd.results65, enA, ev0, evA, evB, evP, fl, gp, tab, simprocAttr, reduceCtorEq, reduceIte]
              all_goals (rw [gf_range (by omega) (by omega) hl hlt (decide_eq_true (.inr hC4)) hi2]; simp)
            · (try simp only [nhs] at hC4)
              refine qh (qd (qa ?_))
              refine hk_region fun K hK => runs_eval tab_ok ?_
              simp only [ev0, evA, evB, evP, fl, gp, tab, simprocAttr, reduceCtorEq, reduceIte]
              refine fin_run ?_ (hK _ ?_) <;> clear hK <;> clear K
              · (first | exact trivial | omega | (simp only [In64] at *; omega) | (simp [In64] at *; omega) | (simp_all; done) | skip)
              refine qa ?_
              refine ⟨i + 1, [0, 1], ⟨by omega, fun j hj => ?_⟩, by omega, ?_⟩
              · by_cases hj : j = i
                · subst hj; exact decide_eq_false (by omega)
                · exact hi2 j (by omega)
              · simp only [leq, leA, ev0, evA, evB, evP, fl, gp, tab, simprocAttr, reduceCtorEq, reduceIte] <;> first | trivial | omega
        · (try simp only [nhs] at hC3)
          have T : Tab n m := by
            refine ⟨by omega, by omega, hl, fun j hj => ?_⟩
            have := of_decide_eq_false (hi2 j (by omega))
            omega
          refine qj (qc (qc (qf (qa (qm ?_)))))
          refine hk_region fun K hK => runs_eval tab_ok ?_
          simp only [ev0, evA, evB, evP, fl, gp, tab, simprocAttr, reduceCtorEq, reduceIte]
          refine fin_run trivial (hK _ ?_) <;> clear hK <;> clear K
          refine qa (qm (qm ?_))
          refine hk_region fun K hK => runs_eval tab_ok ?_
          simp only [ev0, evA, evB, evP, fl, gp, tab, simprocAttr, reduceCtorEq, reduceIte]
          refine fin_run ?_ (hK _ ?_) <;> clear hK <;> clear K
          · (first | exact trivial | omega | (simp only [In64] at *; omega) | (simp [In64] at *; omega) | (simp_all; done) | skip)
          refine qa (ql ?_)
          refine hk_loop (ι := Nat) (fun i => ⟨144, [(1, .ptr 0 0), (2, .ptr 1 0), (5, .p (.int .i64 (oneI m n i))), (52, .p (.int .i64 n)), (53, .p (.int .i64 i))], [.own [.p (.int .i64 n), .p (.list (il m))], .own [.p (.int .i64 0), .p (.int .i64 0)]]⟩) (fun i => i ≤ n) (fun i => n - i) 0 (Nat.zero_le _) [0, 1] (by simp only [leq, leA, ev0, evA, evB, evP, fl, gp, tab, simprocAttr, reduceCtorEq, reduceIte] <;> trivial) fun i hi => ?_
          refine qm ?_
          refine hk_region fun K hK => runs_eval tab_ok ?_
          simp only [ev0, evA, evB, evP, fl, gp, tab, simprocAttr, reduceCtorEq, reduceIte]
          refine fin_run trivial (hK _ ?_) <;> clear hK <;> clear K
          refine qa (qm ?_)
          refine hk_cond rfl (fun hC5 => ?_) (fun hC5 => ?_)
          · (try simp only [nhs] at hC5)
            have hil : i < n := by omega
            refine qh (qa (qm (ql (qm ?_))))
            refine hk_region fun K hK => runs_eval tab_ok ?_
            simp only [ev0, evA, evB, evP, fl, gp, tab, simprocAttr, reduceCtorEq, reduceIte]
            refine fin_run trivial (hK _ ?_) <;> clear hK <;> clear K
            refine qa (qm ?_)
            refine hk_region fun K hK => runs_eval tab_ok ?_
            simp only [ev0, evA, evB, evP, fl, gp, tab, simprocAttr, reduceCtorEq, reduceIte]
            refine fin_run trivial (hK _ ?_) <;> clear hK <;> clear K
            refine qa (qm (qm ?_))
            refine hk_region fun K hK => runs_eval tab_ok ?_
            simp only [ev0, evA, evB, evP, fl, gp, tab, simprocAttr, reduceCtorEq, reduceIte]
            refine fin_run ?_ (hK _ ?_) <;> clear hK <;> clear K
            · (first | exact trivial | omega | (simp only [In64] at *; omega) | (simp [In64] at *; omega) | (simp_all; done) | skip)
            refine qa (ql ?_)
            refine hk_loop (ι := Nat) (fun b => ⟨144, [(1, .ptr 0 0), (2, .ptr 1 0), (5, .p (.int .i64 (oneI m n i))), (6, .p (.int .i64 i)), (7, .p (.bool (decide (∀ c, c < b → op m n i c = c ∧ op m n c i = c)))), (52, .p (.int .i64 n)), (53, .p (.int .i64 i)), (57, .p (.int .i64 n)), (58, .p (.int .i64 b))], [.own [.p (.int .i64 n), .p (.list (il m))], .own [.p (.int .i64 0), .p (.int .i64 0)]]⟩) (fun b => b ≤ n) (fun b => n - b) 0 (Nat.zero_le _) [0, 1] (by simp only [leq, leA, ev0, evA, evB, evP, fl, gp, tab, simprocAttr, reduceCtorEq, reduceIte] <;> simp) fun b hb => ?_
            refine qm ?_
            refine hk_region fun K hK => runs_eval tab_ok ?_
            simp only [ev0, evA, evB, evP, fl, gp, tab, simprocAttr, reduceCtorEq, reduceIte]
            refine fin_run trivial (hK _ ?_) <;> clear hK <;> clear K
            refine qa (qm ?_)
            refine hk_cond rfl (fun hC6 => ?_) (fun hC6 => ?_)
            · (try simp only [nhs] at hC6)
              have hbl : b < n := by omega
              refine qh (qa (qm (ql (qm ?_))))
              refine hk_region fun K hK => runs_eval tab_ok ?_
              simp only [ev0, evA, evB, evP, fl, gp, tab, simprocAttr, reduceCtorEq, reduceIte]
              refine fin_run trivial (hK _ ?_) <;> clear hK <;> clear K
              refine qa ?_
              by_cases g19a : ∀ c, c < b → op m n i c = c ∧ op m n c i = c
              · by_cases g19b : ((op m n i b : Nat) : Int) = (b : Nat)
                · refine hk_region fun K hK => runs_eval tab_ok ?_
                  simp only [ev0, evA, evB, evP, fl, gp, tab, simprocAttr, reduceCtorEq, reduceIte, decide_eq_true g19a, decide_eq_true g19b]
                  refine fin_stop trivial (runs_call (of_c T hil hbl) rfl rfl rfl (by simp only [dstOk, Nat.reduceLT]) (by repeat (first | exact trivial | constructor)) (runs_eval tab_ok ?_))
                  simp only [ev0, evA, evB, evP, fl, gp, tab, simprocAttr, reduceCtorEq, reduceIte, decide_eq_true g19a, decide_eq_true g19b]
                  refine fin_stop trivial (runs_call (of_c T hbl hil) rfl rfl rfl (by simp only [dstOk, Nat.reduceLT]) (by repeat (first | exact trivial | constructor)) (runs_eval tab_ok ?_))
                  simp only [ev0, evA, evB, evP, fl, gp, tab, simprocAttr, reduceCtorEq, reduceIte, decide_eq_true g19a, decide_eq_true g19b]
                  refine fin_run ?_ (hK _ ?_) <;> clear hK <;> clear K
                  · (first | exact trivial | omega | (simp only [In64] at *; omega) | (simp [In64] at *; omega) | (simp_all; done) | skip)
                  refine qd (qa ?_)
                  refine hk_region fun K hK => runs_eval tab_ok ?_
                  simp only [ev0, evA, evB, evP, fl, gp, tab, simprocAttr, reduceCtorEq, reduceIte]
                  refine fin_run ?_ (hK _ ?_) <;> clear hK <;> clear K
                  · (first | exact trivial | omega | (simp only [In64] at *; omega) | (simp [In64] at *; omega) | (simp_all; done) | skip)
                  refine qa ?_
                  refine ⟨b + 1, [0, 1], by omega, by omega, ?_⟩
                  have hd : decide (∀ c, c < b + 1 → op m n i c = c ∧ op m n c i = c) = decide (((op m n b i : Nat) : Int) = (b : Nat)) := by
                    apply decide_eq_decide.2
                    constructor
                    · intro h; have := h b (by omega); omega
                    · intro h c hc
                      by_cases hcb : c = b
                      · subst hcb; omega
                      · exact g19a c (by omega)
                  rw [hd]
                  simp only [leq, leA, ev0, evA, evB, evP, fl, gp, tab, simprocAttr, reduceCtorEq, reduceIte] <;> first | trivial | omega
                · refine hk_region fun K hK => runs_eval tab_ok ?_
                  simp only [ev0, evA, evB, evP, fl, gp, tab, simprocAttr, reduceCtorEq, reduceIte, decide_eq_true g19a, decide_eq_false g19b]
                  refine fin_stop trivial (runs_call (of_c T hil hbl) rfl rfl rfl (by simp only [dstOk, Nat.reduceLT]) (by repeat (first | exact trivial | constructor)) (runs_eval tab_ok ?_))
                  simp only [ev0, evA, evB, evP, fl, gp, tab, simprocAttr, reduceCtorEq, reduceIte, decide_eq_true g19a, decide_eq_false g19b]
                  refine fin_run ?_ (hK _ ?_) <;> clear hK <;> clear K
                  · (first | exact trivial | omega | (simp only [In64] at *; omega) | (simp [In64] at *; omega) | (simp_all; done) | skip)
                  refine qd (qa ?_)
                  refine hk_region fun K hK => runs_eval tab_ok ?_
                  simp only [ev0, evA, evB, evP, fl, gp, tab, simprocAttr, reduceCtorEq, reduceIte]
                  refine fin_run ?_ (hK _ ?_) <;> clear hK <;> clear K
                  · (first | exact trivial | omega | (simp only [In64] at *; omega) | (simp [In64] at *; omega) | (simp_all; done) | skip)
                  refine qa ?_
                  refine ⟨b + 1, [0, 1], by omega, by omega, ?_⟩
                  rw [dall_no (P := fun c => op m n i c = c ∧ op m n c i = c) (b := b) fun h => by omega]
                  simp only [leq, leA, ev0, evA, evB, evP, fl, gp, tab, simprocAttr, reduceCtorEq, reduceIte] <;> first | trivial | omega
              · refine hk_region fun K hK => runs_eval tab_ok ?_
                simp only [ev0, evA, evB, evP, fl, gp, tab, simprocAttr, reduceCtorEq, reduceIte, decide_eq_false g19a]
                refine fin_run trivial (hK _ ?_) <;> clear hK <;> clear K
                refine qd (qa ?_)
                refine hk_region fun K hK => runs_eval tab_ok ?_
                simp only [ev0, evA, evB, evP, fl, gp, tab, simprocAttr, reduceCtorEq, reduceIte]
                refine fin_run ?_ (hK _ ?_) <;> clear hK <;> clear K
                · (first | exact trivial | omega | (simp only [In64] at *; omega) | (simp [In64] at *; omega) | (simp_all; done) | skip)
                refine qa ?_
                refine ⟨b + 1, [0, 1], by omega, by omega, ?_⟩
                rw [show decide (∀ c, c < b + 1 → op m n i c = c ∧ op m n c i = c) = false from decide_eq_false fun h => g19a fun c hc => h c (by omega)]
                simp only [leq, leA, ev0, evA, evB, evP, fl, gp, tab, simprocAttr, reduceCtorEq, reduceIte] <;> first | trivial | omega
            · (try simp only [nhs] at hC6)
              have hbn : b = n := by omega
              subst hbn
              refine qj (qc (qc (qf (qa (qm ?_)))))
              refine hk_region fun K hK => runs_eval tab_ok ?_
              simp only [ev0, evA, evB, evP, fl, gp, tab, simprocAttr, reduceCtorEq, reduceIte]
              refine fin_run trivial (hK _ ?_) <;> clear hK <;> clear K
              refine qa ?_
              refine hk_cond rfl (fun hone => ?_) (fun hone => ?_)
              · (try simp only [nhs] at hone)
                refine hk_region fun K hK => runs_eval tab_ok ?_
                simp only [ev0, evA, evB, evP, fl, gp, tab, simprocAttr, reduceCtorEq, reduceIte]
                refine fin_run trivial (hK _ ?_) <;> clear hK <;> clear K
                refine qd (qa ?_)
                refine hk_region fun K hK => runs_eval tab_ok ?_
                simp only [ev0, evA, evB, evP, fl, gp, tab, simprocAttr, reduceCtorEq, reduceIte]
                refine fin_run ?_ (hK _ ?_) <;> clear hK <;> clear K
                · (first | exact trivial | omega | (simp only [In64] at *; omega) | (simp [In64] at *; omega) | (simp_all; done) | skip)
                refine qa ?_
                refine ⟨i + 1, [0, 1], by omega, by omega, ?_⟩
                simp only [oneI]
                rw [if_pos (show isE m b i from hone)]
                simp only [leq, leA, ev0, evA, evB, evP, fl, gp, tab, simprocAttr, reduceCtorEq, reduceIte] <;> first | trivial | omega
              · (try simp only [nhs] at hone)
                refine qh (qd (qa ?_))
                refine hk_region fun K hK => runs_eval tab_ok ?_
                simp only [ev0, evA, evB, evP, fl, gp, tab, simprocAttr, reduceCtorEq, reduceIte]
                refine fin_run ?_ (hK _ ?_) <;> clear hK <;> clear K
                · (first | exact trivial | omega | (simp only [In64] at *; omega) | (simp [In64] at *; omega) | (simp_all; done) | skip)
                refine qa ?_
                refine ⟨i + 1, [0, 1], by omega, by omega, ?_⟩
                simp only [oneI]
                rw [if_neg (show ¬ isE m b i from hone)]
                simp only [leq, leA, ev0, evA, evB, evP, fl, gp, tab, simprocAttr, reduceCtorEq, reduceIte] <;> first | trivial | omega
          · (try simp only [nhs] at hC5)
            have hin : i = n := by omega
            subst hin
            rw [oneI_eI]
            refine qj (qc (qc (qf (qa (qm (qm ?_))))))
            refine hk_region fun K hK => runs_eval tab_ok ?_
            simp only [ev0, evA, evB, evP, fl, gp, tab, simprocAttr, reduceCtorEq, reduceIte]
            refine fin_run trivial (hK _ ?_) <;> clear hK <;> clear K
            refine qa ?_
            refine hk_cond rfl (fun hC8 => ?_) (fun hC8 => ?_)
            · (try simp only [nhs] at hC8)
              refine qm ?_
              refine hk_region fun K hK => runs_eval tab_ok ?_
              simp only [ev0, evA, evB, evP, fl, gp, tab, simprocAttr, reduceCtorEq, reduceIte]
              refine fin_stop trivial (runs_call (fault_c 6 0) rfl rfl rfl (by simp only [dstOk, Nat.reduceLT]) (by repeat (first | exact trivial | constructor)) (runs_eval tab_ok ?_))
              simp only [ev0, evA, evB, evP, fl, gp, tab, simprocAttr, reduceCtorEq, reduceIte]
              refine fin_run ?_ (hK _ ?_) <;> clear hK <;> clear K
              · (first | exact trivial | omega | (simp only [In64] at *; omega) | (simp [In64] at *; omega) | (simp_all; done) | skip)
              refine qa (qk (qb ?_))
              simp only [Tryd.results65, enA, ev0, evA, evB, evP, fl, gp, tab, simprocAttr, reduceCtorEq, reduceIte]
              all_goals (rw [gf_tab T, gf2_6 hC8]; simp)
            · (try simp only [nhs] at hC8)
              refine qh (qa (qm (qm ?_)))
              refine hk_region fun K hK => runs_eval tab_ok ?_
              simp only [ev0, evA, evB, evP, fl, gp, tab, simprocAttr, reduceCtorEq, reduceIte]
              refine fin_run ?_ (hK _ ?_) <;> clear hK <;> clear K
              · (first | exact trivial | omega | (simp only [In64] at *; omega) | (simp [In64] at *; omega) | (simp_all; done) | skip)
              refine qa (ql ?_)
              refine hk_loop (ι := Nat) (fun a => ⟨144, [(1, .ptr 0 0), (2, .ptr 1 0), (5, .p (.int .i64 (eI m i))), (86, .p (.int .i64 i)), (87, .p (.int .i64 a))], [.own [.p (.int .i64 i), .p (.list (il m))], .own [.p (.int .i64 0), .p (.int .i64 0)]]⟩) (fun a => a ≤ i ∧ ∀ j, j < a → asc m i j) (fun a => i - a) 0 ⟨Nat.zero_le _, fun j hj => by omega⟩ [0, 1] (by simp only [leq, leA, ev0, evA, evB, evP, fl, gp, tab, simprocAttr, reduceCtorEq, reduceIte] <;> trivial) fun a ha => ?_
              obtain ⟨ha1, ha2⟩ := ha
              refine qm ?_
              refine hk_region fun K hK => runs_eval tab_ok ?_
              simp only [ev0, evA, evB, evP, fl, gp, tab, simprocAttr, reduceCtorEq, reduceIte]
              refine fin_run trivial (hK _ ?_) <;> clear hK <;> clear K
              refine qa (qm ?_)
              refine hk_cond rfl (fun hC9 => ?_) (fun hC9 => ?_)
              · (try simp only [nhs] at hC9)
                have hal : a < i := by omega
                refine qh (qa (qm (ql (qm ?_))))
                refine hk_region fun K hK => runs_eval tab_ok ?_
                simp only [ev0, evA, evB, evP, fl, gp, tab, simprocAttr, reduceCtorEq, reduceIte]
                refine fin_run trivial (hK _ ?_) <;> clear hK <;> clear K
                refine qa (qm ?_)
                refine hk_region fun K hK => runs_eval tab_ok ?_
                simp only [ev0, evA, evB, evP, fl, gp, tab, simprocAttr, reduceCtorEq, reduceIte]
                refine fin_run ?_ (hK _ ?_) <;> clear hK <;> clear K
                · (first | exact trivial | omega | (simp only [In64] at *; omega) | (simp [In64] at *; omega) | (simp_all; done) | skip)
                refine qa (ql ?_)
                refine hk_loop (ι := Nat) (fun b => ⟨144, [(1, .ptr 0 0), (2, .ptr 1 0), (5, .p (.int .i64 (eI m i))), (9, .p (.int .i64 a)), (86, .p (.int .i64 i)), (87, .p (.int .i64 a)), (91, .p (.int .i64 i)), (92, .p (.int .i64 b))], [.own [.p (.int .i64 i), .p (.list (il m))], .own [.p (.int .i64 0), .p (.int .i64 0)]]⟩) (fun b => b ≤ i ∧ ∀ j, j < b → ∀ c, c < i → op m i (op m i a j) c = op m i a (op m i j c)) (fun b => i - b) 0 ⟨Nat.zero_le _, fun j hj => by omega⟩ [0, 1] (by simp only [leq, leA, ev0, evA, evB, evP, fl, gp, tab, simprocAttr, reduceCtorEq, reduceIte] <;> trivial) fun b hb => ?_
                obtain ⟨hb1, hb2⟩ := hb
                refine qm ?_
                refine hk_region fun K hK => runs_eval tab_ok ?_
                simp only [ev0, evA, evB, evP, fl, gp, tab, simprocAttr, reduceCtorEq, reduceIte]
                refine fin_run trivial (hK _ ?_) <;> clear hK <;> clear K
                refine qa (qm ?_)
                refine hk_cond rfl (fun hC10 => ?_) (fun hC10 => ?_)
                · (try simp only [nhs] at hC10)
                  have hbl : b < i := by omega
                  refine qh (qa (qm (ql (qm ?_))))
                  refine hk_region fun K hK => runs_eval tab_ok ?_
                  simp only [ev0, evA, evB, evP, fl, gp, tab, simprocAttr, reduceCtorEq, reduceIte]
                  refine fin_run trivial (hK _ ?_) <;> clear hK <;> clear K
                  refine qa (qm ?_)
                  refine hk_region fun K hK => runs_eval tab_ok ?_
                  simp only [ev0, evA, evB, evP, fl, gp, tab, simprocAttr, reduceCtorEq, reduceIte]
                  refine fin_run ?_ (hK _ ?_) <;> clear hK <;> clear K
                  · (first | exact trivial | omega | (simp only [In64] at *; omega) | (simp [In64] at *; omega) | (simp_all; done) | skip)
                  refine qa (ql ?_)
                  refine hk_loop (ι := Nat) (fun c => ⟨144, [(1, .ptr 0 0), (2, .ptr 1 0), (5, .p (.int .i64 (eI m i))), (9, .p (.int .i64 a)), (10, .p (.int .i64 b)), (86, .p (.int .i64 i)), (87, .p (.int .i64 a)), (91, .p (.int .i64 i)), (92, .p (.int .i64 b)), (96, .p (.int .i64 i)), (97, .p (.int .i64 c))], [.own [.p (.int .i64 i), .p (.list (il m))], .own [.p (.int .i64 0), .p (.int .i64 0)]]⟩) (fun c => c ≤ i ∧ ∀ j, j < c → op m i (op m i a b) j = op m i a (op m i b j)) (fun c => i - c) 0 ⟨Nat.zero_le _, fun j hj => by omega⟩ [0, 1] (by simp only [leq, leA, ev0, evA, evB, evP, fl, gp, tab, simprocAttr, reduceCtorEq, reduceIte] <;> trivial) fun c hc => ?_
                  obtain ⟨hc1, hc2⟩ := hc
                  refine qm ?_
                  refine hk_region fun K hK => runs_eval tab_ok ?_
                  simp only [ev0, evA, evB, evP, fl, gp, tab, simprocAttr, reduceCtorEq, reduceIte]
                  refine fin_run trivial (hK _ ?_) <;> clear hK <;> clear K
                  refine qa (qm ?_)
                  refine hk_cond rfl (fun hC11 => ?_) (fun hC11 => ?_)
                  · (try simp only [nhs] at hC11)
                    have hcl : c < i := by omega
                    refine qh (qa (qm (ql (qm ?_))))
                    refine hk_region fun K hK => runs_eval tab_ok ?_
                    simp only [ev0, evA, evB, evP, fl, gp, tab, simprocAttr, reduceCtorEq, reduceIte]
                    refine fin_run trivial (hK _ ?_) <;> clear hK <;> clear K
                    refine qa (qm ?_)
                    refine hk_draw mixed (by kernel_rfl) fun K hK => runs_eval tab_ok ?_
                    simp only [ev0, evA, evB, evP, fl, gp, tab, simprocAttr, reduceCtorEq, reduceIte]
                    refine fin_stop trivial (runs_call (of_c T hal hbl) rfl rfl rfl (by simp only [dstOk, Nat.reduceLT]) (by repeat (first | exact trivial | constructor)) (runs_eval tab_ok ?_))
                    simp only [ev0, evA, evB, evP, fl, gp, tab, simprocAttr, reduceCtorEq, reduceIte]
                    refine fin_stop trivial (runs_call (of_c T (T.lt hal hbl) hcl) rfl rfl rfl (by simp only [dstOk, Nat.reduceLT]) (by repeat (first | exact trivial | constructor)) (runs_eval tab_ok ?_))
                    simp only [ev0, evA, evB, evP, fl, gp, tab, simprocAttr, reduceCtorEq, reduceIte]
                    refine fin_stop trivial (runs_call (of_c T hbl hcl) rfl rfl rfl (by simp only [dstOk, Nat.reduceLT]) (by repeat (first | exact trivial | constructor)) (runs_eval tab_ok ?_))
                    simp only [ev0, evA, evB, evP, fl, gp, tab, simprocAttr, reduceCtorEq, reduceIte]
                    refine fin_stop trivial (runs_call (of_c T hal (T.lt hbl hcl)) rfl rfl rfl (by simp only [dstOk, Nat.reduceLT]) (by repeat (first | exact trivial | constructor)) (runs_eval tab_ok ?_))
                    simp only [ev0, evA, evB, evP, fl, gp, tab, simprocAttr, reduceCtorEq, reduceIte]
                    refine fin_run ?_ (hK _ ?_) <;> clear hK <;> clear K
                    · (first | exact trivial | omega | (simp only [In64] at *; omega) | (simp [In64] at *; omega) | (simp_all; done) | skip)
                    refine qa ?_
                    refine hk_cond rfl (fun hC12 => ?_) (fun hC12 => ?_)
                    · (try simp only [nhs] at hC12)
                      refine qm ?_
                      refine hk_region fun K hK => runs_eval tab_ok ?_
                      simp only [ev0, evA, evB, evP, fl, gp, tab, simprocAttr, reduceCtorEq, reduceIte]
                      refine fin_stop trivial (runs_call (fault_c 7 a) rfl rfl rfl (by simp only [dstOk, Nat.reduceLT]) (by repeat (first | exact trivial | constructor)) (runs_eval tab_ok ?_))
                      simp only [ev0, evA, evB, evP, fl, gp, tab, simprocAttr, reduceCtorEq, reduceIte]
                      refine fin_run ?_ (hK _ ?_) <;> clear hK <;> clear K
                      · (first | exact trivial | omega | (simp only [In64] at *; omega) | (simp [In64] at *; omega) | (simp_all; done) | skip)
                      refine qa (qk (qe (qb (qb (qe (qe (qb (qb (qe (qe (qb (qb (qe (qb ?_))))))))))))))
                      simp only [Tryd.results65, enA, ev0, evA, evB, evP, fl, gp, tab, simprocAttr, reduceCtorEq, reduceIte]
                      all_goals (rw [gf_tab T, gf2_7 hC8 hal (fun h => hC12 (by rw [h b hbl c hcl])) ha2]; simp)
                    · (try simp only [nhs] at hC12)
                      refine qh (qd (qa ?_))
                      refine hk_region fun K hK => runs_eval tab_ok ?_
                      simp only [ev0, evA, evB, evP, fl, gp, tab, simprocAttr, reduceCtorEq, reduceIte]
                      refine fin_run ?_ (hK _ ?_) <;> clear hK <;> clear K
                      · (first | exact trivial | omega | (simp only [In64] at *; omega) | (simp [In64] at *; omega) | (simp_all; done) | skip)
                      refine qa ?_
                      refine ⟨c + 1, [0, 1], ⟨by omega, fun j hj => ?_⟩, by omega, ?_⟩
                      · by_cases hj : j = c
                        · subst hj; omega
                        · exact hc2 j (by omega)
                      · simp only [leq, leA, ev0, evA, evB, evP, fl, gp, tab, simprocAttr, reduceCtorEq, reduceIte] <;> first | trivial | omega
                  · (try simp only [nhs] at hC11)
                    refine qj (qc (qc (qf (qd (qa ?_)))))
                    refine hk_region fun K hK => runs_eval tab_ok ?_
                    simp only [ev0, evA, evB, evP, fl, gp, tab, simprocAttr, reduceCtorEq, reduceIte]
                    refine fin_run ?_ (hK _ ?_) <;> clear hK <;> clear K
                    · (first | exact trivial | omega | (simp only [In64] at *; omega) | (simp [In64] at *; omega) | (simp_all; done) | skip)
                    refine qa ?_
                    refine ⟨b + 1, [0, 1], ⟨by omega, fun j hj => ?_⟩, by omega, ?_⟩
                    · by_cases hj : j = b
                      · subst hj; exact fun c' hc' => hc2 c' (by omega)
                      · exact hb2 j (by omega)
                    · simp only [leq, leA, ev0, evA, evB, evP, fl, gp, tab, simprocAttr, reduceCtorEq, reduceIte] <;> first | trivial | omega
                · (try simp only [nhs] at hC10)
                  refine qj (qc (qc (qf (qd (qa ?_)))))
                  refine hk_region fun K hK => runs_eval tab_ok ?_
                  simp only [ev0, evA, evB, evP, fl, gp, tab, simprocAttr, reduceCtorEq, reduceIte]
                  refine fin_run ?_ (hK _ ?_) <;> clear hK <;> clear K
                  · (first | exact trivial | omega | (simp only [In64] at *; omega) | (simp [In64] at *; omega) | (simp_all; done) | skip)
                  refine qa ?_
                  refine ⟨a + 1, [0, 1], ⟨by omega, fun j hj => ?_⟩, by omega, ?_⟩
                  · by_cases hj : j = a
                    · subst hj; exact fun c' hc' => hb2 c' (by omega)
                    · exact ha2 j (by omega)
                  · simp only [leq, leA, ev0, evA, evB, evP, fl, gp, tab, simprocAttr, reduceCtorEq, reduceIte] <;> first | trivial | omega
              · (try simp only [nhs] at hC9)
                have hs : ∀ a, a < i → asc m i a := fun j hj => ha2 j (by omega)
                refine qj (qc (qc (qf (qa (qm (qm ?_))))))
                refine hk_region fun K hK => runs_eval tab_ok ?_
                simp only [ev0, evA, evB, evP, fl, gp, tab, simprocAttr, reduceCtorEq, reduceIte]
                refine fin_run ?_ (hK _ ?_) <;> clear hK <;> clear K
                · (first | exact trivial | omega | (simp only [In64] at *; omega) | (simp [In64] at *; omega) | (simp_all; done) | skip)
                refine qa (ql ?_)
                refine hk_loop (ι := Nat) (fun a => ⟨144, [(1, .ptr 0 0), (2, .ptr 1 0), (5, .p (.int .i64 (eI m i))), (121, .p (.int .i64 i)), (122, .p (.int .i64 a))], [.own [.p (.int .i64 i), .p (.list (il m))], .own [.p (.int .i64 0), .p (.int .i64 0)]]⟩) (fun a => a ≤ i ∧ ∀ j, j < a → ¬ iI m i j < 0) (fun a => i - a) 0 ⟨Nat.zero_le _, fun j hj => by omega⟩ [0, 1] (by simp only [leq, leA, ev0, evA, evB, evP, fl, gp, tab, simprocAttr, reduceCtorEq, reduceIte] <;> trivial) fun k hk => ?_
                obtain ⟨hk1, hk2⟩ := hk
                refine qm ?_
                refine hk_region fun K hK => runs_eval tab_ok ?_
                simp only [ev0, evA, evB, evP, fl, gp, tab, simprocAttr, reduceCtorEq, reduceIte]
                refine fin_run trivial (hK _ ?_) <;> clear hK <;> clear K
                refine qa (qm ?_)
                refine hk_cond rfl (fun hC13 => ?_) (fun hC13 => ?_)
                · (try simp only [nhs] at hC13)
                  have hkl : k < i := by omega
                  have ht := inv_test T hC8 hs hkl
                  have hr1 := row_len T hkl
                  have hr2 : (k + 1) * i ≤ i * i := Nat.mul_le_mul_right _ hkl
                  have hr3 : k * i ≤ (k + 1) * i := Nat.mul_le_mul_right _ (by omega)
                  have hr4 : (k : Int) * (i : Int) = ((k * i : Nat) : Int) := (Int.natCast_mul k i).symm
                  have hr5 : ((k : Int) + 1) * (i : Int) = (((k + 1) * i : Nat) : Int) := by rw [Int.natCast_mul]; rfl
                  refine qh (qa (qm (ql (qm ?_))))
                  refine hk_region fun K hK => runs_eval tab_ok ?_
                  simp only [ev0, evA, evB, evP, fl, gp, tab, simprocAttr, reduceCtorEq, reduceIte]
                  refine fin_run trivial (hK _ ?_) <;> clear hK <;> clear K
                  refine qa (qm ?_)
                  refine hk_region fun K hK => runs_eval tab_ok ?_
                  simp only [ev0, evA, evB, evP, fl, gp, tab, simprocAttr, reduceCtorEq, reduceIte, lo_nat, hi_nat, hi_sub]
                  refine fin_stop ?_ (runs_call (contains_c (row m i k) (eI m i) (by omega)) rfl rfl rfl (by simp only [dstOk, Nat.reduceLT]) (by repeat (first | exact trivial | constructor)) (runs_eval tab_ok ?_))
                  · rw [hr4, hr5]; simp only [In64]; omega
                  simp only [ev0, evA, evB, evP, fl, gp, tab, simprocAttr, reduceCtorEq, reduceIte, lo_nat, hi_nat, hi_sub]
                  refine fin_run ?_ (hK _ ?_) <;> clear hK <;> clear K
                  · (first | exact trivial | omega | (simp only [In64] at *; omega) | (simp [In64] at *; omega) | (simp_all; done) | skip)
                  refine qa ?_
                  refine hk_cond rfl (fun hC14 => ?_) (fun hC14 => ?_)
                  · (try simp only [nhs] at hC14)
                    refine qm ?_
                    refine hk_region fun K hK => runs_eval tab_ok ?_
                    simp only [ev0, evA, evB, evP, fl, gp, tab, simprocAttr, reduceCtorEq, reduceIte]
                    refine fin_stop trivial (runs_call (fault_c 4 k) rfl rfl rfl (by simp only [dstOk, Nat.reduceLT]) (by repeat (first | exact trivial | constructor)) (runs_eval tab_ok ?_))
                    simp only [ev0, evA, evB, evP, fl, gp, tab, simprocAttr, reduceCtorEq, reduceIte]
                    refine fin_run ?_ (hK _ ?_) <;> clear hK <;> clear K
                    · (first | exact trivial | omega | (simp only [In64] at *; omega) | (simp [In64] at *; omega) | (simp_all; done) | skip)
                    refine qa (qk (qe (qb (qb (qe (qb ?_))))))
                    simp only [Tryd.results65, enA, ev0, evA, evB, evP, fl, gp, tab, simprocAttr, reduceCtorEq, reduceIte]
                    all_goals (rw [gf_tab T, gf2_4 hC8 hs hkl (Classical.not_not.1 fun h => hC14 (ht.2 h)) hk2]; simp)
                  · (try simp only [nhs] at hC14)
                    refine qh (qd (qa ?_))
                    refine hk_region fun K hK => runs_eval tab_ok ?_
                    simp only [ev0, evA, evB, evP, fl, gp, tab, simprocAttr, reduceCtorEq, reduceIte]
                    refine fin_run ?_ (hK _ ?_) <;> clear hK <;> clear K
                    · (first | exact trivial | omega | (simp only [In64] at *; omega) | (simp [In64] at *; omega) | (simp_all; done) | skip)
                    refine qa ?_
                    refine ⟨k + 1, [0, 1], ⟨by omega, fun j hj => ?_⟩, by omega, ?_⟩
                    · by_cases hj : j = k
                      · subst hj; exact ht.1 hC14
                      · exact hk2 j (by omega)
                    · simp only [leq, leA, ev0, evA, evB, evP, fl, gp, tab, simprocAttr, reduceCtorEq, reduceIte] <;> first | trivial | omega
                · (try simp only [nhs] at hC13)
                  refine qj (qc (qc (qf (qa (qm ?_)))))
                  refine hk_region fun K hK => runs_eval tab_ok ?_
                  simp only [ev0, evA, evB, evP, fl, gp, tab, simprocAttr, reduceCtorEq, reduceIte]
                  refine fin_run ?_ (hK _ ?_) <;> clear hK <;> clear K
                  · (first | exact trivial | omega | (simp only [In64] at *; omega) | (simp [In64] at *; omega) | (simp_all; done) | skip)
                  refine qa (qk ?_)
                  simp only [Tryd.results65, enA, ev0, evA, evB, evP, fl, gp, tab, simprocAttr, reduceCtorEq, reduceIte]
                  all_goals (rw [gf_tab T, gf2_0 hC8 hs (fun j hj => hk2 j (by omega))]; simp)
end Go.Proofs.YtjikchbmkodgfaaDoor
