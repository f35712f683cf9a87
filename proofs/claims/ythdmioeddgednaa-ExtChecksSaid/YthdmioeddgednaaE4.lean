/-
  Walks: extensions: what is looked at; cocycles; bounds; spans. Conditions: none.
-/
import Derived.Test.YthdmioeddgednaaE2
import Derived.Test.YthdmioeddgednaaE3
import Derived.Test.YthdmioeddgednaaG2
set_option linter.all false
namespace Go.Proofs.Ythdmioeddgednaa
open Go.Pv

theorem xfault_c (c a : Int) : FnC Try.prog 34 [.int .i64 c, .int .i64 a] (fl (c, a)) := by
  refine fnc_of tab_ok Try.func34 rfl (by kernel_rfl) (by rw [Try.ntmps34]; exact Nat.le_add_left 2 _) ?_; rw [Try.ntmps34]
  refine qm ?_
  refine hk_region fun K hK => runs_eval tab_ok ?_
  simp only [ev0, evA, evB, evP, fl, gp, tab, simprocAttr, reduceCtorEq, reduceIte]
  refine fin_run ?_ (hK _ ?_) <;> clear hK <;> clear K
  · (first | exact trivial | omega | (simp only [In64] at *; omega) | (simp [In64] at *; omega) | (simp_all; done) | skip)
  refine qa (qm ?_)
  refine hk_region fun K hK => runs_eval tab_ok ?_
  simp only [ev0, evA, evB, evP, fl, gp, tab, simprocAttr, reduceCtorEq, reduceIte]
  refine fin_run ?_ (hK _ ?_) <;> clear hK <;> clear K
  · (first | exact trivial | omega | (simp only [In64] at *; omega) | (simp [In64] at *; omega) | (simp_all; done) | skip)
  refine qa (qk ?_)
  simp only [Try.results34, enA, ev0, evA, evB, evP, fl, gp, tab, simprocAttr, reduceCtorEq, reduceIte]
  all_goals (rfl)

/-- The fault of a group and a prime. -/
def xf (N : Int) (m : List Int) (p : Int) : Int × Int :=
  if ¬ (gf N m).1 = 0 then gf N m else if N > 12 then (2, 0) else if ¬ (p = 2 ∨ p = 3 ∨ p = 5 ∨ p = 7) then (3, 1) else (0, 0)

theorem ix4 (p : Int) : ix [2, 3, 5, 7] p ≥ 0 ↔ p = 2 ∨ p = 3 ∨ p = 5 ∨ p = 7 := by
  rw [ix_mem]
  constructor
  · rintro ⟨i, hi, e⟩
    match i, hi with
    | 0, _ => exact .inl (by simpa using e.symm)
    | 1, _ => exact .inr (.inl (by simpa using e.symm))
    | 2, _ => exact .inr (.inr (.inl (by simpa using e.symm)))
    | 3, _ => exact .inr (.inr (.inr (by simpa using e.symm)))
  · rintro (h | h | h | h)
    · exact ⟨0, by simp, by simp [h]⟩
    · exact ⟨1, by simp, by simp [h]⟩
    · exact ⟨2, by simp, by simp [h]⟩
    · exact ⟨3, by simp, by simp [h]⟩

theorem xlook_c (N : Int) (m : List Int) (p : Int) (hm : m.length ≤ 1000000000000000) : FnC Try.prog 28 [gp N m, .int .i64 p] (fl (xf N m p)) := by
  refine fnc_of tab_ok Try.func28 rfl (by kernel_rfl) (by rw [Try.ntmps28]; exact Nat.le_add_left 2 _) ?_; rw [Try.ntmps28]
  refine qm ?_
  refine hk_region fun K hK => runs_eval tab_ok ?_
  simp only [ev0, evA, evB, evP, fl, gp, tab, simprocAttr, reduceCtorEq, reduceIte]
  refine fin_run ?_ (hK _ ?_) <;> clear hK <;> clear K
  · (first | exact trivial | omega | (simp only [In64] at *; omega) | (simp [In64] at *; omega) | (simp_all; done) | skip)
  refine qa (qm (qm ?_))
  refine hk_region fun K hK => runs_eval tab_ok ?_
  simp only [ev0, evA, evB, evP, fl, gp, tab, simprocAttr, reduceCtorEq, reduceIte]
  refine fin_stop trivial (runs_call (check_c N m hm) rfl rfl rfl (by simp only [dstOk, Nat.reduceLT]) (by repeat (first | exact trivial | constructor)) (runs_eval tab_ok ?_))
  simp only [ev0, evA, evB, evP, fl, gp, tab, simprocAttr, reduceCtorEq, reduceIte]
  refine fin_run ?_ (hK _ ?_) <;> clear hK <;> clear K
  · (first | exact trivial | omega | (simp only [In64] at *; omega) | (simp [In64] at *; omega) | (simp_all; done) | skip)
  refine qa (qm ?_)
  refine hk_region fun K hK => runs_eval tab_ok ?_
  simp only [ev0, evA, evB, evP, fl, gp, tab, simprocAttr, reduceCtorEq, reduceIte]
  refine fin_run ?_ (hK _ ?_) <;> clear hK <;> clear K
  · (first | exact trivial | omega | (simp only [In64] at *; omega) | (simp [In64] at *; omega) | (simp_all; done) | skip)
  refine qa ?_
  refine hk_cond rfl (fun hC1 => ?_) (fun hC1 => ?_)
  · (try simp only [nhs] at hC1)
    refine qm ?_
    refine hk_region fun K hK => runs_eval tab_ok ?_
    simp only [ev0, evA, evB, evP, fl, gp, tab, simprocAttr, reduceCtorEq, reduceIte]
    refine fin_run ?_ (hK _ ?_) <;> clear hK <;> clear K
    · (first | exact trivial | omega | (simp only [In64] at *; omega) | (simp [In64] at *; omega) | (simp_all; done) | skip)
    refine qa (qk (qb ?_))
    simp only [Try.results28, enA, ev0, evA, evB, evP, fl, gp, tab, simprocAttr, reduceCtorEq, reduceIte]
    all_goals (unfold xf; rw [if_pos hC1]; simp)
  · (try simp only [nhs] at hC1)
    refine qh (qa (qm (qm ?_)))
    refine hk_region fun K hK => runs_eval tab_ok ?_
    simp only [ev0, evA, evB, evP, fl, gp, tab, simprocAttr, reduceCtorEq, reduceIte]
    refine fin_run ?_ (hK _ ?_) <;> clear hK <;> clear K
    · (first | exact trivial | omega | (simp only [In64] at *; omega) | (simp [In64] at *; omega) | (simp_all; done) | skip)
    refine qa ?_
    refine hk_cond rfl (fun hC2 => ?_) (fun hC2 => ?_)
    · (try simp only [nhs] at hC2)
      refine qm ?_
      refine hk_region fun K hK => runs_eval tab_ok ?_
      simp only [ev0, evA, evB, evP, fl, gp, tab, simprocAttr, reduceCtorEq, reduceIte]
      refine fin_stop trivial (runs_call (xfault_c 2 0) rfl rfl rfl (by simp only [dstOk, Nat.reduceLT]) (by repeat (first | exact trivial | constructor)) (runs_eval tab_ok ?_))
      simp only [ev0, evA, evB, evP, fl, gp, tab, simprocAttr, reduceCtorEq, reduceIte]
      refine fin_run ?_ (hK _ ?_) <;> clear hK <;> clear K
      · (first | exact trivial | omega | (simp only [In64] at *; omega) | (simp [In64] at *; omega) | (simp_all; done) | skip)
      refine qa (qk (qb ?_))
      simp only [Try.results28, enA, ev0, evA, evB, evP, fl, gp, tab, simprocAttr, reduceCtorEq, reduceIte]
      all_goals (unfold xf; rw [if_neg (by simpa using hC1), if_pos hC2]; simp)
    · (try simp only [nhs] at hC2)
      refine qh (qa (qm (qm ?_)))
      refine hk_region fun K hK => runs_eval tab_ok ?_
      simp only [ev0, evA, evB, evP, fl, gp, tab, simprocAttr, reduceCtorEq, reduceIte]
      refine fin_stop trivial (runs_call (FnC.sub (args' := [.nn (il [2, 3, 5, 7]), .int .i64 p]) (contains_c [2, 3, 5, 7] p (by decide)) (And.intro (.nn _) (And.intro (.same _) trivial))) rfl rfl rfl (by simp only [dstOk, Nat.reduceLT]) (by repeat (first | exact trivial | constructor)) (runs_eval tab_ok ?_))
      simp only [ev0, evA, evB, evP, fl, gp, tab, simprocAttr, reduceCtorEq, reduceIte]
      refine fin_run ?_ (hK _ ?_) <;> clear hK <;> clear K
      · (first | exact trivial | omega | (simp only [In64] at *; omega) | (simp [In64] at *; omega) | (simp_all; done) | skip)
      refine qa ?_
      refine hk_cond rfl (fun hC3 => ?_) (fun hC3 => ?_)
      · (try simp only [nhs] at hC3)
        refine qm ?_
        refine hk_region fun K hK => runs_eval tab_ok ?_
        simp only [ev0, evA, evB, evP, fl, gp, tab, simprocAttr, reduceCtorEq, reduceIte]
        refine fin_stop trivial (runs_call (xfault_c 3 1) rfl rfl rfl (by simp only [dstOk, Nat.reduceLT]) (by repeat (first | exact trivial | constructor)) (runs_eval tab_ok ?_))
        simp only [ev0, evA, evB, evP, fl, gp, tab, simprocAttr, reduceCtorEq, reduceIte]
        refine fin_run ?_ (hK _ ?_) <;> clear hK <;> clear K
        · (first | exact trivial | omega | (simp only [In64] at *; omega) | (simp [In64] at *; omega) | (simp_all; done) | skip)
        refine qa (qk (qb ?_))
        simp only [Try.results28, enA, ev0, evA, evB, evP, fl, gp, tab, simprocAttr, reduceCtorEq, reduceIte]
        all_goals (unfold xf; rw [if_neg (by simpa using hC1), if_neg hC2, if_pos (by rw [← ix4]; exact hC3)]; simp)
      · (try simp only [nhs] at hC3)
        refine qh (qa (qm ?_))
        refine hk_region fun K hK => runs_eval tab_ok ?_
        simp only [ev0, evA, evB, evP, fl, gp, tab, simprocAttr, reduceCtorEq, reduceIte]
        refine fin_run ?_ (hK _ ?_) <;> clear hK <;> clear K
        · (first | exact trivial | omega | (simp only [In64] at *; omega) | (simp [In64] at *; omega) | (simp_all; done) | skip)
        refine qa (qk ?_)
        simp only [Try.results28, enA, ev0, evA, evB, evP, fl, gp, tab, simprocAttr, reduceCtorEq, reduceIte]
        all_goals (unfold xf; rw [if_neg (by simpa using hC1), if_neg hC2, if_neg (by rw [← ix4]; simpa using hC3)]; simp)

theorem xf_ok {N : Int} {m : List Int} {p : Int} (h : (xf N m p).1 = 0) : ∃ (n e q : Nat), GT N m n e ∧ n ≤ 12 ∧ p = (q : Int) ∧ pr q ∧ xf N m p = (0, 0) := by
  unfold xf at h ⊢
  by_cases h1 : (gf N m).1 = 0
  · rw [if_neg (by simpa using h1)] at h ⊢
    by_cases h2 : N > 12
    · rw [if_pos h2] at h; simp at h
    · rw [if_neg h2] at h ⊢
      by_cases h3 : p = 2 ∨ p = 3 ∨ p = 5 ∨ p = 7
      · rw [if_neg (fun h => h h3)]
        obtain ⟨n, e, hg, _⟩ := gf_ok h1
        obtain rfl := hg.1
        exact ⟨n, e, p.toNat, hg, by omega, by omega, by unfold pr; omega, rfl⟩
      · rw [if_pos h3] at h; simp at h
  · rw [if_pos h1] at h; exact absurd h h1

theorem xf_of {n e : Nat} {m : List Int} {q : Nat} (h : GT n m n e) (hn : n ≤ 12) (hq : pr q) : xf n m q = (0, 0) := by
  unfold xf
  rw [if_neg (by rw [gf_of h]; simp), if_neg (by omega), if_neg (by unfold pr at hq; omega)]

/-! ### Cocycles -/

/-- A list, as a rule of two things. -/
def F2 (n : Nat) (f : List Int) (a b : Nat) : Int := f.getD (a * n + b) 0

def coc (n : Nat) (m : List Int) (p : Nat) (f : List Int) (a b c : Nat) : Prop :=
  (F2 n f b c + F2 n f a (op m n b c)) % (p : Int) = (F2 n f (op m n a b) c + F2 n f a b) % (p : Int)
instance (n : Nat) (m : List Int) (p : Nat) (f : List Int) (a b c : Nat) : Decidable (coc n m p f a b c) := by unfold coc; infer_instance
def cocA (n : Nat) (m : List Int) (p : Nat) (f : List Int) (a : Nat) : Prop := ∀ b, b < n → ∀ c, c < n → coc n m p f a b c
instance (n : Nat) (m : List Int) (p : Nat) (f : List Int) (a : Nat) : Decidable (cocA n m p f a) := by unfold cocA; infer_instance

theorem emod_iff {p : Int} (x y : Int) : x % p = y % p ↔ p ∣ x - y := by
  rw [Int.emod_eq_emod_iff_emod_sub_eq_zero, Int.dvd_iff_emod_eq_zero]

theorem coc_iff {n : Nat} {m : List Int} {p : Nat} {f : List Int} {a b c : Nat} (hp : 0 < p) :
    Int.tmod (F2 n f b c - F2 n f (op m n a b) c + F2 n f a (op m n b c) - F2 n f a b) p = 0 ↔ coc n m p f a b c := by
  unfold coc
  rw [emod_iff, ← Int.dvd_iff_tmod_eq_zero]
  rw [show F2 n f b c + F2 n f a (op m n b c) - (F2 n f (op m n a b) c + F2 n f a b) = F2 n f b c - F2 n f (op m n a b) c + F2 n f a (op m n b c) - F2 n f a b by omega]

def clI (n : Nat) (m : List Int) (p : Nat) (f : List Int) : Int := match fst' (fun a => decide (¬ cocA n m p f a)) n with | some a => (a : Int) | none => -1

theorem closed_x {n e p : Nat} {m : List Int} (h : GT n m n e) (hn : n ≤ 12) (hp : pr p) (f : List Int) (hf : f.length = n * n) (hr : rng p f) :
    FnC Try.prog 44 [gp n m, .int .i64 p, .list (il f)] (.int .i64 (clI n m p f)) := by
  have T := h.2.1
  have hp2 := hp.le
  have hsq : n * n ≤ 144 := Nat.mul_le_mul hn hn
  have hF : ∀ {a b}, a < n → b < n → 0 ≤ F2 n f a b ∧ F2 n f a b < p := fun ha hb => hr _ (by have := at_lt ha hb; omega)
  have hgt : ∀ {a b}, a < n → b < n → (il f).getD (a * n + b) default = .int .i64 (F2 n f a b) := fun ha hb => il_get (by have := at_lt ha hb; omega)
  refine fnc_of tab_ok Try.func44 rfl (by kernel_rfl) (by rw [Try.ntmps44]; exact Nat.le_add_left 3 _) ?_; rw [Try.ntmps44]
  refine qm ?_
  refine hk_region fun K hK => runs_eval tab_ok ?_
  simp only [ev0, evA, evB, evP, fl, gp, tab, simprocAttr, reduceCtorEq, reduceIte]
  refine fin_run ?_ (hK _ ?_) <;> clear hK <;> clear K
  · (first | exact trivial | omega | (simp only [In64] at *; omega) | (simp [In64] at *; omega) | (simp_all; done) | skip)
  refine qa (qm (qm ?_))
  refine hk_region fun K hK => runs_eval tab_ok ?_
  simp only [ev0, evA, evB, evP, fl, gp, tab, simprocAttr, reduceCtorEq, reduceIte]
  refine fin_run ?_ (hK _ ?_) <;> clear hK <;> clear K
  · (first | exact trivial | omega | (simp only [In64] at *; omega) | (simp [In64] at *; omega) | (simp_all; done) | skip)
  refine qa (ql ?_)
  refine hk_loop (ι := Nat) (fun a => ⟨79, [(1, .p (.int .i64 p)), (2, .p (.list (il f))), (3, .ptr 0 0), (12, .p (.int .i64 n)), (13, .p (.int .i64 a))], [.own [.p (.int .i64 n), .p (.list (il m))]]⟩) (fun a => a ≤ n ∧ ∀ j, j < a → cocA n m p f j) (fun a => n - a) 0 ⟨Nat.zero_le _, fun j hj => by omega⟩ [0] (by simp only [leq, leA, ev0, evA, evB, evP, fl, gp, tab, simprocAttr, reduceCtorEq, reduceIte] <;> trivial) fun a ha => ?_
  obtain ⟨ha1, ha2⟩ := ha
  refine qm ?_
  refine hk_region fun K hK => runs_eval tab_ok ?_
  simp only [ev0, evA, evB, evP, fl, gp, tab, simprocAttr, reduceCtorEq, reduceIte]
  refine fin_run trivial (hK _ ?_) <;> clear hK <;> clear K
  refine qa (qm ?_)
  refine hk_cond rfl (fun hC1 => ?_) (fun hC1 => ?_)
  · (try simp only [nhs] at hC1)
    have hal : a < n := by omega
    refine qh (qa (qm (ql (qm ?_))))
    refine hk_region fun K hK => runs_eval tab_ok ?_
    simp only [ev0, evA, evB, evP, fl, gp, tab, simprocAttr, reduceCtorEq, reduceIte]
    refine fin_run trivial (hK _ ?_) <;> clear hK <;> clear K
    refine qa (qm ?_)
    refine hk_region fun K hK => runs_eval tab_ok ?_
    simp only [ev0, evA, evB, evP, fl, gp, tab, simprocAttr, reduceCtorEq, reduceIte]
    refine fin_run ?_ (hK _ ?_) <;> clear hK <;> clear K
    · (first | exact trivial | omega | (simp only [In64] at *; omega) | (simp [In64] at *; omega) | (simp_all; done) | skip)
    refine qa (ql ?_)
    refine hk_loop (ι := Nat) (fun b => ⟨79, [(1, .p (.int .i64 p)), (2, .p (.list (il f))), (3, .ptr 0 0), (7, .p (.int .i64 a)), (12, .p (.int .i64 n)), (13, .p (.int .i64 a)), (17, .p (.int .i64 n)), (18, .p (.int .i64 b))], [.own [.p (.int .i64 n), .p (.list (il m))]]⟩) (fun b => b ≤ n ∧ ∀ j, j < b → ∀ c, c < n → coc n m p f a j c) (fun b => n - b) 0 ⟨Nat.zero_le _, fun j hj => by omega⟩ [0] (by simp only [leq, leA, ev0, evA, evB, evP, fl, gp, tab, simprocAttr, reduceCtorEq, reduceIte] <;> trivial) fun b hb => ?_
    obtain ⟨hb1, hb2⟩ := hb
    refine qm ?_
    refine hk_region fun K hK => runs_eval tab_ok ?_
    simp only [ev0, evA, evB, evP, fl, gp, tab, simprocAttr, reduceCtorEq, reduceIte]
    refine fin_run trivial (hK _ ?_) <;> clear hK <;> clear K
    refine qa (qm ?_)
    refine hk_cond rfl (fun hC2 => ?_) (fun hC2 => ?_)
    · (try simp only [nhs] at hC2)
      have hbl : b < n := by omega
      refine qh (qa (qm (ql (qm ?_))))
      refine hk_region fun K hK => runs_eval tab_ok ?_
      simp only [ev0, evA, evB, evP, fl, gp, tab, simprocAttr, reduceCtorEq, reduceIte]
      refine fin_run trivial (hK _ ?_) <;> clear hK <;> clear K
      refine qa (qm ?_)
      refine hk_region fun K hK => runs_eval tab_ok ?_
      simp only [ev0, evA, evB, evP, fl, gp, tab, simprocAttr, reduceCtorEq, reduceIte]
      refine fin_run ?_ (hK _ ?_) <;> clear hK <;> clear K
      · (first | exact trivial | omega | (simp only [In64] at *; omega) | (simp [In64] at *; omega) | (simp_all; done) | skip)
      refine qa (ql ?_)
      refine hk_loop (ι := Nat) (fun c => ⟨79, [(1, .p (.int .i64 p)), (2, .p (.list (il f))), (3, .ptr 0 0), (7, .p (.int .i64 a)), (8, .p (.int .i64 b)), (12, .p (.int .i64 n)), (13, .p (.int .i64 a)), (17, .p (.int .i64 n)), (18, .p (.int .i64 b)), (22, .p (.int .i64 n)), (23, .p (.int .i64 c))], [.own [.p (.int .i64 n), .p (.list (il m))]]⟩) (fun c => c ≤ n ∧ ∀ j, j < c → coc n m p f a b j) (fun c => n - c) 0 ⟨Nat.zero_le _, fun j hj => by omega⟩ [0] (by simp only [leq, leA, ev0, evA, evB, evP, fl, gp, tab, simprocAttr, reduceCtorEq, reduceIte] <;> trivial) fun c hc => ?_
      obtain ⟨hc1, hc2⟩ := hc
      refine qm ?_
      refine hk_region fun K hK => runs_eval tab_ok ?_
      simp only [ev0, evA, evB, evP, fl, gp, tab, simprocAttr, reduceCtorEq, reduceIte]
      refine fin_run trivial (hK _ ?_) <;> clear hK <;> clear K
      refine qa (qm ?_)
      refine hk_cond rfl (fun hC3 => ?_) (fun hC3 => ?_)
      · (try simp only [nhs] at hC3)
        have hcl : c < n := by omega
        have hab := T.lt hal hbl
        have hbc := T.lt hbl hcl
        have e1 := at_lt hbl hcl
        have e2 := at_lt hab hcl
        have e3 := at_lt hal hbc
        have e4 := at_lt hal hbl
        have b1 := hF hbl hcl
        have b2 := hF hab hcl
        have b3 := hF hal hbc
        have b4 := hF hal hbl
        have c1 : (b : Int) * (n : Int) = ((b * n : Nat) : Int) := (Int.natCast_mul b n).symm
        have c2 : ((op m n a b : Nat) : Int) * (n : Int) = ((op m n a b * n : Nat) : Int) := (Int.natCast_mul _ n).symm
        have c3 : (a : Int) * (n : Int) = ((a * n : Nat) : Int) := (Int.natCast_mul a n).symm
        refine qh (qa (qm (ql (qm ?_))))
        refine hk_region fun K hK => runs_eval tab_ok ?_
        simp only [ev0, evA, evB, evP, fl, gp, tab, simprocAttr, reduceCtorEq, reduceIte]
        refine fin_run trivial (hK _ ?_) <;> clear hK <;> clear K
        refine qa (qm ?_)
        refine hk_draw mixed (by kernel_rfl) fun K hK => runs_eval tab_ok ?_
        simp only [ev0, evA, evB, evP, fl, gp, tab, simprocAttr, reduceCtorEq, reduceIte, at_nat, hgt hbl hcl, hgt hab hcl, hgt hal hbc, hgt hal hbl]
        refine fin_stop ?_ (runs_call (of_c T hal hbl) rfl rfl rfl (by simp only [dstOk, Nat.reduceLT]) (by repeat (first | exact trivial | constructor)) (runs_eval tab_ok ?_))
        · simp only [c1, In64]; omega
        simp only [ev0, evA, evB, evP, fl, gp, tab, simprocAttr, reduceCtorEq, reduceIte, at_nat, hgt hbl hcl, hgt hab hcl, hgt hal hbc, hgt hal hbl]
        refine fin_stop ?_ (runs_call (of_c T hbl hcl) rfl rfl rfl (by simp only [dstOk, Nat.reduceLT]) (by repeat (first | exact trivial | constructor)) (runs_eval tab_ok ?_))
        · simp only [c2, c3, In64]; omega
        simp only [ev0, evA, evB, evP, fl, gp, tab, simprocAttr, reduceCtorEq, reduceIte, at_nat, hgt hbl hcl, hgt hab hcl, hgt hal hbc, hgt hal hbl]
        refine fin_run ?_ (hK _ ?_) <;> clear hK <;> clear K
        · simp only [c3, In64]; omega
        refine qa (qm ?_)
        refine hk_region fun K hK => runs_eval tab_ok ?_
        simp only [ev0, evA, evB, evP, fl, gp, tab, simprocAttr, reduceCtorEq, reduceIte]
        refine fin_run ?_ (hK _ ?_) <;> clear hK <;> clear K
        · (first | exact trivial | omega | (simp only [In64] at *; omega) | (simp [In64] at *; omega) | (simp_all; done) | skip)
        refine qa ?_
        refine hk_cond rfl (fun hC4 => ?_) (fun hC4 => ?_)
        · (try simp only [nhs] at hC4)
          refine qm ?_
          refine hk_region fun K hK => runs_eval tab_ok ?_
          simp only [ev0, evA, evB, evP, fl, gp, tab, simprocAttr, reduceCtorEq, reduceIte]
          refine fin_run trivial (hK _ ?_) <;> clear hK <;> clear K
          refine qa (qk (qe (qb (qb (qe (qe (qb (qb (qe (qe (qb (qb (qe (qb ?_))))))))))))))
          simp only [Try.results44, enA, ev0, evA, evB, evP, fl, gp, tab, simprocAttr, reduceCtorEq, reduceIte]
          all_goals (unfold clI; rw [fst_some (p := fun a => decide (¬ cocA n m p f a)) hal (decide_eq_true fun hh => hC4 ((coc_iff (by omega)).2 (hh b hbl c hcl))) fun j hj => decide_eq_false (by simpa using ha2 j hj)])
        · (try simp only [nhs] at hC4)
          have hok : coc n m p f a b c := (coc_iff (by omega)).1 (by simpa using hC4)
          refine qh (qd (qa ?_))
          refine hk_region fun K hK => runs_eval tab_ok ?_
          simp only [ev0, evA, evB, evP, fl, gp, tab, simprocAttr, reduceCtorEq, reduceIte]
          refine fin_run ?_ (hK _ ?_) <;> clear hK <;> clear K
          · (first | exact trivial | omega | (simp only [In64] at *; omega) | (simp [In64] at *; omega) | (simp_all; done) | skip)
          refine qa ?_
          refine ⟨c + 1, [0], ⟨by omega, fun j hj => ?_⟩, by omega, ?_⟩
          · by_cases hj : j = c
            · subst hj; exact hok
            · exact hc2 j (by omega)
          · simp only [leq, leA, ev0, evA, evB, evP, fl, gp, tab, simprocAttr, reduceCtorEq, reduceIte] <;> omega
      · (try simp only [nhs] at hC3)
        refine qj (qc (qc (qf (qd (qa ?_)))))
        refine hk_region fun K hK => runs_eval tab_ok ?_
        simp only [ev0, evA, evB, evP, fl, gp, tab, simprocAttr, reduceCtorEq, reduceIte]
        refine fin_run ?_ (hK _ ?_) <;> clear hK <;> clear K
        · (first | exact trivial | omega | (simp only [In64] at *; omega) | (simp [In64] at *; omega) | (simp_all; done) | skip)
        refine qa ?_
        refine ⟨b + 1, [0], ⟨by omega, fun j hj => ?_⟩, by omega, ?_⟩
        · by_cases hj : j = b
          · subst hj; exact fun q hq => hc2 q (by omega)
          · exact hb2 j (by omega)
        · simp only [leq, leA, ev0, evA, evB, evP, fl, gp, tab, simprocAttr, reduceCtorEq, reduceIte] <;> omega
    · (try simp only [nhs] at hC2)
      refine qj (qc (qc (qf (qd (qa ?_)))))
      refine hk_region fun K hK => runs_eval tab_ok ?_
      simp only [ev0, evA, evB, evP, fl, gp, tab, simprocAttr, reduceCtorEq, reduceIte]
      refine fin_run ?_ (hK _ ?_) <;> clear hK <;> clear K
      · (first | exact trivial | omega | (simp only [In64] at *; omega) | (simp [In64] at *; omega) | (simp_all; done) | skip)
      refine qa ?_
      refine ⟨a + 1, [0], ⟨by omega, fun j hj => ?_⟩, by omega, ?_⟩
      · by_cases hj : j = a
        · subst hj; exact fun q hq => hb2 q (by omega)
        · exact ha2 j (by omega)
      · simp only [leq, leA, ev0, evA, evB, evP, fl, gp, tab, simprocAttr, reduceCtorEq, reduceIte] <;> omega
  · (try simp only [nhs] at hC1)
    refine qj (qc (qc (qf (qa (qm ?_)))))
    refine hk_region fun K hK => runs_eval tab_ok ?_
    simp only [ev0, evA, evB, evP, fl, gp, tab, simprocAttr, reduceCtorEq, reduceIte]
    refine fin_run trivial (hK _ ?_) <;> clear hK <;> clear K
    refine qa (qk ?_)
    simp only [Try.results44, enA, ev0, evA, evB, evP, fl, gp, tab, simprocAttr, reduceCtorEq, reduceIte]
    all_goals (unfold clI; rw [fst_none (p := fun a => decide (¬ cocA n m p f a)) fun j hj => decide_eq_false (by simpa using ha2 j (by omega))])

/-- The fault of a list. -/
def cf (n : Nat) (m : List Int) (p : Nat) (f : List Int) : Int × Int :=
  if ¬ f.length = n * n then (8, 0)
  else match fst' (fun i => decide (f.getD i 0 < 0 ∨ f.getD i 0 ≥ p)) f.length with
    | some i => (5, (i : Int))
    | none => match fst' (fun a => decide (¬ cocA n m p f a)) n with | some a => (7, (a : Int)) | none => (0, 0)

theorem cf_8 {n : Nat} {m : List Int} {p : Nat} {f : List Int} (h : ¬ f.length = n * n) : cf n m p f = (8, 0) := by unfold cf; rw [if_pos h]
theorem cf_5 {n : Nat} {m : List Int} {p : Nat} {f : List Int} {i : Nat} (h : f.length = n * n) (hi : i < f.length) (h1 : f.getD i 0 < 0 ∨ f.getD i 0 ≥ p) (h2 : ∀ j, j < i → 0 ≤ f.getD j 0 ∧ f.getD j 0 < p) : cf n m p f = (5, (i : Int)) := by
  unfold cf
  rw [if_neg (by simpa using h), fst_some (p := fun i => decide (f.getD i 0 < 0 ∨ f.getD i 0 ≥ p)) hi (decide_eq_true h1) fun j hj => decide_eq_false (by have := h2 j hj; omega)]
theorem cf_r {n : Nat} {m : List Int} {p : Nat} {f : List Int} (h : f.length = n * n) (h2 : rng p f) : cf n m p f = match fst' (fun a => decide (¬ cocA n m p f a)) n with | some a => (7, (a : Int)) | none => (0, 0) := by
  unfold cf
  rw [if_neg (by simpa using h), fst_none (p := fun i => decide (f.getD i 0 < 0 ∨ f.getD i 0 ≥ p)) fun j hj => decide_eq_false (by have := h2 j hj; omega)]
theorem cf_0 {n : Nat} {m : List Int} {p : Nat} {f : List Int} (h : (cf n m p f).1 = 0) : f.length = n * n ∧ rng p f ∧ (∀ a, a < n → cocA n m p f a) ∧ cf n m p f = (0, 0) := by
  by_cases h1 : f.length = n * n
  · have hr : rng p f := by
      unfold cf at h
      rw [if_neg (by simpa using h1)] at h
      cases h2 : fst' (fun i => decide (f.getD i 0 < 0 ∨ f.getD i 0 ≥ p)) f.length with
      | some i => rw [h2] at h; simp at h
      | none =>
        intro t ht
        have := of_decide_eq_false (fst_spec0 h2 t ht)
        omega
    rw [cf_r h1 hr] at h ⊢
    cases h3 : fst' (fun a => decide (¬ cocA n m p f a)) n with
    | some a => rw [h3] at h; simp at h
    | none => exact ⟨h1, hr, fun a ha => Classical.not_not.1 (of_decide_eq_false (fst_spec0 h3 a ha)), rfl⟩
  · rw [cf_8 h1] at h; simp at h
theorem cf_of {n : Nat} {m : List Int} {p : Nat} {f : List Int} (h1 : f.length = n * n) (h2 : rng p f) (h3 : ∀ a, a < n → cocA n m p f a) : cf n m p f = (0, 0) := by
  rw [cf_r h1 h2, fst_none (p := fun a => decide (¬ cocA n m p f a)) fun j hj => decide_eq_false (by simpa using h3 j hj)]

theorem xlist_c {n e p : Nat} {m : List Int} (h : GT n m n e) (hn : n ≤ 12) (hp : pr p) (f : List Int) (hf : f.length ≤ 1000000000000000) :
    FnC Try.prog 33 [gp n m, .int .i64 p, .list (il f)] (fl (cf n m p f)) := by
  have hsq : n * n ≤ 144 := Nat.mul_le_mul hn hn
  have c1 : (n : Int) * (n : Int) = ((n * n : Nat) : Int) := (Int.natCast_mul n n).symm
  refine fnc_of tab_ok Try.func33 rfl (by kernel_rfl) (by rw [Try.ntmps33]; exact Nat.le_add_left 3 _) ?_; rw [Try.ntmps33]
  refine qm ?_
  refine hk_region fun K hK => runs_eval tab_ok ?_
  simp only [ev0, evA, evB, evP, fl, gp, tab, simprocAttr, reduceCtorEq, reduceIte]
  refine fin_run ?_ (hK _ ?_) <;> clear hK <;> clear K
  · (first | exact trivial | omega | (simp only [In64] at *; omega) | (simp [In64] at *; omega) | (simp_all; done) | skip)
  refine qa (qm (qm ?_))
  refine hk_region fun K hK => runs_eval tab_ok ?_
  simp only [ev0, evA, evB, evP, fl, gp, tab, simprocAttr, reduceCtorEq, reduceIte]
  refine fin_run ?_ (hK _ ?_) <;> clear hK <;> clear K
  · rw [c1]; simp only [In64]; omega
  refine qa ?_
  refine hk_cond rfl (fun hC1 => ?_) (fun hC1 => ?_)
  · (try simp only [nhs] at hC1)
    have hne : ¬ f.length = n * n := by omega
    refine qm ?_
    refine hk_region fun K hK => runs_eval tab_ok ?_
    simp only [ev0, evA, evB, evP, fl, gp, tab, simprocAttr, reduceCtorEq, reduceIte]
    refine fin_stop trivial (runs_call (xfault_c 8 0) rfl rfl rfl (by simp only [dstOk, Nat.reduceLT]) (by repeat (first | exact trivial | constructor)) (runs_eval tab_ok ?_))
    simp only [ev0, evA, evB, evP, fl, gp, tab, simprocAttr, reduceCtorEq, reduceIte]
    refine fin_run ?_ (hK _ ?_) <;> clear hK <;> clear K
    · (first | exact trivial | omega | (simp only [In64] at *; omega) | (simp [In64] at *; omega) | (simp_all; done) | skip)
    refine qa (qk (qb ?_))
    simp only [Try.results33, enA, ev0, evA, evB, evP, fl, gp, tab, simprocAttr, reduceCtorEq, reduceIte]
    all_goals (rw [cf_8 hne]; simp)
  · (try simp only [nhs] at hC1)
    have hfl : f.length = n * n := by omega
    refine qh (qa (qm (qm ?_)))
    refine hk_region fun K hK => runs_eval tab_ok ?_
    simp only [ev0, evA, evB, evP, fl, gp, tab, simprocAttr, reduceCtorEq, reduceIte]
    refine fin_run trivial (hK _ ?_) <;> clear hK <;> clear K
    refine qa (ql ?_)
    refine hk_loop (ι := Nat) (fun i => ⟨45, [(1, .p (.int .i64 p)), (2, .p (.list (il f))), (3, .ptr 0 0), (6, .ptr 1 0), (19, .p (.list (il f))), (20, .p (.int .i64 f.length)), (21, .p (.int .i64 i))], [.own [.p (.int .i64 n), .p (.list (il m))], .own [.p (.int .i64 0), .p (.int .i64 0)]]⟩) (fun i => i ≤ f.length ∧ ∀ j, j < i → 0 ≤ f.getD j 0 ∧ f.getD j 0 < p) (fun i => f.length - i) 0 ⟨Nat.zero_le _, fun j hj => by omega⟩ [0, 1] (by simp only [leq, leA, ev0, evA, evB, evP, fl, gp, tab, simprocAttr, reduceCtorEq, reduceIte] <;> trivial) fun i hi => ?_
    obtain ⟨hi1, hi2⟩ := hi
    refine qm ?_
    refine hk_region fun K hK => runs_eval tab_ok ?_
    simp only [ev0, evA, evB, evP, fl, gp, tab, simprocAttr, reduceCtorEq, reduceIte]
    refine fin_run trivial (hK _ ?_) <;> clear hK <;> clear K
    refine qa (qm ?_)
    refine hk_cond rfl (fun hC2 => ?_) (fun hC2 => ?_)
    · (try simp only [nhs] at hC2)
      have hlt : i < f.length := by omega
      refine qh (qa (qm (ql (qm ?_))))
      refine hk_region fun K hK => runs_eval tab_ok ?_
      simp only [ev0, evA, evB, evP, fl, gp, tab, simprocAttr, reduceCtorEq, reduceIte, il_get hlt]
      refine fin_run ?_ (hK _ ?_) <;> clear hK <;> clear K
      · (first | exact trivial | omega | (simp only [In64] at *; omega) | (simp [In64] at *; omega) | (simp_all; done) | skip)
      refine qa (qm ?_)
      by_cases g6a : f.getD i 0 < 0
      · refine hk_region fun K hK => runs_eval tab_ok ?_
        simp only [ev0, evA, evB, evP, fl, gp, tab, simprocAttr, reduceCtorEq, reduceIte, decide_eq_true g6a]
        refine fin_run trivial (hK _ ?_) <;> clear hK <;> clear K
        refine qa ?_
        refine hk_cond rfl (fun hC3 => ?_) (fun hC3 => ?_)
        · refine qm ?_
          refine hk_region fun K hK => runs_eval tab_ok ?_
          simp only [ev0, evA, evB, evP, fl, gp, tab, simprocAttr, reduceCtorEq, reduceIte]
          refine fin_stop trivial (runs_call (xfault_c 5 i) rfl rfl rfl (by simp only [dstOk, Nat.reduceLT]) (by repeat (first | exact trivial | constructor)) (runs_eval tab_ok ?_))
          simp only [ev0, evA, evB, evP, fl, gp, tab, simprocAttr, reduceCtorEq, reduceIte]
          refine fin_run ?_ (hK _ ?_) <;> clear hK <;> clear K
          · (first | exact trivial | omega | (simp only [In64] at *; omega) | (simp [In64] at *; omega) | (simp_all; done) | skip)
          refine qa (qk (qe (qb (qb (qe (qb ?_))))))
          simp only [Try.results33, enA, ev0, evA, evB, evP, fl, gp, tab, simprocAttr, reduceCtorEq, reduceIte]
          all_goals (rw [cf_5 hfl hlt (.inl g6a) hi2]; simp)
        · cases hC3
      · refine hk_region fun K hK => runs_eval tab_ok ?_
        simp only [ev0, evA, evB, evP, fl, gp, tab, simprocAttr, reduceCtorEq, reduceIte, decide_eq_false g6a]
        refine fin_run trivial (hK _ ?_) <;> clear hK <;> clear K
        refine qa ?_
        refine hk_cond rfl (fun hC3 => ?_) (fun hC3 => ?_)
        · (try simp only [nhs] at hC3)
          refine qm ?_
          refine hk_region fun K hK => runs_eval tab_ok ?_
          simp only [ev0, evA, evB, evP, fl, gp, tab, simprocAttr, reduceCtorEq, reduceIte]
          refine fin_stop trivial (runs_call (xfault_c 5 i) rfl rfl rfl (by simp only [dstOk, Nat.reduceLT]) (by repeat (first | exact trivial | constructor)) (runs_eval tab_ok ?_))
          simp only [ev0, evA, evB, evP, fl, gp, tab, simprocAttr, reduceCtorEq, reduceIte]
          refine fin_run ?_ (hK _ ?_) <;> clear hK <;> clear K
          · (first | exact trivial | omega | (simp only [In64] at *; omega) | (simp [In64] at *; omega) | (simp_all; done) | skip)
          refine qa (qk (qe (qb (qb (qe (qb ?_))))))
          simp only [Try.results33, enA, ev0, evA, evB, evP, fl, gp, tab, simprocAttr, reduceCtorEq, reduceIte]
          all_goals (rw [cf_5 hfl hlt (.inr hC3) hi2]; simp)
        · (try simp only [nhs] at hC3)
          refine qh (qd (qa ?_))
          refine hk_region fun K hK => runs_eval tab_ok ?_
          simp only [ev0, evA, evB, evP, fl, gp, tab, simprocAttr, reduceCtorEq, reduceIte]
          refine fin_run ?_ (hK _ ?_) <;> clear hK <;> clear K
          · (first | exact trivial | omega | (simp only [In64] at *; omega) | (simp [In64] at *; omega) | (simp_all; done) | skip)
          refine qa ?_
          refine ⟨i + 1, [0, 1], ⟨by omega, fun j hj => ?_⟩, by omega, ?_⟩
          · by_cases hj : j = i
            · subst hj; omega
            · exact hi2 j (by omega)
          · simp only [leq, leA, ev0, evA, evB, evP, fl, gp, tab, simprocAttr, reduceCtorEq, reduceIte] <;> first | trivial | omega
    · (try simp only [nhs] at hC2)
      have hr : rng p f := fun t ht => hi2 t (by omega)
      refine qj (qc (qc (qf (qa (qm (qm ?_))))))
      refine hk_region fun K hK => runs_eval tab_ok ?_
      simp only [ev0, evA, evB, evP, fl, gp, tab, simprocAttr, reduceCtorEq, reduceIte]
      refine fin_stop trivial (runs_call (closed_x h hn hp f hfl hr) rfl rfl rfl (by simp only [dstOk, Nat.reduceLT]) (by repeat (first | exact trivial | constructor)) (runs_eval tab_ok ?_))
      simp only [ev0, evA, evB, evP, fl, gp, tab, simprocAttr, reduceCtorEq, reduceIte]
      refine fin_run ?_ (hK _ ?_) <;> clear hK <;> clear K
      · (first | exact trivial | omega | (simp only [In64] at *; omega) | (simp [In64] at *; omega) | (simp_all; done) | skip)
      refine qa (qm ?_)
      refine hk_region fun K hK => runs_eval tab_ok ?_
      simp only [ev0, evA, evB, evP, fl, gp, tab, simprocAttr, reduceCtorEq, reduceIte]
      refine fin_run trivial (hK _ ?_) <;> clear hK <;> clear K
      refine qa ?_
      refine hk_cond rfl (fun hC4 => ?_) (fun hC4 => ?_)
      · (try simp only [nhs] at hC4)
        refine qm ?_
        refine hk_region fun K hK => runs_eval tab_ok ?_
        simp only [ev0, evA, evB, evP, fl, gp, tab, simprocAttr, reduceCtorEq, reduceIte]
        refine fin_stop trivial (runs_call (xfault_c 7 (clI n m p f)) rfl rfl rfl (by simp only [dstOk, Nat.reduceLT]) (by repeat (first | exact trivial | constructor)) (runs_eval tab_ok ?_))
        simp only [ev0, evA, evB, evP, fl, gp, tab, simprocAttr, reduceCtorEq, reduceIte]
        refine fin_run ?_ (hK _ ?_) <;> clear hK <;> clear K
        · (first | exact trivial | omega | (simp only [In64] at *; omega) | (simp [In64] at *; omega) | (simp_all; done) | skip)
        refine qa (qk (qb ?_))
        simp only [Try.results33, enA, ev0, evA, evB, evP, fl, gp, tab, simprocAttr, reduceCtorEq, reduceIte]
        rw [cf_r hfl hr]; unfold clI at hC4 ⊢; cases h3 : fst' (fun a => decide (¬ cocA n m p f a)) n with
        | some a => simp
        | none => rw [h3] at hC4; simp at hC4
      · (try simp only [nhs] at hC4)
        refine qh (qa (qm ?_))
        refine hk_region fun K hK => runs_eval tab_ok ?_
        simp only [ev0, evA, evB, evP, fl, gp, tab, simprocAttr, reduceCtorEq, reduceIte]
        refine fin_run ?_ (hK _ ?_) <;> clear hK <;> clear K
        · (first | exact trivial | omega | (simp only [In64] at *; omega) | (simp [In64] at *; omega) | (simp_all; done) | skip)
        refine qa (qk ?_)
        simp only [Try.results33, enA, ev0, evA, evB, evP, fl, gp, tab, simprocAttr, reduceCtorEq, reduceIte]
        rw [cf_r hfl hr]; unfold clI at hC4; cases h3 : fst' (fun a => decide (¬ cocA n m p f a)) n with
        | some a => rw [h3] at hC4; simp at hC4
        | none => simp

theorem xcheck_no (N : Int) (m : List Int) (p : Int) (f : List Int) (hm : m.length ≤ 1000000000000000) (hx : ¬ (xf N m p).1 = 0) : FnC Try.prog 10 [gp N m, .int .i64 p, .list (il f)] (fl (xf N m p)) := by
  refine fnc_of tab_ok Try.func10 rfl (by kernel_rfl) (by rw [Try.ntmps10]; exact Nat.le_add_left 3 _) ?_; rw [Try.ntmps10]
  refine qm ?_
  refine hk_region fun K hK => runs_eval tab_ok ?_
  simp only [ev0, evA, evB, evP, fl, gp, tab, simprocAttr, reduceCtorEq, reduceIte]
  refine fin_run ?_ (hK _ ?_) <;> clear hK <;> clear K
  · (first | exact trivial | omega | (simp only [In64] at *; omega) | (simp [In64] at *; omega) | (simp_all; done) | skip)
  refine qa (qm (qm ?_))
  refine hk_region fun K hK => runs_eval tab_ok ?_
  simp only [ev0, evA, evB, evP, fl, gp, tab, simprocAttr, reduceCtorEq, reduceIte]
  refine fin_stop trivial (runs_call (xlook_c N m p hm) rfl rfl rfl (by simp only [dstOk, Nat.reduceLT]) (by repeat (first | exact trivial | constructor)) (runs_eval tab_ok ?_))
  simp only [ev0, evA, evB, evP, fl, gp, tab, simprocAttr, reduceCtorEq, reduceIte]
  refine fin_run ?_ (hK _ ?_) <;> clear hK <;> clear K
  · (first | exact trivial | omega | (simp only [In64] at *; omega) | (simp [In64] at *; omega) | (simp_all; done) | skip)
  refine qa (qm ?_)
  refine hk_region fun K hK => runs_eval tab_ok ?_
  simp only [ev0, evA, evB, evP, fl, gp, tab, simprocAttr, reduceCtorEq, reduceIte]
  refine fin_run ?_ (hK _ ?_) <;> clear hK <;> clear K
  · (first | exact trivial | omega | (simp only [In64] at *; omega) | (simp [In64] at *; omega) | (simp_all; done) | skip)
  refine qa ?_
  refine hk_cond rfl (fun hC1 => ?_) (fun hC1 => ?_)
  · (try simp only [nhs] at hC1)
    refine qm ?_
    refine hk_region fun K hK => runs_eval tab_ok ?_
    simp only [ev0, evA, evB, evP, fl, gp, tab, simprocAttr, reduceCtorEq, reduceIte]
    refine fin_run ?_ (hK _ ?_) <;> clear hK <;> clear K
    · (first | exact trivial | omega | (simp only [In64] at *; omega) | (simp [In64] at *; omega) | (simp_all; done) | skip)
    refine qa (qk (qb ?_))
    simp only [Try.results10, enA, ev0, evA, evB, evP, fl, gp, tab, simprocAttr, reduceCtorEq, reduceIte]
    all_goals ((first | exact rfl | exact ⟨rfl, rfl⟩ | exact ⟨rfl, rfl, rfl⟩ | exact ⟨trivial, rfl⟩ | exact ⟨Nat.le_refl _, rfl⟩ | trivial | (simp; done)))
  · (try simp only [nhs] at hC1)
    exact absurd hC1 hx

theorem xcheck_ok {n e p : Nat} {m : List Int} (h : GT n m n e) (hn : n ≤ 12) (hp : pr p) (f : List Int) (hf : f.length ≤ 1000000000000000) : FnC Try.prog 10 [gp n m, .int .i64 p, .list (il f)] (fl (cf n m p f)) := by
  have hsq : n * n ≤ 144 := Nat.mul_le_mul hn hn
  have hml := h.2.1.len
  refine fnc_of tab_ok Try.func10 rfl (by kernel_rfl) (by rw [Try.ntmps10]; exact Nat.le_add_left 3 _) ?_; rw [Try.ntmps10]
  refine qm ?_
  refine hk_region fun K hK => runs_eval tab_ok ?_
  simp only [ev0, evA, evB, evP, fl, gp, tab, simprocAttr, reduceCtorEq, reduceIte]
  refine fin_run ?_ (hK _ ?_) <;> clear hK <;> clear K
  · (first | exact trivial | omega | (simp only [In64] at *; omega) | (simp [In64] at *; omega) | (simp_all; done) | skip)
  refine qa (qm (qm ?_))
  refine hk_region fun K hK => runs_eval tab_ok ?_
  simp only [ev0, evA, evB, evP, fl, gp, tab, simprocAttr, reduceCtorEq, reduceIte]
  refine fin_stop trivial (runs_call (xlook_c n m p (by omega)) rfl rfl rfl (by simp only [dstOk, Nat.reduceLT]) (by repeat (first | exact trivial | constructor)) (runs_eval tab_ok ?_))
  simp only [ev0, evA, evB, evP, fl, gp, tab, simprocAttr, reduceCtorEq, reduceIte, xf_of h hn hp]
  refine fin_run ?_ (hK _ ?_) <;> clear hK <;> clear K
  · (first | exact trivial | omega | (simp only [In64] at *; omega) | (simp [In64] at *; omega) | (simp_all; done) | skip)
  refine qa (qm ?_)
  refine hk_region fun K hK => runs_eval tab_ok ?_
  simp only [ev0, evA, evB, evP, fl, gp, tab, simprocAttr, reduceCtorEq, reduceIte]
  refine fin_run ?_ (hK _ ?_) <;> clear hK <;> clear K
  · (first | exact trivial | omega | (simp only [In64] at *; omega) | (simp [In64] at *; omega) | (simp_all; done) | skip)
  refine qa ?_
  refine hk_cond rfl (fun hC1 => ?_) (fun hC1 => ?_)
  · cases hC1
  · (try simp only [nhs] at hC1)
    refine qh (qa (qm ?_))
    refine hk_region fun K hK => runs_eval tab_ok ?_
    simp only [ev0, evA, evB, evP, fl, gp, tab, simprocAttr, reduceCtorEq, reduceIte]
    refine fin_stop trivial (runs_call (xlist_c h hn hp f hf) rfl rfl rfl (by simp only [dstOk, Nat.reduceLT]) (by repeat (first | exact trivial | constructor)) (runs_eval tab_ok ?_))
    simp only [ev0, evA, evB, evP, fl, gp, tab, simprocAttr, reduceCtorEq, reduceIte]
    refine fin_run ?_ (hK _ ?_) <;> clear hK <;> clear K
    · (first | exact trivial | omega | (simp only [In64] at *; omega) | (simp [In64] at *; omega) | (simp_all; done) | skip)
    refine qa (qk ?_)
    simp only [Try.results10, enA, ev0, evA, evB, evP, fl, gp, tab, simprocAttr, reduceCtorEq, reduceIte]
    all_goals ((first | exact rfl | exact ⟨rfl, rfl⟩ | exact ⟨rfl, rfl, rfl⟩ | exact ⟨trivial, rfl⟩ | exact ⟨Nat.le_refl _, rfl⟩ | trivial | (simp; done)))

/-! ### Bounds -/

def dB (n : Nat) (m : List Int) (c : Nat → Int) (t : Nat) : Int := c (t / n) + c (t % n) - c (op m n (t / n) (t % n))
def dl (n : Nat) (m : List Int) (p : Nat) (c : List Int) : List Int := updR (fun t => dB n m (fun a => c.getD a 0) t % (p : Int)) 0 (n * n) (List.replicate (n * n) 0)

theorem dl_len (n : Nat) (m : List Int) (p : Nat) (c : List Int) : (dl n m p c).length = n * n := by rw [dl, updR_len, List.length_replicate]
theorem dl_get {n : Nat} {m : List Int} {p : Nat} {c : List Int} {t : Nat} (ht : t < n * n) : (dl n m p c).getD t 0 = dB n m (fun a => c.getD a 0) t % (p : Int) := by
  rw [dl, updR_get (by rw [List.length_replicate]; exact ht), if_pos ⟨Nat.zero_le _, ht⟩]
theorem dl_rng {n : Nat} {m : List Int} {p : Nat} (hp : 0 < p) (c : List Int) : rng p (dl n m p c) := fun t ht => by
  rw [dl_len] at ht
  rw [dl_get ht]; exact emod_rng hp _

theorem dm_at {n a b : Nat} (hb : b < n) : (a * n + b) / n = a ∧ (a * n + b) % n = b := by
  constructor
  · rw [Nat.mul_comm, Nat.mul_add_div (by omega), Nat.div_eq_of_lt hb]; omega
  · rw [Nat.mul_comm, Nat.mul_add_mod, Nat.mod_eq_of_lt hb]

theorem bounds_c {n e p : Nat} {m : List Int} (h : GT n m n e) (hn : n ≤ 12) (hp : pr p) (c : List Int) (hc : c.length = n) (hr : ∀ t, t < n → -1000 ≤ c.getD t 0 ∧ c.getD t 0 ≤ 1000) :
    FnC Try.prog 38 [gp n m, .int .i64 p, .list (il c)] (.list (il (dl n m p c))) := by
  have T := h.2.1
  have hp2 := hp.le
  have hsq : n * n ≤ 144 := Nat.mul_le_mul hn hn
  have c0 : (n : Int) * (n : Int) = ((n * n : Nat) : Int) := (Int.natCast_mul n n).symm
  refine fnc_of tab_ok Try.func38 rfl (by kernel_rfl) (by rw [Try.ntmps38]; exact Nat.le_add_left 3 _) ?_; rw [Try.ntmps38]
  refine qm ?_
  refine hk_region fun K hK => runs_eval tab_ok ?_
  simp only [ev0, evA, evB, evP, fl, gp, tab, simprocAttr, reduceCtorEq, reduceIte]
  refine fin_run ?_ (hK _ ?_) <;> clear hK <;> clear K
  · (first | exact trivial | omega | (simp only [In64] at *; omega) | (simp [In64] at *; omega) | (simp_all; done) | skip)
  refine qa (qm ?_)
  refine hk_region fun K hK => runs_eval tab_ok ?_
  simp only [ev0, evA, evB, evP, fl, gp, tab, simprocAttr, reduceCtorEq, reduceIte, c0, ol_replicate]
  refine fin_run ?_ (hK _ ?_) <;> clear hK <;> clear K
  · simp only [In64]; omega
  refine qa (qm (qm ?_))
  refine hk_region fun K hK => runs_eval tab_ok ?_
  simp only [ev0, evA, evB, evP, fl, gp, tab, simprocAttr, reduceCtorEq, reduceIte]
  refine fin_run ?_ (hK _ ?_) <;> clear hK <;> clear K
  · (first | exact trivial | omega | (simp only [In64] at *; omega) | (simp [In64] at *; omega) | (simp_all; done) | skip)
  refine qa (ql ?_)
  refine hk_loop (ι := Nat) (fun a => ⟨60, [(1, .p (.int .i64 p)), (2, .p (.list (il c))), (3, .ptr 0 0), (7, .sl 1 0 (n * n)), (17, .p (.int .i64 n)), (18, .p (.int .i64 a))], [.own [.p (.int .i64 n), .p (.list (il m))], .own (ol (updR (fun t => dB n m (fun a => c.getD a 0) t % (p : Int)) 0 (a * n) (List.replicate (n * n) 0)))]⟩) (fun a => a ≤ n) (fun a => n - a) 0 (Nat.zero_le _) [0, 1] (by rw [Nat.zero_mul, updR_start]; simp only [leq, leA, ev0, evA, evB, evP, fl, gp, tab, simprocAttr, reduceCtorEq, reduceIte]) fun a ha => ?_
  refine qm ?_
  refine hk_region fun K hK => runs_eval tab_ok ?_
  simp only [ev0, evA, evB, evP, fl, gp, tab, simprocAttr, reduceCtorEq, reduceIte]
  refine fin_run trivial (hK _ ?_) <;> clear hK <;> clear K
  refine qa (qm ?_)
  refine hk_cond rfl (fun hC1 => ?_) (fun hC1 => ?_)
  · (try simp only [nhs] at hC1)
    have hal : a < n := by omega
    refine qh (qa (qm (ql (qm ?_))))
    refine hk_region fun K hK => runs_eval tab_ok ?_
    simp only [ev0, evA, evB, evP, fl, gp, tab, simprocAttr, reduceCtorEq, reduceIte]
    refine fin_run trivial (hK _ ?_) <;> clear hK <;> clear K
    refine qa (qm ?_)
    refine hk_region fun K hK => runs_eval tab_ok ?_
    simp only [ev0, evA, evB, evP, fl, gp, tab, simprocAttr, reduceCtorEq, reduceIte]
    refine fin_run ?_ (hK _ ?_) <;> clear hK <;> clear K
    · (first | exact trivial | omega | (simp only [In64] at *; omega) | (simp [In64] at *; omega) | (simp_all; done) | skip)
    refine qa (ql ?_)
    refine hk_loop (ι := Nat) (fun b => ⟨60, [(1, .p (.int .i64 p)), (2, .p (.list (il c))), (3, .ptr 0 0), (7, .sl 1 0 (n * n)), (8, .p (.int .i64 a)), (17, .p (.int .i64 n)), (18, .p (.int .i64 a)), (22, .p (.int .i64 n)), (23, .p (.int .i64 b))], [.own [.p (.int .i64 n), .p (.list (il m))], .own (ol (updR (fun t => dB n m (fun a => c.getD a 0) t % (p : Int)) 0 (a * n + b) (List.replicate (n * n) 0)))]⟩) (fun b => b ≤ n) (fun b => n - b) 0 (Nat.zero_le _) [0, 1] (by rw [Nat.add_zero]; simp only [leq, leA, ev0, evA, evB, evP, fl, gp, tab, simprocAttr, reduceCtorEq, reduceIte]) fun b hb => ?_
    refine qm ?_
    refine hk_region fun K hK => runs_eval tab_ok ?_
    simp only [ev0, evA, evB, evP, fl, gp, tab, simprocAttr, reduceCtorEq, reduceIte]
    refine fin_run trivial (hK _ ?_) <;> clear hK <;> clear K
    refine qa (qm ?_)
    refine hk_cond rfl (fun hC2 => ?_) (fun hC2 => ?_)
    · (try simp only [nhs] at hC2)
      have hbl : b < n := by omega
      have hab := T.lt hal hbl
      have hat := at_lt hal hbl
      have r1 := hr a hal
      have r2 := hr b hbl
      have r3 := hr _ hab
      obtain ⟨d1, d2⟩ := dm_at (a := a) hbl
      have hl : (updR (fun t => dB n m (fun a => c.getD a 0) t % (p : Int)) 0 (a * n + b) (List.replicate (n * n) 0)).length = n * n := by rw [updR_len, List.length_replicate]
      have hs : (updR (fun t => dB n m (fun a => c.getD a 0) t % (p : Int)) 0 (a * n + b) (List.replicate (n * n) 0)).set (a * n + b) ((c.getD a 0 + c.getD b 0 - c.getD (op m n a b) 0) % (p : Int)) = updR (fun t => dB n m (fun a => c.getD a 0) t % (p : Int)) 0 (a * n + b + 1) (List.replicate (n * n) 0) := by
        rw [← updR_set (Nat.zero_le _) (by rw [List.length_replicate]; exact hat)]
        simp only [dB, d1, d2]
      have c1 : (a : Int) * (n : Int) = ((a * n : Nat) : Int) := (Int.natCast_mul a n).symm
      have ht1 := Int.lt_tmod_of_pos (c.getD a 0 + c.getD b 0 - c.getD (op m n a b) 0) (show (0 : Int) < p by omega)
      have ht2 := Int.tmod_lt_of_pos (c.getD a 0 + c.getD b 0 - c.getD (op m n a b) 0) (show (0 : Int) < p by omega)
      refine qh (qa (qm (ql (qm ?_))))
      refine hk_region fun K hK => runs_eval tab_ok ?_
      simp only [ev0, evA, evB, evP, fl, gp, tab, simprocAttr, reduceCtorEq, reduceIte]
      refine fin_run trivial (hK _ ?_) <;> clear hK <;> clear K
      refine qa ?_
      refine hk_draw mixed (by kernel_rfl) fun K hK => runs_eval tab_ok ?_
      simp only [ev0, evA, evB, evP, fl, gp, tab, simprocAttr, reduceCtorEq, reduceIte, at_nat, il_get (show a < c.length by omega), il_get (show b < c.length by omega), il_get (show op m n a b < c.length by omega), tmod2 (show 0 < p by omega), ol_set, hs, hl]
      refine fin_stop ?_ (runs_call (of_c T hal hbl) rfl rfl rfl (by simp only [dstOk, Nat.reduceLT]) (by repeat (first | exact trivial | constructor)) (runs_eval tab_ok ?_))
      · simp only [c1, In64]; omega
      simp only [ev0, evA, evB, evP, fl, gp, tab, simprocAttr, reduceCtorEq, reduceIte, at_nat, il_get (show a < c.length by omega), il_get (show b < c.length by omega), il_get (show op m n a b < c.length by omega), tmod2 (show 0 < p by omega), ol_set, hs, hl]
      refine fin_run ?_ (hK _ ?_) <;> clear hK <;> clear K
      · rw [c1]; simp only [In64]; omega
      refine qd (qa ?_)
      refine hk_region fun K hK => runs_eval tab_ok ?_
      simp only [ev0, evA, evB, evP, fl, gp, tab, simprocAttr, reduceCtorEq, reduceIte]
      refine fin_run ?_ (hK _ ?_) <;> clear hK <;> clear K
      · (first | exact trivial | omega | (simp only [In64] at *; omega) | (simp [In64] at *; omega) | (simp_all; done) | skip)
      refine qa ?_
      refine ⟨b + 1, [0, 1], by omega, by omega, ?_⟩
      rw [← Nat.add_assoc]
      simp only [leq, leA, ev0, evA, evB, evP, fl, gp, tab, simprocAttr, reduceCtorEq, reduceIte] <;> omega
    · (try simp only [nhs] at hC2)
      refine qj (qc (qc (qf (qd (qa ?_)))))
      refine hk_region fun K hK => runs_eval tab_ok ?_
      simp only [ev0, evA, evB, evP, fl, gp, tab, simprocAttr, reduceCtorEq, reduceIte]
      refine fin_run ?_ (hK _ ?_) <;> clear hK <;> clear K
      · (first | exact trivial | omega | (simp only [In64] at *; omega) | (simp [In64] at *; omega) | (simp_all; done) | skip)
      refine qa ?_
      have hbn : b = n := by omega
      refine ⟨a + 1, [0, 1], by omega, by omega, ?_⟩
      rw [show (a + 1) * n = a * n + b by rw [Nat.add_mul, Nat.one_mul, hbn]]
      simp only [leq, leA, ev0, evA, evB, evP, fl, gp, tab, simprocAttr, reduceCtorEq, reduceIte] <;> omega
  · (try simp only [nhs] at hC1)
    refine qj (qc (qc (qf (qa (qm ?_)))))
    refine hk_region fun K hK => runs_eval tab_ok ?_
    simp only [ev0, evA, evB, evP, fl, gp, tab, simprocAttr, reduceCtorEq, reduceIte]
    refine fin_run trivial (hK _ ?_) <;> clear hK <;> clear K
    refine qa (qk ?_)
    simp only [Try.results38, enA, ev0, evA, evB, evP, fl, gp, tab, simprocAttr, reduceCtorEq, reduceIte]
    have han : a = n := by omega
    rw [han]
    have hl : (updR (fun t => dB n m (fun a => c.getD a 0) t % (p : Int)) 0 (n * n) (List.replicate (n * n) 0)).length = n * n := by rw [updR_len, List.length_replicate]
    simp only [dl]
    rw [List.take_of_length_le (by omega)]
    simp [updR_len]

end Go.Proofs.Ythdmioeddgednaa
