/-
  Classes: by what is alike; of conjugate things. Conditions: none.
-/
import Derived.Test.YtjikchbmkodgfaaDoorS6
import Derived.Test.YtjikchbmkodgfaaDoorG14
set_option linter.all false
namespace Go.Proofs.YtjikchbmkodgfaaDoor
open Go.Pv

/-- The classes whose least things are below a. -/
def cstp (n : Nat) (r : Nat → Nat → Bool) (a : Nat) : List (List Int) := ((List.range a).filter (lead r)).map fun x => thl n (r x)
def cst (n : Nat) (r : Nat → Nat → Bool) : List (List Int) := cstp n r n
theorem cstp_succ (n : Nat) (r : Nat → Nat → Bool) (a : Nat) : cstp n r (a + 1) = cstp n r a ++ if lead r a = true then [thl n (r a)] else [] := by
  unfold cstp
  rw [List.range_succ, List.filter_append, List.map_append]
  congr 1
  cases h : lead r a <;> simp [h]
theorem cstp_len (n : Nat) (r : Nat → Nat → Bool) (a : Nat) : (cstp n r a).length ≤ a := by
  unfold cstp
  rw [List.length_map]
  have := List.length_filter_le (lead r) (List.range a)
  rwa [List.length_range] at this
theorem cst_congr {n : Nat} {r r' : Nat → Nat → Bool} (h : ∀ a b, a < n → b < n → r a b = r' a b) : cst n r = cst n r' := by
  unfold cst cstp
  have hl : (List.range n).filter (lead r) = (List.range n).filter (lead r') := List.filter_congr fun a ha => by
    have a1 := List.mem_range.1 ha
    rw [Bool.eq_iff_iff, lead_iff, lead_iff, h a a a1 a1]
    exact ⟨fun ⟨h1, h2⟩ => ⟨h1, fun b hb => by rw [← h a b a1 (by omega)]; exact h2 b hb⟩, fun ⟨h1, h2⟩ => ⟨h1, fun b hb => by rw [h a b a1 (by omega)]; exact h2 b hb⟩⟩
  rw [hl]
  refine List.map_congr_left fun x hx => thl_congr fun b hb => h x b ?_ hb
  exact List.mem_range.1 (List.mem_filter.1 hx).1
/-- The class at a place: its least thing. -/
theorem cst_get {n : Nat} {r : Nat → Nat → Bool} {i : Nat} (hi : i < (cst n r).length) : ∃ x, x < n ∧ lead r x = true ∧ (cst n r).getD i [] = thl n (r x) ∧ (mem n (lead r)).getD i 0 = x := by
  unfold cst cstp at hi ⊢
  rw [List.length_map] at hi
  have hm := List.getElem_mem hi
  obtain ⟨h1, h2⟩ := List.mem_filter.1 hm
  refine ⟨_, List.mem_range.1 h1, h2, ?_, ?_⟩
  · simp [List.getD, List.getElem?_eq_getElem hi]
  · unfold mem
    simp [List.getD, List.getElem?_eq_getElem hi]
/-- The first of a list of things. -/
theorem thl_head {n : Nat} {p : Nat → Bool} {a : Nat} (ha : a < n) (h1 : p a = true) (h2 : ∀ b, b < a → p b = false) : 0 < (thl n p).length ∧ (thl n p).getD 0 0 = (a : Int) := by
  have : thl n p = (a : Int) :: (thn' n fun i => p i && !decide (i = a)).map (fun (a : Nat) => (a : Int)) := by
    unfold thl
    rw [thn_first ha h1 h2]; rfl
  rw [this]
  exact ⟨by simp, rfl⟩
theorem head_thl {n : Nat} {p : Nat → Bool} {a : Nat} (ha : a < n) (h0 : 0 < (thl n p).length) (h : (thl n p).getD 0 0 = (a : Int)) : p a = true ∧ ∀ b, b < a → p b = false := by
  obtain ⟨x, x1, x2, x3⟩ := thl_get h0
  have : x = a := by omega
  subst this
  refine ⟨x2, fun b hb => ?_⟩
  cases hpb : p b with
  | false => rfl
  | true =>
    exfalso
    obtain ⟨i, i1, i2⟩ := thl_at (n := n) (p := p) (show b < n by omega) hpb
    rcases Nat.eq_zero_or_pos i with h' | h'
    · subst h'; omega
    · have := thl_get_asc (n := n) (p := p) h' i1
      omega
theorem lead_head {n : Nat} {r : Nat → Nat → Bool} {a : Nat} (ha : a < n) : lead r a = true ↔ 0 < (thl n (r a)).length ∧ (thl n (r a)).getD 0 0 = (a : Int) := by
  rw [lead_iff]
  exact ⟨fun h => thl_head ha h.1 h.2, fun h => head_thl ha h.1 h.2⟩

theorem ll_takeL (ls : List (List Int)) : (ll ls).take ls.length = ll ls := List.take_of_length_le (by rw [ll_length]; exact Nat.le_refl _)

theorem ll_takeS (ls : List (List Int)) (x : List Int) : (ll (ls ++ [x])).take (ls.length + 1) = ll (ls ++ [x]) := List.take_of_length_le (by rw [ll_length]; simp)

theorem lead3 {n : Nat} {r : Nat → Nat → Bool} {a : Nat} (ha : a < n) : lead r a = true ∨ (lead r a = false ∧ (thl n (r a)).length = 0) ∨ (lead r a = false ∧ 0 < (thl n (r a)).length ∧ ¬ (thl n (r a)).getD 0 0 = (a : Int)) := by
  cases h : lead r a with
  | true => exact .inl rfl
  | false =>
    right
    rcases Nat.eq_zero_or_pos (thl n (r a)).length with h0 | h0
    · exact .inl ⟨rfl, h0⟩
    · refine .inr ⟨rfl, h0, fun he => ?_⟩
      have := (lead_head ha).2 ⟨h0, he⟩
      rw [h] at this; cases this

theorem thl_one {n x : Nat} (hx : x < n) : thl n (fun y => decide (y = x)) = [(x : Int)] := by
  refine asc_ext (thl_asc _ _) (by simp) fun z => ?_
  rw [mem_thl, List.mem_singleton]
  constructor
  · rintro ⟨a, _, h2, rfl⟩
    rw [decide_eq_true_eq] at h2
    rw [h2]
  · rintro rfl
    exact ⟨x, hx, by simp, rfl⟩
/-! ### Rows of rows, compared -/

theorem lists_r (a b : List (List Int)) (ha : a.length ≤ 1000000) (hx : ∀ x ∈ a, x.length ≤ 1000000) : FnC Tryd.prog 21 [.list (ll a), .list (ll b)] (.bool (decide (a = b))) := by
  refine fnc_of tab_ok Tryd.func21 rfl (by kernel_rfl) (by rw [Tryd.ntmps21]; exact Nat.le_add_left 2 _) ?_; rw [Tryd.ntmps21]
  refine qm ?_
  refine hk_region fun K hK => runs_eval tab_ok ?_
  simp only [ev0, evA, evB, evP, fl, gp, tab, simprocAttr, reduceCtorEq, reduceIte]
  refine fin_run trivial (hK _ ?_) <;> clear hK <;> clear K
  refine qa (qm (qm ?_))
  refine hk_region fun K hK => runs_eval tab_ok ?_
  simp only [ev0, evA, evB, evP, fl, gp, tab, simprocAttr, reduceCtorEq, reduceIte, ll_length]
  refine fin_run trivial (hK _ ?_) <;> clear hK <;> clear K
  refine qa ?_
  refine hk_cond rfl (fun hC1 => ?_) (fun hC1 => ?_)
  · (try simp only [nhs] at hC1)
    refine qm ?_
    refine hk_region fun K hK => runs_eval tab_ok ?_
    simp only [ev0, evA, evB, evP, fl, gp, tab, simprocAttr, reduceCtorEq, reduceIte]
    refine fin_run trivial (hK _ ?_) <;> clear hK <;> clear K
    refine qa (qk (qb ?_))
    simp only [Tryd.results21, enA, ev0, evA, evB, evP, fl, gp, tab, simprocAttr, reduceCtorEq, reduceIte]
    have : a ≠ b := by intro h; subst h; simp at hC1
    simp [this]
  · (try simp only [nhs] at hC1)
    have hn : a.length = b.length := by omega
    refine qh (qa (qm (qm ?_)))
    refine hk_region fun K hK => runs_eval tab_ok ?_
    simp only [ev0, evA, evB, evP, fl, gp, tab, simprocAttr, reduceCtorEq, reduceIte]
    refine fin_run trivial (hK _ ?_) <;> clear hK <;> clear K
    refine qa (ql ?_)
    refine hk_loop (ι := Nat) (fun i => ⟨27, [(0, .p (.list (ll a))), (1, .p (.list (ll b))), (5, .p (.int .i64 i))], []⟩) (fun i => i ≤ a.length ∧ a.take i = b.take i) (fun i => a.length - i) 0 ⟨Nat.zero_le _, rfl⟩ [] (by simp only [leq, leA, ev0, evA, evB, evP, fl, gp, tab, simprocAttr, reduceCtorEq, reduceIte] <;> trivial) fun i hi => ?_
    obtain ⟨hi1, hi2⟩ := hi
    refine qm (qm ?_)
    refine hk_region fun K hK => runs_eval tab_ok ?_
    simp only [ev0, evA, evB, evP, fl, gp, tab, simprocAttr, reduceCtorEq, reduceIte, ll_length]
    refine fin_run trivial (hK _ ?_) <;> clear hK <;> clear K
    refine qa ?_
    refine hk_cond rfl (fun hC2 => ?_) (fun hC2 => ?_)
    · (try simp only [nhs] at hC2)
      have hlt : i < a.length := by omega
      have hma : (a.getD i []).length ≤ 1000000 := hx _ (by simp [List.getD, List.getElem?_eq_getElem hlt])
      refine qh (qa (qm (ql (qm ?_))))
      refine hk_draw mixed (by kernel_rfl) fun K hK => runs_eval tab_ok ?_
      simp only [ev0, evA, evB, evP, fl, gp, tab, simprocAttr, reduceCtorEq, reduceIte, ll_length, ll_get hlt, ll_get (show i < b.length by omega)]
      refine fin_stop ?_ (runs_call (ints_c (a.getD i []) (b.getD i []) (by omega)) rfl rfl rfl (by simp only [dstOk, Nat.reduceLT]) (by repeat (first | exact trivial | constructor)) (runs_eval tab_ok ?_))
      · (first | exact trivial | omega | (simp only [In64] at *; omega) | (simp [In64] at *; omega) | (simp_all; done) | skip)
      simp only [ev0, evA, evB, evP, fl, gp, tab, simprocAttr, reduceCtorEq, reduceIte, ll_length, ll_get hlt, ll_get (show i < b.length by omega)]
      refine fin_run ?_ (hK _ ?_) <;> clear hK <;> clear K
      · (first | exact trivial | omega | (simp only [In64] at *; omega) | (simp [In64] at *; omega) | (simp_all; done) | skip)
      refine qa ?_
      refine hk_cond rfl (fun hC3 => ?_) (fun hC3 => ?_)
      · (try simp only [nhs] at hC3)
        refine qm ?_
        refine hk_region fun K hK => runs_eval tab_ok ?_
        simp only [ev0, evA, evB, evP, fl, gp, tab, simprocAttr, reduceCtorEq, reduceIte]
        refine fin_run trivial (hK _ ?_) <;> clear hK <;> clear K
        refine qa (qk (qe (qb (qb (qe (qb ?_))))))
        simp only [Tryd.results21, enA, ev0, evA, evB, evP, fl, gp, tab, simprocAttr, reduceCtorEq, reduceIte]
        have : a ≠ b := by intro h; subst h; simp at hC3
        simp [this]
      · (try simp only [nhs] at hC3)
        refine qh (qd (qa ?_))
        refine hk_region fun K hK => runs_eval tab_ok ?_
        simp only [ev0, evA, evB, evP, fl, gp, tab, simprocAttr, reduceCtorEq, reduceIte]
        refine fin_run ?_ (hK _ ?_) <;> clear hK <;> clear K
        · (first | exact trivial | omega | (simp only [In64] at *; omega) | (simp [In64] at *; omega) | (simp_all; done) | skip)
        refine qa ?_
        refine ⟨i + 1, [], ⟨by omega, ?_⟩, by omega, ?_⟩
        · rw [List.take_succ_eq_append_getElem hlt, List.take_succ_eq_append_getElem (show i < b.length by omega), hi2]
          simp [List.getD, List.getElem?_eq_getElem hlt, List.getElem?_eq_getElem (show i < b.length by omega)] at hC3
          rw [hC3]
        · simp only [leq, leA, ev0, evA, evB, evP, fl, gp, tab, simprocAttr, reduceCtorEq, reduceIte] <;> first | trivial | omega
    · (try simp only [nhs] at hC2)
      refine qj (qc (qc (qf (qa (qm ?_)))))
      refine hk_region fun K hK => runs_eval tab_ok ?_
      simp only [ev0, evA, evB, evP, fl, gp, tab, simprocAttr, reduceCtorEq, reduceIte]
      refine fin_run trivial (hK _ ?_) <;> clear hK <;> clear K
      refine qa (qk ?_)
      simp only [Tryd.results21, enA, ev0, evA, evB, evP, fl, gp, tab, simprocAttr, reduceCtorEq, reduceIte]
      have : i = a.length := by omega
      subst this
      rw [List.take_length, List.take_of_length_le (by omega)] at hi2
      simp [hi2]

/-- Rows of rows, typed. -/
def lln (ls : List (List Int)) : List PV := ls.map fun w => .nn (il w)
theorem lln_length (ls : List (List Int)) : (lln ls).length = ls.length := by simp [lln]
theorem lln_get {ls : List (List Int)} {i : Nat} (h : i < ls.length) : (lln ls).getD i default = .nn (il (ls.getD i [])) := by
  simp [lln, List.getD, List.getElem?_map, List.getElem?_eq_getElem h]
theorem lists_n (a : List (List Int)) (ha : a.length ≤ 1000000) (hx : ∀ x ∈ a, x.length ≤ 1000000) : FnC Tryd.prog 21 [.list (ll a), .nn (lln a)] (.bool true) := by
  refine fnc_of tab_ok Tryd.func21 rfl (by kernel_rfl) (by rw [Tryd.ntmps21]; exact Nat.le_add_left 2 _) ?_; rw [Tryd.ntmps21]
  refine qm ?_
  refine hk_region fun K hK => runs_eval tab_ok ?_
  simp only [ev0, evA, evB, evP, fl, gp, tab, simprocAttr, reduceCtorEq, reduceIte]
  refine fin_run trivial (hK _ ?_) <;> clear hK <;> clear K
  refine qa (qm (qm ?_))
  refine hk_region fun K hK => runs_eval tab_ok ?_
  simp only [ev0, evA, evB, evP, fl, gp, tab, simprocAttr, reduceCtorEq, reduceIte, ll_length, lln_length]
  refine fin_run trivial (hK _ ?_) <;> clear hK <;> clear K
  refine qa ?_
  refine hk_cond rfl (fun hC1 => ?_) (fun hC1 => ?_)
  · cases hC1
  · (try simp only [nhs] at hC1)
    refine qh (qa (qm (qm ?_)))
    refine hk_region fun K hK => runs_eval tab_ok ?_
    simp only [ev0, evA, evB, evP, fl, gp, tab, simprocAttr, reduceCtorEq, reduceIte]
    refine fin_run trivial (hK _ ?_) <;> clear hK <;> clear K
    refine qa (ql ?_)
    refine hk_loop (ι := Nat) (fun i => ⟨27, [(0, .p (.list (ll a))), (1, .p (.nn (lln a))), (5, .p (.int .i64 i))], []⟩) (fun i => i ≤ a.length) (fun i => a.length - i) 0 (Nat.zero_le _) [] (by simp only [leq, leA, ev0, evA, evB, evP, fl, gp, tab, simprocAttr, reduceCtorEq, reduceIte] <;> trivial) fun i hi => ?_
    refine qm (qm ?_)
    refine hk_region fun K hK => runs_eval tab_ok ?_
    simp only [ev0, evA, evB, evP, fl, gp, tab, simprocAttr, reduceCtorEq, reduceIte, ll_length]
    refine fin_run trivial (hK _ ?_) <;> clear hK <;> clear K
    refine qa ?_
    refine hk_cond rfl (fun hC2 => ?_) (fun hC2 => ?_)
    · (try simp only [nhs] at hC2)
      have hlt : i < a.length := by omega
      have hma : (a.getD i []).length ≤ 1000000 := hx _ (by simp [List.getD, List.getElem?_eq_getElem hlt])
      refine qh (qa (qm (ql (qm ?_))))
      refine hk_draw mixed (by kernel_rfl) fun K hK => runs_eval tab_ok ?_
      simp only [ev0, evA, evB, evP, fl, gp, tab, simprocAttr, reduceCtorEq, reduceIte, ll_length, lln_length, ll_get hlt, lln_get hlt, decide_eq_true (show a.getD i [] = a.getD i [] from rfl)]
      refine fin_stop ?_ (runs_call (FnC.sub (args' := [.list (il (a.getD i [])), .nn (il (a.getD i []))]) (ints_c (a.getD i []) (a.getD i []) (by omega)) (And.intro (.same _) (And.intro (.nn _) trivial))) rfl rfl rfl (by simp only [dstOk, Nat.reduceLT]) (by repeat (first | exact trivial | constructor)) (runs_eval tab_ok ?_))
      · (first | exact trivial | omega | (simp only [In64] at *; omega) | (simp [In64] at *; omega) | (simp_all; done) | skip)
      simp only [ev0, evA, evB, evP, fl, gp, tab, simprocAttr, reduceCtorEq, reduceIte, ll_length, lln_length, ll_get hlt, lln_get hlt, decide_eq_true (show a.getD i [] = a.getD i [] from rfl)]
      refine fin_run ?_ (hK _ ?_) <;> clear hK <;> clear K
      · (first | exact trivial | omega | (simp only [In64] at *; omega) | (simp [In64] at *; omega) | (simp_all; done) | skip)
      refine qa ?_
      refine hk_cond rfl (fun hC3 => ?_) (fun hC3 => ?_)
      · cases hC3
      · (try simp only [nhs] at hC3)
        refine qh (qd (qa ?_))
        refine hk_region fun K hK => runs_eval tab_ok ?_
        simp only [ev0, evA, evB, evP, fl, gp, tab, simprocAttr, reduceCtorEq, reduceIte]
        refine fin_run ?_ (hK _ ?_) <;> clear hK <;> clear K
        · (first | exact trivial | omega | (simp only [In64] at *; omega) | (simp [In64] at *; omega) | (simp_all; done) | skip)
        refine qa ?_
        refine ⟨i + 1, [], by omega, by omega, ?_⟩
        simp only [leq, leA, ev0, evA, evB, evP, fl, gp, tab, simprocAttr, reduceCtorEq, reduceIte, ll_takeL, ll_snoc, ll_takeS] <;> first | trivial | omega
    · (try simp only [nhs] at hC2)
      refine qj (qc (qc (qf (qa (qm ?_)))))
      refine hk_region fun K hK => runs_eval tab_ok ?_
      simp only [ev0, evA, evB, evP, fl, gp, tab, simprocAttr, reduceCtorEq, reduceIte]
      refine fin_run trivial (hK _ ?_) <;> clear hK <;> clear K
      refine qa (qk ?_)
      simp only [Tryd.results21, enA, ev0, evA, evB, evP, fl, gp, tab, simprocAttr, reduceCtorEq, reduceIte]
      all_goals (rfl)

theorem listsAs_c (l : List (List Int)) (w : Int × Int) (F : FuncId) (caps : List PV) (hl : l.length ≤ 1000000) (hx : ∀ x ∈ l, x.length ≤ 1000000) (h0 : ¬ w.1 = 0 → l = []) (h1 : w.1 = 0 → FnC Tryd.prog F caps (.list (ll l))) : FnC Tryd.prog 35 [.list (ll l), fl w, fl w, .fn F caps] (.bool true) := by
  refine fnc_of tab_ok Tryd.func35 rfl (by kernel_rfl) (by rw [Tryd.ntmps35]; exact Nat.le_add_left 4 _) ?_; rw [Tryd.ntmps35]
  refine qm ?_
  refine hk_region fun K hK => runs_eval tab_ok ?_
  simp only [ev0, evA, evB, evP, fl, gp, tab, simprocAttr, reduceCtorEq, reduceIte]
  refine fin_run ?_ (hK _ ?_) <;> clear hK <;> clear K
  · (first | exact trivial | omega | (simp only [In64] at *; omega) | (simp [In64] at *; omega) | (simp_all; done) | skip)
  refine qa (qm (qm ?_))
  refine hk_region fun K hK => runs_eval tab_ok ?_
  simp only [ev0, evA, evB, evP, fl, gp, tab, simprocAttr, reduceCtorEq, reduceIte]
  refine fin_run ?_ (hK _ ?_) <;> clear hK <;> clear K
  · (first | exact trivial | omega | (simp only [In64] at *; omega) | (simp [In64] at *; omega) | (simp_all; done) | skip)
  refine qa ?_
  refine hk_cond rfl (fun hC1 => ?_) (fun hC1 => ?_)
  · cases hC1
  · (try simp only [nhs] at hC1)
    refine qh (qa (qm (qm ?_)))
    refine hk_region fun K hK => runs_eval tab_ok ?_
    simp only [ev0, evA, evB, evP, fl, gp, tab, simprocAttr, reduceCtorEq, reduceIte]
    refine fin_run ?_ (hK _ ?_) <;> clear hK <;> clear K
    · (first | exact trivial | omega | (simp only [In64] at *; omega) | (simp [In64] at *; omega) | (simp_all; done) | skip)
    refine qa ?_
    refine hk_cond rfl (fun hC2 => ?_) (fun hC2 => ?_)
    · (try simp only [nhs] at hC2)
      refine qm ?_
      refine hk_region fun K hK => runs_eval tab_ok ?_
      simp only [ev0, evA, evB, evP, fl, gp, tab, simprocAttr, reduceCtorEq, reduceIte, ll_length]
      refine fin_run trivial (hK _ ?_) <;> clear hK <;> clear K
      refine qa (qk (qb ?_))
      simp only [Tryd.results35, enA, ev0, evA, evB, evP, fl, gp, tab, simprocAttr, reduceCtorEq, reduceIte]
      all_goals (simp [h0 hC2])
    · (try simp only [nhs] at hC2)
      refine qh (qa (qm ?_))
      refine hk_region fun K hK => runs_eval tab_ok ?_
      simp only [ev0, evA, evB, evP, fl, gp, tab, simprocAttr, reduceCtorEq, reduceIte]
      refine fin_stop trivial (runs_call (h1 hC2) rfl rfl rfl (by simp only [dstOk, Nat.reduceLT]) (by repeat (first | exact trivial | constructor)) (runs_eval tab_ok ?_))
      simp only [ev0, evA, evB, evP, fl, gp, tab, simprocAttr, reduceCtorEq, reduceIte]
      refine fin_stop trivial (runs_call (lists_r l l hl hx) rfl rfl rfl (by simp only [dstOk, Nat.reduceLT]) (by repeat (first | exact trivial | constructor)) (runs_eval tab_ok ?_))
      simp only [ev0, evA, evB, evP, fl, gp, tab, simprocAttr, reduceCtorEq, reduceIte]
      refine fin_run trivial (hK _ ?_) <;> clear hK <;> clear K
      refine qa (qk ?_)
      simp only [Tryd.results35, enA, ev0, evA, evB, evP, fl, gp, tab, simprocAttr, reduceCtorEq, reduceIte]
      all_goals (simp)

/-! ### Classes of conjugate things -/

theorem bo_or (n : Nat) (p q : Nat → Bool) : bo n p ||| bo n q = bo n fun a => p a || q a := by
  refine Nat.eq_of_testBit_eq fun i => ?_
  rw [Nat.testBit_or, bo_bit, bo_bit, bo_bit]
  cases decide (i < n) <;> simp
theorem bo_upd {n : Nat} {p : Nat → Bool} {c : Nat} (hc : c < n) : bo n p ||| 2 ^ c = bo n (upd p c) := by
  refine Nat.eq_of_testBit_eq fun i => ?_
  rw [or_bit, bo_bit, bo_bit]
  unfold upd
  by_cases hi : i = c
  · subst hi; simp [hc]
  · have h1 : decide (c = i) = false := by simp; omega
    have h2 : decide (i = c) = false := by simpa using hi
    rw [h1, h2]; simp

/-- What is in a class of an earlier thing. -/
def hadp (r : Nat → Nat → Bool) (x y : Nat) : Bool := decide (∃ z, z < x ∧ r z y = true)
/-- What is x, conjugated by an earlier thing. -/
def sp (n : Nat) (f : Nat → Nat → Nat) (e x a y : Nat) : Bool := decide (∃ b, b < a ∧ cjr n f e x b = y)
theorem sp_succ (n : Nat) (f : Nat → Nat → Nat) (e x a : Nat) : sp n f e x (a + 1) = upd (sp n f e x a) (cjr n f e x a) := by
  funext y
  unfold sp upd
  rw [← Bool.decide_or]
  refine decide_eq_decide.2 ⟨?_, ?_⟩
  · rintro ⟨b, hb, rfl⟩
    by_cases h : b = a
    · subst h; exact .inr rfl
    · exact .inl ⟨b, by omega, rfl⟩
  · rintro (⟨b, hb, rfl⟩ | rfl)
    · exact ⟨b, by omega, rfl⟩
    · exact ⟨a, by omega, rfl⟩
theorem bo_zero (n : Nat) : bo n (fun _ => false) = 0 := by
  refine Nat.eq_of_testBit_eq fun i => ?_
  rw [bo_bit]; simp

theorem sq8_e : GT (8 : Nat) sq8 8 0 := by
  obtain ⟨e, h⟩ := sq8_gt
  have h1 := h.eI
  have h2 : eI sq8 8 = 0 := by decide +kernel
  have : e = 0 := by omega
  subst this
  exact h

end Go.Proofs.YtjikchbmkodgfaaDoor
