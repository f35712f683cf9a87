/-
  Sets of things: centres; the square's group; an example of the document. Conditions: none.
-/
import Derived.Test.YtjikchbmkodgfaaDoorS4
import Derived.Test.YtjikchbmkodgfaaDoorT7
set_option linter.all false
namespace Go.Proofs.YtjikchbmkodgfaaDoor
open Go.Pv

/-! ### What two lists have -/

def bth (a b : List Int) : List Int := a.filter fun x => decide (x ∈ b)
theorem bth_thl (n : Nat) (p q : Nat → Bool) : bth (thl n p) (thl n q) = thl n (fun a => p a && q a) := by
  unfold bth thl thn'
  rw [List.filter_map, List.filter_filter]
  congr 1
  refine List.filter_congr fun a ha => ?_
  have h1 := List.mem_range.1 ha
  simp only [Function.comp]
  rw [Bool.and_comm (p a)]
  congr 1
  rw [Bool.eq_iff_iff, decide_eq_true_eq]
  exact mem_thl_n (p := q) h1

theorem both_c (a b : List Int) (ha : a.length ≤ 1000000) (hb : b.length ≤ 1000000) : FnC Tryd.prog 30 [.list (il a), .list (il b)] (.list (il (bth a b))) := by
  refine fnc_of tab_ok Tryd.func30 rfl (by kernel_rfl) (by rw [Tryd.ntmps30]; exact Nat.le_add_left 2 _) ?_; rw [Tryd.ntmps30]
  refine qm ?_
  refine hk_region fun K hK => runs_eval tab_ok ?_
  simp only [ev0, evA, evB, evP, fl, gp, tab, simprocAttr, reduceCtorEq, reduceIte]
  refine fin_run trivial (hK _ ?_) <;> clear hK <;> clear K
  refine qa (qm ?_)
  refine hk_region fun K hK => runs_eval tab_ok ?_
  simp only [ev0, evA, evB, evP, fl, gp, tab, simprocAttr, reduceCtorEq, reduceIte]
  refine fin_run trivial (hK _ ?_) <;> clear hK <;> clear K
  refine qa (qm (qm ?_))
  refine hk_own0 5 rfl ?_
  refine hk_region fun K hK => runs_eval tab_ok ?_
  simp only [ev0, evA, evB, evP, fl, gp, tab, simprocAttr, reduceCtorEq, reduceIte]
  refine fin_run trivial (hK _ ?_) <;> clear hK <;> clear K
  refine qa (ql ?_)
  refine hk_loop (ι := Nat) (fun i => ⟨27, [(0, .p (.list (il a))), (1, .p (.list (il b))), (5, .sl 0 0 (bth (a.take i) b).length), (6, .p (.int .i64 i))], [.own (ol (bth (a.take i) b))]⟩) (fun i => i ≤ a.length) (fun i => a.length - i) 0 (Nat.zero_le _) [0] (by simp only [leq, leA, ev0, evA, evB, evP, fl, gp, tab, simprocAttr, reduceCtorEq, reduceIte] <;> simp [bth, ol_nil]) fun i hi => ?_
  have hl : (bth (a.take i) b).length ≤ i := by
    have h1 := List.length_filter_le (fun x => decide (x ∈ b)) (a.take i)
    rw [List.length_take] at h1
    unfold bth; omega
  refine qm (qm ?_)
  refine hk_region fun K hK => runs_eval tab_ok ?_
  simp only [ev0, evA, evB, evP, fl, gp, tab, simprocAttr, reduceCtorEq, reduceIte]
  refine fin_run trivial (hK _ ?_) <;> clear hK <;> clear K
  refine qa ?_
  refine hk_cond rfl (fun hC1 => ?_) (fun hC1 => ?_)
  · (try simp only [nhs] at hC1)
    have hlt : i < a.length := by omega
    have hs : bth (a.take (i + 1)) b = bth (a.take i) b ++ if a.getD i 0 ∈ b then [a.getD i 0] else [] := by
      unfold bth
      have e1 : a[i] = a.getD i 0 := by simp [List.getD, List.getElem?_eq_getElem hlt]
      rw [List.take_succ_eq_append_getElem hlt, List.filter_append, e1]
      congr 1
      by_cases h : a.getD i 0 ∈ b
      · rw [if_pos h, List.filter_cons, if_pos (decide_eq_true h)]; rfl
      · rw [if_neg h, List.filter_cons, if_neg (by simpa using h)]; rfl
    refine qh (qa (qm (ql (qm ?_))))
    refine hk_region fun K hK => runs_eval tab_ok ?_
    simp only [ev0, evA, evB, evP, fl, gp, tab, simprocAttr, reduceCtorEq, reduceIte, il_get hlt]
    refine fin_stop ?_ (runs_call (has_r b (a.getD i 0) (by omega)) rfl rfl rfl (by simp only [dstOk, Nat.reduceLT]) (by repeat (first | exact trivial | constructor)) (runs_eval tab_ok ?_))
    · (first | exact trivial | omega | (simp only [In64] at *; omega) | (simp [In64] at *; omega) | (simp_all; done) | skip)
    simp only [ev0, evA, evB, evP, fl, gp, tab, simprocAttr, reduceCtorEq, reduceIte, il_get hlt]
    refine fin_run ?_ (hK _ ?_) <;> clear hK <;> clear K
    · (first | exact trivial | omega | (simp only [In64] at *; omega) | (simp [In64] at *; omega) | (simp_all; done) | skip)
    refine qa ?_
    refine hk_cond rfl (fun hC2 => ?_) (fun hC2 => ?_)
    · (try simp only [nhs] at hC2)
      rw [if_pos hC2] at hs
      refine hk_region fun K hK => runs_eval tab_ok ?_
      simp only [ev0, evA, evB, evP, fl, gp, tab, simprocAttr, reduceCtorEq, reduceIte, il_get hlt]
      refine fin_run ?_ (hK _ ?_) <;> clear hK <;> clear K
      · (first | exact trivial | omega | (simp only [In64] at *; omega) | (simp [In64] at *; omega) | (simp_all; done) | skip)
      refine qd (qa ?_)
      refine hk_region fun K hK => runs_eval tab_ok ?_
      simp only [ev0, evA, evB, evP, fl, gp, tab, simprocAttr, reduceCtorEq, reduceIte]
      refine fin_run ?_ (hK _ ?_) <;> clear hK <;> clear K
      · (first | exact trivial | omega | (simp only [In64] at *; omega) | (simp [In64] at *; omega) | (simp_all; done) | skip)
      refine qa ?_
      refine ⟨i + 1, [1], by omega, by omega, ?_⟩
      rw [hs]
      simp only [leq, leA, ev0, evA, evB, evP, fl, gp, tab, simprocAttr, reduceCtorEq, reduceIte] <;> first | trivial | omega
    · (try simp only [nhs] at hC2)
      rw [if_neg hC2] at hs
      refine qh (qd (qa ?_))
      refine hk_region fun K hK => runs_eval tab_ok ?_
      simp only [ev0, evA, evB, evP, fl, gp, tab, simprocAttr, reduceCtorEq, reduceIte]
      refine fin_run ?_ (hK _ ?_) <;> clear hK <;> clear K
      · (first | exact trivial | omega | (simp only [In64] at *; omega) | (simp [In64] at *; omega) | (simp_all; done) | skip)
      refine qa ?_
      refine ⟨i + 1, [0], by omega, by omega, ?_⟩
      rw [hs, List.append_nil]
      simp only [leq, leA, ev0, evA, evB, evP, fl, gp, tab, simprocAttr, reduceCtorEq, reduceIte] <;> first | trivial | omega
  · (try simp only [nhs] at hC1)
    have hin : i = a.length := by omega
    rw [hin, List.take_length]
    rw [hin, List.take_length] at hl
    refine hk_seal 5 0 rfl rfl ?_
    refine qj (qc (qc (qf (qa (qm ?_)))))
    refine hk_region fun K hK => runs_eval tab_ok ?_
    simp only [ev0, evA, evB, evP, fl, gp, tab, simprocAttr, reduceCtorEq, reduceIte]
    refine fin_run trivial (hK _ ?_) <;> clear hK <;> clear K
    refine qa (qk ?_)
    simp only [Tryd.results30, enA, ev0, evA, evB, evP, fl, gp, tab, simprocAttr, reduceCtorEq, reduceIte]
    all_goals (rfl)

/-! ### Functions of the library -/

def ixf (p : Int → Bool) (l : List Int) : Int := match fst' (fun i => p (l.getD i 0)) l.length with | some i => (i : Int) | none => -1
theorem ixf_any (p : Int → Bool) (l : List Int) : decide (ixf p l ≥ 0) = l.any p := by
  unfold ixf
  rw [Bool.eq_iff_iff, List.any_eq_true, decide_eq_true_eq]
  cases h : fst' (fun i => p (l.getD i 0)) l.length with
  | none =>
    simp only [ge_iff_le]
    constructor
    · intro h'; omega
    · rintro ⟨x, hx, hp⟩
      obtain ⟨i, hi, e⟩ := List.getElem_of_mem hx
      have := fst_spec0 h i hi
      rw [show l.getD i 0 = x by simp [List.getD, List.getElem?_eq_getElem hi, e], hp] at this
      cases this
  | some i =>
    obtain ⟨h1, h2, _⟩ := fst_spec h
    refine ⟨fun _ => ⟨l.getD i 0, by simp [List.getD, List.getElem?_eq_getElem h1], h2⟩, fun _ => ?_⟩
    show (i : Int) ≥ 0
    omega

theorem indexFunc_c (l : List Int) (F : FuncId) (caps : List PV) (p : Int → Bool) (hl : l.length ≤ 1000000) (hF : ∀ x ∈ l, FnC Tryd.prog F (.int .i64 x :: caps) (.bool (p x))) : FnC Tryd.prog 156 [.list (il l), .fn F caps] (.int .i64 (ixf p l)) := by
  refine fnc_of tab_ok Tryd.func156 rfl (by kernel_rfl) (by rw [Tryd.ntmps156]; exact Nat.le_add_left 2 _) ?_; rw [Tryd.ntmps156]
  refine qm ?_
  refine hk_region fun K hK => runs_eval tab_ok ?_
  simp only [ev0, evA, evB, evP, fl, gp, tab, simprocAttr, reduceCtorEq, reduceIte]
  refine fin_run trivial (hK _ ?_) <;> clear hK <;> clear K
  refine qa (qm (qm ?_))
  refine hk_region fun K hK => runs_eval tab_ok ?_
  simp only [ev0, evA, evB, evP, fl, gp, tab, simprocAttr, reduceCtorEq, reduceIte]
  refine fin_run trivial (hK _ ?_) <;> clear hK <;> clear K
  refine qa (ql ?_)
  refine hk_loop (ι := Nat) (fun i => ⟨19, [(0, .p (.list (il l))), (1, .p (.fn F caps)), (7, .p (.int .i64 l.length)), (8, .p (.int .i64 i))], []⟩) (fun i => i ≤ l.length ∧ ∀ j, j < i → p (l.getD j 0) = false) (fun i => l.length - i) 0 ⟨Nat.zero_le _, fun j hj => by omega⟩ [] (by simp only [leq, leA, ev0, evA, evB, evP, fl, gp, tab, simprocAttr, reduceCtorEq, reduceIte] <;> trivial) fun i hi => ?_
  obtain ⟨hi1, hi2⟩ := hi
  refine qm ?_
  refine hk_region fun K hK => runs_eval tab_ok ?_
  simp only [ev0, evA, evB, evP, fl, gp, tab, simprocAttr, reduceCtorEq, reduceIte]
  refine fin_run trivial (hK _ ?_) <;> clear hK <;> clear K
  refine qa (qm ?_)
  refine hk_cond rfl (fun hC1 => ?_) (fun hC1 => ?_)
  · (try simp only [nhs] at hC1)
    have hlt : i < l.length := by omega
    have hmem : l.getD i 0 ∈ l := by simp [List.getD, List.getElem?_eq_getElem hlt]
    refine qh (qa (qm (ql (qm ?_))))
    refine hk_region fun K hK => runs_eval tab_ok ?_
    simp only [ev0, evA, evB, evP, fl, gp, tab, simprocAttr, reduceCtorEq, reduceIte]
    refine fin_run trivial (hK _ ?_) <;> clear hK <;> clear K
    refine qa (qm ?_)
    refine hk_region fun K hK => runs_eval tab_ok ?_
    simp only [ev0, evA, evB, evP, fl, gp, tab, simprocAttr, reduceCtorEq, reduceIte, il_get hlt]
    refine fin_stop ?_ (runs_call (hF _ hmem) rfl rfl rfl (by simp only [dstOk, Nat.reduceLT]) (by repeat (first | exact trivial | constructor)) (runs_eval tab_ok ?_))
    · (first | exact trivial | omega | (simp only [In64] at *; omega) | (simp [In64] at *; omega) | (simp_all; done) | skip)
    simp only [ev0, evA, evB, evP, fl, gp, tab, simprocAttr, reduceCtorEq, reduceIte, il_get hlt]
    refine fin_run ?_ (hK _ ?_) <;> clear hK <;> clear K
    · (first | exact trivial | omega | (simp only [In64] at *; omega) | (simp [In64] at *; omega) | (simp_all; done) | skip)
    refine qa ?_
    refine hk_cond rfl (fun hC2 => ?_) (fun hC2 => ?_)
    · (try simp only [nhs] at hC2)
      refine qm ?_
      refine hk_region fun K hK => runs_eval tab_ok ?_
      simp only [ev0, evA, evB, evP, fl, gp, tab, simprocAttr, reduceCtorEq, reduceIte]
      refine fin_run trivial (hK _ ?_) <;> clear hK <;> clear K
      refine qa (qk (qe (qb (qb (qe (qb ?_))))))
      simp only [Tryd.results156, enA, ev0, evA, evB, evP, fl, gp, tab, simprocAttr, reduceCtorEq, reduceIte]
      all_goals (unfold ixf; rw [fst_some hlt hC2 hi2])
    · (try simp only [nhs] at hC2)
      refine qh (qd (qa ?_))
      refine hk_region fun K hK => runs_eval tab_ok ?_
      simp only [ev0, evA, evB, evP, fl, gp, tab, simprocAttr, reduceCtorEq, reduceIte]
      refine fin_run ?_ (hK _ ?_) <;> clear hK <;> clear K
      · (first | exact trivial | omega | (simp only [In64] at *; omega) | (simp [In64] at *; omega) | (simp_all; done) | skip)
      refine qa ?_
      refine ⟨i + 1, [], ⟨by omega, fun j hj => ?_⟩, by omega, ?_⟩
      · by_cases hj2 : j = i
        · subst hj2; exact hC2
        · exact hi2 j (by omega)
      · simp only [leq, leA, ev0, evA, evB, evP, fl, gp, tab, simprocAttr, reduceCtorEq, reduceIte] <;> omega
  · (try simp only [nhs] at hC1)
    refine qj (qc (qc (qf (qa (qm ?_)))))
    refine hk_region fun K hK => runs_eval tab_ok ?_
    simp only [ev0, evA, evB, evP, fl, gp, tab, simprocAttr, reduceCtorEq, reduceIte]
    refine fin_run trivial (hK _ ?_) <;> clear hK <;> clear K
    refine qa (qk ?_)
    simp only [Tryd.results156, enA, ev0, evA, evB, evP, fl, gp, tab, simprocAttr, reduceCtorEq, reduceIte]
    all_goals (unfold ixf; rw [fst_none fun j hj => hi2 j (by omega)])

theorem containsFunc_c (l : List Int) (F : FuncId) (caps : List PV) (p : Int → Bool) (hl : l.length ≤ 1000000) (hF : ∀ x ∈ l, FnC Tryd.prog F (.int .i64 x :: caps) (.bool (p x))) : FnC Tryd.prog 132 [.list (il l), .fn F caps] (.bool (l.any p)) := by
  refine fnc_of tab_ok Tryd.func132 rfl (by kernel_rfl) (by rw [Tryd.ntmps132]; exact Nat.le_add_left 2 _) ?_; rw [Tryd.ntmps132]
  refine qm ?_
  refine hk_region fun K hK => runs_eval tab_ok ?_
  simp only [ev0, evA, evB, evP, fl, gp, tab, simprocAttr, reduceCtorEq, reduceIte]
  refine fin_run trivial (hK _ ?_) <;> clear hK <;> clear K
  refine qa (qm ?_)
  refine hk_region fun K hK => runs_eval tab_ok ?_
  simp only [ev0, evA, evB, evP, fl, gp, tab, simprocAttr, reduceCtorEq, reduceIte]
  refine fin_stop trivial (runs_call (indexFunc_c l F caps p hl hF) rfl rfl rfl (by simp only [dstOk, Nat.reduceLT]) (by repeat (first | exact trivial | constructor)) (runs_eval tab_ok ?_))
  simp only [ev0, evA, evB, evP, fl, gp, tab, simprocAttr, reduceCtorEq, reduceIte]
  refine fin_run trivial (hK _ ?_) <;> clear hK <;> clear K
  refine qa (qk ?_)
  simp only [Tryd.results132, enA, ev0, evA, evB, evP, fl, gp, tab, simprocAttr, reduceCtorEq, reduceIte]
  all_goals (exact ixf_any p l)

/-! ### What commutes with a set -/

def cent (m : List Int) (n : Nat) (p : Nat → Bool) (a : Nat) : Bool := decide (∀ b, b < n → p b = true → op m n a b = op m n b a)

theorem central11_c {n e : Nat} {m : List Int} (h : GT n m n e) {a b : Nat} (ha : a < n) (hb : b < n) : FnC Tryd.prog 133 [.int .i64 b, .ptr [.int .i64 n, .list (il m)], .ptr [.int .i64 a]] (.bool (!decide (op m n a b = op m n b a))) := by
  refine fnc_of tab_ok Tryd.func133 rfl (by kernel_rfl) (by rw [Tryd.ntmps133]; exact Nat.le_add_left 3 _) ?_; rw [Tryd.ntmps133]
  refine qm ?_
  refine hk_region fun K hK => runs_eval tab_ok ?_
  simp only [ev0, evA, evB, evP, fl, gp, tab, simprocAttr, reduceCtorEq, reduceIte]
  refine fin_run trivial (hK _ ?_) <;> clear hK <;> clear K
  refine qa (qm ?_)
  refine hk_draw mixed (by kernel_rfl) fun K hK => runs_eval tab_ok ?_
  simp only [ev0, evA, evB, evP, fl, gp, tab, simprocAttr, reduceCtorEq, reduceIte]
  refine fin_stop trivial (runs_call (of_c h.2.1 ha hb) rfl rfl rfl (by simp only [dstOk, Nat.reduceLT]) (by repeat (first | exact trivial | constructor)) (runs_eval tab_ok ?_))
  simp only [ev0, evA, evB, evP, fl, gp, tab, simprocAttr, reduceCtorEq, reduceIte]
  refine fin_stop trivial (runs_call (of_c h.2.1 hb ha) rfl rfl rfl (by simp only [dstOk, Nat.reduceLT]) (by repeat (first | exact trivial | constructor)) (runs_eval tab_ok ?_))
  simp only [ev0, evA, evB, evP, fl, gp, tab, simprocAttr, reduceCtorEq, reduceIte]
  refine fin_run ?_ (hK _ ?_) <;> clear hK <;> clear K
  · (first | exact trivial | omega | (simp only [In64] at *; omega) | (simp [In64] at *; omega) | (simp_all; done) | skip)
  refine qa (qk ?_)
  simp only [Tryd.results133, enA, ev0, evA, evB, evP, fl, gp, tab, simprocAttr, reduceCtorEq, reduceIte]
  all_goals (congr 1; exact decide_eq_decide.2 (by omega))
theorem cent_any {n e : Nat} {m : List Int} (h : GT n m n e) (p : Nat → Bool) {a : Nat} (ha : a < n) : (!(thl n p).any fun x => !decide (op m n a x.toNat = op m n x.toNat a)) = cent m n p a := by
  unfold cent
  rw [Bool.eq_iff_iff]
  simp only [Bool.not_eq_true', decide_eq_true_eq]
  rw [List.any_eq_false]
  constructor
  · intro h1 b hb hp
    have := h1 _ ((mem_thl_n hb).2 hp)
    simpa using this
  · intro h1 x hx
    obtain ⟨b, hb, hp, rfl⟩ := mem_thl.1 hx
    simpa using h1 b hb hp

theorem central1_c {n e : Nat} {m : List Int} (h : GT n m n e) (p : Nat → Bool) {a : Nat} (ha : a < n) : FnC Tryd.prog 131 [.int .i64 a, .ptr [.list (il (thl n p))], .ptr [.int .i64 n, .list (il m)]] (.bool (cent m n p a)) := by
  have hb := h.2.1.big
  have hl := thl_le n p
  have hc := cent_any h p ha
  refine fnc_of tab_ok Tryd.func131 rfl (by kernel_rfl) (by rw [Tryd.ntmps131]; exact Nat.le_add_left 3 _) ?_; rw [Tryd.ntmps131]
  refine qm ?_
  refine hk_region fun K hK => runs_eval tab_ok ?_
  simp only [ev0, evA, evB, evP, fl, gp, tab, simprocAttr, reduceCtorEq, reduceIte]
  refine fin_run ?_ (hK _ ?_) <;> clear hK <;> clear K
  · (first | exact trivial | omega | (simp only [In64] at *; omega) | (simp [In64] at *; omega) | (simp_all; done) | skip)
  refine qa (qm ?_)
  refine hk_freeze 0 rfl rfl ?_
  simp only [hset]
  refine hk_region fun K hK => runs_eval tab_ok ?_
  simp only [ev0, evA, evB, evP, fl, gp, tab, simprocAttr, reduceCtorEq, reduceIte]
  refine fin_stop trivial (runs_call (containsFunc_c (thl n p) _ _ (fun x => !decide (op m n a x.toNat = op m n x.toNat a)) (by omega) (fun x hx => by
    obtain ⟨b, hb', _, rfl⟩ := mem_thl.1 hx
    exact central11_c h ha hb')) rfl rfl rfl (by simp only [dstOk, Nat.reduceLT]) (by repeat (first | exact trivial | constructor)) (runs_eval tab_ok ?_))
  simp only [ev0, evA, evB, evP, fl, gp, tab, simprocAttr, reduceCtorEq, reduceIte]
  refine fin_run ?_ (hK _ ?_) <;> clear hK <;> clear K
  · (first | exact trivial | omega | (simp only [In64] at *; omega) | (simp [In64] at *; omega) | (simp_all; done) | skip)
  refine qa (qk ?_)
  simp only [Tryd.results131, enA, ev0, evA, evB, evP, fl, gp, tab, simprocAttr, reduceCtorEq, reduceIte]
  all_goals (exact hc)

theorem central_no (N : Int) (m l : List Int) (hm : m.length ≤ 1000000000000000) (hl : l.length ≤ 1000000000000000) (hf : ¬ (sf N m l).1 = 0) : FnC Tryd.prog 113 [gp N m, .list (il l)] (.tup [.list [], fl (sf N m l)]) := by
  refine fnc_of tab_ok Tryd.func113 rfl (by kernel_rfl) (by rw [Tryd.ntmps113]; exact Nat.le_add_left 2 _) ?_; rw [Tryd.ntmps113]
  refine qm ?_
  refine hk_region fun K hK => runs_eval tab_ok ?_
  simp only [ev0, evA, evB, evP, fl, gp, tab, simprocAttr, reduceCtorEq, reduceIte]
  refine fin_run ?_ (hK _ ?_) <;> clear hK <;> clear K
  · (first | exact trivial | omega | (simp only [In64] at *; omega) | (simp [In64] at *; omega) | (simp_all; done) | skip)
  refine qa (qm (qm ?_))
  refine hk_region fun K hK => runs_eval tab_ok ?_
  simp only [ev0, evA, evB, evP, fl, gp, tab, simprocAttr, reduceCtorEq, reduceIte]
  refine fin_stop trivial (runs_call (look_c N m l hm hl) rfl rfl rfl (by simp only [dstOk, Nat.reduceLT]) (by repeat (first | exact trivial | constructor)) (runs_eval tab_ok ?_))
  simp only [ev0, evA, evB, evP, fl, gp, tab, simprocAttr, reduceCtorEq, reduceIte]
  refine fin_run ?_ (hK _ ?_) <;> clear hK <;> clear K
  · (first | exact trivial | omega | (simp only [In64] at *; omega) | (simp [In64] at *; omega) | (simp_all; done) | skip)
  refine qa (qm ?_)
  refine hk_region fun K hK => runs_eval tab_ok ?_
  simp only [ev0, evA, evB, evP, fl, gp, tab, simprocAttr, reduceCtorEq, reduceIte]
  refine fin_run ?_ (hK _ ?_) <;> clear hK <;> clear K
  · (first | exact trivial | omega | (simp only [In64] at *; omega) | (simp [In64] at *; omega) | (simp_all; done) | skip)
  refine qa ?_
  refine hk_cond rfl (fun hC1 => ?_) (fun hC1 => ?_)
  · (try simp only [nhs] at hC1)
    refine qm ?_
    refine hk_draw mixed (by kernel_rfl) fun K hK => runs_eval tab_ok ?_
    simp only [ev0, evA, evB, evP, fl, gp, tab, simprocAttr, reduceCtorEq, reduceIte]
    refine fin_run ?_ (hK _ ?_) <;> clear hK <;> clear K
    · (first | exact trivial | omega | (simp only [In64] at *; omega) | (simp [In64] at *; omega) | (simp_all; done) | skip)
    refine qa (qk (qb ?_))
    simp only [Tryd.results113, enA, ev0, evA, evB, evP, fl, gp, tab, simprocAttr, reduceCtorEq, reduceIte]
    all_goals ((first | exact rfl | exact ⟨rfl, rfl⟩ | exact ⟨rfl, rfl, rfl⟩ | exact ⟨trivial, rfl⟩ | exact ⟨Nat.le_refl _, rfl⟩ | trivial | (simp; done)))
  · (try simp only [nhs] at hC1)
    exact absurd hC1 hf
theorem central_ok {n e : Nat} {m : List Int} (h : GT n m n e) (p : Nat → Bool) : FnC Tryd.prog 113 [gp n m, .list (il (thl n p))] (.tup [.list (il (thl n (cent m n p))), fl (0, 0)]) := by
  have hb := h.2.1.big
  have hl := thl_le n p
  have hml := h.2.1.len
  have hsq := sq_le hb
  refine fnc_of tab_ok Tryd.func113 rfl (by kernel_rfl) (by rw [Tryd.ntmps113]; exact Nat.le_add_left 2 _) ?_; rw [Tryd.ntmps113]
  refine qm ?_
  refine hk_region fun K hK => runs_eval tab_ok ?_
  simp only [ev0, evA, evB, evP, fl, gp, tab, simprocAttr, reduceCtorEq, reduceIte]
  refine fin_run ?_ (hK _ ?_) <;> clear hK <;> clear K
  · (first | exact trivial | omega | (simp only [In64] at *; omega) | (simp [In64] at *; omega) | (simp_all; done) | skip)
  refine qa (qm (qm ?_))
  refine hk_region fun K hK => runs_eval tab_ok ?_
  simp only [ev0, evA, evB, evP, fl, gp, tab, simprocAttr, reduceCtorEq, reduceIte]
  refine fin_stop trivial (runs_call (look_c n m (thl n p) (by omega) (by omega)) rfl rfl rfl (by simp only [dstOk, Nat.reduceLT]) (by repeat (first | exact trivial | constructor)) (runs_eval tab_ok ?_))
  simp only [ev0, evA, evB, evP, fl, gp, tab, simprocAttr, reduceCtorEq, reduceIte, sf_thl h]
  refine fin_run ?_ (hK _ ?_) <;> clear hK <;> clear K
  · (first | exact trivial | omega | (simp only [In64] at *; omega) | (simp [In64] at *; omega) | (simp_all; done) | skip)
  refine qa (qm ?_)
  refine hk_region fun K hK => runs_eval tab_ok ?_
  simp only [ev0, evA, evB, evP, fl, gp, tab, simprocAttr, reduceCtorEq, reduceIte]
  refine fin_run ?_ (hK _ ?_) <;> clear hK <;> clear K
  · (first | exact trivial | omega | (simp only [In64] at *; omega) | (simp [In64] at *; omega) | (simp_all; done) | skip)
  refine qa ?_
  refine hk_cond rfl (fun hC1 => ?_) (fun hC1 => ?_)
  · cases hC1
  · (try simp only [nhs] at hC1)
    refine qh (qa (qm ?_))
    refine hk_freeze 0 rfl rfl ?_
    refine hk_freeze 1 rfl rfl ?_
    simp only [hset]
    refine hk_region fun K hK => runs_eval tab_ok ?_
    simp only [ev0, evA, evB, evP, fl, gp, tab, simprocAttr, reduceCtorEq, reduceIte]
    refine fin_stop trivial (runs_call (choose_c n m _ _ (cent m n p) (by omega) (fun a ha => central1_c h p ha)) rfl rfl rfl (by simp only [dstOk, Nat.reduceLT]) (by repeat (first | exact trivial | constructor)) (runs_eval tab_ok ?_))
    simp only [ev0, evA, evB, evP, fl, gp, tab, simprocAttr, reduceCtorEq, reduceIte]
    refine fin_run ?_ (hK _ ?_) <;> clear hK <;> clear K
    · (first | exact trivial | omega | (simp only [In64] at *; omega) | (simp [In64] at *; omega) | (simp_all; done) | skip)
    refine qa (qk ?_)
    simp only [Tryd.results113, enA, ev0, evA, evB, evP, fl, gp, tab, simprocAttr, reduceCtorEq, reduceIte]
    all_goals ((first | exact rfl | exact ⟨rfl, rfl⟩ | exact ⟨rfl, rfl, rfl⟩ | exact ⟨trivial, rfl⟩ | exact ⟨Nat.le_refl _, rfl⟩ | trivial | (simp; done)))

theorem centre1_c (a : Int) : FnC Tryd.prog 114 [.int .i64 a] (.bool true) := by
  refine fnc_of tab_ok Tryd.func114 rfl (by kernel_rfl) (by rw [Tryd.ntmps114]; exact Nat.le_add_left 1 _) ?_; rw [Tryd.ntmps114]
  refine qm ?_
  refine hk_region fun K hK => runs_eval tab_ok ?_
  simp only [ev0, evA, evB, evP, fl, gp, tab, simprocAttr, reduceCtorEq, reduceIte]
  refine fin_run trivial (hK _ ?_) <;> clear hK <;> clear K
  refine qa (qm ?_)
  refine hk_region fun K hK => runs_eval tab_ok ?_
  simp only [ev0, evA, evB, evP, fl, gp, tab, simprocAttr, reduceCtorEq, reduceIte]
  refine fin_run trivial (hK _ ?_) <;> clear hK <;> clear K
  refine qa (qk ?_)
  simp only [Tryd.results114, enA, ev0, evA, evB, evP, fl, gp, tab, simprocAttr, reduceCtorEq, reduceIte]
  all_goals (rfl)
theorem centre_no (N : Int) (m : List Int) (hm : m.length ≤ 1000000000000000) (hf : ¬ (gf N m).1 = 0) : FnC Tryd.prog 74 [gp N m] (.tup [.list [], fl (gf N m)]) := by
  refine fnc_of tab_ok Tryd.func74 rfl (by kernel_rfl) (by rw [Tryd.ntmps74]; exact Nat.le_add_left 1 _) ?_; rw [Tryd.ntmps74]
  refine qm ?_
  refine hk_region fun K hK => runs_eval tab_ok ?_
  simp only [ev0, evA, evB, evP, fl, gp, tab, simprocAttr, reduceCtorEq, reduceIte]
  refine fin_run ?_ (hK _ ?_) <;> clear hK <;> clear K
  · (first | exact trivial | omega | (simp only [In64] at *; omega) | (simp [In64] at *; omega) | (simp_all; done) | skip)
  refine qa (qm (qm ?_))
  refine hk_region fun K hK => runs_eval tab_ok ?_
  simp only [ev0, evA, evB, evP, fl, gp, tab, simprocAttr, reduceCtorEq, reduceIte]
  refine fin_stop trivial (runs_call (check_c N m hm) rfl rfl rfl (by simp only [dstOk, Nat.reduceLT]) (by repeat (first | exact trivial | constructor)) (runs_eval tab_ok ?_))
  simp only [ev0, evA, evB, evP, fl, gp, tab, simprocAttr, reduceCtorEq, reduceIte]
  refine fin_run ?_ (hK _ ?_) <;> clear hK <;> clear K
  · (first | exact trivial | omega | (simp only [In64] at *; omega) | (simp [In64] at *; omega) | (simp_all; done) | skip)
  refine qa (qm ?_)
  refine hk_region fun K hK => runs_eval tab_ok ?_
  simp only [ev0, evA, evB, evP, fl, gp, tab, simprocAttr, reduceCtorEq, reduceIte]
  refine fin_run ?_ (hK _ ?_) <;> clear hK <;> clear K
  · (first | exact trivial | omega | (simp only [In64] at *; omega) | (simp [In64] at *; omega) | (simp_all; done) | skip)
  refine qa ?_
  refine hk_cond rfl (fun hC1 => ?_) (fun hC1 => ?_)
  · (try simp only [nhs] at hC1)
    refine qm ?_
    refine hk_draw mixed (by kernel_rfl) fun K hK => runs_eval tab_ok ?_
    simp only [ev0, evA, evB, evP, fl, gp, tab, simprocAttr, reduceCtorEq, reduceIte]
    refine fin_run ?_ (hK _ ?_) <;> clear hK <;> clear K
    · (first | exact trivial | omega | (simp only [In64] at *; omega) | (simp [In64] at *; omega) | (simp_all; done) | skip)
    refine qa (qk (qb ?_))
    simp only [Tryd.results74, enA, ev0, evA, evB, evP, fl, gp, tab, simprocAttr, reduceCtorEq, reduceIte]
    all_goals ((first | exact rfl | exact ⟨rfl, rfl⟩ | exact ⟨rfl, rfl, rfl⟩ | exact ⟨trivial, rfl⟩ | exact ⟨Nat.le_refl _, rfl⟩ | trivial | (simp; done)))
  · (try simp only [nhs] at hC1)
    exact absurd hC1 hf
theorem centre_ok {n e : Nat} {m : List Int} (h : GT n m n e) : FnC Tryd.prog 74 [gp n m] (.tup [.list (il (thl n (cent m n fun _ => true))), fl (0, 0)]) := by
  have hb := h.2.1.big
  have hml := h.2.1.len
  have hsq := sq_le hb
  refine fnc_of tab_ok Tryd.func74 rfl (by kernel_rfl) (by rw [Tryd.ntmps74]; exact Nat.le_add_left 1 _) ?_; rw [Tryd.ntmps74]
  refine qm ?_
  refine hk_region fun K hK => runs_eval tab_ok ?_
  simp only [ev0, evA, evB, evP, fl, gp, tab, simprocAttr, reduceCtorEq, reduceIte]
  refine fin_run ?_ (hK _ ?_) <;> clear hK <;> clear K
  · (first | exact trivial | omega | (simp only [In64] at *; omega) | (simp [In64] at *; omega) | (simp_all; done) | skip)
  refine qa (qm (qm ?_))
  refine hk_region fun K hK => runs_eval tab_ok ?_
  simp only [ev0, evA, evB, evP, fl, gp, tab, simprocAttr, reduceCtorEq, reduceIte]
  refine fin_stop trivial (runs_call (check_c n m (by omega)) rfl rfl rfl (by simp only [dstOk, Nat.reduceLT]) (by repeat (first | exact trivial | constructor)) (runs_eval tab_ok ?_))
  simp only [ev0, evA, evB, evP, fl, gp, tab, simprocAttr, reduceCtorEq, reduceIte, gf_of h]
  refine fin_run ?_ (hK _ ?_) <;> clear hK <;> clear K
  · (first | exact trivial | omega | (simp only [In64] at *; omega) | (simp [In64] at *; omega) | (simp_all; done) | skip)
  refine qa (qm ?_)
  refine hk_region fun K hK => runs_eval tab_ok ?_
  simp only [ev0, evA, evB, evP, fl, gp, tab, simprocAttr, reduceCtorEq, reduceIte]
  refine fin_run ?_ (hK _ ?_) <;> clear hK <;> clear K
  · (first | exact trivial | omega | (simp only [In64] at *; omega) | (simp [In64] at *; omega) | (simp_all; done) | skip)
  refine qa ?_
  refine hk_cond rfl (fun hC1 => ?_) (fun hC1 => ?_)
  · cases hC1
  · (try simp only [nhs] at hC1)
    refine qh (qa (qm ?_))
    refine hk_draw mixed (by kernel_rfl) fun K hK => runs_eval tab_ok ?_
    simp only [ev0, evA, evB, evP, fl, gp, tab, simprocAttr, reduceCtorEq, reduceIte]
    refine fin_stop trivial (runs_call (choose_c n m _ _ (fun _ => true) (by omega) (fun a ha => centre1_c a)) rfl rfl rfl (by simp only [dstOk, Nat.reduceLT]) (by repeat (first | exact trivial | constructor)) (runs_eval tab_ok ?_))
    simp only [ev0, evA, evB, evP, fl, gp, tab, simprocAttr, reduceCtorEq, reduceIte]
    refine fin_stop trivial (runs_call (central_ok h (fun _ => true)) rfl rfl rfl (by simp only [dstOk, Nat.reduceLT]) (by repeat (first | exact trivial | constructor)) (runs_eval tab_ok ?_))
    simp only [ev0, evA, evB, evP, fl, gp, tab, simprocAttr, reduceCtorEq, reduceIte]
    refine fin_run ?_ (hK _ ?_) <;> clear hK <;> clear K
    · (first | exact trivial | omega | (simp only [In64] at *; omega) | (simp [In64] at *; omega) | (simp_all; done) | skip)
    refine qa (qk ?_)
    simp only [Tryd.results74, enA, ev0, evA, evB, evP, fl, gp, tab, simprocAttr, reduceCtorEq, reduceIte]
    all_goals ((first | exact rfl | exact ⟨rfl, rfl⟩ | exact ⟨rfl, rfl, rfl⟩ | exact ⟨trivial, rfl⟩ | exact ⟨Nat.le_refl _, rfl⟩ | trivial | (simp; done)))

/-! ### The square's group -/

def sq8 : List Int := tbl (fun a b => (dih 4 a b : Nat)) 8
theorem sq8_gf : (gf 8 sq8).1 = 0 := by decide +kernel
theorem sq8_gt : ∃ e, GT (8 : Nat) sq8 8 e := by
  obtain ⟨n, e, h, _⟩ := gf_ok sq8_gf
  obtain rfl : n = 8 := by have := h.1; omega
  exact ⟨e, h⟩

theorem tm4 (a : Nat) : Int.tmod (a : Int) 4 = ((a % 4 : Nat) : Int) := rfl
theorem td4 (a : Nat) : Int.tdiv (a : Int) 4 = ((a / 4 : Nat) : Int) := rfl

theorem square_c : FnC Tryd.prog 75 [] (gp 8 sq8) := by
  have hlen := tbr_len (fun a b => (dih 4 a b : Nat)) 8
  refine fnc_of tab_ok Tryd.func75 rfl (by kernel_rfl) (by rw [Tryd.ntmps75]; exact Nat.le_add_left 0 _) ?_; rw [Tryd.ntmps75]
  refine qm ?_
  refine hk_region fun K hK => runs_eval tab_ok ?_
  simp only [ev0, evA, evB, evP, fl, gp, tab, simprocAttr, reduceCtorEq, reduceIte]
  refine fin_run ?_ (hK _ ?_) <;> clear hK <;> clear K
  · (first | exact trivial | omega | (simp only [In64] at *; omega) | (simp [In64] at *; omega) | (simp_all; done) | skip)
  refine qa (qm ?_)
  refine hk_region fun K hK => runs_eval tab_ok ?_
  simp only [ev0, evA, evB, evP, fl, gp, tab, simprocAttr, reduceCtorEq, reduceIte]
  refine fin_run ?_ (hK _ ?_) <;> clear hK <;> clear K
  · (first | exact trivial | omega | (simp only [In64] at *; omega) | (simp [In64] at *; omega) | (simp_all; done) | skip)
  refine qa (qm (qm ?_))
  refine hk_own0c 1 1 rfl rfl ?_
  simp only [hset, List.cons_append, List.nil_append, List.set, List.length_cons, List.length_nil]
  refine hk_region fun K hK => runs_eval tab_ok ?_
  simp only [ev0, evA, evB, evP, fl, gp, tab, simprocAttr, reduceCtorEq, reduceIte]
  refine fin_run trivial (hK _ ?_) <;> clear hK <;> clear K
  refine qa (ql ?_)
  refine hk_loop (ι := Nat) (fun a => ⟨39, [(0, .ptr 0 0), (1, .ptr 1 0), (2, .p (.int .i64 a))], [.own [.p (.int .i64 0), .p .nil], .own [.p (.int .i64 8), .sl 2 0 (tbr (fun a b => (dih 4 a b : Nat)) 8 (a * 8)).length], .own (ol (tbr (fun a b => (dih 4 a b : Nat)) 8 (a * 8)))]⟩) (fun a => a ≤ 8) (fun a => 8 - a) 0 (Nat.zero_le _) [0, 1, 2] (by simp only [leq, leA, ev0, evA, evB, evP, fl, gp, tab, simprocAttr, reduceCtorEq, reduceIte] <;> simp [tbr, rg, ol_nil]) fun a ha => ?_
  refine qm (qm ?_)
  refine hk_region fun K hK => runs_eval tab_ok ?_
  simp only [ev0, evA, evB, evP, fl, gp, tab, simprocAttr, reduceCtorEq, reduceIte]
  refine fin_run trivial (hK _ ?_) <;> clear hK <;> clear K
  refine qa ?_
  refine hk_cond rfl (fun hC1 => ?_) (fun hC1 => ?_)
  · (try simp only [nhs] at hC1)
    have hal : a < 8 := by omega
    refine qh (qa (qm (ql (qm ?_))))
    refine hk_region fun K hK => runs_eval tab_ok ?_
    simp only [ev0, evA, evB, evP, fl, gp, tab, simprocAttr, reduceCtorEq, reduceIte]
    refine fin_run trivial (hK _ ?_) <;> clear hK <;> clear K
    refine qa (ql ?_)
    refine hk_loop (ι := Nat) (fun b => ⟨39, [(0, .ptr 0 0), (1, .ptr 1 0), (2, .p (.int .i64 a)), (3, .p (.int .i64 b))], [.own [.p (.int .i64 0), .p .nil], .own [.p (.int .i64 8), .sl 2 0 (tbr (fun a b => (dih 4 a b : Nat)) 8 (a * 8 + b)).length], .own (ol (tbr (fun a b => (dih 4 a b : Nat)) 8 (a * 8 + b)))]⟩) (fun b => b ≤ 8) (fun b => 8 - b) 0 (Nat.zero_le _) [0, 1, 2] (by rw [Nat.add_zero]; simp only [leq, leA, ev0, evA, evB, evP, fl, gp, tab, simprocAttr, reduceCtorEq, reduceIte] <;> trivial) fun b hb => ?_
    refine qm (qm ?_)
    refine hk_region fun K hK => runs_eval tab_ok ?_
    simp only [ev0, evA, evB, evP, fl, gp, tab, simprocAttr, reduceCtorEq, reduceIte]
    refine fin_run trivial (hK _ ?_) <;> clear hK <;> clear K
    refine qa ?_
    refine hk_cond rfl (fun hC2 => ?_) (fun hC2 => ?_)
    · (try simp only [nhs] at hC2)
      have hbl : b < 8 := by omega
      have hl := hlen (a * 8 + b)
      have hs : (4 : Int) - ((b % 4 : Nat) : Int) = ((4 - b % 4 : Nat) : Int) := by omega
      have hm : (((a / 4 + b / 4) % 2 : Nat) : Int) * 4 = (((a / 4 + b / 4) % 2 * 4 : Nat) : Int) := by omega
      refine qh (qa (qm (ql (qm ?_))))
      refine hk_region fun K hK => runs_eval tab_ok ?_
      simp only [ev0, evA, evB, evP, fl, gp, tab, simprocAttr, reduceCtorEq, reduceIte, tm4]
      refine fin_run ?_ (hK _ ?_) <;> clear hK <;> clear K
      · (first | exact trivial | omega | (simp only [In64] at *; omega) | (simp [In64] at *; omega) | (simp_all; done) | skip)
      refine qa (qm (qm ?_))
      refine hk_region fun K hK => runs_eval tab_ok ?_
      simp only [ev0, evA, evB, evP, fl, gp, tab, simprocAttr, reduceCtorEq, reduceIte]
      refine fin_run trivial (hK _ ?_) <;> clear hK <;> clear K
      refine qa ?_
      refine hk_cond rfl (fun hC3 => ?_) (fun hC3 => ?_)
      · (try simp only [nhs] at hC3)
        have hd : dih 4 a b = (a % 4 + (4 - b % 4)) % 4 + (a / 4 + b / 4) % 2 * 4 := by rw [dih, if_pos (by omega)]
        refine hk_region fun K hK => runs_eval tab_ok ?_
        simp only [ev0, evA, evB, evP, fl, gp, tab, simprocAttr, reduceCtorEq, reduceIte, hs]
        refine fin_run ?_ (hK _ ?_) <;> clear hK <;> clear K
        · (first | exact trivial | omega | (simp only [In64] at *; omega) | (simp [In64] at *; omega) | (simp_all; done) | skip)
        refine qa ?_
        refine hk_region fun K hK => runs_eval tab_ok ?_
        simp only [ev0, evA, evB, evP, fl, gp, tab, simprocAttr, reduceCtorEq, reduceIte, tm4, td4, ← Int.natCast_add, tm_lit, hm]
        refine fin_run ?_ (hK _ ?_) <;> clear hK <;> clear K
        · simp only [In64]; omega
        refine qd (qa ?_)
        refine hk_region fun K hK => runs_eval tab_ok ?_
        simp only [ev0, evA, evB, evP, fl, gp, tab, simprocAttr, reduceCtorEq, reduceIte]
        refine fin_run ?_ (hK _ ?_) <;> clear hK <;> clear K
        · (first | exact trivial | omega | (simp only [In64] at *; omega) | (simp [In64] at *; omega) | (simp_all; done) | skip)
        refine qa ?_
        refine ⟨b + 1, [0, 1, 3], by omega, by omega, ?_⟩
        rw [tbr_succ (fun a b => (dih 4 a b : Nat)) hbl]
        simp only [hd]
        simp only [leq, leA, ev0, evA, evB, evP, fl, gp, tab, simprocAttr, reduceCtorEq, reduceIte] <;> first | trivial | omega
      · (try simp only [nhs] at hC3)
        have hd : dih 4 a b = (a % 4 + b % 4) % 4 + (a / 4 + b / 4) % 2 * 4 := by rw [dih, if_neg (by omega)]
        refine qh (qa ?_)
        refine hk_region fun K hK => runs_eval tab_ok ?_
        simp only [ev0, evA, evB, evP, fl, gp, tab, simprocAttr, reduceCtorEq, reduceIte, tm4, td4, ← Int.natCast_add, tm_lit, hm]
        refine fin_run ?_ (hK _ ?_) <;> clear hK <;> clear K
        · simp only [In64]; omega
        refine qd (qa ?_)
        refine hk_region fun K hK => runs_eval tab_ok ?_
        simp only [ev0, evA, evB, evP, fl, gp, tab, simprocAttr, reduceCtorEq, reduceIte]
        refine fin_run ?_ (hK _ ?_) <;> clear hK <;> clear K
        · (first | exact trivial | omega | (simp only [In64] at *; omega) | (simp [In64] at *; omega) | (simp_all; done) | skip)
        refine qa ?_
        refine ⟨b + 1, [0, 1, 3], by omega, by omega, ?_⟩
        rw [tbr_succ (fun a b => (dih 4 a b : Nat)) hbl]
        simp only [hd]
        simp only [leq, leA, ev0, evA, evB, evP, fl, gp, tab, simprocAttr, reduceCtorEq, reduceIte] <;> first | trivial | omega
    · (try simp only [nhs] at hC2)
      have hbn : b = 8 := by omega
      refine qj (qc (qc (qf (qd (qa ?_)))))
      refine hk_region fun K hK => runs_eval tab_ok ?_
      simp only [ev0, evA, evB, evP, fl, gp, tab, simprocAttr, reduceCtorEq, reduceIte]
      refine fin_run ?_ (hK _ ?_) <;> clear hK <;> clear K
      · (first | exact trivial | omega | (simp only [In64] at *; omega) | (simp [In64] at *; omega) | (simp_all; done) | skip)
      refine qa ?_
      refine ⟨a + 1, [0, 1, 2], by omega, by omega, ?_⟩
      rw [hbn, show (a + 1) * 8 = a * 8 + 8 by rw [Nat.add_mul, Nat.one_mul]]
      simp only [leq, leA, ev0, evA, evB, evP, fl, gp, tab, simprocAttr, reduceCtorEq, reduceIte] <;> first | trivial | omega
  · (try simp only [nhs] at hC1)
    have han : a = 8 := by omega
    refine qj (qc (qc (qf (qa (qm ?_)))))
    refine hk_region fun K hK => runs_eval tab_ok ?_
    simp only [ev0, evA, evB, evP, fl, gp, tab, simprocAttr, reduceCtorEq, reduceIte]
    refine fin_run ?_ (hK _ ?_) <;> clear hK <;> clear K
    · (first | exact trivial | omega | (simp only [In64] at *; omega) | (simp [In64] at *; omega) | (simp_all; done) | skip)
    refine qa (qk ?_)
    simp only [Tryd.results75, enA, ev0, evA, evB, evP, fl, gp, tab, simprocAttr, reduceCtorEq, reduceIte]
    all_goals (simp [han, sq8, tbl])

theorem begun_s : FnC Tryd.prog 19 [] (.bool true) := by
  obtain ⟨e, h⟩ := sq8_gt
  have hz : thl 8 (cent sq8 8 fun _ => true) = [0, 2] := by decide +kernel
  refine fnc_of tab_ok Tryd.func19 rfl (by kernel_rfl) (by rw [Tryd.ntmps19]; exact Nat.le_add_left 0 _) ?_; rw [Tryd.ntmps19]
  refine qm ?_
  refine hk_region fun K hK => runs_eval tab_ok ?_
  simp only [ev0, evA, evB, evP, fl, gp, tab, simprocAttr, reduceCtorEq, reduceIte]
  refine fin_run trivial (hK _ ?_) <;> clear hK <;> clear K
  refine qa (qm ?_)
  refine hk_region fun K hK => runs_eval tab_ok ?_
  simp only [ev0, evA, evB, evP, fl, gp, tab, simprocAttr, reduceCtorEq, reduceIte]
  refine fin_stop trivial (runs_call (square_c) rfl rfl rfl (by simp only [dstOk, Nat.reduceLT]) (by repeat (first | exact trivial | constructor)) (runs_eval tab_ok ?_))
  simp only [ev0, evA, evB, evP, fl, gp, tab, simprocAttr, reduceCtorEq, reduceIte]
  refine fin_stop trivial (runs_call (centre_ok h) rfl rfl rfl (by simp only [dstOk, Nat.reduceLT]) (by repeat (first | exact trivial | constructor)) (runs_eval tab_ok ?_))
  simp only [ev0, evA, evB, evP, fl, gp, tab, simprocAttr, reduceCtorEq, reduceIte, hz]
  refine fin_run ?_ (hK _ ?_) <;> clear hK <;> clear K
  · (first | exact trivial | omega | (simp only [In64] at *; omega) | (simp [In64] at *; omega) | (simp_all; done) | skip)
  refine qa (qm ?_)
  refine hk_region fun K hK => runs_eval tab_ok ?_
  simp only [ev0, evA, evB, evP, fl, gp, tab, simprocAttr, reduceCtorEq, reduceIte]
  refine fin_stop trivial (runs_call (FnC.sub (args' := [.list (il [0, 2]), .nn (il [0, 2])]) (ints_c [0, 2] [0, 2] (by decide)) (And.intro (.same _) (And.intro (.nn _) trivial))) rfl rfl rfl (by simp only [dstOk, Nat.reduceLT]) (by repeat (first | exact trivial | constructor)) (runs_eval tab_ok ?_))
  simp only [ev0, evA, evB, evP, fl, gp, tab, simprocAttr, reduceCtorEq, reduceIte]
  refine fin_run ?_ (hK _ ?_) <;> clear hK <;> clear K
  · (first | exact trivial | omega | (simp only [In64] at *; omega) | (simp [In64] at *; omega) | (simp_all; done) | skip)
  refine qa (qk ?_)
  simp only [Tryd.results19, enA, ev0, evA, evB, evP, fl, gp, tab, simprocAttr, reduceCtorEq, reduceIte]
  all_goals (rfl)
end Go.Proofs.YtjikchbmkodgfaaDoor
