/-
  Texts of this proof, one behind the other: what each says stands at its head. Conditions: none.
-/
import Derived.Test.YtjikchbmkodgfaaDoorB4
import Derived.Test.YtjikchbmkodgfaaDoorB3

/-
  Sets of things: what they make, as the document has it. Conditions: none.
-/
set_option linter.all false
namespace Go.Proofs.YtjikchbmkodgfaaDoor
open Go.Pv

/-! ### Looked at -/

theorem thl_get_asc {n : Nat} {p : Nat → Bool} {i j : Nat} (hij : i < j) (hj : j < (thl n p).length) : (thl n p).getD i 0 < (thl n p).getD j 0 := by
  have := List.pairwise_iff_getElem.1 (thl_asc n p) i j (by omega) hj hij
  simpa [List.getD, List.getElem?_eq_getElem hj, List.getElem?_eq_getElem (show i < (thl n p).length by omega)] using this
theorem thl_get {n : Nat} {p : Nat → Bool} {i : Nat} (hi : i < (thl n p).length) : ∃ a, a < n ∧ p a = true ∧ (thl n p).getD i 0 = ((a : Nat) : Int) := by
  have : (thl n p).getD i 0 ∈ thl n p := by simp [List.getD, List.getElem?_eq_getElem hi]
  exact mem_thl.1 this
theorem thl_at {n : Nat} {p : Nat → Bool} {a : Nat} (ha : a < n) (h : p a = true) : ∃ i, i < (thl n p).length ∧ (thl n p).getD i 0 = ((a : Nat) : Int) := by
  obtain ⟨i, hi, e⟩ := List.getElem_of_mem (mem_thl.2 ⟨a, ha, h, rfl⟩)
  exact ⟨i, hi, by simp [List.getD, List.getElem?_eq_getElem hi, e]⟩
theorem mem_thl_n {n : Nat} {p : Nat → Bool} {a : Nat} (ha : a < n) : ((a : Nat) : Int) ∈ thl n p ↔ p a = true := by
  rw [mem_thl]
  constructor
  · rintro ⟨b, _, h2, e⟩
    have : a = b := by omega
    subst this; exact h2
  · exact fun h => ⟨a, ha, h, rfl⟩
theorem lf_thl (n : Nat) (p : Nat → Bool) : lf n (thl n p) = (0, 0) := by
  refine lf_none (by have := thl_le n p; omega) fun j hj => lfb_0 ?_ fun h0 => ?_
  · obtain ⟨a, h1, _, h3⟩ := thl_get hj
    unfold okT; rw [h3]; omega
  · have := thl_get_asc (n := n) (p := p) (show j - 1 < j by omega) hj
    omega
theorem sf_thl {n e : Nat} {m : List Int} (h : GT n m n e) (p : Nat → Bool) : sf n m (thl n p) = (0, 0) := by
  unfold sf; rw [gf_of h, if_neg (by simp), lf_thl]
theorem sf_ok {N : Int} {m l : List Int} (h : (sf N m l).1 = 0) : ∃ n e, GT N m n e ∧ N = (n : Nat) ∧ l = thl n (tst l) ∧ sf N m l = (0, 0) := by
  unfold sf at h
  by_cases hg : (gf N m).1 = 0
  · rw [if_neg (by simpa using hg)] at h
    obtain ⟨n, e, hT, _⟩ := gf_ok hg
    obtain rfl := hT.1
    obtain ⟨h1, h2, _⟩ := lf_list h
    exact ⟨n, e, hT, rfl, h1, by unfold sf; rw [if_neg (by simpa using hg), h2]⟩
  · rw [if_pos hg] at h; exact absurd h hg

theorem gen_bo {n e : Nat} {f : Nat → Nat → Nat} {p : Nat → Bool} {a : Nat} : Gen n f e (bo n p).testBit a ↔ Gen n f e p a :=
  ⟨Gen.mono fun b hb h => by rw [bo_bit] at h; simpa [hb] using h, Gen.mono fun b hb h => by rw [bo_bit]; simpa [hb] using h⟩

theorem is_no (N : Int) (m l : List Int) (hm : m.length ≤ 1000000000000000) (hl : l.length ≤ 1000000000000000) (hf : ¬ (sf N m l).1 = 0) : FnC Tryd.prog 126 [gp N m, .list (il l)] (.tup [.bool false, fl (sf N m l)]) := by
  refine fnc_of tab_ok Tryd.func126 rfl (by kernel_rfl) (by rw [Tryd.ntmps126]; exact Nat.le_add_left 2 _) ?_; rw [Tryd.ntmps126]
  refine qm ?_
  refine hk_region fun K hK => runs_eval tab_ok ?_
  simp only [ev0, evA, evB, evP, fl, gp, tab, simprocAttr, reduceCtorEq, reduceIte]
  refine fin_run ?_ (hK _ ?_) <;> clear hK <;> clear K
  · (first | exact trivial | omega | (simp only [In64] at *; omega) | (simp [In64] at *; omega) | (simp_all; done) | skip)
  refine qa (qm (qm ?_))
  refine hk_region fun K hK => runs_eval tab_ok ?_
  simp only [ev0, evA, evB, evP, fl, gp, tab, simprocAttr, reduceCtorEq, reduceIte]
  refine fin_stop trivial (runs_call (look_c N m l hm hl) rfl rfl rfl (by simp only [dstOk, Nat.reduceLT]) (by repeat (first | exact trivial | constructor)) (runs_eval tab_ok ?_))
  simp only [ev0, evA, evB, evP, fl, gp, tab, simprocAttr, reduceCtorEq, reduceIte]
  refine fin_run ?_ (hK _ ?_) <;> clear hK <;> clear K
  · (first | exact trivial | omega | (simp only [In64] at *; omega) | (simp [In64] at *; omega) | (simp_all; done) | skip)
  refine qa (qm ?_)
  refine hk_region fun K hK => runs_eval tab_ok ?_
  simp only [ev0, evA, evB, evP, fl, gp, tab, simprocAttr, reduceCtorEq, reduceIte]
  refine fin_run ?_ (hK _ ?_) <;> clear hK <;> clear K
  · (first | exact trivial | omega | (simp only [In64] at *; omega) | (simp [In64] at *; omega) | (simp_all; done) | skip)
  refine qa ?_
  refine hk_cond rfl (fun hC1 => ?_) (fun hC1 => ?_)
  · (try simp only [nhs] at hC1)
    refine qm ?_
    refine hk_draw mixed (by kernel_rfl) fun K hK => runs_eval tab_ok ?_
    simp only [ev0, evA, evB, evP, fl, gp, tab, simprocAttr, reduceCtorEq, reduceIte]
    refine fin_run ?_ (hK _ ?_) <;> clear hK <;> clear K
    · (first | exact trivial | omega | (simp only [In64] at *; omega) | (simp [In64] at *; omega) | (simp_all; done) | skip)
    refine qa (qk (qb ?_))
    simp only [Tryd.results126, enA, ev0, evA, evB, evP, fl, gp, tab, simprocAttr, reduceCtorEq, reduceIte]
    all_goals ((first | exact rfl | exact ⟨rfl, rfl⟩ | exact ⟨rfl, rfl, rfl⟩ | exact ⟨trivial, rfl⟩ | exact ⟨Nat.le_refl _, rfl⟩ | trivial | (simp; done)))
  · (try simp only [nhs] at hC1)
    exact absurd hC1 hf

theorem is_ok {n e : Nat} {m : List Int} (h : GT n m n e) (p : Nat → Bool) (b : Bool) (hbs : b = true ↔ Sub n (op m n) e p) : FnC Tryd.prog 126 [gp n m, .list (il (thl n p))] (.tup [.bool b, fl (0, 0)]) := by
  have G := h.2.2
  have hb := h.2.1.big
  have hl := thl_le n p
  have hml := h.2.1.len
  have hsq := sq_le hb
  obtain ⟨q, hq⟩ := gen_ex n (op m n) e p
  have hqs := gen_sub G hq
  have hqp : (((bo n q : Nat) : Int) = ((bo n p : Nat) : Int)) ↔ b = true := by
    rw [hbs]
    constructor
    · intro he
      have he2 : bo n q = bo n p := by omega
      have hc : ∀ a, a < n → q a = p a := fun a ha => bo_inj he2 ha
      refine ⟨?_, fun a b ha hb h1 h2 => ?_, fun a ha h1 => ?_⟩
      · rw [← hc e G.el]; exact hqs.one
      · rw [← hc _ (G.cl a b ha hb)]; exact hqs.mul a b ha hb (by rw [hc a ha]; exact h1) (by rw [hc b hb]; exact h2)
      · rw [← hc _ (G.iv_lt ha)]; exact hqs.inv a ha (by rw [hc a ha]; exact h1)
    · intro hs
      have : bo n q = bo n p := bo_congr fun a ha => by rw [Bool.eq_iff_iff, hq a ha, ← hs.gen G ha]
      rw [this]
  have hpos : b = true → 0 < (thl n p).length := fun hb1 => by
    obtain ⟨i, hi, _⟩ := thl_at G.el (hbs.1 hb1).one
    omega
  refine fnc_of tab_ok Tryd.func126 rfl (by kernel_rfl) (by rw [Tryd.ntmps126]; exact Nat.le_add_left 2 _) ?_; rw [Tryd.ntmps126]
  refine qm ?_
  refine hk_region fun K hK => runs_eval tab_ok ?_
  simp only [ev0, evA, evB, evP, fl, gp, tab, simprocAttr, reduceCtorEq, reduceIte]
  refine fin_run ?_ (hK _ ?_) <;> clear hK <;> clear K
  · (first | exact trivial | omega | (simp only [In64] at *; omega) | (simp [In64] at *; omega) | (simp_all; done) | skip)
  refine qa (qm (qm ?_))
  refine hk_region fun K hK => runs_eval tab_ok ?_
  simp only [ev0, evA, evB, evP, fl, gp, tab, simprocAttr, reduceCtorEq, reduceIte]
  refine fin_stop trivial (runs_call (look_c n m (thl n p) (by omega) (by omega)) rfl rfl rfl (by simp only [dstOk, Nat.reduceLT]) (by repeat (first | exact trivial | constructor)) (runs_eval tab_ok ?_))
  simp only [ev0, evA, evB, evP, fl, gp, tab, simprocAttr, reduceCtorEq, reduceIte, sf_thl h]
  refine fin_run ?_ (hK _ ?_) <;> clear hK <;> clear K
  · (first | exact trivial | omega | (simp only [In64] at *; omega) | (simp [In64] at *; omega) | (simp_all; done) | skip)
  refine qa (qm ?_)
  refine hk_region fun K hK => runs_eval tab_ok ?_
  simp only [ev0, evA, evB, evP, fl, gp, tab, simprocAttr, reduceCtorEq, reduceIte]
  refine fin_run ?_ (hK _ ?_) <;> clear hK <;> clear K
  · (first | exact trivial | omega | (simp only [In64] at *; omega) | (simp [In64] at *; omega) | (simp_all; done) | skip)
  refine qa ?_
  refine hk_cond rfl (fun hC1 => ?_) (fun hC1 => ?_)
  · cases hC1
  · (try simp only [nhs] at hC1)
    refine qh (qa (qm ?_))
    by_cases g4a : ((thl n p).length : Int) > 0
    · refine hk_draw mixed (by kernel_rfl) fun K hK => runs_eval tab_ok ?_
      simp only [ev0, evA, evB, evP, fl, gp, tab, simprocAttr, reduceCtorEq, reduceIte, decide_eq_true g4a]
      refine fin_stop trivial (runs_call (of_s (thl n p) (by omega) (thl_rng hb p)) rfl rfl rfl (by simp only [dstOk, Nat.reduceLT]) (by repeat (first | exact trivial | constructor)) (runs_eval tab_ok ?_))
      simp only [ev0, evA, evB, evP, fl, gp, tab, simprocAttr, reduceCtorEq, reduceIte, msk_thl, decide_eq_true g4a]
      refine fin_stop trivial (runs_call (grow_c h (bo n p) (bo_lt n p) q (fun a ha => by rw [gen_bo]; exact hq a ha)) rfl rfl rfl (by simp only [dstOk, Nat.reduceLT]) (by repeat (first | exact trivial | constructor)) (runs_eval tab_ok ?_))
      simp only [ev0, evA, evB, evP, fl, gp, tab, simprocAttr, reduceCtorEq, reduceIte, decide_eq_true g4a]
      refine fin_stop trivial (runs_call (of_s (thl n p) (by omega) (thl_rng hb p)) rfl rfl rfl (by simp only [dstOk, Nat.reduceLT]) (by repeat (first | exact trivial | constructor)) (runs_eval tab_ok ?_))
      simp only [ev0, evA, evB, evP, fl, gp, tab, simprocAttr, reduceCtorEq, reduceIte, msk_thl, decide_eq_true g4a]
      refine fin_run ?_ (hK _ ?_) <;> clear hK <;> clear K
      · (first | exact trivial | omega | (simp only [In64] at *; omega) | (simp [In64] at *; omega) | (simp_all; done) | skip)
      refine qa (qk ?_)
      simp only [Tryd.results126, enA, ev0, evA, evB, evP, fl, gp, tab, simprocAttr, reduceCtorEq, reduceIte]
      all_goals (rw [Bool.eq_iff_iff, decide_eq_true_eq]; exact hqp)
    · refine hk_draw mixed (by kernel_rfl) fun K hK => runs_eval tab_ok ?_
      simp only [ev0, evA, evB, evP, fl, gp, tab, simprocAttr, reduceCtorEq, reduceIte, decide_eq_false g4a]
      refine fin_run ?_ (hK _ ?_) <;> clear hK <;> clear K
      · (first | exact trivial | omega | (simp only [In64] at *; omega) | (simp [In64] at *; omega) | (simp_all; done) | skip)
      refine qa (qk ?_)
      simp only [Tryd.results126, enA, ev0, evA, evB, evP, fl, gp, tab, simprocAttr, reduceCtorEq, reduceIte]
      cases b with
      | false => rfl
      | true => have := hpos rfl; omega

theorem closed_c {n e : Nat} {m : List Int} (h : GT n m n e) (p : Nat → Bool) (b : Bool) (hbs : b = true ↔ Sub n (op m n) e p) : FnC Tryd.prog 49 [gp n m, .list (il (thl n p))] (.bool b) := by
  have G := h.2.2
  have T := h.2.1
  have hb := T.big
  have hl := thl_le n p
  refine fnc_of tab_ok Tryd.func49 rfl (by kernel_rfl) (by rw [Tryd.ntmps49]; exact Nat.le_add_left 2 _) ?_; rw [Tryd.ntmps49]
  refine qm ?_
  refine hk_region fun K hK => runs_eval tab_ok ?_
  simp only [ev0, evA, evB, evP, fl, gp, tab, simprocAttr, reduceCtorEq, reduceIte]
  refine fin_run ?_ (hK _ ?_) <;> clear hK <;> clear K
  · (first | exact trivial | omega | (simp only [In64] at *; omega) | (simp [In64] at *; omega) | (simp_all; done) | skip)
  refine qa (qm (qm ?_))
  refine hk_region fun K hK => runs_eval tab_ok ?_
  simp only [ev0, evA, evB, evP, fl, gp, tab, simprocAttr, reduceCtorEq, reduceIte]
  refine fin_stop trivial (runs_call (e_c T) rfl rfl rfl (by simp only [dstOk, Nat.reduceLT]) (by repeat (first | exact trivial | constructor)) (runs_eval tab_ok ?_))
  simp only [ev0, evA, evB, evP, fl, gp, tab, simprocAttr, reduceCtorEq, reduceIte, h.eI]
  refine fin_stop trivial (runs_call (has_r (thl n p) (e : Nat) (by omega)) rfl rfl rfl (by simp only [dstOk, Nat.reduceLT]) (by repeat (first | exact trivial | constructor)) (runs_eval tab_ok ?_))
  simp only [ev0, evA, evB, evP, fl, gp, tab, simprocAttr, reduceCtorEq, reduceIte]
  refine fin_run ?_ (hK _ ?_) <;> clear hK <;> clear K
  · (first | exact trivial | omega | (simp only [In64] at *; omega) | (simp [In64] at *; omega) | (simp_all; done) | skip)
  refine qa ?_
  refine hk_cond rfl (fun hC1 => ?_) (fun hC1 => ?_)
  · (try simp only [nhs] at hC1)
    refine qm ?_
    refine hk_region fun K hK => runs_eval tab_ok ?_
    simp only [ev0, evA, evB, evP, fl, gp, tab, simprocAttr, reduceCtorEq, reduceIte]
    refine fin_run trivial (hK _ ?_) <;> clear hK <;> clear K
    refine qa (qk (qb ?_))
    simp only [Tryd.results49, enA, ev0, evA, evB, evP, fl, gp, tab, simprocAttr, reduceCtorEq, reduceIte]
    cases b with
    | false => rfl
    | true => exact absurd ((mem_thl_n G.el).2 (hbs.1 rfl).one) (by simpa using hC1)
  · (try simp only [nhs] at hC1)
    have he : p e = true := (mem_thl_n G.el).1 hC1
    refine qh (qa (qm (qm ?_)))
    refine hk_region fun K hK => runs_eval tab_ok ?_
    simp only [ev0, evA, evB, evP, fl, gp, tab, simprocAttr, reduceCtorEq, reduceIte]
    refine fin_run trivial (hK _ ?_) <;> clear hK <;> clear K
    refine qa (ql ?_)
    refine hk_loop (ι := Nat) (fun i => ⟨46, [(1, .p (.list (il (thl n p)))), (2, .ptr 0 0), (5, .p (.int .i64 i))], [.own [.p (.int .i64 n), .p (.list (il m))]]⟩) (fun i => i ≤ (thl n p).length ∧ ∀ j, j < i → ∀ k, k < (thl n p).length → p (op m n ((thl n p).getD j 0).toNat ((thl n p).getD k 0).toNat) = true) (fun i => (thl n p).length - i) 0 ⟨Nat.zero_le _, fun j hj => by omega⟩ [0] (by simp only [leq, leA, ev0, evA, evB, evP, fl, gp, tab, simprocAttr, reduceCtorEq, reduceIte] <;> trivial) fun i hi => ?_
    obtain ⟨hi1, hi2⟩ := hi
    refine qm (qm ?_)
    refine hk_region fun K hK => runs_eval tab_ok ?_
    simp only [ev0, evA, evB, evP, fl, gp, tab, simprocAttr, reduceCtorEq, reduceIte]
    refine fin_run trivial (hK _ ?_) <;> clear hK <;> clear K
    refine qa ?_
    refine hk_cond rfl (fun hC2 => ?_) (fun hC2 => ?_)
    · (try simp only [nhs] at hC2)
      have hlt : i < (thl n p).length := by omega
      obtain ⟨x, x1, x2, x3⟩ := thl_get hlt
      refine qh (qa (qm (ql (qm (qm ?_)))))
      refine hk_draw mixed (by kernel_rfl) fun K hK => runs_eval tab_ok ?_
      simp only [ev0, evA, evB, evP, fl, gp, tab, simprocAttr, reduceCtorEq, reduceIte, il_get hlt, x3]
      refine fin_stop ?_ (runs_call (i_c T x1) rfl rfl rfl (by simp only [dstOk, Nat.reduceLT]) (by repeat (first | exact trivial | constructor)) (runs_eval tab_ok ?_))
      · (first | exact trivial | omega | (simp only [In64] at *; omega) | (simp [In64] at *; omega) | (simp_all; done) | skip)
      simp only [ev0, evA, evB, evP, fl, gp, tab, simprocAttr, reduceCtorEq, reduceIte, h.iI x1, il_get hlt, x3]
      refine fin_stop trivial (runs_call (has_r (thl n p) (iv n (op m n) e x : Nat) (by omega)) rfl rfl rfl (by simp only [dstOk, Nat.reduceLT]) (by repeat (first | exact trivial | constructor)) (runs_eval tab_ok ?_))
      simp only [ev0, evA, evB, evP, fl, gp, tab, simprocAttr, reduceCtorEq, reduceIte, il_get hlt, x3]
      refine fin_run ?_ (hK _ ?_) <;> clear hK <;> clear K
      · (first | exact trivial | omega | (simp only [In64] at *; omega) | (simp [In64] at *; omega) | (simp_all; done) | skip)
      refine qa ?_
      refine hk_cond rfl (fun hC3 => ?_) (fun hC3 => ?_)
      · (try simp only [nhs] at hC3)
        refine qm ?_
        refine hk_region fun K hK => runs_eval tab_ok ?_
        simp only [ev0, evA, evB, evP, fl, gp, tab, simprocAttr, reduceCtorEq, reduceIte]
        refine fin_run trivial (hK _ ?_) <;> clear hK <;> clear K
        refine qa (qk (qb (qe (qb (qb (qe (qb ?_)))))))
        simp only [Tryd.results49, enA, ev0, evA, evB, evP, fl, gp, tab, simprocAttr, reduceCtorEq, reduceIte]
        cases b with
        | false => rfl
        | true => exact absurd ((mem_thl_n (G.iv_lt x1)).2 ((hbs.1 rfl).inv x x1 x2)) (by simpa using hC3)
      · (try simp only [nhs] at hC3)
        have hi3 : p (iv n (op m n) e x) = true := (mem_thl_n (G.iv_lt x1)).1 hC3
        refine qh (qa (qm ?_))
        refine hk_region fun K hK => runs_eval tab_ok ?_
        simp only [ev0, evA, evB, evP, fl, gp, tab, simprocAttr, reduceCtorEq, reduceIte]
        refine fin_run trivial (hK _ ?_) <;> clear hK <;> clear K
        refine qa (ql ?_)
        refine hk_loop (ι := Nat) (fun k => ⟨46, [(1, .p (.list (il (thl n p)))), (2, .ptr 0 0), (5, .p (.int .i64 i)), (6, .p (.int .i64 k))], [.own [.p (.int .i64 n), .p (.list (il m))]]⟩) (fun k => k ≤ (thl n p).length ∧ ∀ j, j < k → p (op m n x ((thl n p).getD j 0).toNat) = true) (fun k => (thl n p).length - k) 0 ⟨Nat.zero_le _, fun j hj => by omega⟩ [0] (by simp only [leq, leA, ev0, evA, evB, evP, fl, gp, tab, simprocAttr, reduceCtorEq, reduceIte] <;> trivial) fun k hk => ?_
        obtain ⟨hk1, hk2⟩ := hk
        refine qm (qm ?_)
        refine hk_region fun K hK => runs_eval tab_ok ?_
        simp only [ev0, evA, evB, evP, fl, gp, tab, simprocAttr, reduceCtorEq, reduceIte]
        refine fin_run trivial (hK _ ?_) <;> clear hK <;> clear K
        refine qa ?_
        refine hk_cond rfl (fun hC4 => ?_) (fun hC4 => ?_)
        · (try simp only [nhs] at hC4)
          have hkl : k < (thl n p).length := by omega
          obtain ⟨y, y1, y2, y3⟩ := thl_get hkl
          refine qh (qa (qm (ql (qm ?_))))
          refine hk_draw mixed (by kernel_rfl) fun K hK => runs_eval tab_ok ?_
          simp only [ev0, evA, evB, evP, fl, gp, tab, simprocAttr, reduceCtorEq, reduceIte, il_get hlt, il_get hkl, x3, y3]
          refine fin_stop ?_ (runs_call (m_c T x1 y1) rfl rfl rfl (by simp only [dstOk, Nat.reduceLT]) (by repeat (first | exact trivial | constructor)) (runs_eval tab_ok ?_))
          · (first | exact trivial | omega | (simp only [In64] at *; omega) | (simp [In64] at *; omega) | (simp_all; done) | skip)
          simp only [ev0, evA, evB, evP, fl, gp, tab, simprocAttr, reduceCtorEq, reduceIte, il_get hlt, il_get hkl, x3, y3]
          refine fin_stop trivial (runs_call (has_r (thl n p) (op m n x y : Nat) (by omega)) rfl rfl rfl (by simp only [dstOk, Nat.reduceLT]) (by repeat (first | exact trivial | constructor)) (runs_eval tab_ok ?_))
          simp only [ev0, evA, evB, evP, fl, gp, tab, simprocAttr, reduceCtorEq, reduceIte, il_get hlt, il_get hkl, x3, y3]
          refine fin_run ?_ (hK _ ?_) <;> clear hK <;> clear K
          · (first | exact trivial | omega | (simp only [In64] at *; omega) | (simp [In64] at *; omega) | (simp_all; done) | skip)
          refine qa ?_
          refine hk_cond rfl (fun hC5 => ?_) (fun hC5 => ?_)
          · (try simp only [nhs] at hC5)
            refine qm ?_
            refine hk_region fun K hK => runs_eval tab_ok ?_
            simp only [ev0, evA, evB, evP, fl, gp, tab, simprocAttr, reduceCtorEq, reduceIte]
            refine fin_run trivial (hK _ ?_) <;> clear hK <;> clear K
            refine qa (qk (qe (qb (qb (qe (qe (qb (qb (qe (qb ?_))))))))))
            simp only [Tryd.results49, enA, ev0, evA, evB, evP, fl, gp, tab, simprocAttr, reduceCtorEq, reduceIte]
            cases b with
            | false => rfl
            | true => exact absurd ((mem_thl_n (G.cl x y x1 y1)).2 ((hbs.1 rfl).mul x y x1 y1 x2 y2)) (by simpa using hC5)
          · (try simp only [nhs] at hC5)
            have hm3 : p (op m n x y) = true := (mem_thl_n (G.cl x y x1 y1)).1 hC5
            refine qh (qd (qa ?_))
            refine hk_region fun K hK => runs_eval tab_ok ?_
            simp only [ev0, evA, evB, evP, fl, gp, tab, simprocAttr, reduceCtorEq, reduceIte]
            refine fin_run ?_ (hK _ ?_) <;> clear hK <;> clear K
            · (first | exact trivial | omega | (simp only [In64] at *; omega) | (simp [In64] at *; omega) | (simp_all; done) | skip)
            refine qa ?_
            refine ⟨k + 1, [0], ⟨by omega, fun j hj => ?_⟩, by omega, ?_⟩
            · by_cases hj2 : j = k
              · subst hj2; rw [y3, Int.toNat_natCast]; exact hm3
              · exact hk2 j (by omega)
            · simp only [leq, leA, ev0, evA, evB, evP, fl, gp, tab, simprocAttr, reduceCtorEq, reduceIte] <;> omega
        · (try simp only [nhs] at hC4)
          refine qj (qc (qc (qf (qd (qa ?_)))))
          refine hk_region fun K hK => runs_eval tab_ok ?_
          simp only [ev0, evA, evB, evP, fl, gp, tab, simprocAttr, reduceCtorEq, reduceIte]
          refine fin_run ?_ (hK _ ?_) <;> clear hK <;> clear K
          · (first | exact trivial | omega | (simp only [In64] at *; omega) | (simp [In64] at *; omega) | (simp_all; done) | skip)
          refine qa ?_
          refine ⟨i + 1, [0], ⟨by omega, fun j hj k' hk' => ?_⟩, by omega, ?_⟩
          · by_cases hj2 : j = i
            · subst hj2; rw [x3, Int.toNat_natCast]; exact hk2 k' (by omega)
            · exact hi2 j (by omega) k' hk'
          · simp only [leq, leA, ev0, evA, evB, evP, fl, gp, tab, simprocAttr, reduceCtorEq, reduceIte] <;> omega
    · (try simp only [nhs] at hC2)
      refine qj (qc (qc (qf (qa (qm ?_)))))
      refine hk_region fun K hK => runs_eval tab_ok ?_
      simp only [ev0, evA, evB, evP, fl, gp, tab, simprocAttr, reduceCtorEq, reduceIte]
      refine fin_run trivial (hK _ ?_) <;> clear hK <;> clear K
      refine qa (qk ?_)
      simp only [Tryd.results49, enA, ev0, evA, evB, evP, fl, gp, tab, simprocAttr, reduceCtorEq, reduceIte]
      rw [eq_comm, hbs]
      refine sub_of G he fun a b ha hb' h1 h2 => ?_
      obtain ⟨j, j1, j2⟩ := thl_at ha h1
      obtain ⟨k, k1, k2⟩ := thl_at hb' h2
      have := hi2 j (by omega) k k1
      rwa [j2, k2, Int.toNat_natCast, Int.toNat_natCast] at this

/-! ### Rows of truths -/

def bl (n : Nat) (r : Nat → Bool) : List PV := (List.range n).map fun a => .bool (r a)
theorem bl_len (n : Nat) (r : Nat → Bool) : (bl n r).length = n := by simp [bl]
theorem bl_get {n : Nat} {r : Nat → Bool} {a : Nat} (ha : a < n) : (bl n r).getD a default = .bool (r a) := by
  simp [bl, List.getD, List.getElem?_map, List.getElem?_range ha]
theorem bl_one (n : Nat) (r : Nat → Bool) : (bl n r).all PV.one = true := by
  simp [bl, PV.one]
theorem obl_get {n : Nat} {r : Nat → Bool} {a : Nat} (ha : a < n) (d : AV) : (opl (bl n r)).getD a d = .p (.bool (r a)) := by
  simp [opl, bl, List.getD, List.getElem?_map, List.getElem?_range ha]
/-- With one more. -/
def upd (r : Nat → Bool) (a i : Nat) : Bool := r i || decide (i = a)
theorem obl_set (n : Nat) (r : Nat → Bool) (a : Nat) : (opl (bl n r)).set a (.p (.bool true)) = opl (bl n (upd r a)) := by
  refine List.ext_getElem (by simp [opl, bl]) fun i h1 h2 => ?_
  simp only [opl, bl, List.length_map, List.length_range, List.length_set] at h1 h2
  rw [List.getElem_set]
  by_cases e : a = i
  · subst e; simp [opl, bl, upd]
  · rw [if_neg e]
    have : decide (i = a) = false := by simp; omega
    simp [opl, bl, upd, this]
theorem obl_new (n : Nat) : List.replicate n (AV.p (.bool false)) = opl (bl n fun _ => false) := by
  refine List.ext_getElem (by simp [opl, bl]) fun i h1 h2 => ?_
  simp [opl, bl]
theorem bl_congr {n : Nat} {r r' : Nat → Bool} (h : ∀ a, a < n → r a = r' a) : bl n r = bl n r' := by
  unfold bl
  refine List.map_congr_left fun a ha => by rw [h a (List.mem_range.1 ha)]
theorem obl_len (n : Nat) (r : Nat → Bool) : (opl (bl n r)).length = n := by rw [opl_length, bl_len]

/-- More bits, a greater number. -/
theorem bo_lt_of {n : Nat} {r r' : Nat → Bool} (h : ∀ a, a < n → r a = true → r' a = true) {a : Nat} (ha : a < n) (h1 : r a = false) (h2 : r' a = true) : bo n r < bo n r' := by
  refine Nat.lt_of_le_of_ne (Nat.le_of_testBit fun i hi => ?_) fun he => ?_
  · rw [bo_bit, Bool.and_eq_true, decide_eq_true_eq] at hi ⊢
    exact ⟨hi.1, h i hi.1 hi.2⟩
  · have := bo_inj he ha
    rw [h1, h2] at this; cases this

theorem bool3 (a b : Bool) : a = false ∨ (a = true ∧ b = false) ∨ (a = true ∧ b = true) := by cases a <;> cases b <;> simp

theorem span1_c (n a : Nat) (r : Nat → Bool) (ha : a < n) (hn : n ≤ 60) : FnC Tryd.prog 77 [.int .i64 a, .ptr [.list (bl n r)]] (.bool (r a)) := by
  refine fnc_of tab_ok Tryd.func77 rfl (by kernel_rfl) (by rw [Tryd.ntmps77]; exact Nat.le_add_left 2 _) ?_; rw [Tryd.ntmps77]
  refine qm ?_
  refine hk_region fun K hK => runs_eval tab_ok ?_
  simp only [ev0, evA, evB, evP, fl, gp, tab, simprocAttr, reduceCtorEq, reduceIte]
  refine fin_run trivial (hK _ ?_) <;> clear hK <;> clear K
  refine qa (qm ?_)
  refine hk_region fun K hK => runs_eval tab_ok ?_
  simp only [ev0, evA, evB, evP, fl, gp, tab, simprocAttr, reduceCtorEq, reduceIte, bl_get ha, bl_len]
  refine fin_run ?_ (hK _ ?_) <;> clear hK <;> clear K
  · (first | exact trivial | omega | (simp only [In64] at *; omega) | (simp [In64] at *; omega) | (simp_all; done) | skip)
  refine qa (qk ?_)
  simp only [Tryd.results77, enA, ev0, evA, evB, evP, fl, gp, tab, simprocAttr, reduceCtorEq, reduceIte]
  all_goals (rfl)

set_option maxHeartbeats 2000000 in
theorem span_c {n e : Nat} {m : List Int} (h : GT n m n e) (l : List Int) (hl : l.length ≤ 1000000000000) (hr : ∀ x ∈ l, ∃ a, a < n ∧ x = ((a : Nat) : Int)) (q : Nat → Bool) (hq : ∀ a, a < n → (q a = true ↔ Gen n (op m n) e (tst l) a)) : FnC Tryd.prog 25 [gp n m, .list (il l)] (.list (il (thl n q))) := by
  have G := h.2.2
  have T := h.2.1
  have hb := T.big
  have hel := G.el
  refine fnc_of tab_ok Tryd.func25 rfl (by kernel_rfl) (by rw [Tryd.ntmps25]; exact Nat.le_add_left 2 _) ?_; rw [Tryd.ntmps25]
  refine qm ?_
  refine hk_region fun K hK => runs_eval tab_ok ?_
  simp only [ev0, evA, evB, evP, fl, gp, tab, simprocAttr, reduceCtorEq, reduceIte]
  refine fin_run ?_ (hK _ ?_) <;> clear hK <;> clear K
  · (first | exact trivial | omega | (simp only [In64] at *; omega) | (simp [In64] at *; omega) | (simp_all; done) | skip)
  refine qa (qm ?_)
  refine hk_region fun K hK => runs_eval tab_ok ?_
  simp only [ev0, evA, evB, evP, fl, gp, tab, simprocAttr, reduceCtorEq, reduceIte, makeSliceA.eq_def, obl_new]
  refine fin_run ?_ (hK _ ?_) <;> clear hK <;> clear K
  · omega
  refine qa (qm ?_)
  refine hk_draw mixed (by kernel_rfl) fun K hK => runs_eval tab_ok ?_
  simp only [ev0, evA, evB, evP, fl, gp, tab, simprocAttr, reduceCtorEq, reduceIte]
  refine fin_stop trivial (runs_call (e_c T) rfl rfl rfl (by simp only [dstOk, Nat.reduceLT]) (by repeat (first | exact trivial | constructor)) (runs_eval tab_ok ?_))
  simp only [ev0, evA, evB, evP, fl, gp, tab, simprocAttr, reduceCtorEq, reduceIte, h.eI]
  refine fin_run ?_ (hK _ ?_) <;> clear hK <;> clear K
  · rw [bl_len]; omega
  refine qa (qm (qm ?_))
  rw [obl_set, show upd (fun _ => false) e = fun a => decide (a = e) || tst (l.take 0) a from funext fun a => by simp [upd, tst]]
  refine hk_region fun K hK => runs_eval tab_ok ?_
  simp only [ev0, evA, evB, evP, fl, gp, tab, simprocAttr, reduceCtorEq, reduceIte]
  refine fin_run trivial (hK _ ?_) <;> clear hK <;> clear K
  refine qa (ql ?_)
  refine hk_loop (ι := Nat) (fun i => ⟨71, [(1, .p (.list (il l))), (2, .ptr 0 0), (5, .ptr 2 0), (6, .p (.int .i64 i))], [.own [.p (.int .i64 n), .p (.list (il m))], .own (opl (bl n fun a => decide (a = e) || tst (l.take i) a)), .own [.sl 1 0 n]]⟩) (fun i => i ≤ l.length) (fun i => l.length - i) 0 (Nat.zero_le _) [0, 1, 2] (by simp only [leq, leA, ev0, evA, evB, evP, fl, gp, tab, simprocAttr, reduceCtorEq, reduceIte] <;> first | trivial | (simp; done)) fun i hi => ?_
  refine qm (qm ?_)
  refine hk_region fun K hK => runs_eval tab_ok ?_
  simp only [ev0, evA, evB, evP, fl, gp, tab, simprocAttr, reduceCtorEq, reduceIte]
  refine fin_run trivial (hK _ ?_) <;> clear hK <;> clear K
  refine qa ?_
  refine hk_cond rfl (fun hC1 => ?_) (fun hC1 => ?_)
  · (try simp only [nhs] at hC1)
    have hlt : i < l.length := by omega
    have hmem : l.getD i 0 ∈ l := by simp [List.getD, List.getElem?_eq_getElem hlt]
    obtain ⟨x, x1, x2⟩ := hr _ hmem
    refine qh (qa (qm (ql ?_)))
    refine hk_draw mixed (by kernel_rfl) fun K hK => runs_eval tab_ok ?_
    simp only [ev0, evA, evB, evP, fl, gp, tab, simprocAttr, reduceCtorEq, reduceIte, il_get hlt, x2, obl_len]
    refine fin_run ?_ (hK _ ?_) <;> clear hK <;> clear K
    · rw [bl_len]; omega
    refine qd (qa ?_)
    rw [obl_set]
    refine hk_region fun K hK => runs_eval tab_ok ?_
    simp only [ev0, evA, evB, evP, fl, gp, tab, simprocAttr, reduceCtorEq, reduceIte]
    refine fin_run ?_ (hK _ ?_) <;> clear hK <;> clear K
    · (first | exact trivial | omega | (simp only [In64] at *; omega) | (simp [In64] at *; omega) | (simp_all; done) | skip)
    refine qa ?_
    refine ⟨i + 1, [0, 1, 2], by omega, by omega, ?_⟩
    have hc : bl n (fun a => decide (a = e) || tst (l.take (i + 1)) a) = bl n (upd (fun a => decide (a = e) || tst (l.take i) a) x) := bl_congr fun a ha => by
      rw [List.take_succ_eq_append_getElem hlt]
      have e1 : l[i] = (x : Int) := by rw [← x2]; simp [List.getD, List.getElem?_eq_getElem hlt]
      rw [e1]
      unfold upd tst
      rw [Bool.or_assoc]
      congr 1
      rw [← Bool.decide_or]
      refine decide_eq_decide.2 ?_
      rw [List.mem_append, List.mem_singleton]
      constructor
      · rintro (h | h)
        · exact .inl h
        · exact .inr (by omega)
      · rintro (h | h)
        · exact .inl h
        · exact .inr (by omega)
    rw [hc]
    simp only [leq, leA, ev0, evA, evB, evP, fl, gp, tab, simprocAttr, reduceCtorEq, reduceIte] <;> first | trivial | omega
  · (try simp only [nhs] at hC1)
    have hin : i = l.length := by omega
    subst hin
    rw [List.take_length]
    refine qj (qc (qc (qf (qa (qm (qm ?_))))))
    refine hk_region fun K hK => runs_eval tab_ok ?_
    simp only [ev0, evA, evB, evP, fl, gp, tab, simprocAttr, reduceCtorEq, reduceIte]
    refine fin_run trivial (hK _ ?_) <;> clear hK <;> clear K
    refine qa (ql ?_)
    refine hk_loop (ι := (Nat → Bool) × Bool) (fun p => ⟨71, [(2, .ptr 0 0), (5, .ptr 2 0), (7, .p (.bool p.2))], [.own [.p (.int .i64 n), .p (.list (il m))], .own (opl (bl n p.1)), .own [.sl 1 0 n]]⟩) (fun p => p.1 e = true ∧ (∀ a, a < n → tst l a = true → p.1 a = true) ∧ (∀ a, a < n → p.1 a = true → Gen n (op m n) e (tst l) a) ∧ (p.2 = false → ∀ a, a < n → ∀ b, b < n → p.1 a = true → p.1 b = true → p.1 (op m n a b) = true)) (fun p => 2 * (2 ^ 64 - bo n p.1) + (if p.2 = true then 1 else 0)) (fun a => decide (a = e) || tst l a, true) ⟨by simp, fun a _ h => by simp [h], fun a ha h => by
        simp only [Bool.or_eq_true, decide_eq_true_eq] at h
        rcases h with rfl | h
        · exact .one
        · exact Gen.mem G ha h, fun h => by cases h⟩ [0, 1, 2] (by simp only [leq, leA, ev0, evA, evB, evP, fl, gp, tab, simprocAttr, reduceCtorEq, reduceIte] <;> first | trivial | (simp; done)) fun p hp => ?_
    obtain ⟨r, again⟩ := p
    obtain ⟨r1, r2, r3, r4⟩ := hp
    simp only at r1 r2 r3 r4
    refine qm (qm ?_)
    refine hk_region fun K hK => runs_eval tab_ok ?_
    simp only [ev0, evA, evB, evP, fl, gp, tab, simprocAttr, reduceCtorEq, reduceIte]
    refine fin_run trivial (hK _ ?_) <;> clear hK <;> clear K
    refine qa ?_
    refine hk_cond rfl (fun hC2 => ?_) (fun hC2 => ?_)
    · (try simp only [nhs] at hC2)
      subst hC2
      refine qh (qa (ql (qm ?_)))
      refine hk_region fun K hK => runs_eval tab_ok ?_
      simp only [ev0, evA, evB, evP, fl, gp, tab, simprocAttr, reduceCtorEq, reduceIte]
      refine fin_run trivial (hK _ ?_) <;> clear hK <;> clear K
      refine qa (qm ?_)
      refine hk_region fun K hK => runs_eval tab_ok ?_
      simp only [ev0, evA, evB, evP, fl, gp, tab, simprocAttr, reduceCtorEq, reduceIte]
      refine fin_run trivial (hK _ ?_) <;> clear hK <;> clear K
      refine qa (ql ?_)
      refine hk_loop (ι := Nat × (Nat → Bool) × Bool) (fun p => ⟨71, [(2, .ptr 0 0), (5, .ptr 2 0), (7, .p (.bool p.2.2)), (8, .p (.int .i64 p.1))], [.own [.p (.int .i64 n), .p (.list (il m))], .own (opl (bl n p.2.1)), .own [.sl 1 0 n]]⟩) (fun p => p.1 ≤ n ∧ (∀ a, a < n → r a = true → p.2.1 a = true) ∧ (∀ a, a < n → p.2.1 a = true → Gen n (op m n) e (tst l) a) ∧ (p.2.2 = true → bo n r < bo n p.2.1) ∧ (p.2.2 = false → p.2.1 = r ∧ ∀ a, a < p.1 → ∀ b, b < n → r a = true → r b = true → r (op m n a b) = true)) (fun p => n - p.1) (0, r, false) ⟨Nat.zero_le _, fun a _ h => h, r3, fun h => by (first | cases h | simp at h), fun _ => ⟨rfl, fun a ha => by simp only at ha; omega⟩⟩ [0, 1, 2] (by simp only [leq, leA, ev0, evA, evB, evP, fl, gp, tab, simprocAttr, reduceCtorEq, reduceIte] <;> first | trivial | (simp; done)) fun p hp => ?_
      obtain ⟨i, r', ag⟩ := p
      obtain ⟨u1, u2, u3, u4, u5⟩ := hp
      simp only at u1 u2 u3 u4 u5
      refine qm (qm ?_)
      refine hk_region fun K hK => runs_eval tab_ok ?_
      simp only [ev0, evA, evB, evP, fl, gp, tab, simprocAttr, reduceCtorEq, reduceIte]
      refine fin_run ?_ (hK _ ?_) <;> clear hK <;> clear K
      · (first | exact trivial | omega | (simp only [In64] at *; omega) | (simp [In64] at *; omega) | (simp_all; done) | skip)
      refine qa ?_
      refine hk_cond rfl (fun hC3 => ?_) (fun hC3 => ?_)
      · (try simp only [nhs] at hC3)
        have hil : i < n := by omega
        refine qh (qa (qm (ql (qm ?_))))
        refine hk_region fun K hK => runs_eval tab_ok ?_
        simp only [ev0, evA, evB, evP, fl, gp, tab, simprocAttr, reduceCtorEq, reduceIte]
        refine fin_run trivial (hK _ ?_) <;> clear hK <;> clear K
        refine qa (ql ?_)
        refine hk_loop (ι := Nat × (Nat → Bool) × Bool) (fun p => ⟨71, [(2, .ptr 0 0), (5, .ptr 2 0), (7, .p (.bool p.2.2)), (8, .p (.int .i64 i)), (9, .p (.int .i64 p.1))], [.own [.p (.int .i64 n), .p (.list (il m))], .own (opl (bl n p.2.1)), .own [.sl 1 0 n]]⟩) (fun p => p.1 ≤ n ∧ (∀ a, a < n → r a = true → p.2.1 a = true) ∧ (∀ a, a < n → p.2.1 a = true → Gen n (op m n) e (tst l) a) ∧ (p.2.2 = true → bo n r < bo n p.2.1) ∧ (p.2.2 = false → p.2.1 = r ∧ (∀ a, a < i → ∀ b, b < n → r a = true → r b = true → r (op m n a b) = true) ∧ ∀ b, b < p.1 → r i = true → r b = true → r (op m n i b) = true)) (fun p => n - p.1) (0, r', ag) ⟨Nat.zero_le _, u2, u3, u4, fun h => ⟨(u5 h).1, (u5 h).2, fun b hb => by simp only at hb; omega⟩⟩ [0, 1, 2] (by simp only [leq, leA, ev0, evA, evB, evP, fl, gp, tab, simprocAttr, reduceCtorEq, reduceIte] <;> first | trivial | (simp; done)) fun p hp => ?_
        obtain ⟨j, r'', ag'⟩ := p
        obtain ⟨v1, v2, v3, v4, v5⟩ := hp
        simp only at v1 v2 v3 v4 v5
        refine qm (qm ?_)
        refine hk_region fun K hK => runs_eval tab_ok ?_
        simp only [ev0, evA, evB, evP, fl, gp, tab, simprocAttr, reduceCtorEq, reduceIte]
        refine fin_run ?_ (hK _ ?_) <;> clear hK <;> clear K
        · (first | exact trivial | omega | (simp only [In64] at *; omega) | (simp [In64] at *; omega) | (simp_all; done) | skip)
        refine qa ?_
        refine hk_cond rfl (fun hC4 => ?_) (fun hC4 => ?_)
        · (try simp only [nhs] at hC4)
          have hjl : j < n := by omega
          have hfl := G.cl i j hil hjl
          refine qh (qa (qm (ql (qm ?_))))
          rcases bool3 (r'' i) (r'' j) with hri | ⟨hri, hrj⟩ | ⟨hri, hrj⟩
          · refine hk_draw mixed (by kernel_rfl) fun K hK => runs_eval tab_ok ?_
            simp only [ev0, evA, evB, evP, fl, gp, tab, simprocAttr, reduceCtorEq, reduceIte, obl_get hil, bl_len, obl_len, hri]
            refine fin_run ?_ (hK _ ?_) <;> clear hK <;> clear K
            · omega
            refine qa ?_
            refine hk_cond rfl (fun hC5 => ?_) (fun hC5 => ?_)
            · cases hC5
            · refine qh (qd (qa ?_))
              refine hk_region fun K hK => runs_eval tab_ok ?_
              simp only [ev0, evA, evB, evP, fl, gp, tab, simprocAttr, reduceCtorEq, reduceIte]
              refine fin_run ?_ (hK _ ?_) <;> clear hK <;> clear K
              · (first | exact trivial | omega | (simp only [In64] at *; omega) | (simp [In64] at *; omega) | (simp_all; done) | skip)
              refine qa ?_
              refine ⟨(j + 1, r'', ag'), [0, 1, 2], ⟨by simp only; omega, v2, v3, v4, fun h => ?_⟩, by simp only; omega, ?_⟩
              · obtain ⟨x1, x2, x3⟩ := v5 h
                refine ⟨x1, x2, fun b hb' h1 h2 => ?_⟩
                by_cases hbj : b = j
                · rw [← x1, hri] at h1; cases h1
                · exact x3 b (by simp only at hb'; omega) h1 h2
              · simp only [leq, leA, ev0, evA, evB, evP, fl, gp, tab, simprocAttr, reduceCtorEq, reduceIte] <;> first | trivial | omega
          · refine hk_draw mixed (by kernel_rfl) fun K hK => runs_eval tab_ok ?_
            simp only [ev0, evA, evB, evP, fl, gp, tab, simprocAttr, reduceCtorEq, reduceIte, obl_get hil, obl_get hjl, bl_len, obl_len, hri, hrj]
            refine fin_run ?_ (hK _ ?_) <;> clear hK <;> clear K
            · omega
            refine qa ?_
            refine hk_cond rfl (fun hC5 => ?_) (fun hC5 => ?_)
            · cases hC5
            · refine qh (qd (qa ?_))
              refine hk_region fun K hK => runs_eval tab_ok ?_
              simp only [ev0, evA, evB, evP, fl, gp, tab, simprocAttr, reduceCtorEq, reduceIte]
              refine fin_run ?_ (hK _ ?_) <;> clear hK <;> clear K
              · (first | exact trivial | omega | (simp only [In64] at *; omega) | (simp [In64] at *; omega) | (simp_all; done) | skip)
              refine qa ?_
              refine ⟨(j + 1, r'', ag'), [0, 1, 2], ⟨by simp only; omega, v2, v3, v4, fun h => ?_⟩, by simp only; omega, ?_⟩
              · obtain ⟨x1, x2, x3⟩ := v5 h
                refine ⟨x1, x2, fun b hb' h1 h2 => ?_⟩
                by_cases hbj : b = j
                · rw [hbj, ← x1, hrj] at h2; cases h2
                · exact x3 b (by simp only at hb'; omega) h1 h2
              · simp only [leq, leA, ev0, evA, evB, evP, fl, gp, tab, simprocAttr, reduceCtorEq, reduceIte] <;> first | trivial | omega
          · refine hk_draw mixed (by kernel_rfl) fun K hK => runs_eval tab_ok ?_
            simp only [ev0, evA, evB, evP, fl, gp, tab, simprocAttr, reduceCtorEq, reduceIte, obl_get hil, obl_get hjl, obl_get hfl, bl_len, obl_len, hri, hrj]
            refine fin_stop ?_ (runs_call (m_c T hil hjl) rfl rfl rfl (by simp only [dstOk, Nat.reduceLT]) (by repeat (first | exact trivial | constructor)) (runs_eval tab_ok ?_))
            · omega
            simp only [ev0, evA, evB, evP, fl, gp, tab, simprocAttr, reduceCtorEq, reduceIte, obl_get hil, obl_get hjl, obl_get hfl, bl_len, obl_len, hri, hrj]
            refine fin_run ?_ (hK _ ?_) <;> clear hK <;> clear K
            · omega
            refine qa ?_
            refine hk_cond rfl (fun hC5 => ?_) (fun hC5 => ?_)
            · (try simp only [nhs] at hC5)
              refine qm ?_
              refine hk_draw mixed (by kernel_rfl) fun K hK => runs_eval tab_ok ?_
              simp only [ev0, evA, evB, evP, fl, gp, tab, simprocAttr, reduceCtorEq, reduceIte, obl_len, bl_len]
              refine fin_stop trivial (runs_call (m_c T hil hjl) rfl rfl rfl (by simp only [dstOk, Nat.reduceLT]) (by repeat (first | exact trivial | constructor)) (runs_eval tab_ok ?_))
              simp only [ev0, evA, evB, evP, fl, gp, tab, simprocAttr, reduceCtorEq, reduceIte, obl_len, bl_len]
              refine fin_run ?_ (hK _ ?_) <;> clear hK <;> clear K
              · omega
              refine qa ?_
              rw [obl_set]
              refine hk_region fun K hK => runs_eval tab_ok ?_
              simp only [ev0, evA, evB, evP, fl, gp, tab, simprocAttr, reduceCtorEq, reduceIte]
              refine fin_run trivial (hK _ ?_) <;> clear hK <;> clear K
              refine qd (qa ?_)
              refine hk_region fun K hK => runs_eval tab_ok ?_
              simp only [ev0, evA, evB, evP, fl, gp, tab, simprocAttr, reduceCtorEq, reduceIte]
              refine fin_run ?_ (hK _ ?_) <;> clear hK <;> clear K
              · (first | exact trivial | omega | (simp only [In64] at *; omega) | (simp [In64] at *; omega) | (simp_all; done) | skip)
              refine qa ?_
              have hnew : r'' (op m n i j) = false := by simpa using hC5
              have hgt : bo n r < bo n (upd r'' (op m n i j)) := by
                have h1 : bo n r'' < bo n (upd r'' (op m n i j)) := bo_lt_of (fun a _ h => by simp [upd, h]) hfl hnew (by simp [upd])
                cases hag : ag' with
                | true => have := v4 hag; omega
                | false => rw [(v5 hag).1] at h1; rw [(v5 hag).1]; exact h1
              refine ⟨(j + 1, upd r'' (op m n i j), true), [0, 1, 2], ⟨by simp only; omega, fun a ha h => ?_, fun a ha h => ?_, fun _ => hgt, fun h => by first | cases h | simp at h⟩, by simp only; omega, ?_⟩
              · simp [upd, v2 a ha h]
              · simp only [upd, Bool.or_eq_true, decide_eq_true_eq] at h
                rcases h with h | h
                · exact v3 a ha h
                · rw [h]; exact Gen.mul G (v3 i hil hri) (v3 j hjl hrj)
              · simp only [leq, leA, ev0, evA, evB, evP, fl, gp, tab, simprocAttr, reduceCtorEq, reduceIte] <;> first | trivial | omega
            · (try simp only [nhs] at hC5)
              refine qh (qd (qa ?_))
              refine hk_region fun K hK => runs_eval tab_ok ?_
              simp only [ev0, evA, evB, evP, fl, gp, tab, simprocAttr, reduceCtorEq, reduceIte]
              refine fin_run ?_ (hK _ ?_) <;> clear hK <;> clear K
              · (first | exact trivial | omega | (simp only [In64] at *; omega) | (simp [In64] at *; omega) | (simp_all; done) | skip)
              refine qa ?_
              have hin2 : r'' (op m n i j) = true := by simpa using hC5
              refine ⟨(j + 1, r'', ag'), [0, 1, 2], ⟨by simp only; omega, v2, v3, v4, fun h => ?_⟩, by simp only; omega, ?_⟩
              · obtain ⟨x1, x2, x3⟩ := v5 h
                refine ⟨x1, x2, fun b hb' h1 h2 => ?_⟩
                by_cases hbj : b = j
                · rw [hbj, ← x1]; exact hin2
                · exact x3 b (by simp only at hb'; omega) h1 h2
              · simp only [leq, leA, ev0, evA, evB, evP, fl, gp, tab, simprocAttr, reduceCtorEq, reduceIte] <;> first | trivial | omega
        · (try simp only [nhs] at hC4)
          have hjn : j = n := by omega
          subst hjn
          refine qj (qc (qc (qf (qd (qa ?_)))))
          refine hk_region fun K hK => runs_eval tab_ok ?_
          simp only [ev0, evA, evB, evP, fl, gp, tab, simprocAttr, reduceCtorEq, reduceIte]
          refine fin_run ?_ (hK _ ?_) <;> clear hK <;> clear K
          · (first | exact trivial | omega | (simp only [In64] at *; omega) | (simp [In64] at *; omega) | (simp_all; done) | skip)
          refine qa ?_
          refine ⟨(i + 1, r'', ag'), [0, 1, 2], ⟨by simp only; omega, v2, v3, v4, fun h => ?_⟩, by simp only; omega, ?_⟩
          · obtain ⟨x1, x2, x3⟩ := v5 h
            refine ⟨x1, fun a ha b hb' h1 h2 => ?_⟩
            by_cases hai : a = i
            · rw [hai] at h1 ⊢; exact x3 b hb' h1 h2
            · exact x2 a (by simp only at ha; omega) b hb' h1 h2
          · simp only [leq, leA, ev0, evA, evB, evP, fl, gp, tab, simprocAttr, reduceCtorEq, reduceIte] <;> first | trivial | omega
      · (try simp only [nhs] at hC3)
        have hin : i = n := by omega
        subst hin
        refine qj (qc (qc (qf (qd (qa ?_)))))
        refine ⟨(r', ag), [0, 1, 2], ⟨u2 e hel r1, fun a ha h => u2 a ha (r2 a ha h), u3, fun h a ha b hb' h1 h2 => ?_⟩, ?_, ?_⟩
        · obtain ⟨x1, x2⟩ := u5 h
          simp only [x1] at h1 h2 ⊢
          exact x2 a ha b hb' h1 h2
        · have h1 := bo_lt64 hb r'
          have h2 := bo_lt64 hb r
          simp only [if_true]
          cases hag : ag with
          | true => have := u4 hag; simp only [if_true]; omega
          | false => rw [(u5 hag).1]; simp
        · simp only [leq, leA, ev0, evA, evB, evP, fl, gp, tab, simprocAttr, reduceCtorEq, reduceIte] <;> first | trivial | omega
    · (try simp only [nhs] at hC2)
      subst hC2
      have hfin : bl n r = bl n q := bl_congr fun a ha => by
        rw [Bool.eq_iff_iff, hq a ha]
        refine ⟨r3 a ha, fun hg => ?_⟩
        exact Gen.least (H := fun x => r x = true) r1 (fun a b ga hb' hpb hH => r4 rfl a (ga.lt G) b hb' hH (r2 b hb' hpb)) hg
      rw [hfin]
      refine qj (qc (qc (qf (qa (qm ?_)))))
      refine hk_freeze 1 rfl (opl_allP _) ?_
      refine hk_purec 2 0 rfl rfl rfl ⟨by rw [bl_len]; omega, ?_⟩ ?_
      · rw [List.drop_zero, List.take_of_length_le (by rw [bl_len]; omega)]; exact bl_one n q
      simp only [hset, List.set, List.drop_zero]
      rw [List.take_of_length_le (by rw [bl_len]; omega)]
      refine hk_freeze 2 rfl rfl ?_
      simp only [hset]
      refine hk_region fun K hK => runs_eval tab_ok ?_
      simp only [ev0, evA, evB, evP, fl, gp, tab, simprocAttr, reduceCtorEq, reduceIte]
      refine fin_stop trivial (runs_call (those_c n m _ _ q (by omega) (fun a ha => span1_c n a q ha hb)) rfl rfl rfl (by simp only [dstOk, Nat.reduceLT]) (by repeat (first | exact trivial | constructor)) (runs_eval tab_ok ?_))
      simp only [ev0, evA, evB, evP, fl, gp, tab, simprocAttr, reduceCtorEq, reduceIte]
      refine fin_run ?_ (hK _ ?_) <;> clear hK <;> clear K
      · (first | exact trivial | omega | (simp only [In64] at *; omega) | (simp [In64] at *; omega) | (simp_all; done) | skip)
      refine qa (qk ?_)
      simp only [Tryd.results25, enA, ev0, evA, evB, evP, fl, gp, tab, simprocAttr, reduceCtorEq, reduceIte]
      all_goals (rfl)
end Go.Proofs.YtjikchbmkodgfaaDoor

/-
  Walks: groups that are made of a product. Conditions: none.
-/
set_option linter.all false
namespace Go.Proofs.YtjikchbmkodgfaaDoor
open Go.Pv

/-- A table, by a rule. -/
def tbr (g : Nat → Nat → Int) (n : Nat) : Nat → List Int := rg fun i => g (i / n) (i % n)
def tbl (g : Nat → Nat → Int) (n : Nat) : List Int := tbr g n (n * n)

theorem tbr_succ (g : Nat → Nat → Int) {n a b : Nat} (hb : b < n) : tbr g n (a * n + (b + 1)) = tbr g n (a * n + b) ++ [g a b] := by
  unfold tbr
  rw [← Nat.add_assoc, rg_succ]
  have h1 : (a * n + b) / n = a := by
    rw [Nat.mul_comm, Nat.mul_add_div (by omega), Nat.div_eq_of_lt hb]; omega
  have h2 : (a * n + b) % n = b := by
    rw [Nat.mul_comm, Nat.mul_add_mod, Nat.mod_eq_of_lt hb]
  simp only [h1, h2]
theorem tbr_len (g : Nat → Nat → Int) (n k : Nat) : (tbr g n k).length = k := rg_len _ k
def cyc (n a b : Nat) : Nat := (a + b) % n
def dih (n a b : Nat) : Nat := (a % n + (if a / n = 1 then n - b % n else b % n)) % n + (a / n + b / n) % 2 * n
def dic (n a b : Nat) : Nat := (a % (2 * n) + (if a / (2 * n) + b / (2 * n) = 2 then n else 0) + (if a / (2 * n) = 1 then 2 * n - b % (2 * n) else b % (2 * n))) % (2 * n) + (a / (2 * n) + b / (2 * n)) % 2 * (2 * n)

end Go.Proofs.YtjikchbmkodgfaaDoor

/-
  Sets of things: centres; the square's group; an example of the document. Conditions: none.
-/
set_option linter.all false
namespace Go.Proofs.YtjikchbmkodgfaaDoor
open Go.Pv

/-! ### What two lists have -/

def bth (a b : List Int) : List Int := a.filter fun x => decide (x ∈ b)
theorem bth_thl (n : Nat) (p q : Nat → Bool) : bth (thl n p) (thl n q) = thl n (fun a => p a && q a) := by
  unfold bth thl thn'
  rw [List.filter_map, List.filter_filter]
  congr 1
  refine List.filter_congr fun a ha => ?_
  have h1 := List.mem_range.1 ha
  simp only [Function.comp]
  rw [Bool.and_comm (p a)]
  congr 1
  rw [Bool.eq_iff_iff, decide_eq_true_eq]
  exact mem_thl_n (p := q) h1

theorem both_c (a b : List Int) (ha : a.length ≤ 1000000) (hb : b.length ≤ 1000000) : FnC Tryd.prog 30 [.list (il a), .list (il b)] (.list (il (bth a b))) := by
  refine fnc_of tab_ok Tryd.func30 rfl (by kernel_rfl) (by rw [Tryd.ntmps30]; exact Nat.le_add_left 2 _) ?_; rw [Tryd.ntmps30]
  refine qm ?_
  refine hk_region fun K hK => runs_eval tab_ok ?_
  simp only [ev0, evA, evB, evP, fl, gp, tab, simprocAttr, reduceCtorEq, reduceIte]
  refine fin_run trivial (hK _ ?_) <;> clear hK <;> clear K
  refine qa (qm ?_)
  refine hk_region fun K hK => runs_eval tab_ok ?_
  simp only [ev0, evA, evB, evP, fl, gp, tab, simprocAttr, reduceCtorEq, reduceIte]
  refine fin_run trivial (hK _ ?_) <;> clear hK <;> clear K
  refine qa (qm (qm ?_))
  refine hk_own0 5 rfl ?_
  refine hk_region fun K hK => runs_eval tab_ok ?_
  simp only [ev0, evA, evB, evP, fl, gp, tab, simprocAttr, reduceCtorEq, reduceIte]
  refine fin_run trivial (hK _ ?_) <;> clear hK <;> clear K
  refine qa (ql ?_)
  refine hk_loop (ι := Nat) (fun i => ⟨27, [(0, .p (.list (il a))), (1, .p (.list (il b))), (5, .sl 0 0 (bth (a.take i) b).length), (6, .p (.int .i64 i))], [.own (ol (bth (a.take i) b))]⟩) (fun i => i ≤ a.length) (fun i => a.length - i) 0 (Nat.zero_le _) [0] (by simp only [leq, leA, ev0, evA, evB, evP, fl, gp, tab, simprocAttr, reduceCtorEq, reduceIte] <;> simp [bth, ol_nil]) fun i hi => ?_
  have hl : (bth (a.take i) b).length ≤ i := by
    have h1 := List.length_filter_le (fun x => decide (x ∈ b)) (a.take i)
    rw [List.length_take] at h1
    unfold bth; omega
  refine qm (qm ?_)
  refine hk_region fun K hK => runs_eval tab_ok ?_
  simp only [ev0, evA, evB, evP, fl, gp, tab, simprocAttr, reduceCtorEq, reduceIte]
  refine fin_run trivial (hK _ ?_) <;> clear hK <;> clear K
  refine qa ?_
  refine hk_cond rfl (fun hC1 => ?_) (fun hC1 => ?_)
  · (try simp only [nhs] at hC1)
    have hlt : i < a.length := by omega
    have hs : bth (a.take (i + 1)) b = bth (a.take i) b ++ if a.getD i 0 ∈ b then [a.getD i 0] else [] := by
      unfold bth
      have e1 : a[i] = a.getD i 0 := by simp [List.getD, List.getElem?_eq_getElem hlt]
      rw [List.take_succ_eq_append_getElem hlt, List.filter_append, e1]
      congr 1
      by_cases h : a.getD i 0 ∈ b
      · rw [if_pos h, List.filter_cons, if_pos (decide_eq_true h)]; rfl
      · rw [if_neg h, List.filter_cons, if_neg (by simpa using h)]; rfl
    refine qh (qa (qm (ql (qm ?_))))
    refine hk_region fun K hK => runs_eval tab_ok ?_
    simp only [ev0, evA, evB, evP, fl, gp, tab, simprocAttr, reduceCtorEq, reduceIte, il_get hlt]
    refine fin_stop ?_ (runs_call (has_r b (a.getD i 0) (by omega)) rfl rfl rfl (by simp only [dstOk, Nat.reduceLT]) (by repeat (first | exact trivial | constructor)) (runs_eval tab_ok ?_))
    · (first | exact trivial | omega | (simp only [In64] at *; omega) | (simp [In64] at *; omega) | (simp_all; done) | skip)
    simp only [ev0, evA, evB, evP, fl, gp, tab, simprocAttr, reduceCtorEq, reduceIte, il_get hlt]
    refine fin_run ?_ (hK _ ?_) <;> clear hK <;> clear K
    · (first | exact trivial | omega | (simp only [In64] at *; omega) | (simp [In64] at *; omega) | (simp_all; done) | skip)
    refine qa ?_
    refine hk_cond rfl (fun hC2 => ?_) (fun hC2 => ?_)
    · (try simp only [nhs] at hC2)
      rw [if_pos hC2] at hs
      refine hk_region fun K hK => runs_eval tab_ok ?_
      simp only [ev0, evA, evB, evP, fl, gp, tab, simprocAttr, reduceCtorEq, reduceIte, il_get hlt]
      refine fin_run ?_ (hK _ ?_) <;> clear hK <;> clear K
      · (first | exact trivial | omega | (simp only [In64] at *; omega) | (simp [In64] at *; omega) | (simp_all; done) | skip)
      refine qd (qa ?_)
      refine hk_region fun K hK => runs_eval tab_ok ?_
      simp only [ev0, evA, evB, evP, fl, gp, tab, simprocAttr, reduceCtorEq, reduceIte]
      refine fin_run ?_ (hK _ ?_) <;> clear hK <;> clear K
      · (first | exact trivial | omega | (simp only [In64] at *; omega) | (simp [In64] at *; omega) | (simp_all; done) | skip)
      refine qa ?_
      refine ⟨i + 1, [1], by omega, by omega, ?_⟩
      rw [hs]
      simp only [leq, leA, ev0, evA, evB, evP, fl, gp, tab, simprocAttr, reduceCtorEq, reduceIte] <;> first | trivial | omega
    · (try simp only [nhs] at hC2)
      rw [if_neg hC2] at hs
      refine qh (qd (qa ?_))
      refine hk_region fun K hK => runs_eval tab_ok ?_
      simp only [ev0, evA, evB, evP, fl, gp, tab, simprocAttr, reduceCtorEq, reduceIte]
      refine fin_run ?_ (hK _ ?_) <;> clear hK <;> clear K
      · (first | exact trivial | omega | (simp only [In64] at *; omega) | (simp [In64] at *; omega) | (simp_all; done) | skip)
      refine qa ?_
      refine ⟨i + 1, [0], by omega, by omega, ?_⟩
      rw [hs, List.append_nil]
      simp only [leq, leA, ev0, evA, evB, evP, fl, gp, tab, simprocAttr, reduceCtorEq, reduceIte] <;> first | trivial | omega
  · (try simp only [nhs] at hC1)
    have hin : i = a.length := by omega
    rw [hin, List.take_length]
    rw [hin, List.take_length] at hl
    refine hk_seal 5 0 rfl rfl ?_
    refine qj (qc (qc (qf (qa (qm ?_)))))
    refine hk_region fun K hK => runs_eval tab_ok ?_
    simp only [ev0, evA, evB, evP, fl, gp, tab, simprocAttr, reduceCtorEq, reduceIte]
    refine fin_run trivial (hK _ ?_) <;> clear hK <;> clear K
    refine qa (qk ?_)
    simp only [Tryd.results30, enA, ev0, evA, evB, evP, fl, gp, tab, simprocAttr, reduceCtorEq, reduceIte]
    all_goals (rfl)

/-! ### Functions of the library -/

def ixf (p : Int → Bool) (l : List Int) : Int := match fst' (fun i => p (l.getD i 0)) l.length with | some i => (i : Int) | none => -1
/-! ### What commutes with a set -/

def cent (m : List Int) (n : Nat) (p : Nat → Bool) (a : Nat) : Bool := decide (∀ b, b < n → p b = true → op m n a b = op m n b a)

/-! ### The square's group -/

def sq8 : List Int := tbl (fun a b => (dih 4 a b : Nat)) 8
end Go.Proofs.YtjikchbmkodgfaaDoor

/-
  Sets of things: conjugated things, commutators, what they make. Conditions: none.
-/
set_option linter.all false
namespace Go.Proofs.YtjikchbmkodgfaaDoor
open Go.Pv

theorem thl_rng2 {n : Nat} {p : Nat → Bool} : ∀ x ∈ thl n p, ∃ a, a < n ∧ x = ((a : Nat) : Int) := fun x hx => by
  obtain ⟨a, h1, _, h3⟩ := mem_thl.1 hx
  exact ⟨a, h1, h3⟩
theorem conj_s {n e : Nat} {m : List Int} (h : GT n m n e) {x a : Nat} (hx : x < n) (ha : a < n) : FnC Tryd.prog 122 [gp n m, .int .i64 x, .int .i64 a] (.int .i64 (cjr n (op m n) e x a : Nat)) := by
  have G := h.2.2
  have ia := G.iv_lt ha
  refine fnc_of tab_ok Tryd.func122 rfl (by kernel_rfl) (by rw [Tryd.ntmps122]; exact Nat.le_add_left 3 _) ?_; rw [Tryd.ntmps122]
  refine qm ?_
  refine hk_region fun K hK => runs_eval tab_ok ?_
  simp only [ev0, evA, evB, evP, fl, gp, tab, simprocAttr, reduceCtorEq, reduceIte]
  refine fin_run ?_ (hK _ ?_) <;> clear hK <;> clear K
  · (first | exact trivial | omega | (simp only [In64] at *; omega) | (simp [In64] at *; omega) | (simp_all; done) | skip)
  refine qa (qm ?_)
  refine hk_draw mixed (by kernel_rfl) fun K hK => runs_eval tab_ok ?_
  simp only [ev0, evA, evB, evP, fl, gp, tab, simprocAttr, reduceCtorEq, reduceIte]
  refine fin_stop trivial (runs_call (invOf_c h ha) rfl rfl rfl (by simp only [dstOk, Nat.reduceLT]) (by repeat (first | exact trivial | constructor)) (runs_eval tab_ok ?_))
  simp only [ev0, evA, evB, evP, fl, gp, tab, simprocAttr, reduceCtorEq, reduceIte]
  refine fin_stop trivial (runs_call (of_c h.2.1 ia hx) rfl rfl rfl (by simp only [dstOk, Nat.reduceLT]) (by repeat (first | exact trivial | constructor)) (runs_eval tab_ok ?_))
  simp only [ev0, evA, evB, evP, fl, gp, tab, simprocAttr, reduceCtorEq, reduceIte]
  refine fin_stop trivial (runs_call (of_c h.2.1 (G.cl _ _ ia hx) ha) rfl rfl rfl (by simp only [dstOk, Nat.reduceLT]) (by repeat (first | exact trivial | constructor)) (runs_eval tab_ok ?_))
  simp only [ev0, evA, evB, evP, fl, gp, tab, simprocAttr, reduceCtorEq, reduceIte]
  refine fin_run ?_ (hK _ ?_) <;> clear hK <;> clear K
  · (first | exact trivial | omega | (simp only [In64] at *; omega) | (simp [In64] at *; omega) | (simp_all; done) | skip)
  refine qa (qk ?_)
  simp only [Tryd.results122, enA, ev0, evA, evB, evP, fl, gp, tab, simprocAttr, reduceCtorEq, reduceIte]
  all_goals (rfl)
theorem c_r {n e : Nat} {m : List Int} (h : GT n m n e) {x a : Nat} (hx : x < n) (ha : a < n) : FnC Tryd.prog 94 [gp n m, .int .i64 x, .int .i64 a] (.int .i64 (cjr n (op m n) e x a : Nat)) := by
  have G := h.2.2
  have ia := G.iv_lt ha
  refine fnc_of tab_ok Tryd.func94 rfl (by kernel_rfl) (by rw [Tryd.ntmps94]; exact Nat.le_add_left 3 _) ?_; rw [Tryd.ntmps94]
  refine qm ?_
  refine hk_region fun K hK => runs_eval tab_ok ?_
  simp only [ev0, evA, evB, evP, fl, gp, tab, simprocAttr, reduceCtorEq, reduceIte]
  refine fin_run ?_ (hK _ ?_) <;> clear hK <;> clear K
  · (first | exact trivial | omega | (simp only [In64] at *; omega) | (simp [In64] at *; omega) | (simp_all; done) | skip)
  refine qa (qm ?_)
  refine hk_draw mixed (by kernel_rfl) fun K hK => runs_eval tab_ok ?_
  simp only [ev0, evA, evB, evP, fl, gp, tab, simprocAttr, reduceCtorEq, reduceIte]
  refine fin_stop trivial (runs_call (i_c h.2.1 ha) rfl rfl rfl (by simp only [dstOk, Nat.reduceLT]) (by repeat (first | exact trivial | constructor)) (runs_eval tab_ok ?_))
  simp only [ev0, evA, evB, evP, fl, gp, tab, simprocAttr, reduceCtorEq, reduceIte, h.iI ha]
  refine fin_stop trivial (runs_call (m_c h.2.1 hx ha) rfl rfl rfl (by simp only [dstOk, Nat.reduceLT]) (by repeat (first | exact trivial | constructor)) (runs_eval tab_ok ?_))
  simp only [ev0, evA, evB, evP, fl, gp, tab, simprocAttr, reduceCtorEq, reduceIte]
  refine fin_stop trivial (runs_call (m_c h.2.1 ia (G.cl _ _ hx ha)) rfl rfl rfl (by simp only [dstOk, Nat.reduceLT]) (by repeat (first | exact trivial | constructor)) (runs_eval tab_ok ?_))
  simp only [ev0, evA, evB, evP, fl, gp, tab, simprocAttr, reduceCtorEq, reduceIte]
  refine fin_run ?_ (hK _ ?_) <;> clear hK <;> clear K
  · (first | exact trivial | omega | (simp only [In64] at *; omega) | (simp [In64] at *; omega) | (simp_all; done) | skip)
  refine qa (qk ?_)
  simp only [Tryd.results94, enA, ev0, evA, evB, evP, fl, gp, tab, simprocAttr, reduceCtorEq, reduceIte]
  all_goals (rw [G.cjr_alt hx ha])
/-! ### Commutators of two lists -/

def cmr (n : Nat) (f : Nat → Nat → Nat) (e : Nat) (a : Int) (lb : List Int) : List Int := lb.map fun b => ((cmt n f e a.toNat b.toNat : Nat) : Int)
def cml (n : Nat) (f : Nat → Nat → Nat) (e : Nat) (la lb : List Int) : List Int := la.flatMap fun a => cmr n f e a lb

/-! ### Small words -/

theorem parted_r (n : Nat) (p q : Nat → Bool) (hn : n ≤ 60) (b : Bool) (hb : b = true ↔ ∀ a, a < n → p a = true → q a = true) : FnC Tryd.prog 54 [.list (il (thl n p)), .list (il (thl n q))] (.bool b) := by
  have hlp := thl_le n p
  have hlq := thl_le n q
  refine fnc_of tab_ok Tryd.func54 rfl (by kernel_rfl) (by rw [Tryd.ntmps54]; exact Nat.le_add_left 2 _) ?_; rw [Tryd.ntmps54]
  refine qm ?_
  refine hk_region fun K hK => runs_eval tab_ok ?_
  simp only [ev0, evA, evB, evP, fl, gp, tab, simprocAttr, reduceCtorEq, reduceIte]
  refine fin_run trivial (hK _ ?_) <;> clear hK <;> clear K
  refine qa (qm (qm ?_))
  refine hk_region fun K hK => runs_eval tab_ok ?_
  simp only [ev0, evA, evB, evP, fl, gp, tab, simprocAttr, reduceCtorEq, reduceIte]
  refine fin_run trivial (hK _ ?_) <;> clear hK <;> clear K
  refine qa (ql ?_)
  refine hk_loop (ι := Nat) (fun i => ⟨19, [(0, .p (.list (il (thl n p)))), (1, .p (.list (il (thl n q)))), (5, .p (.int .i64 i))], []⟩) (fun i => i ≤ (thl n p).length ∧ ∀ j, j < i → q ((thl n p).getD j 0).toNat = true) (fun i => (thl n p).length - i) 0 ⟨Nat.zero_le _, fun j hj => by omega⟩ [] (by simp only [leq, leA, ev0, evA, evB, evP, fl, gp, tab, simprocAttr, reduceCtorEq, reduceIte] <;> trivial) fun i hi => ?_
  obtain ⟨hi1, hi2⟩ := hi
  refine qm (qm ?_)
  refine hk_region fun K hK => runs_eval tab_ok ?_
  simp only [ev0, evA, evB, evP, fl, gp, tab, simprocAttr, reduceCtorEq, reduceIte]
  refine fin_run trivial (hK _ ?_) <;> clear hK <;> clear K
  refine qa ?_
  refine hk_cond rfl (fun hC1 => ?_) (fun hC1 => ?_)
  · (try simp only [nhs] at hC1)
    have hlt : i < (thl n p).length := by omega
    obtain ⟨x, x1, x2, x3⟩ := thl_get hlt
    refine qh (qa (qm (ql (qm ?_))))
    refine hk_region fun K hK => runs_eval tab_ok ?_
    simp only [ev0, evA, evB, evP, fl, gp, tab, simprocAttr, reduceCtorEq, reduceIte, il_get hlt, x3]
    refine fin_stop ?_ (runs_call (has_r (thl n q) x (by omega)) rfl rfl rfl (by simp only [dstOk, Nat.reduceLT]) (by repeat (first | exact trivial | constructor)) (runs_eval tab_ok ?_))
    · (first | exact trivial | omega | (simp only [In64] at *; omega) | (simp [In64] at *; omega) | (simp_all; done) | skip)
    simp only [ev0, evA, evB, evP, fl, gp, tab, simprocAttr, reduceCtorEq, reduceIte, il_get hlt, x3]
    refine fin_run ?_ (hK _ ?_) <;> clear hK <;> clear K
    · (first | exact trivial | omega | (simp only [In64] at *; omega) | (simp [In64] at *; omega) | (simp_all; done) | skip)
    refine qa ?_
    refine hk_cond rfl (fun hC2 => ?_) (fun hC2 => ?_)
    · (try simp only [nhs] at hC2)
      refine qm ?_
      refine hk_region fun K hK => runs_eval tab_ok ?_
      simp only [ev0, evA, evB, evP, fl, gp, tab, simprocAttr, reduceCtorEq, reduceIte]
      refine fin_run trivial (hK _ ?_) <;> clear hK <;> clear K
      refine qa (qk (qe (qb (qb (qe (qb ?_))))))
      simp only [Tryd.results54, enA, ev0, evA, evB, evP, fl, gp, tab, simprocAttr, reduceCtorEq, reduceIte]
      cases b with
      | false => rfl
      | true => exact absurd ((mem_thl_n x1).2 (hb.1 rfl x x1 x2)) (by simpa using hC2)
    · (try simp only [nhs] at hC2)
      have hx : q x = true := (mem_thl_n x1).1 hC2
      refine qh (qd (qa ?_))
      refine hk_region fun K hK => runs_eval tab_ok ?_
      simp only [ev0, evA, evB, evP, fl, gp, tab, simprocAttr, reduceCtorEq, reduceIte]
      refine fin_run ?_ (hK _ ?_) <;> clear hK <;> clear K
      · (first | exact trivial | omega | (simp only [In64] at *; omega) | (simp [In64] at *; omega) | (simp_all; done) | skip)
      refine qa ?_
      refine ⟨i + 1, [], ⟨by omega, fun j hj => ?_⟩, by omega, ?_⟩
      · by_cases hj2 : j = i
        · subst hj2; rw [x3, Int.toNat_natCast]; exact hx
        · exact hi2 j (by omega)
      · simp only [leq, leA, ev0, evA, evB, evP, fl, gp, tab, simprocAttr, reduceCtorEq, reduceIte] <;> omega
  · (try simp only [nhs] at hC1)
    refine qj (qc (qc (qf (qa (qm ?_)))))
    refine hk_region fun K hK => runs_eval tab_ok ?_
    simp only [ev0, evA, evB, evP, fl, gp, tab, simprocAttr, reduceCtorEq, reduceIte]
    refine fin_run trivial (hK _ ?_) <;> clear hK <;> clear K
    refine qa (qk ?_)
    simp only [Tryd.results54, enA, ev0, evA, evB, evP, fl, gp, tab, simprocAttr, reduceCtorEq, reduceIte]
    rw [eq_comm, hb]
    intro a ha h1
    obtain ⟨j, j1, j2⟩ := thl_at ha h1
    have := hi2 j (by omega)
    rwa [j2, Int.toNat_natCast] at this
end Go.Proofs.YtjikchbmkodgfaaDoor

/-
  Subgroups, conjugated: Moved, Normaliser, Normal, Core, Closure, and what the document has. Conditions: none.
-/
set_option linter.all false
namespace Go.Proofs.YtjikchbmkodgfaaDoor
open Go.Pv

/-- The fault of a set that is, or is not, a subgroup. -/
def ufb (b : Bool) : Int × Int := bif b then (0, 0) else (7, 0)

/-- A group and a subgroup; a group and a set; a fault. -/
theorem sub3 (N : Int) (m l : List Int) : (∃ n e p, GT N m n e ∧ N = (n : Nat) ∧ l = thl n p ∧ Sub n (op m n) e p) ∨ (∃ n e p, GT N m n e ∧ N = (n : Nat) ∧ l = thl n p ∧ ¬ Sub n (op m n) e p) ∨ ¬ (sf N m l).1 = 0 := by
  by_cases hf : (sf N m l).1 = 0
  · obtain ⟨n, e, h, rfl, hl2, hs⟩ := sf_ok hf
    by_cases hsub : Sub n (op m n) e (tst l)
    · exact .inl ⟨n, e, tst l, h, rfl, hl2, hsub⟩
    · exact .inr (.inl ⟨n, e, tst l, h, rfl, hl2, hsub⟩)
  · exact .inr (.inr hf)

theorem group_ok {n e : Nat} {m : List Int} (h : GT n m n e) (p : Nat → Bool) (b : Bool) (hbs : b = true ↔ Sub n (op m n) e p) : FnC Tryd.prog 95 [gp n m, .list (il (thl n p))] (fl (ufb b)) := by
  refine fnc_of tab_ok Tryd.func95 rfl (by kernel_rfl) (by rw [Tryd.ntmps95]; exact Nat.le_add_left 2 _) ?_; rw [Tryd.ntmps95]
  refine qm ?_
  refine hk_region fun K hK => runs_eval tab_ok ?_
  simp only [ev0, evA, evB, evP, fl, gp, tab, simprocAttr, reduceCtorEq, reduceIte]
  refine fin_run ?_ (hK _ ?_) <;> clear hK <;> clear K
  · (first | exact trivial | omega | (simp only [In64] at *; omega) | (simp [In64] at *; omega) | (simp_all; done) | skip)
  refine qa (qm ?_)
  refine hk_region fun K hK => runs_eval tab_ok ?_
  simp only [ev0, evA, evB, evP, fl, gp, tab, simprocAttr, reduceCtorEq, reduceIte]
  refine fin_stop trivial (runs_call (is_ok h p b hbs) rfl rfl rfl (by simp only [dstOk, Nat.reduceLT]) (by repeat (first | exact trivial | constructor)) (runs_eval tab_ok ?_))
  simp only [ev0, evA, evB, evP, fl, gp, tab, simprocAttr, reduceCtorEq, reduceIte]
  refine fin_run ?_ (hK _ ?_) <;> clear hK <;> clear K
  · (first | exact trivial | omega | (simp only [In64] at *; omega) | (simp [In64] at *; omega) | (simp_all; done) | skip)
  refine qa (qm (qm ?_))
  refine hk_region fun K hK => runs_eval tab_ok ?_
  simp only [ev0, evA, evB, evP, fl, gp, tab, simprocAttr, reduceCtorEq, reduceIte]
  refine fin_run ?_ (hK _ ?_) <;> clear hK <;> clear K
  · (first | exact trivial | omega | (simp only [In64] at *; omega) | (simp [In64] at *; omega) | (simp_all; done) | skip)
  refine qa ?_
  refine hk_cond rfl (fun hC1 => ?_) (fun hC1 => ?_)
  · (try simp only [nhs] at hC1)
    have hbf : b = false := by simpa using hC1
    refine qm ?_
    refine hk_region fun K hK => runs_eval tab_ok ?_
    simp only [ev0, evA, evB, evP, fl, gp, tab, simprocAttr, reduceCtorEq, reduceIte]
    refine fin_stop trivial (runs_call (sfault_c 7 0) rfl rfl rfl (by simp only [dstOk, Nat.reduceLT]) (by repeat (first | exact trivial | constructor)) (runs_eval tab_ok ?_))
    simp only [ev0, evA, evB, evP, fl, gp, tab, simprocAttr, reduceCtorEq, reduceIte]
    refine fin_run ?_ (hK _ ?_) <;> clear hK <;> clear K
    · (first | exact trivial | omega | (simp only [In64] at *; omega) | (simp [In64] at *; omega) | (simp_all; done) | skip)
    refine qa (qk (qb ?_))
    simp only [Tryd.results95, enA, ev0, evA, evB, evP, fl, gp, tab, simprocAttr, reduceCtorEq, reduceIte]
    all_goals (rw [hbf]; exact ⟨rfl, rfl⟩)
  · (try simp only [nhs] at hC1)
    have hbt : b = true := by simpa using hC1
    refine qh (qa (qm ?_))
    refine hk_region fun K hK => runs_eval tab_ok ?_
    simp only [ev0, evA, evB, evP, fl, gp, tab, simprocAttr, reduceCtorEq, reduceIte]
    refine fin_run ?_ (hK _ ?_) <;> clear hK <;> clear K
    · (first | exact trivial | omega | (simp only [In64] at *; omega) | (simp [In64] at *; omega) | (simp_all; done) | skip)
    refine qa (qk ?_)
    simp only [Tryd.results95, enA, ev0, evA, evB, evP, fl, gp, tab, simprocAttr, reduceCtorEq, reduceIte]
    all_goals (rw [hbt]; exact ⟨rfl, rfl⟩)
theorem group_no (N : Int) (m l : List Int) (hm : m.length ≤ 1000000000000000) (hl : l.length ≤ 1000000000000000) (hf : ¬ (sf N m l).1 = 0) : FnC Tryd.prog 95 [gp N m, .list (il l)] (fl (sf N m l)) := by
  refine fnc_of tab_ok Tryd.func95 rfl (by kernel_rfl) (by rw [Tryd.ntmps95]; exact Nat.le_add_left 2 _) ?_; rw [Tryd.ntmps95]
  refine qm ?_
  refine hk_region fun K hK => runs_eval tab_ok ?_
  simp only [ev0, evA, evB, evP, fl, gp, tab, simprocAttr, reduceCtorEq, reduceIte]
  refine fin_run ?_ (hK _ ?_) <;> clear hK <;> clear K
  · (first | exact trivial | omega | (simp only [In64] at *; omega) | (simp [In64] at *; omega) | (simp_all; done) | skip)
  refine qa (qm ?_)
  refine hk_region fun K hK => runs_eval tab_ok ?_
  simp only [ev0, evA, evB, evP, fl, gp, tab, simprocAttr, reduceCtorEq, reduceIte]
  refine fin_stop trivial (runs_call (is_no N m l hm hl hf) rfl rfl rfl (by simp only [dstOk, Nat.reduceLT]) (by repeat (first | exact trivial | constructor)) (runs_eval tab_ok ?_))
  simp only [ev0, evA, evB, evP, fl, gp, tab, simprocAttr, reduceCtorEq, reduceIte]
  refine fin_run ?_ (hK _ ?_) <;> clear hK <;> clear K
  · (first | exact trivial | omega | (simp only [In64] at *; omega) | (simp [In64] at *; omega) | (simp_all; done) | skip)
  refine qa (qm (qm ?_))
  refine hk_region fun K hK => runs_eval tab_ok ?_
  simp only [ev0, evA, evB, evP, fl, gp, tab, simprocAttr, reduceCtorEq, reduceIte, decide_eq_false hf]
  refine fin_run ?_ (hK _ ?_) <;> clear hK <;> clear K
  · (first | exact trivial | omega | (simp only [In64] at *; omega) | (simp [In64] at *; omega) | (simp_all; done) | skip)
  refine qa ?_
  refine hk_cond rfl (fun hC1 => ?_) (fun hC1 => ?_)
  · cases hC1
  · refine qh (qa (qm ?_))
    refine hk_region fun K hK => runs_eval tab_ok ?_
    simp only [ev0, evA, evB, evP, fl, gp, tab, simprocAttr, reduceCtorEq, reduceIte]
    refine fin_run ?_ (hK _ ?_) <;> clear hK <;> clear K
    · (first | exact trivial | omega | (simp only [In64] at *; omega) | (simp [In64] at *; omega) | (simp_all; done) | skip)
    refine qa (qk ?_)
    simp only [Tryd.results95, enA, ev0, evA, evB, evP, fl, gp, tab, simprocAttr, reduceCtorEq, reduceIte]
    all_goals (rfl)
theorem subFault_ok {n e : Nat} {m : List Int} (h : GT n m n e) (p : Nat → Bool) (b : Bool) (hbs : b = true ↔ Sub n (op m n) e p) : FnC Tryd.prog 82 [gp n m, .list (il (thl n p))] (fl (ufb b)) := by
  have hb := h.2.1.big
  have hl := thl_le n p
  have hml := h.2.1.len
  have hsq := sq_le hb
  refine fnc_of tab_ok Tryd.func82 rfl (by kernel_rfl) (by rw [Tryd.ntmps82]; exact Nat.le_add_left 2 _) ?_; rw [Tryd.ntmps82]
  refine qm ?_
  refine hk_region fun K hK => runs_eval tab_ok ?_
  simp only [ev0, evA, evB, evP, fl, gp, tab, simprocAttr, reduceCtorEq, reduceIte]
  refine fin_run ?_ (hK _ ?_) <;> clear hK <;> clear K
  · (first | exact trivial | omega | (simp only [In64] at *; omega) | (simp [In64] at *; omega) | (simp_all; done) | skip)
  refine qa (qm ?_)
  refine hk_region fun K hK => runs_eval tab_ok ?_
  simp only [ev0, evA, evB, evP, fl, gp, tab, simprocAttr, reduceCtorEq, reduceIte, sf_thl h]
  refine fin_stop trivial (runs_call (setFault_c n m (thl n p) (by omega) (by omega)) rfl rfl rfl (by simp only [dstOk, Nat.reduceLT]) (by repeat (first | exact trivial | constructor)) (runs_eval tab_ok ?_))
  simp only [ev0, evA, evB, evP, fl, gp, tab, simprocAttr, reduceCtorEq, reduceIte, sf_thl h]
  refine fin_run ?_ (hK _ ?_) <;> clear hK <;> clear K
  · (first | exact trivial | omega | (simp only [In64] at *; omega) | (simp [In64] at *; omega) | (simp_all; done) | skip)
  refine qa (qm (qm ?_))
  refine hk_region fun K hK => runs_eval tab_ok ?_
  simp only [ev0, evA, evB, evP, fl, gp, tab, simprocAttr, reduceCtorEq, reduceIte]
  refine fin_stop trivial (runs_call (closed_c h p b hbs) rfl rfl rfl (by simp only [dstOk, Nat.reduceLT]) (by repeat (first | exact trivial | constructor)) (runs_eval tab_ok ?_))
  simp only [ev0, evA, evB, evP, fl, gp, tab, simprocAttr, reduceCtorEq, reduceIte]
  refine fin_run ?_ (hK _ ?_) <;> clear hK <;> clear K
  · (first | exact trivial | omega | (simp only [In64] at *; omega) | (simp [In64] at *; omega) | (simp_all; done) | skip)
  refine qa ?_
  refine hk_cond rfl (fun hC1 => ?_) (fun hC1 => ?_)
  · (try simp only [nhs] at hC1)
    have hbf : b = false := by simpa using hC1
    refine hk_region fun K hK => runs_eval tab_ok ?_
    simp only [ev0, evA, evB, evP, fl, gp, tab, simprocAttr, reduceCtorEq, reduceIte]
    refine fin_stop trivial (runs_call (f_c 7 0) rfl rfl rfl (by simp only [dstOk, Nat.reduceLT]) (by repeat (first | exact trivial | constructor)) (runs_eval tab_ok ?_))
    simp only [ev0, evA, evB, evP, fl, gp, tab, simprocAttr, reduceCtorEq, reduceIte]
    refine fin_run ?_ (hK _ ?_) <;> clear hK <;> clear K
    · (first | exact trivial | omega | (simp only [In64] at *; omega) | (simp [In64] at *; omega) | (simp_all; done) | skip)
    refine qa (qm ?_)
    refine hk_region fun K hK => runs_eval tab_ok ?_
    simp only [ev0, evA, evB, evP, fl, gp, tab, simprocAttr, reduceCtorEq, reduceIte]
    refine fin_run ?_ (hK _ ?_) <;> clear hK <;> clear K
    · (first | exact trivial | omega | (simp only [In64] at *; omega) | (simp [In64] at *; omega) | (simp_all; done) | skip)
    refine qa (qk ?_)
    simp only [Tryd.results82, enA, ev0, evA, evB, evP, fl, gp, tab, simprocAttr, reduceCtorEq, reduceIte]
    all_goals (rw [hbf]; exact ⟨rfl, rfl⟩)
  · (try simp only [nhs] at hC1)
    have hbt : b = true := by simpa using hC1
    refine qh (qa (qm ?_))
    refine hk_region fun K hK => runs_eval tab_ok ?_
    simp only [ev0, evA, evB, evP, fl, gp, tab, simprocAttr, reduceCtorEq, reduceIte]
    refine fin_run ?_ (hK _ ?_) <;> clear hK <;> clear K
    · (first | exact trivial | omega | (simp only [In64] at *; omega) | (simp [In64] at *; omega) | (simp_all; done) | skip)
    refine qa (qk ?_)
    simp only [Tryd.results82, enA, ev0, evA, evB, evP, fl, gp, tab, simprocAttr, reduceCtorEq, reduceIte]
    all_goals (rw [hbt]; exact ⟨rfl, rfl⟩)
theorem subFault_no (N : Int) (m l : List Int) (hm : m.length ≤ 1000000000000000) (hl : l.length ≤ 1000000000000000) (hf : ¬ (sf N m l).1 = 0) : FnC Tryd.prog 82 [gp N m, .list (il l)] (fl (sf N m l)) := by
  refine fnc_of tab_ok Tryd.func82 rfl (by kernel_rfl) (by rw [Tryd.ntmps82]; exact Nat.le_add_left 2 _) ?_; rw [Tryd.ntmps82]
  refine qm ?_
  refine hk_region fun K hK => runs_eval tab_ok ?_
  simp only [ev0, evA, evB, evP, fl, gp, tab, simprocAttr, reduceCtorEq, reduceIte]
  refine fin_run ?_ (hK _ ?_) <;> clear hK <;> clear K
  · (first | exact trivial | omega | (simp only [In64] at *; omega) | (simp [In64] at *; omega) | (simp_all; done) | skip)
  refine qa (qm ?_)
  refine hk_region fun K hK => runs_eval tab_ok ?_
  simp only [ev0, evA, evB, evP, fl, gp, tab, simprocAttr, reduceCtorEq, reduceIte]
  refine fin_stop trivial (runs_call (setFault_c N m l hm hl) rfl rfl rfl (by simp only [dstOk, Nat.reduceLT]) (by repeat (first | exact trivial | constructor)) (runs_eval tab_ok ?_))
  simp only [ev0, evA, evB, evP, fl, gp, tab, simprocAttr, reduceCtorEq, reduceIte]
  refine fin_run ?_ (hK _ ?_) <;> clear hK <;> clear K
  · (first | exact trivial | omega | (simp only [In64] at *; omega) | (simp [In64] at *; omega) | (simp_all; done) | skip)
  refine qa (qm (qm ?_))
  refine hk_region fun K hK => runs_eval tab_ok ?_
  simp only [ev0, evA, evB, evP, fl, gp, tab, simprocAttr, reduceCtorEq, reduceIte, decide_eq_false hf]
  refine fin_run ?_ (hK _ ?_) <;> clear hK <;> clear K
  · (first | exact trivial | omega | (simp only [In64] at *; omega) | (simp [In64] at *; omega) | (simp_all; done) | skip)
  refine qa ?_
  refine hk_cond rfl (fun hC1 => ?_) (fun hC1 => ?_)
  · cases hC1
  · refine qh (qa (qm ?_))
    refine hk_region fun K hK => runs_eval tab_ok ?_
    simp only [ev0, evA, evB, evP, fl, gp, tab, simprocAttr, reduceCtorEq, reduceIte]
    refine fin_run ?_ (hK _ ?_) <;> clear hK <;> clear K
    · (first | exact trivial | omega | (simp only [In64] at *; omega) | (simp [In64] at *; omega) | (simp_all; done) | skip)
    refine qa (qk ?_)
    simp only [Tryd.results82, enA, ev0, evA, evB, evP, fl, gp, tab, simprocAttr, reduceCtorEq, reduceIte]
    all_goals (rfl)

/-! ### A set, conjugated -/

def cjl (n : Nat) (f : Nat → Nat → Nat) (e a : Nat) (l : List Int) : List Int := l.map fun x => ((cjr n f e x.toNat a : Nat) : Int)
theorem cjl_succ (n : Nat) (f : Nat → Nat → Nat) (e a : Nat) {l : List Int} {i : Nat} (hi : i < l.length) : cjl n f e a (l.take (i + 1)) = cjl n f e a (l.take i) ++ [((cjr n f e (l.getD i 0).toNat a : Nat) : Int)] := by
  unfold cjl
  rw [List.take_succ_eq_append_getElem hi, List.map_append]
  have : l[i] = l.getD i 0 := by simp [List.getD, List.getElem?_eq_getElem hi]
  rw [this]; rfl
theorem mem_cjl {n e a : Nat} {f : Nat → Nat → Nat} {p : Nat → Bool} {x : Int} : x ∈ cjl n f e a (thl n p) ↔ ∃ y, y < n ∧ p y = true ∧ x = ((cjr n f e y a : Nat) : Int) := by
  unfold cjl
  rw [List.mem_map]
  constructor
  · rintro ⟨z, hz, rfl⟩
    obtain ⟨y, y1, y2, rfl⟩ := mem_thl.1 hz
    exact ⟨y, y1, y2, by simp⟩
  · rintro ⟨y, y1, y2, rfl⟩
    exact ⟨_, (mem_thl_n y1).2 y2, by simp⟩
theorem msk_cjl {n e a : Nat} {f : Nat → Nat → Nat} (G : Grp n f e) (p : Nat → Bool) (ha : a < n) : msk (cjl n f e a (thl n p)) = bo n (shf n f e p a) := by
  refine Nat.eq_of_testBit_eq fun i => ?_
  rw [msk_bit, bo_bit, Bool.eq_iff_iff, decide_eq_true_eq, Bool.and_eq_true, decide_eq_true_eq, shf_iff]
  constructor
  · rintro ⟨x, hx, rfl⟩
    obtain ⟨y, y1, y2, rfl⟩ := mem_cjl.1 hx
    exact ⟨by simpa using G.cjr_lt y1 ha, y, y1, y2, by simp⟩
  · rintro ⟨_, y, y1, y2, rfl⟩
    exact ⟨_, mem_cjl.2 ⟨y, y1, y2, rfl⟩, by simp⟩

theorem moved_s {n e : Nat} {m : List Int} (h : GT n m n e) (p : Nat → Bool) {a : Nat} (ha : a < n) : FnC Tryd.prog 90 [gp n m, .int .u64 (bo n p), .int .i64 a] (.int .u64 (bo n (shf n (op m n) e p a))) := by
  have G := h.2.2
  have hb := h.2.1.big
  have hlp := thl_le n p
  refine fnc_of tab_ok Tryd.func90 rfl (by kernel_rfl) (by rw [Tryd.ntmps90]; exact Nat.le_add_left 3 _) ?_; rw [Tryd.ntmps90]
  refine qm ?_
  refine hk_region fun K hK => runs_eval tab_ok ?_
  simp only [ev0, evA, evB, evP, fl, gp, tab, simprocAttr, reduceCtorEq, reduceIte]
  refine fin_run ?_ (hK _ ?_) <;> clear hK <;> clear K
  · (first | exact trivial | omega | (simp only [In64] at *; omega) | (simp [In64] at *; omega) | (simp_all; done) | skip)
  refine qa (qm ?_)
  refine hk_region fun K hK => runs_eval tab_ok ?_
  simp only [ev0, evA, evB, evP, fl, gp, tab, simprocAttr, reduceCtorEq, reduceIte]
  refine fin_run trivial (hK _ ?_) <;> clear hK <;> clear K
  refine qa (qm (qm ?_))
  refine hk_region fun K hK => runs_eval tab_ok ?_
  simp only [ev0, evA, evB, evP, fl, gp, tab, simprocAttr, reduceCtorEq, reduceIte]
  refine fin_stop trivial (runs_call (list_s (bo n p) (bo_lt64 hb p)) rfl rfl rfl (by simp only [dstOk, Nat.reduceLT]) (by repeat (first | exact trivial | constructor)) (runs_eval tab_ok ?_))
  simp only [ev0, evA, evB, evP, fl, gp, tab, simprocAttr, reduceCtorEq, reduceIte, stl_bo hb, il_length]
  refine fin_run trivial (hK _ ?_) <;> clear hK <;> clear K
  refine qa (ql ?_)
  refine hk_loop (ι := Nat) (fun i => ⟨26, [(2, .p (.int .i64 a)), (3, .ptr 0 0), (7, .p (.int .u64 (msk (cjl n (op m n) e a ((thl n p).take i))))), (11, .p (.list (il (thl n p)))), (12, .p (.int .i64 (thl n p).length)), (13, .p (.int .i64 i))], [.own [.p (.int .i64 n), .p (.list (il m))]]⟩) (fun i => i ≤ (thl n p).length) (fun i => (thl n p).length - i) 0 (Nat.zero_le _) [0] (by simp only [leq, leA, ev0, evA, evB, evP, fl, gp, tab, simprocAttr, reduceCtorEq, reduceIte] <;> first | trivial | simp [cjl, msk]) fun i hi => ?_
  refine qm ?_
  refine hk_region fun K hK => runs_eval tab_ok ?_
  simp only [ev0, evA, evB, evP, fl, gp, tab, simprocAttr, reduceCtorEq, reduceIte]
  refine fin_run trivial (hK _ ?_) <;> clear hK <;> clear K
  refine qa (qm ?_)
  refine hk_cond rfl (fun hC1 => ?_) (fun hC1 => ?_)
  · (try simp only [nhs] at hC1)
    have hlt : i < (thl n p).length := by omega
    obtain ⟨x, x1, x2, x3⟩ := thl_get hlt
    have hc := G.cjr_lt x1 ha
    have hp := pow_lt64 (b := cjr n (op m n) e x a) (by omega)
    have hall : ∀ z ∈ cjl n (op m n) e a ((thl n p).take i), z.toNat < n := fun z hz => by
      obtain ⟨w, hw, rfl⟩ := List.mem_map.1 hz
      obtain ⟨w', w1, w2⟩ := thl_rng2 w (List.mem_of_mem_take hw)
      subst w2
      exact G.cjr_lt w1 ha
    have hm := lt64 hb (msk_lt hall)
    refine qh (qa (qm (ql (qm ?_))))
    refine hk_region fun K hK => runs_eval tab_ok ?_
    simp only [ev0, evA, evB, evP, fl, gp, tab, simprocAttr, reduceCtorEq, reduceIte, il_get hlt, x3]
    refine fin_run ?_ (hK _ ?_) <;> clear hK <;> clear K
    · (first | exact trivial | omega | (simp only [In64] at *; omega) | (simp [In64] at *; omega) | (simp_all; done) | skip)
    refine qa ?_
    refine hk_region fun K hK => runs_eval tab_ok ?_
    simp only [ev0, evA, evB, evP, fl, gp, tab, simprocAttr, reduceCtorEq, reduceIte]
    refine fin_stop trivial (runs_call (conj_s h x1 ha) rfl rfl rfl (by simp only [dstOk, Nat.reduceLT]) (by repeat (first | exact trivial | constructor)) (runs_eval tab_ok ?_))
    simp only [ev0, evA, evB, evP, fl, gp, tab, simprocAttr, reduceCtorEq, reduceIte, shl_one (show cjr n (op m n) e x a < 64 by omega), bv_or hm hp]
    refine fin_run ?_ (hK _ ?_) <;> clear hK <;> clear K
    · (first | exact trivial | omega | (simp only [In64] at *; omega) | (simp [In64] at *; omega) | (simp_all; done) | skip)
    refine qd (qa ?_)
    refine hk_region fun K hK => runs_eval tab_ok ?_
    simp only [ev0, evA, evB, evP, fl, gp, tab, simprocAttr, reduceCtorEq, reduceIte]
    refine fin_run ?_ (hK _ ?_) <;> clear hK <;> clear K
    · (first | exact trivial | omega | (simp only [In64] at *; omega) | (simp [In64] at *; omega) | (simp_all; done) | skip)
    refine qa ?_
    refine ⟨i + 1, [0], by omega, by omega, ?_⟩
    rw [cjl_succ n (op m n) e a hlt, msk_snoc, x3]
    simp only [leq, leA, ev0, evA, evB, evP, fl, gp, tab, simprocAttr, reduceCtorEq, reduceIte] <;> first | trivial | omega
  · (try simp only [nhs] at hC1)
    have hin : i = (thl n p).length := by omega
    rw [hin, List.take_length, msk_cjl G p ha]
    refine qj (qc (qc (qf (qa (qm ?_)))))
    refine hk_region fun K hK => runs_eval tab_ok ?_
    simp only [ev0, evA, evB, evP, fl, gp, tab, simprocAttr, reduceCtorEq, reduceIte]
    refine fin_run trivial (hK _ ?_) <;> clear hK <;> clear K
    refine qa (qk ?_)
    simp only [Tryd.results90, enA, ev0, evA, evB, evP, fl, gp, tab, simprocAttr, reduceCtorEq, reduceIte]
    all_goals (rfl)

theorem normaliser1_c {n e : Nat} {m : List Int} (h : GT n m n e) (p : Nat → Bool) {a : Nat} (ha : a < n) : FnC Tryd.prog 97 [.int .i64 a, .ptr [.int .i64 n, .list (il m)], .ptr [.list (il (thl n p))]] (.bool (nzr n (op m n) e p a)) := by
  have hb := h.2.1.big
  have hlp := thl_le n p
  have hz : decide ((bo n (shf n (op m n) e p a) : Int) = (bo n p : Int)) = nzr n (op m n) e p a := by
    rw [Bool.eq_iff_iff, decide_eq_true_eq, nzr_iff]
    exact ⟨fun he y hy => bo_inj (by omega) hy, fun he => by rw [bo_congr he]⟩
  refine fnc_of tab_ok Tryd.func97 rfl (by kernel_rfl) (by rw [Tryd.ntmps97]; exact Nat.le_add_left 3 _) ?_; rw [Tryd.ntmps97]
  refine qm ?_
  refine hk_region fun K hK => runs_eval tab_ok ?_
  simp only [ev0, evA, evB, evP, fl, gp, tab, simprocAttr, reduceCtorEq, reduceIte]
  refine fin_run trivial (hK _ ?_) <;> clear hK <;> clear K
  refine qa (qm ?_)
  refine hk_draw mixed (by kernel_rfl) fun K hK => runs_eval tab_ok ?_
  simp only [ev0, evA, evB, evP, fl, gp, tab, simprocAttr, reduceCtorEq, reduceIte]
  refine fin_stop trivial (runs_call (of_s (thl n p) (by omega) (thl_rng hb p)) rfl rfl rfl (by simp only [dstOk, Nat.reduceLT]) (by repeat (first | exact trivial | constructor)) (runs_eval tab_ok ?_))
  simp only [ev0, evA, evB, evP, fl, gp, tab, simprocAttr, reduceCtorEq, reduceIte, msk_thl]
  refine fin_stop trivial (runs_call (moved_s h p ha) rfl rfl rfl (by simp only [dstOk, Nat.reduceLT]) (by repeat (first | exact trivial | constructor)) (runs_eval tab_ok ?_))
  simp only [ev0, evA, evB, evP, fl, gp, tab, simprocAttr, reduceCtorEq, reduceIte]
  refine fin_stop trivial (runs_call (of_s (thl n p) (by omega) (thl_rng hb p)) rfl rfl rfl (by simp only [dstOk, Nat.reduceLT]) (by repeat (first | exact trivial | constructor)) (runs_eval tab_ok ?_))
  simp only [ev0, evA, evB, evP, fl, gp, tab, simprocAttr, reduceCtorEq, reduceIte]
  refine fin_run ?_ (hK _ ?_) <;> clear hK <;> clear K
  · (first | exact trivial | omega | (simp only [In64] at *; omega) | (simp [In64] at *; omega) | (simp_all; done) | skip)
  refine qa (qk ?_)
  simp only [Tryd.results97, enA, ev0, evA, evB, evP, fl, gp, tab, simprocAttr, reduceCtorEq, reduceIte]
  all_goals (exact hz)
theorem normaliser_w (N : Int) (m l : List Int) (w : Int × Int) (hG : FnC Tryd.prog 95 [gp N m, .list (il l)] (fl w)) (hw : ¬ w.1 = 0) : FnC Tryd.prog 53 [gp N m, .list (il l)] (.tup [.list [], fl w]) := by
  refine fnc_of tab_ok Tryd.func53 rfl (by kernel_rfl) (by rw [Tryd.ntmps53]; exact Nat.le_add_left 2 _) ?_; rw [Tryd.ntmps53]
  refine qm ?_
  refine hk_region fun K hK => runs_eval tab_ok ?_
  simp only [ev0, evA, evB, evP, fl, gp, tab, simprocAttr, reduceCtorEq, reduceIte]
  refine fin_run ?_ (hK _ ?_) <;> clear hK <;> clear K
  · (first | exact trivial | omega | (simp only [In64] at *; omega) | (simp [In64] at *; omega) | (simp_all; done) | skip)
  refine qa (qm (qm ?_))
  refine hk_region fun K hK => runs_eval tab_ok ?_
  simp only [ev0, evA, evB, evP, fl, gp, tab, simprocAttr, reduceCtorEq, reduceIte]
  refine fin_stop trivial (runs_call (hG) rfl rfl rfl (by simp only [dstOk, Nat.reduceLT]) (by repeat (first | exact trivial | constructor)) (runs_eval tab_ok ?_))
  simp only [ev0, evA, evB, evP, fl, gp, tab, simprocAttr, reduceCtorEq, reduceIte]
  refine fin_run ?_ (hK _ ?_) <;> clear hK <;> clear K
  · (first | exact trivial | omega | (simp only [In64] at *; omega) | (simp [In64] at *; omega) | (simp_all; done) | skip)
  refine qa (qm ?_)
  refine hk_region fun K hK => runs_eval tab_ok ?_
  simp only [ev0, evA, evB, evP, fl, gp, tab, simprocAttr, reduceCtorEq, reduceIte]
  refine fin_run ?_ (hK _ ?_) <;> clear hK <;> clear K
  · (first | exact trivial | omega | (simp only [In64] at *; omega) | (simp [In64] at *; omega) | (simp_all; done) | skip)
  refine qa ?_
  refine hk_cond rfl (fun hC1 => ?_) (fun hC1 => ?_)
  · (try simp only [nhs] at hC1)
    refine qm ?_
    refine hk_draw mixed (by kernel_rfl) fun K hK => runs_eval tab_ok ?_
    simp only [ev0, evA, evB, evP, fl, gp, tab, simprocAttr, reduceCtorEq, reduceIte]
    refine fin_run ?_ (hK _ ?_) <;> clear hK <;> clear K
    · (first | exact trivial | omega | (simp only [In64] at *; omega) | (simp [In64] at *; omega) | (simp_all; done) | skip)
    refine qa (qk (qb ?_))
    simp only [Tryd.results53, enA, ev0, evA, evB, evP, fl, gp, tab, simprocAttr, reduceCtorEq, reduceIte]
    all_goals ((first | exact rfl | exact ⟨rfl, rfl⟩ | exact ⟨rfl, rfl, rfl⟩ | exact ⟨trivial, rfl⟩ | exact ⟨Nat.le_refl _, rfl⟩ | trivial | (simp; done)))
  · (try simp only [nhs] at hC1)
    exact absurd hC1 hw
theorem normaliser_ok {n e : Nat} {m : List Int} (h : GT n m n e) (p : Nat → Bool) (hs : Sub n (op m n) e p) : FnC Tryd.prog 53 [gp n m, .list (il (thl n p))] (.tup [.list (il (thl n (nzr n (op m n) e p))), fl (0, 0)]) := by
  have hb := h.2.1.big
  refine fnc_of tab_ok Tryd.func53 rfl (by kernel_rfl) (by rw [Tryd.ntmps53]; exact Nat.le_add_left 2 _) ?_; rw [Tryd.ntmps53]
  refine qm ?_
  refine hk_region fun K hK => runs_eval tab_ok ?_
  simp only [ev0, evA, evB, evP, fl, gp, tab, simprocAttr, reduceCtorEq, reduceIte]
  refine fin_run ?_ (hK _ ?_) <;> clear hK <;> clear K
  · (first | exact trivial | omega | (simp only [In64] at *; omega) | (simp [In64] at *; omega) | (simp_all; done) | skip)
  refine qa (qm (qm ?_))
  refine hk_region fun K hK => runs_eval tab_ok ?_
  simp only [ev0, evA, evB, evP, fl, gp, tab, simprocAttr, reduceCtorEq, reduceIte]
  refine fin_stop trivial (runs_call (group_ok h p true (by simp [hs])) rfl rfl rfl (by simp only [dstOk, Nat.reduceLT]) (by repeat (first | exact trivial | constructor)) (runs_eval tab_ok ?_))
  simp only [ev0, evA, evB, evP, fl, gp, tab, simprocAttr, reduceCtorEq, reduceIte, ufb]
  refine fin_run ?_ (hK _ ?_) <;> clear hK <;> clear K
  · (first | exact trivial | omega | (simp only [In64] at *; omega) | (simp [In64] at *; omega) | (simp_all; done) | skip)
  refine qa (qm ?_)
  refine hk_region fun K hK => runs_eval tab_ok ?_
  simp only [ev0, evA, evB, evP, fl, gp, tab, simprocAttr, reduceCtorEq, reduceIte]
  refine fin_run ?_ (hK _ ?_) <;> clear hK <;> clear K
  · (first | exact trivial | omega | (simp only [In64] at *; omega) | (simp [In64] at *; omega) | (simp_all; done) | skip)
  refine qa ?_
  refine hk_cond rfl (fun hC1 => ?_) (fun hC1 => ?_)
  · cases hC1
  · (try simp only [nhs] at hC1)
    refine qh (qa (qm ?_))
    refine hk_freeze 0 rfl rfl ?_
    refine hk_freeze 1 rfl rfl ?_
    simp only [hset]
    refine hk_region fun K hK => runs_eval tab_ok ?_
    simp only [ev0, evA, evB, evP, fl, gp, tab, simprocAttr, reduceCtorEq, reduceIte]
    refine fin_stop trivial (runs_call (choose_c n m _ _ (nzr n (op m n) e p) (by omega) (fun a ha => normaliser1_c h p ha)) rfl rfl rfl (by simp only [dstOk, Nat.reduceLT]) (by repeat (first | exact trivial | constructor)) (runs_eval tab_ok ?_))
    simp only [ev0, evA, evB, evP, fl, gp, tab, simprocAttr, reduceCtorEq, reduceIte]
    refine fin_run ?_ (hK _ ?_) <;> clear hK <;> clear K
    · (first | exact trivial | omega | (simp only [In64] at *; omega) | (simp [In64] at *; omega) | (simp_all; done) | skip)
    refine qa (qk ?_)
    simp only [Tryd.results53, enA, ev0, evA, evB, evP, fl, gp, tab, simprocAttr, reduceCtorEq, reduceIte]
    all_goals ((first | exact rfl | exact ⟨rfl, rfl⟩ | exact ⟨rfl, rfl, rfl⟩ | exact ⟨trivial, rfl⟩ | exact ⟨Nat.le_refl _, rfl⟩ | trivial | (simp; done)))
theorem normal_w (N : Int) (m l : List Int) (w : Int × Int) (hG : FnC Tryd.prog 95 [gp N m, .list (il l)] (fl w)) (hw : ¬ w.1 = 0) : FnC Tryd.prog 55 [gp N m, .list (il l)] (.tup [.bool false, fl w]) := by
  refine fnc_of tab_ok Tryd.func55 rfl (by kernel_rfl) (by rw [Tryd.ntmps55]; exact Nat.le_add_left 2 _) ?_; rw [Tryd.ntmps55]
  refine qm ?_
  refine hk_region fun K hK => runs_eval tab_ok ?_
  simp only [ev0, evA, evB, evP, fl, gp, tab, simprocAttr, reduceCtorEq, reduceIte]
  refine fin_run ?_ (hK _ ?_) <;> clear hK <;> clear K
  · (first | exact trivial | omega | (simp only [In64] at *; omega) | (simp [In64] at *; omega) | (simp_all; done) | skip)
  refine qa (qm ?_)
  refine hk_region fun K hK => runs_eval tab_ok ?_
  simp only [ev0, evA, evB, evP, fl, gp, tab, simprocAttr, reduceCtorEq, reduceIte]
  refine fin_stop trivial (runs_call (normaliser_w N m l w hG hw) rfl rfl rfl (by simp only [dstOk, Nat.reduceLT]) (by repeat (first | exact trivial | constructor)) (runs_eval tab_ok ?_))
  simp only [ev0, evA, evB, evP, fl, gp, tab, simprocAttr, reduceCtorEq, reduceIte]
  refine fin_run ?_ (hK _ ?_) <;> clear hK <;> clear K
  · (first | exact trivial | omega | (simp only [In64] at *; omega) | (simp [In64] at *; omega) | (simp_all; done) | skip)
  refine qa (qm ?_)
  refine hk_draw mixed (by kernel_rfl) fun K hK => runs_eval tab_ok ?_
  simp only [ev0, evA, evB, evP, fl, gp, tab, simprocAttr, reduceCtorEq, reduceIte, decide_eq_false hw]
  refine fin_run ?_ (hK _ ?_) <;> clear hK <;> clear K
  · (first | exact trivial | omega | (simp only [In64] at *; omega) | (simp [In64] at *; omega) | (simp_all; done) | skip)
  refine qa (qk ?_)
  simp only [Tryd.results55, enA, ev0, evA, evB, evP, fl, gp, tab, simprocAttr, reduceCtorEq, reduceIte]
  all_goals ((first | exact rfl | exact ⟨rfl, rfl⟩ | exact ⟨rfl, rfl, rfl⟩ | exact ⟨trivial, rfl⟩ | exact ⟨Nat.le_refl _, rfl⟩ | trivial | (simp; done)))
theorem normal_ok {n e : Nat} {m : List Int} (h : GT n m n e) (p : Nat → Bool) (hs : Sub n (op m n) e p) (b : Bool) (hb' : b = true ↔ Nml n (op m n) e p) : FnC Tryd.prog 55 [gp n m, .list (il (thl n p))] (.tup [.bool b, fl (0, 0)]) := by
  have hb := h.2.1.big
  have hl := thl_le n (nzr n (op m n) e p)
  have hz : decide (((thl n (nzr n (op m n) e p)).length : Int) = (n : Int)) = b := by
    rw [Bool.eq_iff_iff, decide_eq_true_eq, hb', h.2.2.nml_iff, ← mem_all]
    have : (thl n (nzr n (op m n) e p)).length = (mem n (nzr n (op m n) e p)).length := thl_len _ _
    omega
  refine fnc_of tab_ok Tryd.func55 rfl (by kernel_rfl) (by rw [Tryd.ntmps55]; exact Nat.le_add_left 2 _) ?_; rw [Tryd.ntmps55]
  refine qm ?_
  refine hk_region fun K hK => runs_eval tab_ok ?_
  simp only [ev0, evA, evB, evP, fl, gp, tab, simprocAttr, reduceCtorEq, reduceIte]
  refine fin_run ?_ (hK _ ?_) <;> clear hK <;> clear K
  · (first | exact trivial | omega | (simp only [In64] at *; omega) | (simp [In64] at *; omega) | (simp_all; done) | skip)
  refine qa (qm ?_)
  refine hk_region fun K hK => runs_eval tab_ok ?_
  simp only [ev0, evA, evB, evP, fl, gp, tab, simprocAttr, reduceCtorEq, reduceIte]
  refine fin_stop trivial (runs_call (normaliser_ok h p hs) rfl rfl rfl (by simp only [dstOk, Nat.reduceLT]) (by repeat (first | exact trivial | constructor)) (runs_eval tab_ok ?_))
  simp only [ev0, evA, evB, evP, fl, gp, tab, simprocAttr, reduceCtorEq, reduceIte]
  refine fin_run ?_ (hK _ ?_) <;> clear hK <;> clear K
  · (first | exact trivial | omega | (simp only [In64] at *; omega) | (simp [In64] at *; omega) | (simp_all; done) | skip)
  refine qa (qm ?_)
  refine hk_draw mixed (by kernel_rfl) fun K hK => runs_eval tab_ok ?_
  simp only [ev0, evA, evB, evP, fl, gp, tab, simprocAttr, reduceCtorEq, reduceIte, il_length]
  refine fin_run ?_ (hK _ ?_) <;> clear hK <;> clear K
  · (first | exact trivial | omega | (simp only [In64] at *; omega) | (simp [In64] at *; omega) | (simp_all; done) | skip)
  refine qa (qk ?_)
  simp only [Tryd.results55, enA, ev0, evA, evB, evP, fl, gp, tab, simprocAttr, reduceCtorEq, reduceIte]
  all_goals (rw [hz])

/-- What is in a set, and in it conjugated by things below a. -/
def crs (n : Nat) (f : Nat → Nat → Nat) (e : Nat) (p : Nat → Bool) (a y : Nat) : Bool := p y && decide (∀ b, b < a → shf n f e p b y = true)
theorem bo_and (n : Nat) (p q : Nat → Bool) : bo n p &&& bo n q = bo n fun a => p a && q a := by
  refine Nat.eq_of_testBit_eq fun i => ?_
  rw [Nat.testBit_and, bo_bit, bo_bit, bo_bit]
  cases decide (i < n) <;> simp
/-- What is in a set conjugated by things below a. -/
def cus (n : Nat) (f : Nat → Nat → Nat) (e : Nat) (p : Nat → Bool) (a y : Nat) : Bool := decide (∃ b, b < a ∧ shf n f e p b y = true)
/-! ### As the document has them -/

theorem isNormal_r {n e : Nat} {m : List Int} (h : GT n m n e) (p : Nat → Bool) (b : Bool) (hbn : b = true ↔ Nml n (op m n) e p) : FnC Tryd.prog 83 [gp n m, .list (il (thl n p))] (.bool b) := by
  have G := h.2.2
  have hb := h.2.1.big
  have hlp := thl_le n p
  refine fnc_of tab_ok Tryd.func83 rfl (by kernel_rfl) (by rw [Tryd.ntmps83]; exact Nat.le_add_left 2 _) ?_; rw [Tryd.ntmps83]
  refine qm ?_
  refine hk_region fun K hK => runs_eval tab_ok ?_
  simp only [ev0, evA, evB, evP, fl, gp, tab, simprocAttr, reduceCtorEq, reduceIte]
  refine fin_run ?_ (hK _ ?_) <;> clear hK <;> clear K
  · (first | exact trivial | omega | (simp only [In64] at *; omega) | (simp [In64] at *; omega) | (simp_all; done) | skip)
  refine qa (qm (qm ?_))
  refine hk_region fun K hK => runs_eval tab_ok ?_
  simp only [ev0, evA, evB, evP, fl, gp, tab, simprocAttr, reduceCtorEq, reduceIte]
  refine fin_run trivial (hK _ ?_) <;> clear hK <;> clear K
  refine qa (ql ?_)
  refine hk_loop (ι := Nat) (fun a => ⟨29, [(1, .p (.list (il (thl n p)))), (2, .ptr 0 0), (5, .p (.int .i64 a))], [.own [.p (.int .i64 n), .p (.list (il m))]]⟩) (fun a => a ≤ n ∧ ∀ c, c < a → ∀ x, x < n → p x = true → p (cjr n (op m n) e x c) = true) (fun a => n - a) 0 ⟨Nat.zero_le _, fun j hj => by omega⟩ [0] (by simp only [leq, leA, ev0, evA, evB, evP, fl, gp, tab, simprocAttr, reduceCtorEq, reduceIte] <;> trivial) fun a ha => ?_
  obtain ⟨ha1, ha2⟩ := ha
  refine qm (qm ?_)
  refine hk_region fun K hK => runs_eval tab_ok ?_
  simp only [ev0, evA, evB, evP, fl, gp, tab, simprocAttr, reduceCtorEq, reduceIte]
  refine fin_run ?_ (hK _ ?_) <;> clear hK <;> clear K
  · (first | exact trivial | omega | (simp only [In64] at *; omega) | (simp [In64] at *; omega) | (simp_all; done) | skip)
  refine qa ?_
  refine hk_cond rfl (fun hC1 => ?_) (fun hC1 => ?_)
  · (try simp only [nhs] at hC1)
    have hal : a < n := by omega
    refine qh (qa (qm (ql (qm ?_))))
    refine hk_region fun K hK => runs_eval tab_ok ?_
    simp only [ev0, evA, evB, evP, fl, gp, tab, simprocAttr, reduceCtorEq, reduceIte]
    refine fin_run trivial (hK _ ?_) <;> clear hK <;> clear K
    refine qa (ql ?_)
    refine hk_loop (ι := Nat) (fun i => ⟨29, [(1, .p (.list (il (thl n p)))), (2, .ptr 0 0), (5, .p (.int .i64 a)), (6, .p (.int .i64 i))], [.own [.p (.int .i64 n), .p (.list (il m))]]⟩) (fun i => i ≤ (thl n p).length ∧ ∀ j, j < i → p (cjr n (op m n) e ((thl n p).getD j 0).toNat a) = true) (fun i => (thl n p).length - i) 0 ⟨Nat.zero_le _, fun j hj => by omega⟩ [0] (by simp only [leq, leA, ev0, evA, evB, evP, fl, gp, tab, simprocAttr, reduceCtorEq, reduceIte] <;> trivial) fun i hi => ?_
    obtain ⟨hi1, hi2⟩ := hi
    refine qm (qm ?_)
    refine hk_region fun K hK => runs_eval tab_ok ?_
    simp only [ev0, evA, evB, evP, fl, gp, tab, simprocAttr, reduceCtorEq, reduceIte]
    refine fin_run trivial (hK _ ?_) <;> clear hK <;> clear K
    refine qa ?_
    refine hk_cond rfl (fun hC2 => ?_) (fun hC2 => ?_)
    · (try simp only [nhs] at hC2)
      have hlt : i < (thl n p).length := by omega
      obtain ⟨x, x1, x2, x3⟩ := thl_get hlt
      have hcl := G.cjr_lt x1 hal
      refine qh (qa (qm (ql (qm ?_))))
      refine hk_draw mixed (by kernel_rfl) fun K hK => runs_eval tab_ok ?_
      simp only [ev0, evA, evB, evP, fl, gp, tab, simprocAttr, reduceCtorEq, reduceIte, il_get hlt, x3]
      refine fin_stop ?_ (runs_call (c_r h x1 hal) rfl rfl rfl (by simp only [dstOk, Nat.reduceLT]) (by repeat (first | exact trivial | constructor)) (runs_eval tab_ok ?_))
      · (first | exact trivial | omega | (simp only [In64] at *; omega) | (simp [In64] at *; omega) | (simp_all; done) | skip)
      simp only [ev0, evA, evB, evP, fl, gp, tab, simprocAttr, reduceCtorEq, reduceIte, il_get hlt, x3]
      refine fin_stop trivial (runs_call (has_r (thl n p) (cjr n (op m n) e x a : Nat) (by omega)) rfl rfl rfl (by simp only [dstOk, Nat.reduceLT]) (by repeat (first | exact trivial | constructor)) (runs_eval tab_ok ?_))
      simp only [ev0, evA, evB, evP, fl, gp, tab, simprocAttr, reduceCtorEq, reduceIte, il_get hlt, x3]
      refine fin_run ?_ (hK _ ?_) <;> clear hK <;> clear K
      · (first | exact trivial | omega | (simp only [In64] at *; omega) | (simp [In64] at *; omega) | (simp_all; done) | skip)
      refine qa ?_
      refine hk_cond rfl (fun hC3 => ?_) (fun hC3 => ?_)
      · (try simp only [nhs] at hC3)
        refine qm ?_
        refine hk_region fun K hK => runs_eval tab_ok ?_
        simp only [ev0, evA, evB, evP, fl, gp, tab, simprocAttr, reduceCtorEq, reduceIte]
        refine fin_run trivial (hK _ ?_) <;> clear hK <;> clear K
        refine qa (qk (qe (qb (qb (qe (qe (qb (qb (qe (qb ?_))))))))))
        simp only [Tryd.results83, enA, ev0, evA, evB, evP, fl, gp, tab, simprocAttr, reduceCtorEq, reduceIte]
        cases b with
        | false => rfl
        | true => exact absurd ((mem_thl_n hcl).2 (hbn.1 rfl a hal x x1 x2)) (by simpa using hC3)
      · (try simp only [nhs] at hC3)
        have hx : p (cjr n (op m n) e x a) = true := (mem_thl_n hcl).1 hC3
        refine qh (qd (qa ?_))
        refine hk_region fun K hK => runs_eval tab_ok ?_
        simp only [ev0, evA, evB, evP, fl, gp, tab, simprocAttr, reduceCtorEq, reduceIte]
        refine fin_run ?_ (hK _ ?_) <;> clear hK <;> clear K
        · (first | exact trivial | omega | (simp only [In64] at *; omega) | (simp [In64] at *; omega) | (simp_all; done) | skip)
        refine qa ?_
        refine ⟨i + 1, [0], ⟨by omega, fun j hj => ?_⟩, by omega, ?_⟩
        · by_cases hj2 : j = i
          · subst hj2; rw [x3, Int.toNat_natCast]; exact hx
          · exact hi2 j (by omega)
        · simp only [leq, leA, ev0, evA, evB, evP, fl, gp, tab, simprocAttr, reduceCtorEq, reduceIte] <;> omega
    · (try simp only [nhs] at hC2)
      refine qj (qc (qc (qf (qd (qa ?_)))))
      refine hk_region fun K hK => runs_eval tab_ok ?_
      simp only [ev0, evA, evB, evP, fl, gp, tab, simprocAttr, reduceCtorEq, reduceIte]
      refine fin_run ?_ (hK _ ?_) <;> clear hK <;> clear K
      · (first | exact trivial | omega | (simp only [In64] at *; omega) | (simp [In64] at *; omega) | (simp_all; done) | skip)
      refine qa ?_
      refine ⟨a + 1, [0], ⟨by omega, fun c hc x x1 x2 => ?_⟩, by omega, ?_⟩
      · by_cases hca : c = a
        · subst hca
          obtain ⟨j, j1, j2⟩ := thl_at x1 x2
          have := hi2 j (by omega)
          rwa [j2, Int.toNat_natCast] at this
        · exact ha2 c (by omega) x x1 x2
      · simp only [leq, leA, ev0, evA, evB, evP, fl, gp, tab, simprocAttr, reduceCtorEq, reduceIte] <;> omega
  · (try simp only [nhs] at hC1)
    refine qj (qc (qc (qf (qa (qm ?_)))))
    refine hk_region fun K hK => runs_eval tab_ok ?_
    simp only [ev0, evA, evB, evP, fl, gp, tab, simprocAttr, reduceCtorEq, reduceIte]
    refine fin_run trivial (hK _ ?_) <;> clear hK <;> clear K
    refine qa (qk ?_)
    simp only [Tryd.results83, enA, ev0, evA, evB, evP, fl, gp, tab, simprocAttr, reduceCtorEq, reduceIte]
    rw [eq_comm, hbn]
    exact fun c hc x x1 x2 => ha2 c (by omega) x x1 x2
end Go.Proofs.YtjikchbmkodgfaaDoor

/-
  What reads as one value reads as another. Conditions: none.
-/
set_option linter.all false
namespace Go.Proofs.YtjikchbmkodgfaaDoor
open Go.Pv

/-! ### What reads as one reads as another -/

def Rle (a b : PV) : Prop := ∀ (ok : Nat → Prop) (w : World) (v : Value), Reads ok w a v → Reads ok w b v
theorem Rle.rfl {a : PV} : Rle a a := fun _ _ _ h => h
theorem Rle.nn {l : List PV} : Rle (.nn l) (.list l) := fun _ _ _ h => h.nn_list
def Rles : List PV → List PV → Prop
  | [], [] => True
  | a :: r, b :: s => Rle a b ∧ Rles r s
  | _, _ => False
theorem Rles.len : ∀ {l r : List PV}, Rles l r → l.length = r.length
  | [], [], _ => by rfl
  | a :: l, b :: r, h => by simp [Rles.len h.2]
  | [], _ :: _, h => h.elim
  | _ :: _, [], h => h.elim
theorem Rles.get : ∀ {l r : List PV}, Rles l r → ∀ (i : Nat) (h : i < l.length) (h' : i < r.length), Rle l[i] r[i]
  | a :: l, b :: r, h, 0, _, _ => h.1
  | a :: l, b :: r, h, i + 1, h1, h2 => by simpa using Rles.get h.2 i (by simpa using h1) (by simpa using h2)
  | [], [], _, i, h, _ => by simp at h
  | [], _ :: _, h, _, _, _ => h.elim
  | _ :: _, [], h, _, _, _ => h.elim
theorem FnC.weak {P : Program} {f : FuncId} {args args' : List PV} {r : PV} (h : FnC P f args r) (hs : Rles args' args) : FnC P f args' r := by
  refine ⟨h.1, fun okA w vals h1 h2 h3 => h.2 okA w vals h1 (h2.trans hs.len) fun i hi => ?_⟩
  have := hs.len
  exact hs.get i (by omega) hi _ _ _ (h3 i (by omega))

theorem Rle.nn2 {a b : List PV} : Rle (.nn [.nn a, .nn b]) (.list [.list a, .list b]) := fun ok w v h => by
  cases h with
  | nn _ k off sz vs hb hsz hc hr =>
    refine .list [.list a, .list b] k off 2 1 vs hb (by simp [PV.cells]) (by simp) (fun c hc' => hc c (by simpa [flat, PV.cells] using hc')) fun c hcl => ?_
    have h0 := hr 0 (by simp [flat, PV.cells])
    have h1 := hr 1 (by simp [flat, PV.cells])
    match c, hcl with
    | 0, _ => exact Reads.nn_list h0
    | 1, _ => exact Reads.nn_list h1
end Go.Proofs.YtjikchbmkodgfaaDoor

/-
  Classes: by what is alike; of conjugate things. Conditions: none.
-/
set_option linter.all false
namespace Go.Proofs.YtjikchbmkodgfaaDoor
open Go.Pv

/-- The classes whose least things are below a. -/
def cstp (n : Nat) (r : Nat → Nat → Bool) (a : Nat) : List (List Int) := ((List.range a).filter (lead r)).map fun x => thl n (r x)
def cst (n : Nat) (r : Nat → Nat → Bool) : List (List Int) := cstp n r n
/-! ### Rows of rows, compared -/

/-- Rows of rows, typed. -/
def lln (ls : List (List Int)) : List PV := ls.map fun w => .nn (il w)
/-! ### Classes of conjugate things -/

/-- What is in a class of an earlier thing. -/
def hadp (r : Nat → Nat → Bool) (x y : Nat) : Bool := decide (∃ z, z < x ∧ r z y = true)
/-- What is x, conjugated by an earlier thing. -/
def sp (n : Nat) (f : Nat → Nat → Nat) (e x a y : Nat) : Bool := decide (∃ b, b < a ∧ cjr n f e x b = y)
end Go.Proofs.YtjikchbmkodgfaaDoor

/-
  Classes: where things stand; powers of classes; pairs that commute. Conditions: none.
-/
set_option linter.all false
namespace Go.Proofs.YtjikchbmkodgfaaDoor
open Go.Pv

/-- The place of the first list that has a thing; -1: none has. -/
def wch (l : List (List Int)) (x : Int) : Int := match fst' (fun i => decide (x ∈ l.getD i [])) l.length with | some i => (i : Int) | none => -1

/-- A row by a rule. -/
def rgz (n : Nat) (g : Nat → Int) : List Int := (List.range n).map g
/-- Where each thing's class stands. -/
def whl (n : Nat) (r : Nat → Nat → Bool) : List Int := rgz n fun a => wch (cst n r) a

end Go.Proofs.YtjikchbmkodgfaaDoor

/-
  Cosets: right, left and double, of the program and of the document. Conditions: none.
-/
set_option linter.all false
namespace Go.Proofs.YtjikchbmkodgfaaDoor
open Go.Pv

/-! ### Gathered -/

/-! ### Products of a set, a thing and a set -/

def pdr (f : Nat → Nat → Nat) (x a : Nat) (lm : List Int) : List Int := lm.map fun y => ((f (f x a) y.toNat : Nat) : Int)
def pdl (f : Nat → Nat → Nat) (a : Nat) (l lm : List Int) : List Int := l.flatMap fun x => pdr f x.toNat a lm
/-! ### As the document has them -/

/-! ### An example of the document -/

def cy4 : List Int := [0, 1, 2, 3, 1, 2, 3, 0, 2, 3, 0, 1, 3, 0, 1, 2]
def ev4 (x : Nat) : Bool := x == 0 || x == 2
end Go.Proofs.YtjikchbmkodgfaaDoor

/-
  The quotient of a group by a congruence; by a normal subgroup. Conditions: none.
-/
set_option linter.all false
namespace Go.Proofs.YtjikchbmkodgfaaDoor
open Go.Pv

/-- Places for classes: of each thing its place; of each place a thing. -/
structure Qm (n : Nat) (f : Nat → Nat → Nat) (k : Nat) (cl rep : Nat → Nat) : Prop where
  lt : ∀ a, a < n → cl a < k
  rlt : ∀ i, i < k → rep i < n
  at_ : ∀ i, i < k → cl (rep i) = i
  cong : ∀ a b c d, a < n → b < n → c < n → d < n → cl a = cl b → cl c = cl d → cl (f a c) = cl (f b d)

section
variable {n : Nat} {f : Nat → Nat → Nat} {e : Nat} {p : Nat → Bool}
def qop (f : Nat → Nat → Nat) (cl rep : Nat → Nat) (i j : Nat) : Nat := cl (f (rep i) (rep j))
theorem Qm.op {k : Nat} {cl rep : Nat → Nat} (Q : Qm n f k cl rep) {a b : Nat} (ha : a < n) (hb : b < n) : qop f cl rep (cl a) (cl b) = cl (f a b) :=
  Q.cong _ _ _ _ (Q.rlt _ (Q.lt a ha)) ha (Q.rlt _ (Q.lt b hb)) hb (Q.at_ _ (Q.lt a ha)) (Q.at_ _ (Q.lt b hb))
theorem Qm.grp {k : Nat} {cl rep : Nat → Nat} (Q : Qm n f k cl rep) (G : Grp n f e) : Grp k (qop f cl rep) (cl e) where
  pos := Nat.lt_of_le_of_lt (Nat.zero_le _) (Q.lt e G.el)
  cl i j hi hj := Q.lt _ (G.cl _ _ (Q.rlt i hi) (Q.rlt j hj))
  el := Q.lt e G.el
  one_l i hi := by
    have h1 := Q.rlt i hi
    have h2 := Q.op G.el h1
    rw [Q.at_ i hi, G.one_l _ h1, Q.at_ i hi] at h2; exact h2
  one_r i hi := by
    have h1 := Q.rlt i hi
    have h2 := Q.op h1 G.el
    rw [Q.at_ i hi, G.one_r _ h1, Q.at_ i hi] at h2; exact h2
  assoc i j l hi hj hl := by
    have h1 := Q.rlt i hi
    have h2 := Q.rlt j hj
    have h3 := Q.rlt l hl
    have e1 := Q.op (G.cl _ _ h1 h2) h3
    have e2 := Q.op h1 (G.cl _ _ h2 h3)
    rw [Q.at_ l hl] at e1
    rw [Q.at_ i hi] at e2
    have e3 : qop f cl rep i j = cl (f (rep i) (rep j)) := rfl
    have e4 : qop f cl rep j l = cl (f (rep j) (rep l)) := rfl
    rw [e3, e4, e1, e2, G.assoc _ _ _ h1 h2 h3]
  inv i hi := by
    have h1 := Q.rlt i hi
    have h2 := G.iv_lt h1
    have e1 := Q.op h1 h2
    have e2 := Q.op h2 h1
    rw [Q.at_ i hi] at e1 e2
    exact ⟨_, Q.lt _ h2, by rw [e1, G.mul_iv h1], by rw [e2, G.iv_mul h1]⟩

end
end Go.Proofs.YtjikchbmkodgfaaDoor

/-
  Tables by a rule. Conditions: none.
-/
set_option linter.all false
namespace Go.Proofs.YtjikchbmkodgfaaDoor
open Go.Pv

theorem Grp.cong' {n : Nat} {f f' : Nat → Nat → Nat} {e : Nat} (G : Grp n f e) (h : ∀ a b, a < n → b < n → f' a b = f a b) : Grp n f' e := by
  refine ⟨G.pos, fun a b ha hb => by rw [h a b ha hb]; exact G.cl a b ha hb, G.el, fun a ha => by rw [h e a G.el ha]; exact G.one_l a ha, fun a ha => by rw [h a e ha G.el]; exact G.one_r a ha, fun a b c ha hb hc => ?_, fun a ha => ?_⟩
  · rw [h a b ha hb, h _ c (G.cl a b ha hb) hc, h b c hb hc, h a _ ha (G.cl b c hb hc)]
    exact G.assoc a b c ha hb hc
  · obtain ⟨b, hb, h1, h2⟩ := G.inv a ha
    exact ⟨b, hb, by rw [h a b ha hb]; exact h1, by rw [h b a hb ha]; exact h2⟩
end Go.Proofs.YtjikchbmkodgfaaDoor

/-
  Quotients, of the program and of the document. Conditions: none.
-/
set_option linter.all false
namespace Go.Proofs.YtjikchbmkodgfaaDoor
open Go.Pv

/-- The fault of a subgroup that is, or is not, normal. -/
def nfb (b : Bool) : Int × Int := bif b then (0, 0) else (4, 0)
theorem nfb_t : nfb true = (0, 0) := rfl
theorem ufb_t : ufb true = (0, 0) := rfl
theorem normalFault_w (N : Int) (m l : List Int) (w : Int × Int) (hG : FnC Tryd.prog 82 [gp N m, .list (il l)] (fl w)) (hw : ¬ w.1 = 0) : FnC Tryd.prog 33 [gp N m, .list (il l)] (fl w) := by
  refine fnc_of tab_ok Tryd.func33 rfl (by kernel_rfl) (by rw [Tryd.ntmps33]; exact Nat.le_add_left 2 _) ?_; rw [Tryd.ntmps33]
  refine qm ?_
  refine hk_region fun K hK => runs_eval tab_ok ?_
  simp only [ev0, evA, evB, evP, fl, gp, tab, simprocAttr, reduceCtorEq, reduceIte]
  refine fin_run ?_ (hK _ ?_) <;> clear hK <;> clear K
  · (first | exact trivial | omega | (simp only [In64] at *; omega) | (simp [In64] at *; omega) | (simp_all; done) | skip)
  refine qa (qm ?_)
  refine hk_region fun K hK => runs_eval tab_ok ?_
  simp only [ev0, evA, evB, evP, fl, gp, tab, simprocAttr, reduceCtorEq, reduceIte]
  refine fin_stop trivial (runs_call (hG) rfl rfl rfl (by simp only [dstOk, Nat.reduceLT]) (by repeat (first | exact trivial | constructor)) (runs_eval tab_ok ?_))
  simp only [ev0, evA, evB, evP, fl, gp, tab, simprocAttr, reduceCtorEq, reduceIte]
  refine fin_run ?_ (hK _ ?_) <;> clear hK <;> clear K
  · (first | exact trivial | omega | (simp only [In64] at *; omega) | (simp [In64] at *; omega) | (simp_all; done) | skip)
  refine qa (qm (qm ?_))
  refine hk_region fun K hK => runs_eval tab_ok ?_
  simp only [ev0, evA, evB, evP, fl, gp, tab, simprocAttr, reduceCtorEq, reduceIte, decide_eq_false hw]
  refine fin_run ?_ (hK _ ?_) <;> clear hK <;> clear K
  · (first | exact trivial | omega | (simp only [In64] at *; omega) | (simp [In64] at *; omega) | (simp_all; done) | skip)
  refine qa ?_
  refine hk_cond rfl (fun hC1 => ?_) (fun hC1 => ?_)
  · cases hC1
  · refine qh (qa (qm ?_))
    refine hk_region fun K hK => runs_eval tab_ok ?_
    simp only [ev0, evA, evB, evP, fl, gp, tab, simprocAttr, reduceCtorEq, reduceIte]
    refine fin_run ?_ (hK _ ?_) <;> clear hK <;> clear K
    · (first | exact trivial | omega | (simp only [In64] at *; omega) | (simp [In64] at *; omega) | (simp_all; done) | skip)
    refine qa (qk ?_)
    simp only [Tryd.results33, enA, ev0, evA, evB, evP, fl, gp, tab, simprocAttr, reduceCtorEq, reduceIte]
    all_goals (rfl)
theorem normalFault_ok {n e : Nat} {m : List Int} (h : GT n m n e) (p : Nat → Bool) (hs : Sub n (op m n) e p) (b : Bool) (hb' : b = true ↔ Nml n (op m n) e p) : FnC Tryd.prog 33 [gp n m, .list (il (thl n p))] (fl (nfb b)) := by
  refine fnc_of tab_ok Tryd.func33 rfl (by kernel_rfl) (by rw [Tryd.ntmps33]; exact Nat.le_add_left 2 _) ?_; rw [Tryd.ntmps33]
  refine qm ?_
  refine hk_region fun K hK => runs_eval tab_ok ?_
  simp only [ev0, evA, evB, evP, fl, gp, tab, simprocAttr, reduceCtorEq, reduceIte]
  refine fin_run ?_ (hK _ ?_) <;> clear hK <;> clear K
  · (first | exact trivial | omega | (simp only [In64] at *; omega) | (simp [In64] at *; omega) | (simp_all; done) | skip)
  refine qa (qm ?_)
  refine hk_region fun K hK => runs_eval tab_ok ?_
  simp only [ev0, evA, evB, evP, fl, gp, tab, simprocAttr, reduceCtorEq, reduceIte, ufb_t]
  refine fin_stop trivial (runs_call (subFault_ok h p true (by simp [hs])) rfl rfl rfl (by simp only [dstOk, Nat.reduceLT]) (by repeat (first | exact trivial | constructor)) (runs_eval tab_ok ?_))
  simp only [ev0, evA, evB, evP, fl, gp, tab, simprocAttr, reduceCtorEq, reduceIte, ufb_t]
  refine fin_run ?_ (hK _ ?_) <;> clear hK <;> clear K
  · (first | exact trivial | omega | (simp only [In64] at *; omega) | (simp [In64] at *; omega) | (simp_all; done) | skip)
  refine qa (qm (qm ?_))
  refine hk_region fun K hK => runs_eval tab_ok ?_
  simp only [ev0, evA, evB, evP, fl, gp, tab, simprocAttr, reduceCtorEq, reduceIte]
  refine fin_stop trivial (runs_call (isNormal_r h p b hb') rfl rfl rfl (by simp only [dstOk, Nat.reduceLT]) (by repeat (first | exact trivial | constructor)) (runs_eval tab_ok ?_))
  simp only [ev0, evA, evB, evP, fl, gp, tab, simprocAttr, reduceCtorEq, reduceIte]
  refine fin_run ?_ (hK _ ?_) <;> clear hK <;> clear K
  · (first | exact trivial | omega | (simp only [In64] at *; omega) | (simp [In64] at *; omega) | (simp_all; done) | skip)
  refine qa ?_
  refine hk_cond rfl (fun hC1 => ?_) (fun hC1 => ?_)
  · (try simp only [nhs] at hC1)
    have hbf : b = false := by simpa using hC1
    refine hk_region fun K hK => runs_eval tab_ok ?_
    simp only [ev0, evA, evB, evP, fl, gp, tab, simprocAttr, reduceCtorEq, reduceIte]
    refine fin_stop trivial (runs_call (f_c 4 0) rfl rfl rfl (by simp only [dstOk, Nat.reduceLT]) (by repeat (first | exact trivial | constructor)) (runs_eval tab_ok ?_))
    simp only [ev0, evA, evB, evP, fl, gp, tab, simprocAttr, reduceCtorEq, reduceIte]
    refine fin_run ?_ (hK _ ?_) <;> clear hK <;> clear K
    · (first | exact trivial | omega | (simp only [In64] at *; omega) | (simp [In64] at *; omega) | (simp_all; done) | skip)
    refine qa (qm ?_)
    refine hk_region fun K hK => runs_eval tab_ok ?_
    simp only [ev0, evA, evB, evP, fl, gp, tab, simprocAttr, reduceCtorEq, reduceIte]
    refine fin_run ?_ (hK _ ?_) <;> clear hK <;> clear K
    · (first | exact trivial | omega | (simp only [In64] at *; omega) | (simp [In64] at *; omega) | (simp_all; done) | skip)
    refine qa (qk ?_)
    simp only [Tryd.results33, enA, ev0, evA, evB, evP, fl, gp, tab, simprocAttr, reduceCtorEq, reduceIte]
    all_goals (rw [hbf]; exact ⟨rfl, rfl⟩)
  · (try simp only [nhs] at hC1)
    have hbt : b = true := by simpa using hC1
    refine qh (qa (qm ?_))
    refine hk_region fun K hK => runs_eval tab_ok ?_
    simp only [ev0, evA, evB, evP, fl, gp, tab, simprocAttr, reduceCtorEq, reduceIte]
    refine fin_run ?_ (hK _ ?_) <;> clear hK <;> clear K
    · (first | exact trivial | omega | (simp only [In64] at *; omega) | (simp [In64] at *; omega) | (simp_all; done) | skip)
    refine qa (qk ?_)
    simp only [Tryd.results33, enA, ev0, evA, evB, evP, fl, gp, tab, simprocAttr, reduceCtorEq, reduceIte]
    all_goals (rw [hbt]; exact ⟨rfl, rfl⟩)

/-! ### Places of classes -/

def rpq (n : Nat) (r : Nat → Nat → Bool) (i : Nat) : Nat := (mem n (lead r)).getD i 0
def clq (n : Nat) (r : Nat → Nat → Bool) (a : Nat) : Nat := (wch (cst n r) a).toNat
section
variable {n : Nat} {r : Nat → Nat → Bool}
end
/-- The quotient's table. -/
def qtb (n : Nat) (f : Nat → Nat → Nat) (r : Nat → Nat → Bool) : List Int := tbl (fun i j => ((qop f (clq n r) (rpq n r) i j : Nat) : Int)) (cst n r).length

end Go.Proofs.YtjikchbmkodgfaaDoor

/-
  Parts of a group as groups; what a group does with cosets: by maps. Conditions: none.
-/
set_option linter.all false
namespace Go.Proofs.YtjikchbmkodgfaaDoor
open Go.Pv

/-! ### Parts -/

/-- Where a thing stands among those of which something is so. -/
def pix (p : Nat → Bool) (x : Nat) : Nat := (thl x p).length
def lat (n : Nat) (p : Nat → Bool) (i : Nat) : Nat := ((thl n p).getD i 0).toNat
/-- The part's operation, by places. -/
def pop (n : Nat) (f : Nat → Nat → Nat) (p : Nat → Bool) (i j : Nat) : Nat := pix p (f (lat n p i) (lat n p j))
def ptb (n : Nat) (f : Nat → Nat → Nat) (p : Nat → Bool) : List Int := tbl (fun i j => ((pop n f p i j : Nat) : Int)) (thl n p).length
/-- Where a part's thing stands, as a value. -/
def pxv (p : Nat → Bool) (u : Int) : PV := .int .i64 (pix p u.toNat)

end Go.Proofs.YtjikchbmkodgfaaDoor

/-
  Series of subgroups: commutators of commutators, from all on; what commutes up to the last one, from the one on. Conditions: none.
-/
set_option linter.all false
namespace Go.Proofs.YtjikchbmkodgfaaDoor
open Go.Pv

/-- Commutators of two sets. -/
def dnp (n : Nat) (f : Nat → Nat → Nat) (e : Nat) (p q : Nat → Bool) (x : Nat) : Bool := decide (∃ a, a < n ∧ p a = true ∧ ∃ b, b < n ∧ q b = true ∧ cmt n f e a b = x)
/-- What commutes with all, up to a set. -/
def unx (n : Nat) (f : Nat → Nat → Nat) (e : Nat) (p : Nat → Bool) (a : Nat) : Bool := decide (∀ b, b < n → p (cmt n f e a b) = true)
def itr (nx : (Nat → Bool) → Nat → Bool) (p : Nat → Bool) : Nat → Nat → Bool
  | 0 => p
  | k + 1 => nx (itr nx p k)
/-- A series comes to its end at K. -/
structure Stp (n : Nat) (T : Nat → Nat → Bool) (K : Nat) : Prop where
  eq : ∀ a, a < n → T (K + 1) a = T K a
  ne : ∀ j, j < K → ¬ ∀ a, a < n → T (j + 1) a = T j a

theorem mem_lt {n : Nat} {p q : Nat → Bool} (h : ∀ a, a < n → q a = true → p a = true) (hne : ¬ ∀ a, a < n → q a = p a) : (mem n q).length < (mem n p).length := by
  have h1 : mem n q = (mem n p).filter q := by
    unfold mem
    rw [List.filter_filter]
    refine List.filter_congr fun a ha => ?_
    have := h a (List.mem_range.1 ha)
    cases hq : q a with
    | false => simp
    | true => simp [this hq]
  have h2 : (mem n q).Sublist (mem n p) := by rw [h1]; exact List.filter_sublist
  rcases Nat.lt_or_eq_of_le h2.length_le with h3 | h3
  · exact h3
  · exfalso
    have h4 := h2.eq_of_length h3
    refine hne fun a ha => ?_
    rw [Bool.eq_iff_iff]
    have : a ∈ mem n q ↔ a ∈ mem n p := by rw [h4]
    rw [mem_mem, mem_mem] at this
    exact ⟨fun h => (this.1 ⟨ha, h⟩).2, fun h => (this.2 ⟨ha, h⟩).2⟩

theorem Stp.after {n : Nat} {nx : (Nat → Bool) → Nat → Bool} {p : Nat → Bool} {K : Nat} (hx : ∀ p q : Nat → Bool, (∀ a, a < n → p a = q a) → ∀ a, a < n → nx p a = nx q a) (h : Stp n (itr nx p) K) : ∀ j a, a < n → itr nx p (K + j) a = itr nx p K a
  | 0, a, ha => rfl
  | j + 1, a, ha => by
    have h1 := hx _ _ (fun b hb => Stp.after hx h j b hb) a ha
    exact h1.trans (h.eq a ha)

section
variable {n : Nat} {f : Nat → Nat → Nat} {e : Nat}
theorem unx_iff {p : Nat → Bool} {a : Nat} : unx n f e p a = true ↔ ∀ b, b < n → p (cmt n f e a b) = true := by unfold unx; exact decide_eq_true_iff
theorem Gen.congr {p q : Nat → Bool} (h : ∀ a, a < n → p a = q a) {a : Nat} : Gen n f e p a ↔ Gen n f e q a :=
  ⟨Gen.mono fun b hb h1 => by rw [← h b hb]; exact h1, Gen.mono fun b hb h1 => by rw [h b hb]; exact h1⟩
theorem Grp.all_sub (G : Grp n f e) : Sub n f e fun _ => true := sub_of G rfl fun _ _ _ _ _ _ => rfl
theorem Grp.one_nml (G : Grp n f e) : Nml n f e (onp e) := fun a ha x hx h => by
  rw [onp_iff] at *
  rw [h, G.cjr_one ha]
theorem Grp.cmt_in (G : Grp n f e) {p : Nat → Bool} (hs : Sub n f e p) (hn : Nml n f e p) {x b : Nat} (hx : x < n) (hb : b < n) (h : p x = true) : p (cmt n f e x b) = true := by
  rw [G.cmt_cjr hx hb]
  exact hs.mul _ _ (G.iv_lt hx) (G.cjr_lt hx hb) (hs.inv x hx h) (hn b hb x hx h)

/-! ### Falling -/

section
variable {nx : (Nat → Bool) → Nat → Bool}
end
/-! ### Rising -/

theorem Grp.unx_in (G : Grp n f e) {p : Nat → Bool} (hs : Sub n f e p) (hn : Nml n f e p) {x : Nat} (hx : x < n) (h : p x = true) : unx n f e p x = true := unx_iff.2 fun b hb => G.cmt_in hs hn hx hb h
theorem Grp.unx_sub (G : Grp n f e) {p : Nat → Bool} (hs : Sub n f e p) (hn : Nml n f e p) : Sub n f e (unx n f e p) := by
  refine sub_of G (G.unx_in hs hn G.el hs.one) fun x y hx hy h1 h2 => unx_iff.2 fun b hb => ?_
  have ix := G.iv_lt hx
  have iy := G.iv_lt hy
  have hxb := G.cjr_lt hx hb
  have hyb := G.cjr_lt hy hb
  have hcx := G.cmt_lt hx hb
  have h3 := hs.mul _ _ (G.cjr_lt hcx hy) (G.cmt_lt hy hb) (hn y hy _ hcx (unx_iff.1 h1 b hb)) (unx_iff.1 h2 b hb)
  have : cmt n f e (f x y) b = f (cjr n f e (cmt n f e x b) y) (cmt n f e y b) := by
    have e1 : cjr n f e (cmt n f e x b) y = f (f (iv n f e y) (cmt n f e x b)) y := rfl
    rw [G.cmt_cjr (G.cl _ _ hx hy) hb, G.iv_prod hx hy, G.cjr_hom hx hy hb, e1, G.cmt_cjr hy hb, G.assoc (f (iv n f e y) (cmt n f e x b)) y _ (G.cl _ _ iy hcx) hy (G.cl _ _ iy hyb), ← G.assoc y (iv n f e y) _ hy iy hyb, G.mul_iv hy, G.one_l _ hyb, G.cmt_cjr hx hb, G.assoc (iv n f e y) (iv n f e x) _ iy ix (G.cl _ _ hxb hyb), ← G.assoc (iv n f e x) _ _ ix hxb hyb, ← G.assoc (iv n f e y) _ _ iy (G.cl _ _ ix hxb) hyb]
  rw [this]; exact h3
theorem Grp.unx_nml (G : Grp n f e) {p : Nat → Bool} (hn : Nml n f e p) : Nml n f e (unx n f e p) := fun c hc x hx h => unx_iff.2 fun b hb => by
  have ic := G.iv_lt hc
  have hbc := G.cjr_lt hb ic
  have h1 := hn c hc _ (G.cmt_lt hx hbc) (unx_iff.1 h _ hbc)
  rwa [G.cjr_cmt hx hbc hc, G.cjr_vi hb hc] at h1
theorem Grp.rise (G : Grp n f e) : ∀ k, Sub n f e (itr (unx n f e) (onp e) k) ∧ Nml n f e (itr (unx n f e) (onp e) k)
  | 0 => ⟨G.onp_sub, G.one_nml⟩
  | k + 1 => ⟨G.unx_sub (G.rise k).1 (G.rise k).2, G.unx_nml (G.rise k).2⟩
end
end Go.Proofs.YtjikchbmkodgfaaDoor

/-
  Plain law, FROBENIUS' THEOREM: what commutes with y, taken by y's powers, is a group on the least things of cosets. Conditions: none.
-/
set_option linter.all false
namespace Go.Proofs.YtjikchbmkodgfaaDoor
open Go.Pv

section
variable {n : Nat} {f : Nat → Nat → Nat} {e : Nat}

/-- The same but for a power of y. -/
def sm (n : Nat) (f : Nat → Nat → Nat) (e y x z : Nat) : Prop := ∃ j, j < ord n f e y ∧ z = f x (pw f e y j)
instance (n : Nat) (f : Nat → Nat → Nat) (e y x z : Nat) : Decidable (sm n f e y x z) := by unfold sm; infer_instance

theorem Grp.sm_of (G : Grp n f e) {y x : Nat} (hy : y < n) (j : Nat) : sm n f e y x (f x (pw f e y j)) :=
  ⟨j % ord n f e y, Nat.mod_lt _ (G.ord_pos hy), by rw [G.pw_mod hy]⟩
theorem Grp.sm_refl (G : Grp n f e) {y x : Nat} (hy : y < n) (hx : x < n) : sm n f e y x x := by
  have := G.sm_of (x := x) hy 0
  rwa [show pw f e y 0 = e from rfl, G.one_r x hx] at this
theorem Grp.sm_lt (G : Grp n f e) {y x z : Nat} (hy : y < n) (hx : x < n) (h : sm n f e y x z) : z < n := by
  obtain ⟨j, _, rfl⟩ := h
  exact G.cl _ _ hx (G.pw_lt hy j)
theorem Grp.sm_trans (G : Grp n f e) {y x z w : Nat} (hy : y < n) (hx : x < n) (h : sm n f e y x z) (h' : sm n f e y z w) : sm n f e y x w := by
  obtain ⟨j, _, rfl⟩ := h
  obtain ⟨i, _, rfl⟩ := h'
  rw [G.assoc _ _ _ hx (G.pw_lt hy j) (G.pw_lt hy i), ← G.pw_add hy]
  exact G.sm_of hy _
theorem Grp.sm_symm (G : Grp n f e) {y x z : Nat} (hy : y < n) (hx : x < n) (h : sm n f e y x z) : sm n f e y z x := by
  obtain ⟨j, hj, rfl⟩ := h
  have := G.sm_of (x := f x (pw f e y j)) hy (ord n f e y - j)
  rwa [G.assoc _ _ _ hx (G.pw_lt hy j) (G.pw_lt hy _), ← G.pw_add hy, Nat.add_sub_cancel' (by omega), G.pw_ord hy, G.one_r x hx] at this
theorem Grp.sm_mul (G : Grp n f e) {y a b a' b' : Nat} (hy : y < n) (ha : a < n) (hb : b < n) (hcb : f b y = f y b) (h : sm n f e y a a') (h' : sm n f e y b b') : sm n f e y (f a b) (f a' b') := by
  obtain ⟨i, _, rfl⟩ := h
  obtain ⟨j, _, rfl⟩ := h'
  have hi := G.pw_lt hy i
  have hj := G.pw_lt hy j
  have : f (f a (pw f e y i)) (f b (pw f e y j)) = f (f a b) (pw f e y (i + j)) := by
    rw [G.pw_add hy, G.assoc a _ _ ha hi (G.cl _ _ hb hj), ← G.assoc _ b _ hi hb hj, ← G.cen_pw hy hb hcb i, G.assoc b _ _ hb hi hj, ← G.assoc a b _ ha hb (G.cl _ _ hi hj)]
  rw [this]
  exact G.sm_of hy _

/-- The least of a coset. -/
def rp (n : Nat) (f : Nat → Nat → Nat) (e y x : Nat) : Nat := (fst' (fun z => decide (sm n f e y x z)) n).getD 0

theorem Grp.rp_sm (G : Grp n f e) {y x : Nat} (hy : y < n) (hx : x < n) : sm n f e y x (rp n f e y x) := by
  unfold rp
  cases h : fst' (fun z => decide (sm n f e y x z)) n with
  | none =>
    have := fst_spec0 h x hx
    simp only [decide_eq_false_iff_not] at this
    exact absurd (G.sm_refl hy hx) this
  | some a =>
    obtain ⟨_, h2, _⟩ := fst_spec h
    simpa using h2
theorem Grp.rp_lt (G : Grp n f e) {y x : Nat} (hy : y < n) (hx : x < n) : rp n f e y x < n := G.sm_lt hy hx (G.rp_sm hy hx)
theorem Grp.rp_eq (G : Grp n f e) {y x z : Nat} (hy : y < n) (hx : x < n) (hz : z < n) : rp n f e y x = rp n f e y z ↔ sm n f e y x z := by
  constructor
  · intro h
    exact G.sm_trans hy hx (G.rp_sm hy hx) (by rw [h]; exact G.sm_symm hy hz (G.rp_sm hy hz))
  · intro h
    unfold rp
    congr 2
    funext w
    exact decide_eq_decide.2 ⟨fun h' => G.sm_trans hy hz (G.sm_symm hy hx h) h', fun h' => G.sm_trans hy hx h h'⟩
theorem Grp.rp_rp (G : Grp n f e) {y x : Nat} (hy : y < n) (hx : x < n) : rp n f e y (rp n f e y x) = rp n f e y x :=
  ((G.rp_eq hy hx (G.rp_lt hy hx)).2 (G.rp_sm hy hx)).symm

/-- The quotient's things. -/
def quo (n : Nat) (f : Nat → Nat → Nat) (e y : Nat) : List Nat := mem n fun x => cen f y x && decide (rp n f e y x = x)
theorem mem_quo {y x : Nat} : x ∈ quo n f e y ↔ x < n ∧ f x y = f y x ∧ rp n f e y x = x := by
  unfold quo
  rw [mem_mem, Bool.and_eq_true, cen_iff, decide_eq_true_eq]

theorem Grp.cen_rp (G : Grp n f e) {y x : Nat} (hy : y < n) (hx : x < n) (h : f x y = f y x) : f (rp n f e y x) y = f y (rp n f e y x) := by
  obtain ⟨j, _, hj⟩ := G.rp_sm (x := x) hy hx
  rw [hj]
  have hp := G.pw_lt hy j
  rw [G.assoc x _ y hx hp hy, ← G.cen_pw hy hy rfl j, ← G.assoc x y _ hx hy hp, h, G.assoc y x _ hy hx hp]
theorem Grp.rp_quo (G : Grp n f e) {y x : Nat} (hy : y < n) (hx : x < n) (h : f x y = f y x) : rp n f e y x ∈ quo n f e y :=
  mem_quo.2 ⟨G.rp_lt hy hx, G.cen_rp hy hx h, G.rp_rp hy hx⟩

theorem Grp.quo_gs (G : Grp n f e) {y : Nat} (hy : y < n) : GS (quo n f e y) (fun a b => rp n f e y (f a b)) (rp n f e y e) := by
  have C := G.cen_sub hy
  have hmul : ∀ {a b}, a < n → b < n → f a y = f y a → f b y = f y b → f (f a b) y = f y (f a b) := fun ha hb h1 h2 =>
    cen_iff.1 (C.mul _ _ ha hb (cen_iff.2 h1) (cen_iff.2 h2))
  have he : f e y = f y e := cen_iff.1 C.one
  have hre := G.rp_sm (x := e) hy G.el
  refine ⟨List.nodup_range.filter _, ?_, G.rp_quo hy G.el he, ?_, ?_, ?_, ?_⟩
  · intro a b ha hb
    obtain ⟨a1, a2, _⟩ := mem_quo.1 ha
    obtain ⟨b1, b2, _⟩ := mem_quo.1 hb
    exact G.rp_quo hy (G.cl _ _ a1 b1) (hmul a1 b1 a2 b2)
  · intro a ha
    obtain ⟨a1, a2, a3⟩ := mem_quo.1 ha
    show rp n f e y (f (rp n f e y e) a) = a
    have h := G.sm_mul hy G.el a1 a2 hre (G.sm_refl hy a1)
    rw [← (G.rp_eq hy (G.cl _ _ G.el a1) (G.cl _ _ (G.rp_lt hy G.el) a1)).2 h, G.one_l a a1, a3]
  · intro a ha
    obtain ⟨a1, a2, a3⟩ := mem_quo.1 ha
    show rp n f e y (f a (rp n f e y e)) = a
    have h := G.sm_mul hy a1 G.el he (G.sm_refl hy a1) hre
    rw [← (G.rp_eq hy (G.cl _ _ a1 G.el) (G.cl _ _ a1 (G.rp_lt hy G.el))).2 h, G.one_r a a1, a3]
  · intro a b c ha hb hc
    obtain ⟨a1, a2, _⟩ := mem_quo.1 ha
    obtain ⟨b1, b2, _⟩ := mem_quo.1 hb
    obtain ⟨c1, c2, _⟩ := mem_quo.1 hc
    have hab := G.cl _ _ a1 b1
    have hbc := G.cl _ _ b1 c1
    show rp n f e y (f (rp n f e y (f a b)) c) = rp n f e y (f a (rp n f e y (f b c)))
    have h1 := G.sm_mul hy hab c1 c2 (G.rp_sm hy hab) (G.sm_refl hy c1)
    have h2 := G.sm_mul hy a1 hbc (hmul b1 c1 b2 c2) (G.sm_refl hy a1) (G.rp_sm hy hbc)
    rw [← (G.rp_eq hy (G.cl _ _ hab c1) (G.cl _ _ (G.rp_lt hy hab) c1)).2 h1, ← (G.rp_eq hy (G.cl _ _ a1 hbc) (G.cl _ _ a1 (G.rp_lt hy hbc))).2 h2, G.assoc a b c a1 b1 c1]
  · intro a ha
    obtain ⟨a1, a2, _⟩ := mem_quo.1 ha
    have hi := G.iv_lt a1
    have hci : f (iv n f e a) y = f y (iv n f e a) := cen_iff.1 (C.inv a a1 (cen_iff.2 a2))
    refine ⟨rp n f e y (iv n f e a), G.rp_quo hy hi hci, ?_, ?_⟩
    · show rp n f e y (f a (rp n f e y (iv n f e a))) = rp n f e y e
      have h := G.sm_mul hy a1 hi hci (G.sm_refl hy a1) (G.rp_sm hy hi)
      rw [← (G.rp_eq hy (G.cl _ _ a1 hi) (G.cl _ _ a1 (G.rp_lt hy hi))).2 h, G.mul_iv a1]
    · show rp n f e y (f (rp n f e y (iv n f e a)) a) = rp n f e y e
      have h := G.sm_mul hy hi a1 a2 (G.rp_sm hy hi) (G.sm_refl hy a1)
      rw [← (G.rp_eq hy (G.cl _ _ hi a1) (G.cl _ _ (G.rp_lt hy hi) a1)).2 h, G.iv_mul a1]
end
end Go.Proofs.YtjikchbmkodgfaaDoor

/-
  Plain law, FROBENIUS' THEOREM: how many things the quotient of a centraliser has, and how many solutions. Conditions: none.
-/
set_option linter.all false
namespace Go.Proofs.YtjikchbmkodgfaaDoor
open Go.Pv

section
variable {n : Nat} {f : Nat → Nat → Nat} {e : Nat}

theorem filter_one {l : List Nat} (h : l.Nodup) {a : Nat} (ha : a ∈ l) : (l.filter fun w => decide (a = w)).length = 1 := by
  have : (l.filter fun w => decide (a = w)).length = [a].length := same_len (h.filter _) (by simp) fun x => by
    rw [List.mem_filter, decide_eq_true_eq, List.mem_singleton]
    constructor
    · rintro ⟨_, h⟩; exact h.symm
    · rintro rfl; exact ⟨ha, rfl⟩
  exact this

theorem Grp.quo_card (G : Grp n f e) {y : Nat} (hy : y < n) : (mem n (cen f y)).length = (quo n f e y).length * ord n f e y := by
  have := dbl (fun x w => decide (rp n f e y x = w)) (L1 := mem n (cen f y)) (L2 := quo n f e y) (c1 := 1) (c2 := ord n f e y) ?_ ?_
  · omega
  · intro x hx
    obtain ⟨x1, x2⟩ := mem_mem.1 hx
    exact filter_one (G.quo_gs hy).nd (G.rp_quo hy x1 (cen_iff.1 x2))
  · intro w hw
    obtain ⟨w1, w2, w3⟩ := mem_quo.1 hw
    have hl : ((mem n (cen f y)).filter fun a => decide (rp n f e y a = w)).length = ((List.range (ord n f e y)).map fun j => f w (pw f e y j)).length := by
      refine same_len ((List.nodup_range.filter _).filter _) (nodup_map List.nodup_range fun i hi j hj he => ?_) fun x => ?_
      · exact G.pw_inj hy (List.mem_range.1 hi) (List.mem_range.1 hj) (G.cancel_l w1 (G.pw_lt hy i) (G.pw_lt hy j) he)
      · rw [List.mem_filter, List.mem_map, decide_eq_true_eq]
        constructor
        · rintro ⟨hx, h⟩
          obtain ⟨x1, x2⟩ := mem_mem.1 hx
          rw [← w3] at h
          obtain ⟨j, hj, h⟩ := (G.rp_eq hy w1 x1).1 h.symm
          exact ⟨j, List.mem_range.2 hj, h.symm⟩
        · rintro ⟨j, hj, rfl⟩
          have hc := (G.cen_sub hy).mul w (pw f e y j) w1 (G.pw_lt hy j) (cen_iff.2 w2) (cen_iff.2 (G.cen_pw hy hy rfl j).symm)
          have hlt := G.cl _ _ w1 (G.pw_lt hy j)
          refine ⟨mem_mem.2 ⟨hlt, hc⟩, ?_⟩
          rw [← (G.rp_eq hy w1 hlt).2 (G.sm_of hy j), w3]
    rw [hl]; simp

theorem Grp.quo_pw (G : Grp n f e) {y w : Nat} (hy : y < n) (hw : w < n) (hc : f w y = f y w) : ∀ k, pw (fun a b => rp n f e y (f a b)) (rp n f e y e) w k = rp n f e y (pw f e w k)
  | 0 => rfl
  | k + 1 => by
    have hk := G.pw_lt hw k
    show rp n f e y (f (pw (fun a b => rp n f e y (f a b)) (rp n f e y e) w k) w) = rp n f e y (f (pw f e w k) w)
    rw [G.quo_pw hy hw hc k]
    exact ((G.rp_eq hy (G.cl _ _ hk hw) (G.cl _ _ (G.rp_lt hy hk) hw)).2 (G.sm_mul hy hk hw hc (G.rp_sm hy hk) (G.sm_refl hy hw))).symm

theorem Grp.pw_sm (G : Grp n f e) {y x : Nat} (hy : y < n) (hx : x < n) (hc : f x y = f y x) (j s : Nat) : pw f e (f x (pw f e y j)) s = f (pw f e x s) (pw f e y (j * s)) := by
  rw [G.pw_comm2 (G.pw_lt hy j) hx (G.cen_pw hy hx hc j), ← G.pw_mul hy]

theorem Grp.quo_sol (G : Grp n f e) {y s : Nat} (hy : y < n) (hs : Nat.gcd (ord n f e y) s = 1) :
    ((mem n (cen f y)).filter fun x => decide (pw f e x s = e)).length = ((quo n f e y).filter fun w => decide (pw (fun a b => rp n f e y (f a b)) (rp n f e y e) w s = rp n f e y e)).length := by
  have ho := G.ord_pos hy
  have hl : (((mem n (cen f y)).filter fun x => decide (pw f e x s = e)).map (rp n f e y)).length = ((quo n f e y).filter fun w => decide (pw (fun a b => rp n f e y (f a b)) (rp n f e y e) w s = rp n f e y e)).length := by
    refine same_len (nodup_map ((List.nodup_range.filter _).filter _) fun x hx z hz he => ?_) ((G.quo_gs hy).nd.filter _) fun w => ?_
    · obtain ⟨hx1, hx2⟩ := List.mem_filter.1 hx
      obtain ⟨hz1, hz2⟩ := List.mem_filter.1 hz
      obtain ⟨x1, x2⟩ := mem_mem.1 hx1
      obtain ⟨z1, z2⟩ := mem_mem.1 hz1
      rw [decide_eq_true_eq] at hx2 hz2
      obtain ⟨j, hj, rfl⟩ := (G.rp_eq hy x1 z1).1 he
      rw [G.pw_sm hy x1 (cen_iff.1 x2), hx2, G.one_l _ (G.pw_lt hy _)] at hz2
      have hd := (G.pw_eq_one hy _).1 hz2
      have hj0 : ord n f e y ∣ j := Nat.Coprime.dvd_of_dvd_mul_right hs hd
      have : j = 0 := by
        rcases Nat.eq_zero_or_pos j with h | h
        · exact h
        · have := Nat.le_of_dvd h hj0; omega
      subst this
      rw [show pw f e y 0 = e from rfl, G.one_r x x1]
    · rw [List.mem_map, List.mem_filter]
      constructor
      · rintro ⟨x, hx, rfl⟩
        obtain ⟨hx1, hx2⟩ := List.mem_filter.1 hx
        obtain ⟨x1, x2⟩ := mem_mem.1 hx1
        rw [decide_eq_true_eq] at hx2
        rw [cen_iff] at x2
        refine ⟨G.rp_quo hy x1 x2, ?_⟩
        rw [decide_eq_true_eq, G.quo_pw hy (G.rp_lt hy x1) (G.cen_rp hy x1 x2)]
        obtain ⟨j, _, hj⟩ := G.rp_sm (x := x) hy x1
        rw [hj, G.pw_sm hy x1 x2, hx2]
        exact ((G.rp_eq hy G.el (G.cl _ _ G.el (G.pw_lt hy _))).2 (G.sm_of hy _)).symm
      · rintro ⟨hw, h⟩
        obtain ⟨w1, w2, w3⟩ := mem_quo.1 hw
        rw [decide_eq_true_eq, G.quo_pw hy w1 w2] at h
        obtain ⟨j, hj, h⟩ := (G.rp_eq hy G.el (G.pw_lt w1 s)).1 h.symm
        rw [G.one_l _ (G.pw_lt hy j)] at h
        obtain ⟨k, hk, hke⟩ := inj_onto (n := ord n f e y) (f := fun k => k * s % ord n f e y) (fun i _ => Nat.mod_lt _ ho) (fun i i' hi hi' he => by
          have he' : i * s % ord n f e y = i' * s % ord n f e y := he
          have hp : ∀ {i i' : Nat}, i < ord n f e y → i' < ord n f e y → i ≤ i' → i * s % ord n f e y = i' * s % ord n f e y → i = i' := by
            intro i i' hi hi' hle he
            have h1 : ord n f e y ∣ i' * s - i * s := Nat.dvd_of_mod_eq_zero (Nat.sub_mod_eq_zero_of_mod_eq he.symm)
            rw [← Nat.sub_mul] at h1
            have h2 : ord n f e y ∣ i' - i := Nat.Coprime.dvd_of_dvd_mul_right hs h1
            rcases Nat.eq_zero_or_pos (i' - i) with h | h
            · omega
            · have := Nat.le_of_dvd h h2; omega
          rcases Nat.le_total i i' with hl | hl
          · exact hp hi hi' hl he'
          · exact (hp hi' hi hl he'.symm).symm) (Nat.mod_lt (ord n f e y - j) ho)
        have hke' : k * s % ord n f e y = (ord n f e y - j) % ord n f e y := hke
        have hlt := G.cl _ _ w1 (G.pw_lt hy k)
        refine ⟨f w (pw f e y k), List.mem_filter.2 ⟨mem_mem.2 ⟨hlt, (G.cen_sub hy).mul w (pw f e y k) w1 (G.pw_lt hy k) (cen_iff.2 w2) (cen_iff.2 (G.cen_pw hy hy rfl k).symm)⟩, ?_⟩, ?_⟩
        · rw [decide_eq_true_eq, G.pw_sm hy w1 w2, h, ← G.pw_mod hy (k * s), hke', G.pw_mod hy, ← G.pw_add hy, Nat.add_sub_cancel' (by omega), G.pw_ord hy]
        · rw [← (G.rp_eq hy w1 hlt).2 (G.sm_of hy k), w3]
  rw [← hl, List.length_map]
end
end Go.Proofs.YtjikchbmkodgfaaDoor

/-
  Plain law, FROBENIUS' THEOREM: of a divisor m of n so many things are, m times, the one, as a multiple of m. Conditions: none.
-/
set_option linter.all false
namespace Go.Proofs.YtjikchbmkodgfaaDoor
open Go.Pv

def sol (n : Nat) (f : Nat → Nat → Nat) (e s : Nat) : Nat := ((List.range n).filter fun x => decide (pw f e x s = e)).length

section
variable {n : Nat} {f : Nat → Nat → Nat} {e : Nat}

theorem Grp.sol_gcd (G : Grp n f e) (s : Nat) : sol n f e s = sol n f e (Nat.gcd s n) := by
  unfold sol
  congr 1
  refine List.filter_congr fun x hx => decide_eq_decide.2 ?_
  have x1 := List.mem_range.1 hx
  rw [G.pw_eq_one x1, G.pw_eq_one x1]
  exact ⟨fun h => Nat.dvd_gcd h (G.ord_dvd x1), fun h => Nat.dvd_trans h (Nat.gcd_dvd_left _ _)⟩
theorem Grp.sol_all (G : Grp n f e) : sol n f e n = n := by
  unfold sol
  rw [List.filter_eq_self.2]
  · simp
  · intro x hx
    simpa using G.pw_n (List.mem_range.1 hx)

/-- Conjugated. -/
def cj (n : Nat) (f : Nat → Nat → Nat) (e g x : Nat) : Nat := f (f g x) (iv n f e g)
theorem Grp.cj_lt (G : Grp n f e) {g x : Nat} (hg : g < n) (hx : x < n) : cj n f e g x < n := G.cl _ _ (G.cl _ _ hg hx) (G.iv_lt hg)
theorem Grp.cj_mul (G : Grp n f e) {g x y : Nat} (hg : g < n) (hx : x < n) (hy : y < n) : cj n f e g (f x y) = f (cj n f e g x) (cj n f e g y) := by
  unfold cj
  have hi := G.iv_lt hg
  rw [G.assoc (f g x) _ _ (G.cl _ _ hg hx) hi (G.cl _ _ (G.cl _ _ hg hy) hi), ← G.assoc _ (f g y) _ hi (G.cl _ _ hg hy) hi, ← G.assoc _ g y hi hg hy, G.iv_mul hg, G.one_l y hy, G.assoc g x _ hg hx (G.cl _ _ hy hi), ← G.assoc x y _ hx hy hi, G.assoc g _ _ hg (G.cl _ _ hx hy) hi]
theorem Grp.cj_one (G : Grp n f e) {g : Nat} (hg : g < n) : cj n f e g e = e := by
  unfold cj; rw [G.one_r g hg, G.mul_iv hg]
theorem Grp.cj_pw (G : Grp n f e) {g x : Nat} (hg : g < n) (hx : x < n) : ∀ k, pw f e (cj n f e g x) k = cj n f e g (pw f e x k)
  | 0 => (G.cj_one hg).symm
  | k + 1 => by
    show f (pw f e (cj n f e g x) k) (cj n f e g x) = cj n f e g (f (pw f e x k) x)
    rw [G.cj_pw hg hx k, G.cj_mul hg (G.pw_lt hx k) hx]
theorem Grp.cj_iv (G : Grp n f e) {g x : Nat} (hg : g < n) (hx : x < n) : cj n f e g (cj n f e (iv n f e g) x) = x := by
  unfold cj
  have hi := G.iv_lt hg
  rw [G.iv_iv hg, ← G.assoc g _ g hg (G.cl _ _ hi hx) hg, ← G.assoc g _ x hg hi hx, G.mul_iv hg, G.one_l x hx, G.assoc x g _ hx hg hi, G.mul_iv hg, G.one_r x hx]
theorem Grp.iv_cj (G : Grp n f e) {g x : Nat} (hg : g < n) (hx : x < n) : cj n f e (iv n f e g) (cj n f e g x) = x := by
  have := G.cj_iv (G.iv_lt hg) hx
  rwa [G.iv_iv hg] at this
theorem Grp.cj_eq (G : Grp n f e) {g x y : Nat} (hg : g < n) (hx : x < n) (hy : y < n) : f g x = f y g ↔ cj n f e g x = y := by
  unfold cj
  have hi := G.iv_lt hg
  constructor
  · intro h
    rw [h, G.assoc y g _ hy hg hi, G.mul_iv hg, G.one_r y hy]
  · intro h
    rw [← h, G.assoc _ _ g (G.cl _ _ hg hx) hi hg, G.iv_mul hg, G.one_r _ (G.cl _ _ hg hx)]
theorem Grp.cj_ord (G : Grp n f e) {g x : Nat} (hg : g < n) (hx : x < n) : ord n f e (cj n f e g x) = ord n f e x := by
  refine G.ord_eq (G.cj_lt hg hx) fun j => ?_
  rw [G.cj_pw hg hx, ← G.pw_eq_one hx]
  constructor
  · intro h
    have := congrArg (cj n f e (iv n f e g)) h
    rwa [G.iv_cj hg (G.pw_lt hx j), G.cj_one (G.iv_lt hg)] at this
  · intro h
    rw [h, G.cj_one hg]

/-- Powers a, b with x^a of order q and x^b solving s; together they are x. -/
theorem crt {q s : Nat} (hq : 2 ≤ q) (hqs : Nat.gcd q s = 1) (hs : 0 < s) : ∃ a b, (∃ d, a = q * d + 1) ∧ s ∣ a ∧ q ∣ b ∧ a + b = q * s + 1 := by
  obtain ⟨i, hi, he⟩ := inj_onto (n := q) (f := fun i => s * i % q) (fun i _ => Nat.mod_lt _ (by omega)) (fun i i' hi hi' he => by
    have hp : ∀ {i i' : Nat}, i < q → i' < q → i ≤ i' → s * i % q = s * i' % q → i = i' := by
      intro i i' hi hi' hle he
      have h1 : q ∣ s * i' - s * i := Nat.dvd_of_mod_eq_zero (Nat.sub_mod_eq_zero_of_mod_eq he.symm)
      rw [← Nat.mul_sub] at h1
      have h2 : q ∣ i' - i := Nat.Coprime.dvd_of_dvd_mul_left hqs h1
      rcases Nat.eq_zero_or_pos (i' - i) with h | h
      · omega
      · have := Nat.le_of_dvd h h2; omega
    rcases Nat.le_total i i' with hl | hl
    · exact hp hi hi' hl he
    · exact (hp hi' hi hl he.symm).symm) (show 1 < q by omega)
  have he' : s * i % q = 1 := he
  have hle : s * i ≤ q * s := by rw [Nat.mul_comm q s]; exact Nat.mul_le_mul_left _ (by omega)
  have hdm := Nat.div_add_mod (s * i) q
  refine ⟨s * i, q * s + 1 - s * i, ⟨s * i / q, by omega⟩, Nat.dvd_mul_right _ _, ?_, by omega⟩
  have : q * s + 1 - s * i = q * s - q * (s * i / q) := by omega
  rw [this, ← Nat.mul_sub]
  exact Nat.dvd_mul_right _ _

theorem Grp.frob2 (G : Grp n f e) {q s : Nat} (hq : 2 ≤ q) (hqs : Nat.gcd q s = 1) (hs : 0 < s) (hd : s ∣ n)
    (ih : ∀ N' f' e', N' < n → Grp N' f' e' → ∀ m, m ∣ N' → m ∣ sol N' f' e' m) :
    s ∣ ((List.range n).filter fun x => decide (ord n f e x ∣ q * s ∧ q ∣ ord n f e x)).length := by
  obtain ⟨a, b, ⟨d, had⟩, hsa, hqb, hab⟩ := crt hq hqs hs
  have hA : ∀ {x}, x ∈ (List.range n).filter (fun x => decide (ord n f e x ∣ q * s ∧ q ∣ ord n f e x)) ↔ x < n ∧ ord n f e x ∣ q * s ∧ q ∣ ord n f e x := by
    intro x; rw [List.mem_filter, List.mem_range, decide_eq_true_eq]
  -- the part of order q
  have hy : ∀ {x}, x < n → ord n f e x ∣ q * s → q ∣ ord n f e x → ord n f e (pw f e x a) = q := by
    intro x hx h1 h2
    obtain ⟨t, ht⟩ := h2
    have hts : t ∣ s := by
      rw [ht] at h1
      exact Nat.dvd_of_mul_dvd_mul_left (by omega) h1
    refine G.ord_eq (G.pw_lt hx a) fun j => ?_
    rw [← G.pw_mul hx, G.pw_eq_one hx, ht]
    constructor
    · intro h
      have h3 : q ∣ a * j := Nat.dvd_trans (Nat.dvd_mul_right _ _) h
      rw [had, Nat.add_mul, Nat.one_mul, Nat.mul_assoc] at h3
      exact (Nat.dvd_add_right (Nat.dvd_mul_right _ _)).1 h3
    · intro h
      rw [Nat.mul_comm a j]
      exact Nat.mul_dvd_mul h (Nat.dvd_trans hts hsa)
  refine classesD (r := fun x x' => decide (∃ g, g < n ∧ f g (pw f e x a) = f (pw f e x' a) g)) _ _ rfl (List.nodup_range.filter _) ?_ ?_ ?_ ?_
  · intro x hx
    have x1 := (hA.1 hx).1
    rw [decide_eq_true_eq]
    exact ⟨e, G.el, by rw [G.one_l _ (G.pw_lt x1 a), G.one_r _ (G.pw_lt x1 a)]⟩
  · intro x hx y hy' h
    have x1 := (hA.1 hx).1
    have y1 := (hA.1 hy').1
    rw [decide_eq_true_eq] at *
    obtain ⟨g, hg, h⟩ := h
    refine ⟨iv n f e g, G.iv_lt hg, ?_⟩
    rw [G.cj_eq hg (G.pw_lt x1 a) (G.pw_lt y1 a)] at h
    rw [G.cj_eq (G.iv_lt hg) (G.pw_lt y1 a) (G.pw_lt x1 a), ← h, G.iv_cj hg (G.pw_lt x1 a)]
  · intro x hx y hy' z hz h h'
    have x1 := G.pw_lt (hA.1 hx).1 a
    have y1 := G.pw_lt (hA.1 hy').1 a
    have z1 := G.pw_lt (hA.1 hz).1 a
    rw [decide_eq_true_eq] at *
    obtain ⟨g, hg, h⟩ := h
    obtain ⟨k, hk, h'⟩ := h'
    refine ⟨f k g, G.cl _ _ hk hg, ?_⟩
    rw [G.assoc k g _ hk hg x1, h, ← G.assoc k _ g hk y1 hg, h', G.assoc _ k g z1 hk hg]
  · intro x hx
    obtain ⟨x1, x2, x3⟩ := hA.1 hx
    have hyo := hy x1 x2 x3
    have hyl := G.pw_lt x1 a
    have hcount : n * ((mem n (cen f (pw f e x a))).filter fun z => decide (pw f e z s = e)).length = (((List.range n).filter fun x => decide (ord n f e x ∣ q * s ∧ q ∣ ord n f e x)).filter fun x' => decide (∃ g, g < n ∧ f g (pw f e x a) = f (pw f e x' a) g)).length * (mem n (cen f (pw f e x a))).length := by
      have hL := dbl (fun g x' => decide (f g (pw f e x a) = f (pw f e x' a) g)) (L1 := List.range n) (L2 := ((List.range n).filter fun x => decide (ord n f e x ∣ q * s ∧ q ∣ ord n f e x)).filter fun x' => decide (∃ g, g < n ∧ f g (pw f e x a) = f (pw f e x' a) g))
        (c1 := ((mem n (cen f (pw f e x a))).filter fun z => decide (pw f e z s = e)).length) (c2 := (mem n (cen f (pw f e x a))).length) ?_ ?_
      · rwa [List.length_range] at hL
      · intro g hg
        have g1 := List.mem_range.1 hg
        rw [← List.length_map (f := fun z => cj n f e g (f (pw f e x a) z)) («as» := ((mem n (cen f (pw f e x a))).filter fun z => decide (pw f e z s = e)))]
        refine same_len (((List.nodup_range.filter _).filter _).filter _) (nodup_map ((List.nodup_range.filter _).filter _) fun z hz w hw he => ?_) fun x' => ?_
        · have z1 := (mem_mem.1 (List.mem_filter.1 hz).1).1
          have w1 := (mem_mem.1 (List.mem_filter.1 hw).1).1
          have he2 := congrArg (cj n f e (iv n f e g)) he
          rw [G.iv_cj g1 (G.cl _ _ hyl z1), G.iv_cj g1 (G.cl _ _ hyl w1)] at he2
          exact G.cancel_l hyl z1 w1 he2
        · rw [List.mem_filter, List.mem_filter, hA, List.mem_map]
          simp only [decide_eq_true_eq]
          constructor
          · rintro ⟨⟨⟨c1, c2, c3⟩, _⟩, h⟩
            rw [G.cj_eq g1 hyl (G.pw_lt c1 a)] at h
            have hg' := G.iv_lt g1
            have hwl := G.cj_lt hg' c1
            have hwo := G.cj_ord hg' c1
            have hwa : pw f e (cj n f e (iv n f e g) x') a = pw f e x a := by
              rw [G.cj_pw hg' c1, ← h, G.iv_cj g1 hyl]
            have hyz : f (pw f e x a) (pw f e (cj n f e (iv n f e g) x') b) = cj n f e (iv n f e g) x' := by
              rw [← hwa, ← G.pw_add hwl, hab, G.pw_add hwl, (G.pw_eq_one hwl _).2 (by rw [hwo]; exact c2), G.pw_one hwl, G.one_l _ hwl]
            refine ⟨pw f e (cj n f e (iv n f e g) x') b, ?_, ?_⟩
            · rw [List.mem_filter, mem_mem, cen_iff, decide_eq_true_eq]
              refine ⟨⟨G.pw_lt hwl b, ?_⟩, ?_⟩
              · rw [← hwa]; exact G.pw_comm hwl b a
              · rw [← G.pw_mul hwl, G.pw_eq_one hwl, hwo]
                exact Nat.dvd_trans c2 (Nat.mul_dvd_mul hqb (Nat.dvd_refl s))
            · rw [hyz, G.cj_iv g1 c1]
          · rintro ⟨z, hz, rfl⟩
            rw [List.mem_filter, mem_mem, cen_iff, decide_eq_true_eq] at hz
            obtain ⟨⟨z1, z2⟩, z3⟩ := hz
            have hyzl := G.cl _ _ hyl z1
            have hyq : pw f e (pw f e x a) q = e := by rw [G.pw_eq_one hyl, hyo]; exact Nat.dvd_refl q
            have hself : ∀ {y}, y < n → pw f e y q = e → pw f e y a = y := by
              intro y y1 yq
              rw [had, G.pw_add y1, G.pw_mul y1, yq, G.pw_e, G.pw_one y1, G.one_l _ y1]
            have hpa : pw f e (f (pw f e x a) z) a = pw f e x a := by
              rw [G.pw_comm2 z1 hyl z2.symm, (G.pw_eq_one z1 a).2 (Nat.dvd_trans ((G.pw_eq_one z1 s).1 z3) hsa), G.one_r _ (G.pw_lt hyl a)]
              exact hself hyl hyq
            have hca : pw f e (cj n f e g (f (pw f e x a) z)) a = cj n f e g (pw f e x a) := by
              rw [G.cj_pw g1 hyzl, hpa]
            have hrel : f g (pw f e x a) = f (pw f e (cj n f e g (f (pw f e x a) z)) a) g := by
              rw [hca, G.cj_eq g1 hyl (G.cj_lt g1 hyl)]
            refine ⟨⟨⟨G.cj_lt g1 hyzl, ?_, ?_⟩, g, g1, hrel⟩, hrel⟩
            · rw [G.cj_ord g1 hyzl, ← G.pw_eq_one hyzl, G.pw_comm2 z1 hyl z2.symm, G.pw_mul hyl, hyq, G.pw_e, Nat.mul_comm q s, G.pw_mul z1, z3, G.pw_e, G.one_l e G.el]
            · rw [G.cj_ord g1 hyzl]
              have h5 : ord n f e (pw f e (f (pw f e x a) z) a) = q := by rw [hpa, hyo]
              rw [← h5, ← G.pw_eq_one (G.pw_lt hyzl a), ← G.pw_mul hyzl, Nat.mul_comm, G.pw_mul hyzl, G.pw_ord hyzl, G.pw_e]
      · intro x' hx'
        obtain ⟨h1, h2⟩ := List.mem_filter.1 hx'
        obtain ⟨c1, c2, c3⟩ := hA.1 h1
        rw [decide_eq_true_eq] at h2
        obtain ⟨g0, hg0, h2⟩ := h2
        have hy'l := G.pw_lt c1 a
        rw [← List.length_map (f := fun c => f g0 c) («as» := mem n (cen f (pw f e x a)))]
        refine same_len (List.nodup_range.filter _) (nodup_map (List.nodup_range.filter _) fun z hz w hw he => G.cancel_l hg0 (mem_mem.1 hz).1 (mem_mem.1 hw).1 he) fun g => ?_
        rw [List.mem_filter, List.mem_range, decide_eq_true_eq, List.mem_map]
        constructor
        · rintro ⟨g1, h⟩
          have hi := G.iv_lt hg0
          refine ⟨f (iv n f e g0) g, ?_, by rw [← G.assoc g0 _ g hg0 hi g1, G.mul_iv hg0, G.one_l g g1]⟩
          rw [mem_mem, cen_iff]
          refine ⟨G.cl _ _ hi g1, ?_⟩
          refine G.cancel_l hg0 (G.cl _ _ (G.cl _ _ hi g1) hyl) (G.cl _ _ hyl (G.cl _ _ hi g1)) ?_
          rw [← G.assoc g0 _ _ hg0 hyl (G.cl _ _ hi g1), h2, ← G.assoc g0 _ _ hg0 (G.cl _ _ hi g1) hyl, ← G.assoc g0 _ g hg0 hi g1, G.mul_iv hg0, G.one_l g g1, h, G.assoc _ g0 _ hy'l hg0 (G.cl _ _ hi g1), ← G.assoc g0 _ g hg0 hi g1, G.mul_iv hg0, G.one_l g g1]
        · rintro ⟨c, hc, rfl⟩
          rw [mem_mem, cen_iff] at hc
          obtain ⟨c1', c2'⟩ := hc
          refine ⟨G.cl _ _ hg0 c1', ?_⟩
          rw [G.assoc g0 c _ hg0 c1' hyl, c2', ← G.assoc g0 _ c hg0 hyl c1', h2, G.assoc _ g0 c hy'l hg0 c1']
    -- the quotient
    have hQ := (G.quo_gs hyl).grp
    have hQc := G.quo_card hyl
    rw [hyo] at hQc
    have hCn : (mem n (cen f (pw f e x a))).length ∣ n := by
      have := Sub.dvd (H := cen f (pw f e x a)) (K := fun _ => true) G (G.cen_sub hyl) fun _ _ _ _ _ _ => rfl
      have hall : (mem n fun _ => true).length = n := by
        unfold mem
        rw [List.filter_eq_self.2 (fun _ _ => rfl), List.length_range]
      rwa [hall] at this
    have hQp : 0 < (quo n f e (pw f e x a)).length := hQ.pos
    have hQlt : (quo n f e (pw f e x a)).length < n := by
      have h1 := Nat.le_of_dvd G.pos hCn
      have h2 : (quo n f e (pw f e x a)).length * 2 ≤ (quo n f e (pw f e x a)).length * q := Nat.mul_le_mul_left _ hq
      omega
    have hsolQ : ((mem n (cen f (pw f e x a))).filter fun z => decide (pw f e z s = e)).length = sol (quo n f e (pw f e x a)).length (idf (quo n f e (pw f e x a)) fun u v => rp n f e (pw f e x a) (f u v)) (plc (quo n f e (pw f e x a)) (rp n f e (pw f e x a) e)) s := by
      rw [G.quo_sol hyl (by rw [hyo]; exact hqs)]
      unfold sol
      rw [← count_at]
      congr 1
      refine List.filter_congr fun i hi => decide_eq_decide.2 ?_
      exact ((G.quo_gs hyl).pw_iff (List.mem_range.1 hi) s).symm
    have hgs := ih _ _ _ hQlt hQ _ (Nat.gcd_dvd_right s (quo n f e (pw f e x a)).length)
    rw [← hQ.sol_gcd, ← hsolQ] at hgs
    obtain ⟨u, hu⟩ := hgs
    obtain ⟨M, hM⟩ := hCn
    rw [hu, hQc] at hcount
    rw [hQc] at hM
    have hc2 : (M * (Nat.gcd s (quo n f e (pw f e x a)).length * u)) * ((quo n f e (pw f e x a)).length * q) = (((List.range n).filter fun x => decide (ord n f e x ∣ q * s ∧ q ∣ ord n f e x)).filter fun x' => decide (∃ g, g < n ∧ f g (pw f e x a) = f (pw f e x' a) g)).length * ((quo n f e (pw f e x a)).length * q) := by
      rw [← hcount]
      conv => rhs; lhs; rw [hM]
      rw [Nat.mul_comm M, Nat.mul_right_comm, Nat.mul_assoc, Nat.mul_right_comm, Nat.mul_comm _ M, Nat.mul_comm (quo n f e (pw f e x a)).length q]
      simp only [Nat.mul_assoc, Nat.mul_comm, Nat.mul_left_comm]
    have hc3 := Nat.eq_of_mul_eq_mul_right (Nat.mul_pos hQp (by omega)) hc2
    rw [← hc3, ← Nat.mul_assoc]
    refine Nat.dvd_trans ?_ (Nat.dvd_mul_right _ u)
    rw [← Nat.gcd_mul_left]
    refine Nat.dvd_gcd (Nat.dvd_mul_left _ _) ?_
    have hsq : Nat.Coprime s q := Nat.Coprime.symm hqs
    refine Nat.Coprime.dvd_of_dvd_mul_right hsq (m := M * (quo n f e (pw f e x a)).length) ?_
    rw [hM] at hd
    have : M * (quo n f e (pw f e x a)).length * q = (quo n f e (pw f e x a)).length * q * M := by
      rw [Nat.mul_comm M, Nat.mul_right_comm]
    rw [this]; exact hd

/-! ### Primes -/

/-- The least divisor above 1. -/
theorem least_div : ∀ {t : Nat}, 2 ≤ t → ∃ p, 2 ≤ p ∧ p ∣ t ∧ ∀ d, d ∣ p → d = 1 ∨ d = p := by
  intro t
  induction t using Nat.strongRecOn with
  | _ t ih =>
    intro ht
    by_cases h : ∀ d, d ∣ t → d = 1 ∨ d = t
    · exact ⟨t, ht, Nat.dvd_refl t, h⟩
    · have ⟨d, hd⟩ := Classical.not_forall.1 h
      have ⟨hd1, hd2⟩ := Classical.not_imp.1 hd
      have hdp : 0 < d := Nat.pos_of_dvd_of_pos hd1 (by omega)
      have hdl := Nat.le_of_dvd (by omega) hd1
      have hd3 : 2 ≤ d ∧ d < t := by
        have h1 : d ≠ 1 := fun h => hd2 (.inl h)
        have h2 : d ≠ t := fun h => hd2 (.inr h)
        omega
      obtain ⟨p, p1, p2, p3⟩ := ih d hd3.2 hd3.1
      exact ⟨p, p1, Nat.dvd_trans p2 hd1, p3⟩
theorem split_pow {p : Nat} (hp : 2 ≤ p) : ∀ {m : Nat}, 0 < m → ∃ k s, m = p ^ k * s ∧ ¬ p ∣ s := by
  intro m
  induction m using Nat.strongRecOn with
  | _ m ih =>
    intro hm
    by_cases h : p ∣ m
    · obtain ⟨c, rfl⟩ := h
      have hc : 0 < c := by
        rcases Nat.eq_zero_or_pos c with h | h
        · subst h; simp at hm
        · exact h
      obtain ⟨k, s, h1, h2⟩ := ih c (by have : 2 * c ≤ p * c := Nat.mul_le_mul_right _ hp
                                        omega) hc
      exact ⟨k + 1, s, by rw [h1, Nat.pow_succ, Nat.mul_comm _ p, Nat.mul_assoc], h2⟩
    · exact ⟨0, m, by simp, h⟩
theorem prime_cop {p s : Nat} (hp : ∀ d, d ∣ p → d = 1 ∨ d = p) (h : ¬ p ∣ s) : Nat.gcd p s = 1 := by
  rcases hp _ (Nat.gcd_dvd_left p s) with h1 | h1
  · exact h1
  · exact absurd (h1 ▸ Nat.gcd_dvd_right p s) h
theorem dvd_ppow {p : Nat} (hp2 : 2 ≤ p) (hp : ∀ d, d ∣ p → d = 1 ∨ d = p) : ∀ {k d : Nat}, d ∣ p ^ (k + 1) → d = p ^ (k + 1) ∨ d ∣ p ^ k
  | k, d, h => by
    by_cases hpd : p ∣ d
    · obtain ⟨c, rfl⟩ := hpd
      rw [Nat.pow_succ, Nat.mul_comm _ p] at h
      have h1 := Nat.dvd_of_mul_dvd_mul_left (by omega) h
      match k, h1 with
      | 0, h1 =>
        have : c = 1 := Nat.dvd_one.1 (by simpa using h1)
        left; simp [this]
      | k + 1, h1 =>
        rcases dvd_ppow hp2 hp h1 with h2 | h2
        · left; rw [h2, Nat.pow_succ p (k + 1), Nat.mul_comm]
        · right; rw [Nat.pow_succ, Nat.mul_comm _ p]; exact Nat.mul_dvd_mul (Nat.dvd_refl p) h2
    · right
      have hc : Nat.Coprime d p := Nat.Coprime.symm (prime_cop hp hpd)
      rw [Nat.pow_succ] at h
      exact Nat.Coprime.dvd_of_dvd_mul_right hc h

/-- FROBENIUS' THEOREM. -/
theorem frob : ∀ N f e, Grp N f e → ∀ m, m ∣ N → m ∣ sol N f e m := by
  intro N
  induction N using Nat.strongRecOn with
  | _ N ihN =>
    intro f e G
    have key : ∀ t m, m * t = N → m ∣ sol N f e m := by
      intro t
      induction t using Nat.strongRecOn with
      | _ t iht =>
        intro m hmt
        have hN := G.pos
        have ht : 0 < t := by
          rcases Nat.eq_zero_or_pos t with h | h
          · subst h; simp at hmt; omega
          · exact h
        have hm : 0 < m := by
          rcases Nat.eq_zero_or_pos m with h | h
          · subst h; simp at hmt; omega
          · exact h
        by_cases h1 : t = 1
        · subst h1
          rw [Nat.mul_one] at hmt
          subst hmt
          rw [G.sol_all]; exact Nat.dvd_refl _
        · obtain ⟨p, p1, ⟨c, rfl⟩, p3⟩ := least_div (t := t) (by omega)
          have hc : 0 < c := by
            rcases Nat.eq_zero_or_pos c with h | h
            · subst h; simp at ht
            · exact h
          have hlt : c < p * c := by
            have : 2 * c ≤ p * c := Nat.mul_le_mul_right _ p1
            omega
          have hmp := iht c hlt (m * p) (by rw [Nat.mul_assoc]; exact hmt)
          obtain ⟨k, s, hks, hps⟩ := split_pow p1 hm
          have hcop := prime_cop p3 hps
          have hpp : ∀ i, 0 < p ^ i := fun i => Nat.pow_pos (by omega)
          have hqs : Nat.gcd (p ^ (k + 1)) s = 1 := Nat.Coprime.pow_left _ hcop
          have hs : 0 < s := by
            rcases Nat.eq_zero_or_pos s with h | h
            · subst h; simp at hps
            · exact h
          have hmpq : m * p = p ^ (k + 1) * s := by
            rw [hks, Nat.pow_succ, Nat.mul_right_comm]
          -- orders
          have hord : ∀ o, (o ∣ m * p ∧ ¬ o ∣ m) ↔ (o ∣ p ^ (k + 1) * s ∧ p ^ (k + 1) ∣ o) := by
            intro o
            rw [hmpq]
            constructor
            · rintro ⟨h2, h3⟩
              refine ⟨h2, ?_⟩
              have h4 : o = Nat.gcd o (p ^ (k + 1)) * Nat.gcd o s := by
                rw [← Nat.Coprime.gcd_mul o hqs]
                exact (Nat.gcd_eq_left h2).symm
              rcases dvd_ppow p1 p3 (Nat.gcd_dvd_right o (p ^ (k + 1))) with h5 | h5
              · rw [← h5]; exact Nat.gcd_dvd_left _ _
              · exfalso
                apply h3
                rw [h4, hks]
                exact Nat.mul_dvd_mul h5 (Nat.gcd_dvd_right _ _)
            · rintro ⟨h2, h3⟩
              refine ⟨h2, fun h4 => hps ?_⟩
              have h5 := Nat.dvd_trans h3 h4
              rw [hks, Nat.pow_succ] at h5
              exact Nat.dvd_of_mul_dvd_mul_left (hpp k) h5
          have hsum : sol N f e (m * p) = sol N f e m + ((List.range N).filter fun x => decide (ord N f e x ∣ p ^ (k + 1) * s ∧ p ^ (k + 1) ∣ ord N f e x)).length := by
            have h2 : sol N f e m = (((List.range N).filter fun x => decide (pw f e x (m * p) = e)).filter fun x => decide (pw f e x m = e)).length := by
              unfold sol
              rw [List.filter_filter]
              congr 1
              refine List.filter_congr fun x hx => ?_
              have x1 := List.mem_range.1 hx
              by_cases h : pw f e x m = e
              · have : pw f e x (m * p) = e := by rw [G.pw_mul x1, h, G.pw_e]
                simp [h, this]
              · simp [h]
            have h3 : ((List.range N).filter fun x => decide (ord N f e x ∣ p ^ (k + 1) * s ∧ p ^ (k + 1) ∣ ord N f e x)).length = (((List.range N).filter fun x => decide (pw f e x (m * p) = e)).filter fun x => !decide (pw f e x m = e)).length := by
              rw [List.filter_filter]
              congr 1
              refine List.filter_congr fun x hx => ?_
              have x1 := List.mem_range.1 hx
              rw [Bool.eq_iff_iff]
              simp only [decide_eq_true_eq, Bool.and_eq_true, Bool.not_eq_true', decide_eq_false_iff_not, G.pw_eq_one x1]
              rw [← hord]
              exact and_comm
            rw [h2, h3]
            unfold sol
            have := List.length_eq_countP_add_countP (fun x => decide (pw f e x m = e)) (l := (List.range N).filter fun x => decide (pw f e x (m * p) = e))
            simp only [List.countP_eq_length_filter] at this
            rw [this]
            congr 3
            funext x
            by_cases h : pw f e x m = e <;> simp [h]
          have hA1 : p ^ k ∣ ((List.range N).filter fun x => decide (ord N f e x ∣ p ^ (k + 1) * s ∧ p ^ (k + 1) ∣ ord N f e x)).length :=
            G.frob1 (c := fun o => decide (o ∣ p ^ (k + 1) * s ∧ p ^ (k + 1) ∣ o)) fun o ho => (of_decide_eq_true ho).2
          have hq2 : 2 ≤ p ^ (k + 1) := by
            rw [Nat.pow_succ]
            have := Nat.mul_le_mul (hpp k) p1
            omega
          have hsN : s ∣ N := by
            rw [← hmt, hks, Nat.mul_assoc, Nat.mul_left_comm]
            exact Nat.dvd_mul_right _ _
          have hA2 := G.frob2 hq2 hqs hs hsN fun N' f' e' hN' G' m' hm' => ihN N' hN' f' e' G' m' hm'
          have hA : m ∣ ((List.range N).filter fun x => decide (ord N f e x ∣ p ^ (k + 1) * s ∧ p ^ (k + 1) ∣ ord N f e x)).length := by
            rw [hks]
            exact Nat.Coprime.mul_dvd_of_dvd_of_dvd (Nat.Coprime.pow_left _ hcop) hA1 hA2
          have hm2 : m ∣ sol N f e (m * p) := Nat.dvd_trans (Nat.dvd_mul_right _ _) hmp
          rw [hsum] at hm2
          exact (Nat.dvd_add_left hA).1 hm2
    intro m ⟨t, ht⟩
    exact key t m ht.symm
end
end Go.Proofs.YtjikchbmkodgfaaDoor

/-
  Plain law, SYLOW'S THEOREMS: subgroups of a power of a prime of things. Conditions: none.
-/
set_option linter.all false
namespace Go.Proofs.YtjikchbmkodgfaaDoor
open Go.Pv

section
variable {n : Nat} {f : Nat → Nat → Nat} {e : Nat} {p q s : Nat → Bool} {P : Nat}

theorem isPr.pow_div (hP : isPr P) : ∀ {k d : Nat}, d ∣ P ^ k → ∃ i, i ≤ k ∧ d = P ^ i
  | 0, d, h => ⟨0, Nat.le_refl _, by simpa using h⟩
  | k + 1, d, h => by
    rcases dvd_ppow hP.1 (fun d hd => hP.div hd) h with h | h
    · exact ⟨k + 1, Nat.le_refl _, h⟩
    · obtain ⟨i, hi, h⟩ := hP.pow_div h
      exact ⟨i, by omega, h⟩
theorem isPr.pos (hP : isPr P) (k : Nat) : 0 < P ^ k := Nat.pow_pos (by have := hP.1; omega)
theorem isPr.le_of_dvd (hP : isPr P) {i j : Nat} (h : P ^ i ∣ P ^ j) : i ≤ j := by
  have h1 := Nat.le_of_dvd (hP.pos j) h
  exact (Nat.pow_le_pow_iff_right hP.1).1 h1
theorem isPr.mul (hP : isPr P) {a b : Nat} (h : P ∣ a * b) : P ∣ a ∨ P ∣ b := by
  by_cases ha : P ∣ a
  · exact .inl ha
  · exact .inr (Nat.Coprime.dvd_of_dvd_mul_left (hP.cop ha) h)

/-- What a thing's powers are. -/
def cyp (n : Nat) (f : Nat → Nat → Nat) (e b x : Nat) : Bool := decide (∃ i, i < n ∧ pw f e b i = x)
theorem cyp_iff {b x : Nat} : cyp n f e b x = true ↔ ∃ i, i < n ∧ pw f e b i = x := by unfold cyp; exact decide_eq_true_iff
theorem Grp.cyp_of (G : Grp n f e) {b : Nat} (hb : b < n) (i : Nat) : cyp n f e b (pw f e b i) = true := by
  have h1 := G.ord_spec hb
  exact cyp_iff.2 ⟨i % ord n f e b, Nat.lt_of_lt_of_le (Nat.mod_lt _ h1.1) h1.2.1, G.pw_mod hb i⟩
theorem Grp.cyp_sub (G : Grp n f e) {b : Nat} (hb : b < n) : Sub n f e (cyp n f e b) :=
  sub_of G (G.cyp_of hb 0) fun x y hx hy h1 h2 => by
    obtain ⟨i, _, rfl⟩ := cyp_iff.1 h1
    obtain ⟨j, _, rfl⟩ := cyp_iff.1 h2
    rw [← G.pw_add hb]; exact G.cyp_of hb _
theorem Grp.cyp_len (G : Grp n f e) {b : Nat} (hb : b < n) : (mem n (cyp n f e b)).length = ord n f e b := by
  have h1 := G.ord_spec hb
  have h2 : (mem n (cyp n f e b)).length = ((List.range (ord n f e b)).map fun i => pw f e b i).length :=
    same_len (List.nodup_range.filter _) (nodup_map List.nodup_range fun i hi j hj h => G.pw_inj hb (List.mem_range.1 hi) (List.mem_range.1 hj) h) fun x => by
      rw [mem_mem, List.mem_map]
      constructor
      · rintro ⟨_, hx⟩
        obtain ⟨i, _, rfl⟩ := cyp_iff.1 hx
        exact ⟨i % ord n f e b, List.mem_range.2 (Nat.mod_lt _ h1.1), G.pw_mod hb i⟩
      · rintro ⟨i, _, rfl⟩
        exact ⟨G.pw_lt hb i, G.cyp_of hb i⟩
  rw [h2]; simp
theorem Grp.cyp_in (G : Grp n f e) {b : Nat} (hb : b < n) (hp : Sub n f e p) (h : p b = true) {x : Nat} (hx : cyp n f e b x = true) : p x = true := by
  obtain ⟨i, hi, rfl⟩ := cyp_iff.1 hx
  clear hx hi
  induction i with
  | zero => exact hp.one
  | succ i ih => exact hp.mul _ _ (G.pw_lt hb i) hb ih h

theorem Grp.nzr_cj (G : Grp n f e) (hp : Sub n f e p) {a : Nat} (ha : a < n) : nzr n f e p a = true ↔ ∀ x, x < n → (p (cjr n f e x a) = true ↔ p x = true) := by
  rw [nzr_iff]
  constructor
  · intro h x hx
    have h1 := h (cjr n f e x a) (G.cjr_lt hx ha)
    rw [G.shf_back ha (G.cjr_lt hx ha), G.cjr_iv hx ha] at h1
    rw [h1]
  · intro h y hy
    rw [G.shf_back ha hy, Bool.eq_iff_iff]
    have h1 := h (cjr n f e y (iv n f e a)) (G.cjr_lt hy (G.iv_lt ha))
    rw [G.cjr_vi hy ha] at h1
    exact h1.symm
theorem Grp.nzr_sub (G : Grp n f e) (hp : Sub n f e p) : Sub n f e (nzr n f e p) :=
  sub_of G ((G.nzr_cj hp G.el).2 fun x hx => by rw [G.cjr_e hx]) fun a b ha hb h1 h2 => (G.nzr_cj hp (G.cl _ _ ha hb)).2 fun x hx => by
    rw [← G.cjr_cjr hx ha hb, (G.nzr_cj hp hb).1 h2 _ (G.cjr_lt hx ha), (G.nzr_cj hp ha).1 h1 x hx]
/-- What lets a set stay, by one way of the two. -/
theorem Grp.nzr_of (G : Grp n f e) (hp : Sub n f e p) {a : Nat} (ha : a < n) (h : ∀ y, y < n → shf n f e p a y = true → p y = true) : nzr n f e p a = true := by
  have h1 := G.shf_len (p := p) ha
  refine nzr_iff.2 fun y hy => ?_
  by_cases hy2 : shf n f e p a y = p y
  · exact hy2
  · exfalso
    have := mem_lt (n := n) h (fun hh => hy2 (hh y hy))
    omega

/-- A subgroup, and a thing that lets it stay: their products are one. -/
theorem Grp.nz_prod (G : Grp n f e) (hp : Sub n f e p) (hq : Sub n f e q) (h : ∀ a, a < n → q a = true → nzr n f e p a = true) : Sub n f e (pr2 n f e p q) :=
  sub_of G (pr2_iff.2 ⟨e, G.el, hp.one, by rw [G.iv_one, G.one_l e G.el]; exact hq.one⟩) fun x y hx hy h1 h2 => by
    obtain ⟨a, ha, pa, qb⟩ := pr2_iff.1 h1
    obtain ⟨c, hc, pc, qd⟩ := pr2_iff.1 h2
    have ia := G.iv_lt ha
    have ic := G.iv_lt hc
    have hb := G.cl _ _ ia hx
    have ib := G.iv_lt hb
    have hd := G.cl _ _ ic hy
    -- x = a b, y = c d; x y = a (b c b^-1) (b d)
    have hcb := G.cjr_lt hc ib
    have hk : p (cjr n f e c (iv n f e (f (iv n f e a) x))) = true := ((G.nzr_cj hp ib).1 (h _ ib (hq.inv _ hb qb)) c hc).2 pc
    have hac := G.cl _ _ ha hcb
    refine pr2_iff.2 ⟨f a (cjr n f e c (iv n f e (f (iv n f e a) x))), hac, hp.mul _ _ ha hcb pa hk, ?_⟩
    have e1 : f (iv n f e (f a (cjr n f e c (iv n f e (f (iv n f e a) x))))) (f x y) = f (f (iv n f e a) x) (f (iv n f e c) y) := by
      have hbc := G.cl _ _ hb hc
      have e2 : cjr n f e c (iv n f e (f (iv n f e a) x)) = f (f (f (iv n f e a) x) c) (iv n f e (f (iv n f e a) x)) := by
        unfold cjr; rw [G.iv_iv hb]
      have e3 : f x y = f (f a (cjr n f e c (iv n f e (f (iv n f e a) x)))) (f (f (iv n f e a) x) (f (iv n f e c) y)) := by
        rw [G.assoc a _ _ ha hcb (G.cl _ _ hb hd), e2, G.assoc _ _ _ hbc ib (G.cl _ _ hb hd), ← G.assoc (iv n f e (f (iv n f e a) x)) _ _ ib hb hd, G.iv_mul hb, G.one_l _ hd, G.assoc _ _ _ hb hc hd, ← G.assoc c _ y hc ic hy, G.mul_iv hc, G.one_l y hy, ← G.assoc a _ y ha hb hy, ← G.assoc a _ x ha ia hx, G.mul_iv ha, G.one_l x hx]
      rw [e3, ← G.assoc _ _ _ (G.iv_lt hac) hac (G.cl _ _ hb hd), G.iv_mul hac, G.one_l _ (G.cl _ _ hb hd)]
    rw [e1]
    exact hq.mul _ _ hb hd qb qd

/-- GROWING: a subgroup of a power of P things, and what lets it stay and has a power of P as its order, make one of a power of P things. -/
theorem Grp.syl_grow (G : Grp n f e) (hP : isPr P) (hs : Sub n f e s) {j : Nat} (hj : (mem n s).length = P ^ j) {b k : Nat} (hb : b < n) (hz : nzr n f e s b = true) (hk : ord n f e b = P ^ k)
    (hq : ∀ a, a < n → (q a = true ↔ Gen n f e (fun x => s x || decide (x = b)) a)) : ∃ i, (mem n q).length = P ^ i := by
  have hc := G.cyp_sub hb
  have hN := G.nzr_sub hs
  have hpr := G.nz_prod hs hc fun a ha h => G.cyp_in hb hN hz h
  have hqs := gen_sub G hq
  have hsame : mem n q = mem n (pr2 n f e s (cyp n f e b)) := mem_congr fun a ha => by
    rw [Bool.eq_iff_iff]
    constructor
    · intro h
      refine Gen.sub G hpr (fun x hx h => ?_) ((hq a ha).1 h)
      rw [Bool.or_eq_true, decide_eq_true_eq] at h
      rcases h with h | rfl
      · exact pr2_iff.2 ⟨x, hx, h, by rw [G.iv_mul hx]; exact hc.one⟩
      · exact pr2_iff.2 ⟨e, G.el, hs.one, by rw [G.iv_one, G.one_l x hx]; have := G.cyp_of hb 1; rwa [G.pw_one hb] at this⟩
    · intro h
      obtain ⟨x, hx, h1, h2⟩ := pr2_iff.1 h
      have hsq : ∀ y, y < n → s y = true → q y = true := fun y hy h => (hq y hy).2 (Gen.mem G hy (by simp [h]))
      have hbq : q b = true := (hq b hb).2 (Gen.mem G hb (by simp))
      have := hqs.mul _ _ hx (G.cl _ _ (G.iv_lt hx) ha) (hsq x hx h1) (G.cyp_in hb hqs hbq h2)
      rwa [← G.assoc x _ a hx (G.iv_lt hx) ha, G.mul_iv hx, G.one_l a ha] at this
  have h1 := G.prod_count hs hc
  rw [hj, G.cyp_len hb, hk, ← Nat.pow_add, ← hsame] at h1
  obtain ⟨i, _, hi⟩ := hP.pow_div (d := (mem n q).length) ⟨_, h1.symm⟩
  exact ⟨i, hi⟩

/-- THE COUNT: of a subgroup of a power of P things, and another: things that bring not the first into the second. -/
theorem Grp.syl_count (G : Grp n f e) (hP : isPr P) (hq : Sub n f e q) {i : Nat} (hi : (mem n q).length = P ^ i) (hs : Sub n f e s) :
    ∃ c, n = (mem n fun a => decide (∀ y, y < n → shf n f e q a y = true → s y = true)).length + P * (mem n s).length * c := by
  obtain ⟨K, hK⟩ : ∃ K : Nat → Bool, K = fun a => decide (∀ y, y < n → shf n f e q a y = true → s y = true) := ⟨_, rfl⟩
  have hKi : ∀ a, K a = true ↔ ∀ y, y < n → shf n f e q a y = true → s y = true := fun a => by rw [hK]; exact decide_eq_true_iff
  have E := G.dco_eqv hq hs
  have inv : ∀ x y, x < n → y < n → dco n f q s x y = true → K x = true → K y = true := by
    intro x y hx hy h hk
    obtain ⟨u, v, hu, hv, qu, sv, rfl⟩ := dco_iff.1 h
    refine (hKi _).2 fun z hz hzs => ?_
    obtain ⟨w, hw, qw, rfl⟩ := shf_iff.1 hzs
    have hux := G.cl _ _ hu hx
    rw [← G.cjr_cjr hw hux hv, ← G.cjr_cjr hw hu hx]
    have hwu := G.cjr_lt hw hu
    have h1 : q (cjr n f e w u) = true := hq.mul _ _ (G.cl _ _ (G.iv_lt hu) hw) hu (hq.mul _ _ (G.iv_lt hu) hw (hq.inv _ hu qu) qw) qu
    have h2 : s (cjr n f e (cjr n f e w u) x) = true := (hKi x).1 hk _ (G.cjr_lt hwu hx) (shf_iff.2 ⟨_, hwu, h1, rfl⟩)
    have hwx := G.cjr_lt hwu hx
    exact hs.mul _ _ (G.cl _ _ (G.iv_lt hv) hwx) hv (hs.mul _ _ (G.iv_lt hv) hwx (hs.inv _ hv sv) h2) sv
  have inv2 : ∀ x y, x < n → y < n → dco n f q s x y = true → (!K x) = true → (!K y) = true := by
    intro x y hx hy h hk
    cases hky : K y with
    | false => rfl
    | true => rw [inv y x hy hx (E.symm x y hx hy h) hky] at hk; cases hk
  have hsum := E.part (K := fun a => !K a) inv2
  have hdv : ∀ l : List Nat, (∀ x ∈ l, P * (mem n s).length ∣ (mem n (dco n f q s x)).length) → P * (mem n s).length ∣ (l.map fun x => (mem n (dco n f q s x)).length).sum := by
    intro l
    induction l with
    | nil => intro _; exact ⟨0, rfl⟩
    | cons x r ih =>
      intro h
      rw [List.map_cons, List.sum_cons]
      exact Nat.dvd_add (h x (by simp)) (ih fun y hy => h y (by simp [hy]))
  have hd := hdv (mem n fun x => lead (dco n f q s) x && !K x) (fun x hx => by
    obtain ⟨x1, x2⟩ := mem_mem.1 hx
    rw [Bool.and_eq_true] at x2
    have hc := G.dco_count hq hs x1
    have hsh := G.shf_sub hq x1
    have hm := hsh.and hs
    have hlen := G.shf_len (p := q) x1
    obtain ⟨i2, hi2, hmi⟩ := hP.pow_div (k := i) (d := (mem n fun y => shf n f e q x y && s y).length) (by
      rw [← hi, ← hlen]
      exact hm.dvd G fun a b ha hb h1 h2 => hsh.mul a b ha hb h1 (by rw [Bool.and_eq_true] at h2; exact h2.1))
    have hne : i2 ≠ i := fun h => by
      have hk : K x = true := (hKi x).2 fun y hy hys => by
        cases hsy : s y with
        | true => rfl
        | false =>
          exfalso
          have := mem_lt (n := n) (p := shf n f e q x) (q := fun y => shf n f e q x y && s y) (fun a _ h => by rw [Bool.and_eq_true] at h; exact h.1) (fun hh => by
            have := hh y hy
            rw [hys, hsy] at this; cases this)
          rw [hlen, hi, hmi, h] at this
          omega
      rw [hk] at x2; cases x2.2
    rw [hmi, hi] at hc
    obtain ⟨t, ht⟩ : ∃ t, i = i2 + 1 + t := ⟨i - i2 - 1, by omega⟩
    refine ⟨P ^ t, Nat.eq_of_mul_eq_mul_right (hP.pos i2) ?_⟩
    rw [hc, ht, Nat.pow_add, Nat.pow_succ]
    ac_rfl)
  rw [hsum] at hd
  obtain ⟨c, hc⟩ := hd
  refine ⟨c, ?_⟩
  have hsp : (mem n K).length + (mem n fun a => !K a).length = n := by
    have h := List.length_eq_countP_add_countP K (l := List.range n)
    rw [List.length_range, List.countP_eq_length_filter, List.countP_eq_length_filter] at h
    unfold mem
    rw [show (List.filter (fun a => !K a) (List.range n)) = List.filter (fun a => decide ¬K a = true) (List.range n) from List.filter_congr fun a _ => by cases K a <;> rfl]
    exact h.symm
  rw [hK] at hsp hc
  omega

/-- Frobenius' theorem within a subgroup. -/
theorem Grp.sub_frob (G : Grp n f e) (hs : Sub n f e s) {m : Nat} (hm : m ∣ (mem n s).length) : m ∣ (mem n fun x => s x && decide (pw f e x m = e)).length := by
  have gs := hs.gs G
  have h := frob _ _ _ gs.grp m hm
  have h1 : sol (mem n s).length (idf (mem n s) f) (plc (mem n s) e) m = (mem n fun x => s x && decide (pw f e x m = e)).length := by
    unfold sol
    have h2 := count_at (mem n s) fun x => decide (pw f e x m = e)
    have h3 : (List.range (mem n s).length).filter (fun x => decide (pw (idf (mem n s) f) (plc (mem n s) e) x m = plc (mem n s) e)) = (List.range (mem n s).length).filter fun i => decide (pw f e ((mem n s).getD i 0) m = e) :=
      List.filter_congr fun i hi => decide_eq_decide.2 (gs.pw_iff (List.mem_range.1 hi) m)
    rw [h3, h2]
    congr 1
    unfold mem
    rw [List.filter_filter]
    refine List.filter_congr fun x _ => ?_
    exact Bool.and_comm _ _
  rwa [h1] at h

/-- THE END: what lets nothing of a power of P as its order into what it lets stay, but what is in it, has all of P that there is. -/
theorem Grp.syl_end (G : Grp n f e) (hP : isPr P) (hs : Sub n f e s) {j : Nat} (hj : (mem n s).length = P ^ j) (h : ∀ a, a < n → nzr n f e s a = true → ∀ k, ord n f e a = P ^ k → s a = true) :
    ∃ t, n = P ^ j * t ∧ ¬ P ∣ t := by
  have hN := G.nzr_sub hs
  have hsN : ∀ a, a < n → s a = true → nzr n f e s a = true := fun a ha h => G.nzr_in hs ha h
  obtain ⟨i, m, hm1, hm2⟩ := split_pow hP.1 (hN.pos G.el)
  have hdv : (mem n s).length ∣ (mem n (nzr n f e s)).length := hs.dvd G fun a b ha hb h1 h2 => hN.mul a b ha hb h1 (hsN b hb h2)
  have hji : j ≤ i := by
    rw [hj, hm1] at hdv
    refine hP.le_of_dvd (Nat.Coprime.dvd_of_dvd_mul_right ?_ hdv)
    exact Nat.Coprime.pow_left _ (hP.cop hm2)
  have hij : i = j := by
    by_cases hlt : j < i
    · exfalso
      have h1 := G.sub_frob hN (m := P ^ i) ⟨m, hm1⟩
      have h2 : 0 < (mem n fun x => nzr n f e s x && decide (pw f e x (P ^ i) = e)).length := List.length_pos_of_mem (mem_mem.2 ⟨G.el, by
        rw [hN.one, G.pw_e]; simp⟩)
      have h3 := Nat.le_of_dvd h2 h1
      have h4 : P ^ j < P ^ i := Nat.pow_lt_pow_right hP.1 hlt
      have h5 : (mem n fun x => nzr n f e s x && decide (pw f e x (P ^ i) = e)).length ≤ (mem n s).length := by
        refine List.Nodup.length_le_of_subset (List.nodup_range.filter _) fun x hx => ?_
        obtain ⟨x1, x2⟩ := mem_mem.1 hx
        rw [Bool.and_eq_true, decide_eq_true_eq] at x2
        obtain ⟨k, _, hk⟩ := hP.pow_div ((G.pw_eq_one x1 _).1 x2.2)
        exact mem_mem.2 ⟨x1, h x x1 x2.1 k hk⟩
      omega
    · omega
  subst hij
  obtain ⟨c, hc⟩ := G.syl_count hP hs hj hs
  have he : (mem n fun a => decide (∀ y, y < n → shf n f e s a y = true → s y = true)) = mem n (nzr n f e s) := mem_congr fun a ha => by
    rw [Bool.eq_iff_iff, decide_eq_true_eq]
    exact ⟨fun h => G.nzr_of hs ha h, fun h y hy hh => by rw [← nzr_iff.1 h y hy]; exact hh⟩
  rw [he, hj, hm1] at hc
  refine ⟨m + P * c, ?_, fun hd => hm2 ((Nat.dvd_add_left (Nat.dvd_mul_right P c)).1 hd)⟩
  rw [Nat.mul_add]
  rw [show P * P ^ i * c = P ^ i * (P * c) by ac_rfl] at hc
  exact hc

/-- Some of Sylow's subgroups. -/
structure Syl (n : Nat) (f : Nat → Nat → Nat) (e P : Nat) (s : Nat → Bool) (j t : Nat) : Prop where
  sub : Sub n f e s
  len : (mem n s).length = P ^ j
  num : n = P ^ j * t
  non : ¬ P ∣ t

/-- ALL ARE IN ONE, CONJUGATED. -/
theorem Syl.holds {j t : Nat} (hS : Syl n f e P s j t) (G : Grp n f e) (hP : isPr P) (hq : Sub n f e q) {i : Nat} (hi : (mem n q).length = P ^ i) : ∃ a, a < n ∧ ∀ y, y < n → q y = true → shf n f e s a y = true := by
  obtain ⟨c, hc⟩ := G.syl_count hP hq hi hS.sub
  by_cases h0 : (mem n fun a => decide (∀ y, y < n → shf n f e q a y = true → s y = true)) = []
  · exfalso
    rw [h0, hS.len] at hc
    have h1 := hS.num
    rw [List.length_nil, Nat.zero_add] at hc
    have : P ^ j * t = P ^ j * (P * c) := by rw [← h1, ← show P * P ^ j * c = P ^ j * (P * c) by ac_rfl]; exact hc
    have := Nat.eq_of_mul_eq_mul_left (hP.pos j) this
    exact hS.non ⟨c, this⟩
  · obtain ⟨a, ha⟩ := List.exists_mem_of_ne_nil _ h0
    obtain ⟨a1, a2⟩ := mem_mem.1 ha
    rw [decide_eq_true_eq] at a2
    refine ⟨iv n f e a, G.iv_lt a1, fun y hy hqy => ?_⟩
    rw [G.shf_back (G.iv_lt a1) hy, G.iv_iv a1]
    exact a2 _ (G.cjr_lt hy a1) (shf_iff.2 ⟨y, hy, hqy, rfl⟩)

theorem Syl.shf {j t : Nat} (hS : Syl n f e P s j t) (G : Grp n f e) {a : Nat} (ha : a < n) : Syl n f e P (shf n f e s a) j t :=
  ⟨G.shf_sub hS.sub ha, by rw [G.shf_len ha]; exact hS.len, hS.num, hS.non⟩

/-- How many sets there are among the conjugated ones, as a list has them. -/
theorem Grp.conj_num (G : Grp n f e) (hs : Sub n f e s) {α : Type} [DecidableEq α] {code : (Nat → Bool) → α} (hcode : ∀ p q : Nat → Bool, code p = code q ↔ ∀ y, y < n → p y = q y) {L : List α} (hnd : L.Nodup)
    (hL : ∀ x, x ∈ L ↔ ∃ a, a < n ∧ x = code (Go.Proofs.YtjikchbmkodgfaaDoor.shf n f e s a)) : L.length * (mem n (nzr n f e s)).length = n := by
  have h := dbl (R := fun a x => decide (code (Go.Proofs.YtjikchbmkodgfaaDoor.shf n f e s a) = x)) (L1 := List.range n) (L2 := L) (c1 := 1) (c2 := (mem n (nzr n f e s)).length) (fun a ha => by
    have hm := (hL _).2 ⟨a, List.mem_range.1 ha, rfl⟩
    have : (L.filter fun w => decide (code (Go.Proofs.YtjikchbmkodgfaaDoor.shf n f e s a) = w)).length = [code (Go.Proofs.YtjikchbmkodgfaaDoor.shf n f e s a)].length := same_len (hnd.filter _) (by simp) fun x => by
      rw [List.mem_filter, List.mem_singleton, decide_eq_true_eq]
      exact ⟨fun h => h.2.symm, fun h => ⟨by rw [h]; exact hm, h.symm⟩⟩
    simpa using this) (fun x hx => by
    obtain ⟨a, ha, rfl⟩ := (hL x).1 hx
    have ia := G.iv_lt ha
    show (mem n fun b => decide (code (Go.Proofs.YtjikchbmkodgfaaDoor.shf n f e s b) = code (Go.Proofs.YtjikchbmkodgfaaDoor.shf n f e s a))).length = _
    refine mem_bij (fun b => f b (iv n f e a)) (fun b hb h => ⟨G.cl _ _ hb ia, ?_⟩) (fun x y hx hy _ _ h => G.cancel_r ia hx hy h) fun z hz h => ⟨f z a, G.cl _ _ hz ha, ?_, ?_⟩
    · rw [decide_eq_true_eq, hcode] at h
      refine nzr_iff.2 fun y hy => ?_
      have hba := G.cl _ _ hb ia
      rw [G.shf_back hba hy, G.iv_prod hb ia, G.iv_iv ha, ← G.cjr_cjr hy ha (G.iv_lt hb), ← G.shf_back (p := s) hb (G.cjr_lt hy ha), h _ (G.cjr_lt hy ha), G.shf_back ha (G.cjr_lt hy ha), G.cjr_iv hy ha]
    · rw [decide_eq_true_eq, hcode]
      intro y hy
      rw [G.shf_back (G.cl _ _ hz ha) hy, G.iv_prod hz ha, ← G.cjr_cjr hy ia (G.iv_lt hz), ← G.shf_back (p := s) hz (G.cjr_lt hy ia), nzr_iff.1 h _ (G.cjr_lt hy ia), ← G.shf_back (p := s) ha hy]
    · rw [G.assoc z a _ hz ha ia, G.mul_iv ha, G.one_r z hz])
  rw [List.length_range, Nat.mul_one] at h
  exact h.symm

end
end Go.Proofs.YtjikchbmkodgfaaDoor

/-
  Plain law: how one of Sylow's subgroups is grown. Conditions: none.
-/
set_option linter.all false
namespace Go.Proofs.YtjikchbmkodgfaaDoor
open Go.Pv

/-- What is left of a number, when P is divided out. -/
noncomputable def npt (P o : Nat) : Nat := @dite Nat (∃ s k, o = P ^ k * s ∧ ¬ P ∣ s) (Classical.propDecidable _) (fun h => Classical.choose h) (fun _ => 0)
theorem npt_ex {P o : Nat} (hP : 2 ≤ P) (ho : 0 < o) : ∃ k, o = P ^ k * npt P o ∧ ¬ P ∣ npt P o := by
  obtain ⟨k, s, h1, h2⟩ := split_pow hP ho
  have h : ∃ s k, o = P ^ k * s ∧ ¬ P ∣ s := ⟨s, k, h1, h2⟩
  have e : npt P o = Classical.choose h := by unfold npt; rw [dif_pos h]
  rw [e]
  exact Classical.choose_spec h
theorem npt_pow {P k : Nat} (hP : isPr P) : npt P (P ^ k) = 1 := by
  obtain ⟨j, h1, h2⟩ := npt_ex hP.1 (hP.pos k)
  obtain ⟨i, _, hi⟩ := hP.pow_div (k := k) (d := npt P (P ^ k)) ⟨P ^ j, by rw [Nat.mul_comm]; exact h1⟩
  cases i with
  | zero => simpa using hi
  | succ i => exact absurd (hi ▸ ⟨P ^ i, by rw [Nat.pow_succ, Nat.mul_comm]⟩) h2

noncomputable def gn (n : Nat) (f : Nat → Nat → Nat) (e : Nat) (p : Nat → Bool) : Nat → Bool := Classical.choose (gen_ex n f e p)
theorem gn_iff {n : Nat} {f : Nat → Nat → Nat} {e : Nat} (p : Nat → Bool) : ∀ a, a < n → (gn n f e p a = true ↔ Gen n f e p a) := Classical.choose_spec (gen_ex n f e p)

section
variable {n : Nat} {f : Nat → Nat → Nat} {e : Nat} {p q s : Nat → Bool} {P : Nat}

theorem Grp.ord_part (G : Grp n f e) {a k m : Nat} (ha : a < n) (hm : 0 < m) (h : ord n f e a = P ^ k * m) : ord n f e (pw f e a m) = P ^ k :=
  G.ord_eq (G.pw_lt ha m) fun j => by
    rw [← G.pw_mul ha, G.pw_eq_one ha, h, Nat.mul_comm (P ^ k)]
    exact Nat.mul_dvd_mul_iff_left hm

noncomputable def swb (n : Nat) (f : Nat → Nat → Nat) (e P a : Nat) : Nat := pw f e a (npt P (ord n f e a))
/-- Something that lets the subgroup stay, whose part of a power of P is not in it. -/
noncomputable def swc (n : Nat) (f : Nat → Nat → Nat) (e P : Nat) (s : Nat → Bool) (a : Nat) : Bool := !(s a || !(nzr n f e s a)) && !(s (swb n f e P a))
noncomputable def sws (n : Nat) (f : Nat → Nat → Nat) (e P : Nat) (s : Nat → Bool) : Nat → Bool :=
  match fst' (swc n f e P s) n with
  | some a => gn n f e fun x => s x || decide (x = swb n f e P a)
  | none => s
noncomputable def swq (n : Nat) (f : Nat → Nat → Nat) (e P : Nat) : Nat → Nat → Bool
  | 0 => onp e
  | k + 1 => sws n f e P (swq n f e P k)

theorem Grp.swb_ord (G : Grp n f e) (hP : isPr P) {a : Nat} (ha : a < n) : ∃ k, ord n f e (swb n f e P a) = P ^ k := by
  obtain ⟨k, h1, h2⟩ := npt_ex hP.1 (G.ord_pos ha)
  refine ⟨k, G.ord_part ha ?_ h1⟩
  rcases Nat.eq_zero_or_pos (npt P (ord n f e a)) with h | h
  · exact absurd (h ▸ Nat.dvd_zero P) h2
  · exact h
theorem Grp.swb_lt (G : Grp n f e) {a : Nat} (ha : a < n) : swb n f e P a < n := G.pw_lt ha _

theorem Grp.swq_ok (G : Grp n f e) (hP : isPr P) : ∀ k, Sub n f e (swq n f e P k) ∧ ∃ j, (mem n (swq n f e P k)).length = P ^ j
  | 0 => ⟨G.onp_sub, 0, by rw [Nat.pow_zero]; exact mem_one G.el fun a _ => onp_iff⟩
  | k + 1 => by
    obtain ⟨h1, j, h2⟩ := G.swq_ok hP k
    show Sub n f e (sws n f e P (swq n f e P k)) ∧ ∃ j, (mem n (sws n f e P (swq n f e P k))).length = P ^ j
    unfold sws
    cases hf : fst' (swc n f e P (swq n f e P k)) n with
    | none => exact ⟨h1, j, h2⟩
    | some a =>
      obtain ⟨a1, a2, _⟩ := fst_spec hf
      unfold swc at a2
      simp only [Bool.and_eq_true, Bool.not_eq_true', Bool.or_eq_false_iff, Bool.not_eq_false'] at a2
      obtain ⟨⟨c1, c2⟩, c3⟩ := a2
      obtain ⟨i, hi⟩ := G.swb_ord hP a1
      have hN := G.nzr_sub h1
      have hz : nzr n f e (swq n f e P k) (swb n f e P a) = true := G.cyp_in a1 hN c2 (G.cyp_of a1 _)
      exact ⟨gen_sub G (gn_iff _), G.syl_grow hP h1 h2 (G.swb_lt a1) hz hi (gn_iff _)⟩

theorem Grp.swq_grow (G : Grp n f e) {k : Nat} (h : ¬ fst' (swc n f e P (swq n f e P k)) n = none) : (mem n (swq n f e P k)).length < (mem n (swq n f e P (k + 1))).length := by
  show _ < (mem n (sws n f e P (swq n f e P k))).length
  unfold sws
  cases hf : fst' (swc n f e P (swq n f e P k)) n with
  | none => exact absurd hf h
  | some a =>
    obtain ⟨a1, a2, _⟩ := fst_spec hf
    unfold swc at a2
    simp only [Bool.and_eq_true, Bool.not_eq_true'] at a2
    refine mem_lt (fun x hx hh => (gn_iff _ x hx).2 (Gen.mem G hx (by simp [hh]))) fun hh => ?_
    have h1 := hh _ (G.swb_lt (P := P) a1)
    rw [a2.2] at h1
    have h2 := (gn_iff (n := n) (f := f) (e := e) (fun x => swq n f e P k x || decide (x = swb n f e P a)) _ (G.swb_lt (P := P) a1)).2 (Gen.mem G (G.swb_lt a1) (by simp))
    exact absurd (h1.trans h2) (by simp)

theorem least_nat {p : Nat → Prop} (h : ∃ k, p k) : ∃ k, p k ∧ ∀ j, j < k → ¬ p j := by
  obtain ⟨k, hk⟩ := h
  induction k using Nat.strongRecOn with
  | _ k ih =>
    by_cases hh : ∃ j, j < k ∧ p j
    · obtain ⟨j, h1, h2⟩ := hh; exact ih j h1 h2
    · exact ⟨k, hk, fun j hj hp => hh ⟨j, hj, hp⟩⟩
theorem Grp.swq_stop (G : Grp n f e) : ∃ K, fst' (swc n f e P (swq n f e P K)) n = none ∧ ∀ k, k < K → ¬ fst' (swc n f e P (swq n f e P k)) n = none := by
  refine least_nat (p := fun K => fst' (swc n f e P (swq n f e P K)) n = none) (Classical.byContradiction fun hh => ?_)
  have h1 : ∀ k, k ≤ (mem n (swq n f e P k)).length := by
    intro k
    induction k with
    | zero => omega
    | succ k ih =>
      have := G.swq_grow (P := P) (k := k) fun h => hh ⟨k, h⟩
      omega
  have h2 := h1 (n + 1)
  have h3 : (mem n (swq n f e P (n + 1))).length ≤ n := Nat.le_trans (List.length_filter_le _ _) (Nat.le_of_eq List.length_range)
  omega
theorem Grp.swq_syl (G : Grp n f e) (hP : isPr P) {K : Nat} (h : fst' (swc n f e P (swq n f e P K)) n = none) : ∃ j t, Syl n f e P (swq n f e P K) j t := by
  obtain ⟨h1, j, h2⟩ := G.swq_ok hP K
  obtain ⟨t, h3, h4⟩ := G.syl_end hP h1 h2 fun a ha hz k hk => by
    have h3 := fst_spec0 h a ha
    unfold swc swb at h3
    rw [hk, npt_pow hP, G.pw_one ha, hz] at h3
    cases hs : swq n f e P K a with
    | true => rfl
    | false => rw [hs] at h3; simp at h3
  exact ⟨j, t, h1, h2, h3, h4⟩
end
end Go.Proofs.YtjikchbmkodgfaaDoor

/-
  Operations that are the same on a group's things: inverses, conjugates, what is made. Conditions: none.
-/
set_option linter.all false
namespace Go.Proofs.YtjikchbmkodgfaaDoor
open Go.Pv

section
variable {n e : Nat} {f g : Nat → Nat → Nat} {p : Nat → Bool}

theorem iv_cong (G : Grp n f e) (h : ∀ a b, a < n → b < n → g a b = f a b) {a : Nat} (ha : a < n) : iv n g e a = iv n f e a := by
  have G' := G.cong' h
  refine (G'.iv_unique ha (G.iv_lt ha) (.inl ?_)).symm
  rw [h _ _ ha (G.iv_lt ha), G.mul_iv ha]
theorem cjr_cong (G : Grp n f e) (h : ∀ a b, a < n → b < n → g a b = f a b) {x a : Nat} (hx : x < n) (ha : a < n) : cjr n g e x a = cjr n f e x a := by
  unfold cjr
  rw [iv_cong G h ha, h _ _ (G.iv_lt ha) hx, h _ _ (G.cl _ _ (G.iv_lt ha) hx) ha]
theorem Gen.cong_op (G : Grp n f e) (h : ∀ a b, a < n → b < n → g a b = f a b) {a : Nat} (hg : Gen n g e p a) : Gen n f e p a := by
  have G' := G.cong' h
  induction hg with
  | one => exact .one
  | step a b ha hb hp ih => rw [h a b (ih.lt G) hb]; exact .step a b ih hb hp
theorem Sub.cong_op (G : Grp n f e) (h : ∀ a b, a < n → b < n → g a b = f a b) (hs : Sub n g e p) : Sub n f e p :=
  sub_of G hs.one fun a b ha hb h1 h2 => by rw [← h a b ha hb]; exact hs.mul a b ha hb h1 h2
theorem Nml.cong_op (G : Grp n f e) (h : ∀ a b, a < n → b < n → g a b = f a b) (hs : Nml n g e p) : Nml n f e p := fun a ha x hx hp => by
  rw [← cjr_cong G h hx ha]; exact hs a ha x hx hp
end
end Go.Proofs.YtjikchbmkodgfaaDoor

/-
  Plain law, FRATTINI'S ARGUMENT. Conditions: none.
-/
set_option linter.all false
namespace Go.Proofs.YtjikchbmkodgfaaDoor
open Go.Pv

section
variable {n e P : Nat} {f : Nat → Nat → Nat} {q s : Nat → Bool}

theorem Syl.cong {f g : Nat → Nat → Nat} {j t : Nat} (hY : Syl n g e P s j t) (G : Grp n f e) (h : ∀ a b, a < n → b < n → g a b = f a b) : Syl n f e P s j t :=
  ⟨hY.sub.cong_op G h, hY.len, hY.num, hY.non⟩

/-- A part's set, as a set of the whole. -/
def upt (q s : Nat → Bool) (y : Nat) : Bool := q y && s (pix q y)
end
end Go.Proofs.YtjikchbmkodgfaaDoor

/-
  Nilpotent groups; classes of a quotient; the quotient by commutators. Conditions: none.
-/
set_option linter.all false
namespace Go.Proofs.YtjikchbmkodgfaaDoor
open Go.Pv

section
variable {n : Nat} {f : Nat → Nat → Nat} {e : Nat}
/-! ### Classes of a quotient -/

theorem lead_le {k : Nat} {r1 r2 : Nat → Nat → Bool} (E1 : Eqv n r1) (E2 : Eqv k r2) (rep : Nat → Nat) (hr : ∀ i, i < k → rep i < n) (h : ∀ i j, i < k → j < k → r1 (rep i) (rep j) = true → r2 i j = true) : (mem k (lead r2)).length ≤ (mem n (lead r1)).length := by
  have hex : ∀ i, ∃ x, i < k → x < n ∧ lead r1 x = true ∧ r1 x (rep i) = true := fun i => by
    by_cases hi : i < k
    · obtain ⟨x, h1, h2, h3⟩ := E1.least (hr i hi)
      exact ⟨x, fun _ => ⟨h1, h2, h3⟩⟩
    · exact ⟨0, fun h => absurd h hi⟩
  obtain ⟨g, hg⟩ := Classical.axiomOfChoice hex
  rw [← List.length_map (f := g) («as» := mem k (lead r2))]
  refine List.Nodup.length_le_of_subset (nodup_map (List.nodup_range.filter _) fun i hi j hj he => ?_) fun x hx => ?_
  · obtain ⟨i1, i2⟩ := mem_mem.1 hi
    obtain ⟨j1, j2⟩ := mem_mem.1 hj
    obtain ⟨a1, a2, a3⟩ := hg i i1
    obtain ⟨b1, b2, b3⟩ := hg j j1
    rw [← he] at b3
    exact E2.lead_eq i1 j1 i2 j2 (h i j i1 j1 (E1.trans _ _ _ (hr i i1) a1 (hr j j1) (E1.symm _ _ a1 (hr i i1) a3) b3))
  · obtain ⟨i, hi, rfl⟩ := List.mem_map.1 hx
    obtain ⟨i1, i2⟩ := mem_mem.1 hi
    exact mem_mem.2 ⟨(hg i i1).1, (hg i i1).2.1⟩
theorem Qm.iv {k : Nat} {cl rep : Nat → Nat} (Q : Qm n f k cl rep) (G : Grp n f e) {a : Nat} (ha : a < n) : iv k (qop f cl rep) (cl e) (cl a) = cl (Go.Proofs.YtjikchbmkodgfaaDoor.iv n f e a) :=
  ((Q.grp G).iv_unique (Q.lt a ha) (Q.lt _ (G.iv_lt ha)) (.inl (by rw [Q.op ha (G.iv_lt ha), G.mul_iv ha]))).symm
theorem Qm.cjb {k : Nat} {cl rep : Nat → Nat} (Q : Qm n f k cl rep) (G : Grp n f e) {x y : Nat} (hx : x < n) (hy : y < n) (h : cjb n f e x y = true) : cjb k (qop f cl rep) (cl e) (cl x) (cl y) = true := by
  obtain ⟨a, ha, rfl⟩ := cjb_iff.1 h
  have ia := G.iv_lt ha
  refine cjb_iff.2 ⟨cl a, Q.lt a ha, ?_⟩
  rw [Q.iv G ha, Q.op ia hx, Q.op (G.cl _ _ ia hx) ha]
/-- A quotient has no more classes. -/
theorem Qm.classes {k : Nat} {cl rep : Nat → Nat} (Q : Qm n f k cl rep) (G : Grp n f e) : (mem k (lead (Go.Proofs.YtjikchbmkodgfaaDoor.cjb k (qop f cl rep) (cl e)))).length ≤ (mem n (lead (Go.Proofs.YtjikchbmkodgfaaDoor.cjb n f e))).length :=
  lead_le G.cjb_eqv (Q.grp G).cjb_eqv rep Q.rlt fun i j hi hj h => by
    have := Q.cjb G (Q.rlt i hi) (Q.rlt j hj) h
    rwa [Q.at_ i hi, Q.at_ j hj] at this
end
end Go.Proofs.YtjikchbmkodgfaaDoor

/-
  Series of subgroups, as the program has them. Conditions: none.
-/
set_option linter.all false
namespace Go.Proofs.YtjikchbmkodgfaaDoor
open Go.Pv

/-- A series, as lists, up to the one at K. -/
def cht (n : Nat) (T : Nat → Nat → Bool) (K : Nat) : List (List Int) := (List.range (K + 1)).map fun k => thl n (T k)
theorem Stp.at {n : Nat} {T : Nat → Nat → Bool} {K k : Nat} (h : Stp n T K) (hk : k ≤ K) : bo n (T (k + 1)) = bo n (T k) ↔ k = K := by
  constructor
  · intro he
    rcases Nat.lt_or_eq_of_le hk with h1 | h1
    · exact absurd (fun a ha => bo_inj he ha) (h.ne k h1)
    · exact h1
  · rintro rfl
    exact bo_congr h.eq
/-! ### Derived, Lower -/

section
variable {n e : Nat} {m : List Int}
end
/-! ### Upper -/

/-- Of what is below a: what commutes with all, up to a set. -/
def upl (n : Nat) (f : Nat → Nat → Nat) (e : Nat) (p : Nat → Bool) (a x : Nat) : Bool := decide (x < a) && unx n f e p x
/-! ### An example of the document -/

end Go.Proofs.YtjikchbmkodgfaaDoor

/-
  Plain law: nilpotent is just where all of Sylow's subgroups are normal; both central series are as long. Conditions: none.
-/
set_option linter.all false
namespace Go.Proofs.YtjikchbmkodgfaaDoor
open Go.Pv

section
variable {n e P : Nat} {f : Nat → Nat → Nat} {p q s : Nat → Bool}

/-! ### Both series -/
section
variable {nl : (Nat → Bool) → Nat → Bool}
end

/-! ### Sylow's subgroups of what is nilpotent -/
theorem Syl.pow_le {j t i : Nat} (hY : Syl n f e P s j t) (hP : isPr P) (h : P ^ i ∣ n) : i ≤ j := by
  rw [hY.num] at h
  exact hP.le_of_dvd (Nat.Coprime.dvd_of_dvd_mul_right (Nat.Coprime.pow_left _ (hP.cop hY.non)) h)
/-! ### A group of a power of P things, and a normal subgroup that is not all -/
/-! ### Where all of Sylow's subgroups are normal -/
/-- What commutes with a thing, up to a normal subgroup. -/
def ctz (n : Nat) (f : Nat → Nat → Nat) (e : Nat) (z : Nat → Bool) (x y : Nat) : Bool := z (cmt n f e x y)
end
end Go.Proofs.YtjikchbmkodgfaaDoor

/-
  How many bits are set: by sums of neighbours. Conditions: none.
-/
set_option linter.all false
namespace Go.Proofs.YtjikchbmkodgfaaDoor
open Go.Pv

theorem land_byte {a c : Nat} (u v : Nat) (ha : a < 256) (hc : c < 256) : (a + 256 * u) &&& (c + 256 * v) = (a &&& c) + 256 * (u &&& v) := by
  have e : ∀ b w : Nat, b + 256 * w = 2 ^ 8 * w + b := fun b w => by omega
  refine Nat.eq_of_testBit_eq fun i => ?_
  have hac : a &&& c < 2 ^ 8 := Nat.lt_of_le_of_lt Nat.and_le_left ha
  rw [e, e, e, Nat.testBit_and, Nat.testBit_two_pow_mul_add _ (show a < 2 ^ 8 from ha), Nat.testBit_two_pow_mul_add _ (show c < 2 ^ 8 from hc), Nat.testBit_two_pow_mul_add _ hac]
  by_cases hi : i < 8
  · rw [if_pos hi, if_pos hi, if_pos hi, Nat.testBit_and]
  · rw [if_neg hi, if_neg hi, if_neg hi, Nat.testBit_and]
def msk8 (c : Nat) : Nat → Nat
  | 0 => 0
  | k + 1 => c + 256 * msk8 c k
def p1 (M x : Nat) : Nat := (x / 2 &&& M) + (x &&& M)
def p2 (M x : Nat) : Nat := (x / 4 &&& M) + (x &&& M)
def p3 (M x : Nat) : Nat := (x / 16 + x) &&& M
theorem p1_step {a : Nat} (ha : a < 256) (u M : Nat) : p1 (85 + 256 * M) (a + 256 * u) = p1 85 a + 256 * p1 M u := by
  have h : ∀ a, a < 256 → ∀ r, r < 2 → (a / 2 + 128 * r) &&& 85 = a / 2 &&& 85 := by decide +kernel
  have e : (a + 256 * u) / 2 = (a / 2 + 128 * (u % 2)) + 256 * (u / 2) := by omega
  unfold p1
  rw [e, land_byte _ _ (by omega) (by omega), land_byte _ _ ha (by omega), h a ha _ (by omega)]
  omega
theorem p2_step {a : Nat} (ha : a < 256) (u M : Nat) : p2 (51 + 256 * M) (a + 256 * u) = p2 51 a + 256 * p2 M u := by
  have h : ∀ a, a < 256 → ∀ r, r < 4 → (a / 4 + 64 * r) &&& 51 = a / 4 &&& 51 := by decide +kernel
  have e : (a + 256 * u) / 4 = (a / 4 + 64 * (u % 4)) + 256 * (u / 4) := by omega
  unfold p2
  rw [e, land_byte _ _ (by omega) (by omega), land_byte _ _ ha (by omega), h a ha _ (by omega)]
  omega
theorem p3_step {a : Nat} (ha : a % 16 ≤ 4 ∧ a / 16 ≤ 4) (u M : Nat) (hu : u % 16 ≤ 4) : p3 (15 + 256 * M) (a + 256 * u) = p3 15 a + 256 * p3 M u := by
  have e : (a + 256 * u) / 16 + (a + 256 * u) = (a / 16 + 16 * (u % 16) + a) + 256 * (u / 16 + u) := by omega
  have m15 : ∀ z, z &&& 15 = z % 16 := fun z => Nat.and_two_pow_sub_one_eq_mod z 4
  unfold p3
  rw [e, land_byte _ _ (by omega) (by omega), m15, m15]
  have : (a / 16 + 16 * (u % 16) + a) % 16 = (a / 16 + a) % 16 := by omega
  rw [this]
def pT (k x : Nat) : Nat := p3 (msk8 15 k) (p2 (msk8 51 k) (p1 (msk8 85 k) x))
def pM (k x : Nat) : Nat := p2 (msk8 51 k) (p1 (msk8 85 k) x)
theorem p1_small : ∀ a, a < 256 → p1 85 a < 256 := by decide +kernel
theorem p2_small : ∀ a, a < 256 → p2 51 (p1 85 a) % 16 ≤ 4 ∧ p2 51 (p1 85 a) / 16 ≤ 4 := by decide +kernel
def cnt (k x : Nat) : Nat := ((List.range k).filter x.testBit).length
theorem p_byte : ∀ a, a < 256 → p3 15 (p2 51 (p1 85 a)) = cnt 8 a := by decide +kernel
theorem cnt_le (k x : Nat) : cnt k x ≤ k := by
  have := List.length_filter_le x.testBit (List.range k)
  simpa [cnt] using this
theorem pM_step {a : Nat} (ha : a < 256) (k u : Nat) : pM (k + 1) (a + 256 * u) = p2 51 (p1 85 a) + 256 * pM k u := by
  show p2 (51 + 256 * msk8 51 k) (p1 (85 + 256 * msk8 85 k) (a + 256 * u)) = _
  rw [p1_step ha, p2_step (p1_small a ha)]; rfl
theorem pM_low : ∀ (k u : Nat), pM k u % 16 ≤ 4
  | 0, u => by simp [pM, msk8, p2]
  | k + 1, u => by
    have := pM_step (a := u % 256) (Nat.mod_lt _ (by omega)) k (u / 256)
    rw [show u % 256 + 256 * (u / 256) = u by omega] at this
    rw [this]
    have := p2_small (u % 256) (Nat.mod_lt _ (by omega))
    omega
theorem pT_step (k x : Nat) : pT (k + 1) x = cnt 8 (x % 256) + 256 * pT k (x / 256) := by
  have ha : x % 256 < 256 := Nat.mod_lt _ (by omega)
  have := pM_step ha k (x / 256)
  rw [show x % 256 + 256 * (x / 256) = x by omega] at this
  show p3 (15 + 256 * msk8 15 k) (pM (k + 1) x) = _
  rw [this, p3_step (p2_small _ ha) _ _ (pM_low _ _), p_byte _ ha]; rfl
theorem cnt_step (k x : Nat) : cnt (8 + k) x = cnt 8 (x % 256) + cnt k (x / 256) := by
  unfold cnt
  rw [List.range_add, List.filter_append, List.length_append]
  congr 1
  · congr 1
    refine List.filter_congr fun i hi => ?_
    have hi : i < 8 := List.mem_range.1 hi
    show x.testBit i = (x % 2 ^ 8).testBit i
    rw [Nat.testBit_mod_two_pow]; simp [hi]
  · rw [List.filter_map, List.length_map]
    congr 1
    refine List.filter_congr fun i _ => ?_
    show x.testBit (8 + i) = (x / 2 ^ 8).testBit i
    rw [Nat.testBit_div_two_pow, Nat.add_comm]
theorem pT0 (x : Nat) : pT 0 x = 0 := by simp [pT, msk8, p3]
def pcf (x : Nat) : Nat :=
  let y := pT 8 x
  let y4 := y + y / 256
  let y5 := y4 + y4 / 65536
  let y6 := y5 + y5 / 4294967296
  y6 % 128
theorem dv {a B q : Nat} (h : a < B) : (a + B * q) / B = q := by
  rw [Nat.add_mul_div_left _ _ (Nat.lt_of_le_of_lt (Nat.zero_le _) h), Nat.div_eq_of_lt h, Nat.zero_add]
theorem l3 {E0 E1 E2 E3 : Nat} (h0 : E0 ≤ 5000) (h1 : E1 ≤ 5000) (h2 : E2 ≤ 5000) (h3 : E3 ≤ 5000) :
    let y4 := E0 + 65536 * (E1 + 65536 * (E2 + 65536 * E3))
    let y5 := y4 + y4 / 65536
    (y5 + y5 / 4294967296) % 128 = (E0 + E1 + E2 + E3) % 128 := by
  intro y4 y5
  have a1 : y4 / 65536 = E1 + 65536 * (E2 + 65536 * E3) := dv (by omega)
  have a2 : y5 = ((E0 + E1) + 65536 * (E1 + E2)) + 4294967296 * ((E2 + E3) + 65536 * E3) := by
    show y4 + y4 / 65536 = _
    rw [a1]; show E0 + 65536 * (E1 + 65536 * (E2 + 65536 * E3)) + _ = _
    omega
  have a3 : y5 / 4294967296 = (E2 + E3) + 65536 * E3 := by rw [a2]; exact dv (by omega)
  rw [a3, a2]
  omega
theorem l1 {d0 d1 d2 d3 d4 d5 d6 d7 : Nat} : d0 + 256 * (d1 + 256 * (d2 + 256 * (d3 + 256 * (d4 + 256 * (d5 + 256 * (d6 + 256 * d7)))))) + (d1 + 256 * (d2 + 256 * (d3 + 256 * (d4 + 256 * (d5 + 256 * (d6 + 256 * d7)))))) =
    (d0 + d1 + 256 * (d1 + d2)) + 65536 * ((d2 + d3 + 256 * (d3 + d4)) + 65536 * ((d4 + d5 + 256 * (d5 + d6)) + 65536 * (d6 + d7 + 256 * d7))) := by
  omega

theorem pcf_eq (x : Nat) (hx : x < 2 ^ 64) : pcf x = cnt 64 x := by
  have c0 : ∀ u, cnt 0 u = 0 := fun u => rfl
  have e : cnt 64 x = cnt (8 + (8 + (8 + (8 + (8 + (8 + (8 + (8 + 0)))))))) x := rfl
  have e2 : pT 8 x = pT (0 + 1 + 1 + 1 + 1 + 1 + 1 + 1 + 1) x := rfl
  have key : ∀ d0 d1 d2 d3 d4 d5 d6 d7 : Nat, d0 ≤ 8 → d1 ≤ 8 → d2 ≤ 8 → d3 ≤ 8 → d4 ≤ 8 → d5 ≤ 8 → d6 ≤ 8 → d7 ≤ 8 → ∀ Y, Y = d0 + 256 * (d1 + 256 * (d2 + 256 * (d3 + 256 * (d4 + 256 * (d5 + 256 * (d6 + 256 * d7)))))) →
      ((Y + Y / 256 + (Y + Y / 256) / 65536) + (Y + Y / 256 + (Y + Y / 256) / 65536) / 4294967296) % 128 = d0 + (d1 + (d2 + (d3 + (d4 + (d5 + (d6 + d7)))))) := by
    intro d0 d1 d2 d3 d4 d5 d6 d7 b0 b1 b2 b3 b4 b5 b6 b7 Y hY
    have a1 : Y / 256 = d1 + 256 * (d2 + 256 * (d3 + 256 * (d4 + 256 * (d5 + 256 * (d6 + 256 * d7))))) := by rw [hY]; exact dv (by omega)
    rw [a1, hY, l1]
    have := l3 (E0 := d0 + d1 + 256 * (d1 + d2)) (E1 := d2 + d3 + 256 * (d3 + d4)) (E2 := d4 + d5 + 256 * (d5 + d6)) (E3 := d6 + d7 + 256 * d7) (by omega) (by omega) (by omega) (by omega)
    simp only at this
    rw [this]
    omega
  unfold pcf
  rw [e, e2]
  simp only [cnt_step, c0, pT_step, pT0]
  refine (key _ _ _ _ _ _ _ _ (cnt_le _ _) (cnt_le _ _) (cnt_le _ _) (cnt_le _ _) (cnt_le _ _) (cnt_le _ _) (cnt_le _ _) (cnt_le _ _) _ rfl).trans ?_
  rw [Nat.add_zero]

end Go.Proofs.YtjikchbmkodgfaaDoor

/-
  How many bits are set; lists compared. Conditions: none.
-/
set_option linter.all false
namespace Go.Proofs.YtjikchbmkodgfaaDoor
open Go.Pv

theorem add_u (a b : Int) : binInt .add .u64 a b = (True, .int .u64 (IntKind.u64.wrap (a + b))) := rfl
theorem wadd_u {a b : Nat} (h : a + b < 2 ^ 64) : IntKind.u64.wrap ((a : Int) + (b : Int)) = ((a + b : Nat) : Int) := by
  rw [← Int.natCast_add]; exact wrap_n h
theorem cnv_i {a : Nat} (ha : a < 2 ^ 63) : IntKind.i64.wrap (a : Int) = (a : Int) := by
  simp only [IntKind.wrap, IntKind.bits, IntKind.signed]
  simp [Int.bmod]
  omega
theorem bv_and7 {a : Nat} (ha : a < 2 ^ 63) : bitsV (fun _ x y => x &&& y) .i64 (a : Int) 127 = .int .i64 ((a &&& 127 : Nat) : Int) := by
  have h1 : (BitVec.ofInt 64 (127 : Int)).toNat = 127 := by decide
  have h2 : a &&& 127 ≤ a := Nat.and_le_left
  show PV.int .i64 (IntKind.i64.wrap ((BitVec.ofInt 64 (a : Int) &&& BitVec.ofInt 64 (127 : Int)).toNat : Int)) = _
  rw [BitVec.toNat_and, ofInt_n (by omega), h1, cnv_i (by omega)]

theorem ones_c (x : Nat) (hx : x < 2 ^ 64) : FnC Tryd.prog 110 [.int .u64 x] (.int .i64 (cnt 64 x)) := by
  have m1 : msk8 85 8 = 6148914691236517205 := rfl
  have m2 : msk8 51 8 = 3689348814741910323 := rfl
  have m3 : msk8 15 8 = 1085102592571150095 := rfl
  have b1 : p1 6148914691236517205 x < 2 ^ 64 := by
    have h1 : x / 2 &&& 6148914691236517205 ≤ 6148914691236517205 := Nat.and_le_right
    have h2 : x &&& 6148914691236517205 ≤ 6148914691236517205 := Nat.and_le_right
    unfold p1; omega
  have e1 : p1 6148914691236517205 x = (x / 2 &&& 6148914691236517205) + (x &&& 6148914691236517205) := rfl
  have s1 : (x : Int).fdiv (2 ^ (min 1 IntKind.u64.bits)) = ((x / 2 : Nat) : Int) := shr_n (a := x) (b := 1) (by omega)
  have a1 : bitsV (fun _ x y => x &&& y) .u64 ((x / 2 : Nat) : Int) 6148914691236517205 = .int .u64 ((x / 2 &&& 6148914691236517205 : Nat) : Int) := bv_and (b := 6148914691236517205) (by omega) (by decide)
  have a2 : bitsV (fun _ x y => x &&& y) .u64 (x : Int) 6148914691236517205 = .int .u64 ((x &&& 6148914691236517205 : Nat) : Int) := bv_and (b := 6148914691236517205) (by omega) (by decide)
  have w1 := wadd_u (by rw [← e1]; exact b1 : (x / 2 &&& 6148914691236517205) + (x &&& 6148914691236517205) < 2 ^ 64)
  rw [← e1] at w1
  generalize hy1 : p1 6148914691236517205 x = y1 at *
  have b2 : p2 3689348814741910323 y1 ≤ 7378697629483820646 := by
    have h1 : y1 / 4 &&& 3689348814741910323 ≤ 3689348814741910323 := Nat.and_le_right
    have h2 : y1 &&& 3689348814741910323 ≤ 3689348814741910323 := Nat.and_le_right
    unfold p2; omega
  have e2 : p2 3689348814741910323 y1 = (y1 / 4 &&& 3689348814741910323) + (y1 &&& 3689348814741910323) := rfl
  have s2 : (y1 : Int).fdiv (2 ^ (min 2 IntKind.u64.bits)) = ((y1 / 4 : Nat) : Int) := shr_n (a := y1) (b := 2) (by omega)
  have a3 : bitsV (fun _ x y => x &&& y) .u64 ((y1 / 4 : Nat) : Int) 3689348814741910323 = .int .u64 ((y1 / 4 &&& 3689348814741910323 : Nat) : Int) := bv_and (b := 3689348814741910323) (by omega) (by decide)
  have a4 : bitsV (fun _ x y => x &&& y) .u64 (y1 : Int) 3689348814741910323 = .int .u64 ((y1 &&& 3689348814741910323 : Nat) : Int) := bv_and (b := 3689348814741910323) (by omega) (by decide)
  have w2 := wadd_u (by rw [← e2]; omega : (y1 / 4 &&& 3689348814741910323) + (y1 &&& 3689348814741910323) < 2 ^ 64)
  rw [← e2] at w2
  generalize hy2 : p2 3689348814741910323 y1 = y2 at *
  have s3 : (y2 : Int).fdiv (2 ^ (min 4 IntKind.u64.bits)) = ((y2 / 16 : Nat) : Int) := shr_n (a := y2) (b := 4) (by omega)
  have w3 := wadd_u (show y2 / 16 + y2 < 2 ^ 64 by omega)
  have a5 : bitsV (fun _ x y => x &&& y) .u64 ((y2 / 16 + y2 : Nat) : Int) 1085102592571150095 = .int .u64 ((y2 / 16 + y2 &&& 1085102592571150095 : Nat) : Int) := bv_and (b := 1085102592571150095) (by omega) (by decide)
  have b3 : y2 / 16 + y2 &&& 1085102592571150095 ≤ 1085102592571150095 := Nat.and_le_right
  have hy3 : y2 / 16 + y2 &&& 1085102592571150095 = pT 8 x := by rw [← hy2, ← hy1]; rfl
  rw [hy3] at a5 b3
  generalize hy : pT 8 x = y at *
  have s4 : (y : Int).fdiv (2 ^ (min 8 IntKind.u64.bits)) = ((y / 256 : Nat) : Int) := shr_n (a := y) (b := 8) (by omega)
  have w4 := wadd_u (show y + y / 256 < 2 ^ 64 by omega)
  have s5 : ((y + y / 256 : Nat) : Int).fdiv (2 ^ (min 16 IntKind.u64.bits)) = (((y + y / 256) / 65536 : Nat) : Int) := shr_n (a := y + y / 256) (b := 16) (by omega)
  have w5 := wadd_u (show (y + y / 256) + (y + y / 256) / 65536 < 2 ^ 64 by omega)
  have s6 : (((y + y / 256) + (y + y / 256) / 65536 : Nat) : Int).fdiv (2 ^ (min 32 IntKind.u64.bits)) = ((((y + y / 256) + (y + y / 256) / 65536) / 4294967296 : Nat) : Int) := shr_n (a := (y + y / 256) + (y + y / 256) / 65536) (b := 32) (by omega)
  have w6 := wadd_u (show ((y + y / 256) + (y + y / 256) / 65536) + ((y + y / 256) + (y + y / 256) / 65536) / 4294967296 < 2 ^ 64 by omega)
  have hfin : ((y + y / 256) + (y + y / 256) / 65536) + ((y + y / 256) + (y + y / 256) / 65536) / 4294967296 < 2 ^ 63 := by omega
  have hres : (((y + y / 256) + (y + y / 256) / 65536) + ((y + y / 256) + (y + y / 256) / 65536) / 4294967296) &&& 127 = cnt 64 x := by
    rw [← pcf_eq x hx, ← hy]
    exact Nat.and_two_pow_sub_one_eq_mod _ 7
  refine fnc_of tab_ok Tryd.func110 rfl (by kernel_rfl) (by rw [Tryd.ntmps110]; exact Nat.le_add_left 1 _) ?_; rw [Tryd.ntmps110]
  refine qm ?_
  refine hk_region fun K hK => runs_eval tab_ok ?_
  simp only [ev0, evA, evB, evP, fl, gp, tab, simprocAttr, reduceCtorEq, reduceIte]
  refine fin_run trivial (hK _ ?_) <;> clear hK <;> clear K
  refine qa (qm ?_)
  refine hk_region fun K hK => runs_eval tab_ok ?_
  simp only [ev0, evA, evB, evP, fl, gp, tab, simprocAttr, reduceCtorEq, reduceIte, s1, a1, a2, add_u, w1]
  refine fin_run ?_ (hK _ ?_) <;> clear hK <;> clear K
  · (first | exact trivial | omega | (simp only [In64] at *; omega) | (simp [In64] at *; omega) | (simp_all; done) | skip)
  refine qa (qm ?_)
  refine hk_region fun K hK => runs_eval tab_ok ?_
  simp only [ev0, evA, evB, evP, fl, gp, tab, simprocAttr, reduceCtorEq, reduceIte, s2, a3, a4, add_u, w2]
  refine fin_run ?_ (hK _ ?_) <;> clear hK <;> clear K
  · (first | exact trivial | omega | (simp only [In64] at *; omega) | (simp [In64] at *; omega) | (simp_all; done) | skip)
  refine qa (qm ?_)
  refine hk_region fun K hK => runs_eval tab_ok ?_
  simp only [ev0, evA, evB, evP, fl, gp, tab, simprocAttr, reduceCtorEq, reduceIte, s3, add_u, w3, a5]
  refine fin_run ?_ (hK _ ?_) <;> clear hK <;> clear K
  · (first | exact trivial | omega | (simp only [In64] at *; omega) | (simp [In64] at *; omega) | (simp_all; done) | skip)
  refine qa (qm ?_)
  refine hk_region fun K hK => runs_eval tab_ok ?_
  simp only [ev0, evA, evB, evP, fl, gp, tab, simprocAttr, reduceCtorEq, reduceIte, s4, add_u, w4]
  refine fin_run ?_ (hK _ ?_) <;> clear hK <;> clear K
  · (first | exact trivial | omega | (simp only [In64] at *; omega) | (simp [In64] at *; omega) | (simp_all; done) | skip)
  refine qa (qm ?_)
  refine hk_region fun K hK => runs_eval tab_ok ?_
  simp only [ev0, evA, evB, evP, fl, gp, tab, simprocAttr, reduceCtorEq, reduceIte, s5, add_u, w5]
  refine fin_run ?_ (hK _ ?_) <;> clear hK <;> clear K
  · (first | exact trivial | omega | (simp only [In64] at *; omega) | (simp [In64] at *; omega) | (simp_all; done) | skip)
  refine qa (qm ?_)
  refine hk_region fun K hK => runs_eval tab_ok ?_
  simp only [ev0, evA, evB, evP, fl, gp, tab, simprocAttr, reduceCtorEq, reduceIte, s6, add_u, w6]
  refine fin_run ?_ (hK _ ?_) <;> clear hK <;> clear K
  · (first | exact trivial | omega | (simp only [In64] at *; omega) | (simp [In64] at *; omega) | (simp_all; done) | skip)
  refine qa (qm ?_)
  refine hk_region fun K hK => runs_eval tab_ok ?_
  simp only [ev0, evA, evB, evP, fl, gp, tab, simprocAttr, reduceCtorEq, reduceIte, cnv_i hfin, bv_and7 hfin, hres]
  refine fin_run ?_ (hK _ ?_) <;> clear hK <;> clear K
  · (first | exact trivial | omega | (simp only [In64] at *; omega) | (simp [In64] at *; omega) | (simp_all; done) | skip)
  refine qa (qk ?_)
  simp only [Tryd.results110, enA, ev0, evA, evB, evP, fl, gp, tab, simprocAttr, reduceCtorEq, reduceIte]
  all_goals ((first | exact rfl | exact ⟨rfl, rfl⟩ | exact ⟨rfl, rfl, rfl⟩ | exact ⟨trivial, rfl⟩ | exact ⟨Nat.le_refl _, rfl⟩ | trivial | (simp; done)))

/-! ### Lists, compared -/

def cmpi (x y : Int) : Int := if x < y then -1 else if y < x then 1 else 0
def cmpL : List Int → List Int → Int
  | [], [] => 0
  | [], _ :: _ => -1
  | _ :: _, [] => 1
  | x :: v, y :: w => if cmpi x y = 0 then cmpL v w else cmpi x y
theorem isNaN_c (x : Int) : FnC Tryd.prog 147 [.int .i64 x] (.bool false) := by
  refine fnc_of tab_ok Tryd.func147 rfl (by kernel_rfl) (by rw [Tryd.ntmps147]; exact Nat.le_add_left 1 _) ?_; rw [Tryd.ntmps147]
  refine qm ?_
  refine hk_region fun K hK => runs_eval tab_ok ?_
  simp only [ev0, evA, evB, evP, fl, gp, tab, simprocAttr, reduceCtorEq, reduceIte]
  refine fin_run trivial (hK _ ?_) <;> clear hK <;> clear K
  refine qa (qm ?_)
  refine hk_region fun K hK => runs_eval tab_ok ?_
  simp only [ev0, evA, evB, evP, fl, gp, tab, simprocAttr, reduceCtorEq, reduceIte]
  refine fin_run trivial (hK _ ?_) <;> clear hK <;> clear K
  refine qa (qk ?_)
  simp only [Tryd.results147, enA, ev0, evA, evB, evP, fl, gp, tab, simprocAttr, reduceCtorEq, reduceIte]
  all_goals ((first | exact rfl | exact ⟨rfl, rfl⟩ | exact ⟨rfl, rfl, rfl⟩ | exact ⟨trivial, rfl⟩ | exact ⟨Nat.le_refl _, rfl⟩ | trivial | (simp; done)))
theorem compare_c (x y : Int) : FnC Tryd.prog 125 [.int .i64 x, .int .i64 y] (.int .i64 (cmpi x y)) := by
  refine fnc_of tab_ok Tryd.func125 rfl (by kernel_rfl) (by rw [Tryd.ntmps125]; exact Nat.le_add_left 2 _) ?_; rw [Tryd.ntmps125]
  refine qm ?_
  refine hk_region fun K hK => runs_eval tab_ok ?_
  simp only [ev0, evA, evB, evP, fl, gp, tab, simprocAttr, reduceCtorEq, reduceIte]
  refine fin_run trivial (hK _ ?_) <;> clear hK <;> clear K
  refine qa (qm ?_)
  refine hk_region fun K hK => runs_eval tab_ok ?_
  simp only [ev0, evA, evB, evP, fl, gp, tab, simprocAttr, reduceCtorEq, reduceIte]
  refine fin_stop trivial (runs_call (isNaN_c x) rfl rfl rfl (by simp only [dstOk, Nat.reduceLT]) (by repeat (first | exact trivial | constructor)) (runs_eval tab_ok ?_))
  simp only [ev0, evA, evB, evP, fl, gp, tab, simprocAttr, reduceCtorEq, reduceIte]
  refine fin_run trivial (hK _ ?_) <;> clear hK <;> clear K
  refine qa (qm ?_)
  refine hk_region fun K hK => runs_eval tab_ok ?_
  simp only [ev0, evA, evB, evP, fl, gp, tab, simprocAttr, reduceCtorEq, reduceIte]
  refine fin_stop trivial (runs_call (isNaN_c y) rfl rfl rfl (by simp only [dstOk, Nat.reduceLT]) (by repeat (first | exact trivial | constructor)) (runs_eval tab_ok ?_))
  simp only [ev0, evA, evB, evP, fl, gp, tab, simprocAttr, reduceCtorEq, reduceIte]
  refine fin_run trivial (hK _ ?_) <;> clear hK <;> clear K
  refine qa (qm (qm ?_))
  refine hk_region fun K hK => runs_eval tab_ok ?_
  simp only [ev0, evA, evB, evP, fl, gp, tab, simprocAttr, reduceCtorEq, reduceIte]
  refine fin_run trivial (hK _ ?_) <;> clear hK <;> clear K
  refine qa ?_
  refine hk_cond rfl (fun hC1 => ?_) (fun hC1 => ?_)
  · cases hC1
  · (try simp only [nhs] at hC1)
    refine qh (qa (qm (qm ?_)))
    refine hk_region fun K hK => runs_eval tab_ok ?_
    simp only [ev0, evA, evB, evP, fl, gp, tab, simprocAttr, reduceCtorEq, reduceIte]
    refine fin_run trivial (hK _ ?_) <;> clear hK <;> clear K
    refine qa ?_
    refine hk_cond rfl (fun hC3 => ?_) (fun hC3 => ?_)
    · cases hC3
    · (try simp only [nhs] at hC3)
      refine qh (qa (qm (qm ?_)))
      refine hk_region fun K hK => runs_eval tab_ok ?_
      simp only [ev0, evA, evB, evP, fl, gp, tab, simprocAttr, reduceCtorEq, reduceIte]
      refine fin_run trivial (hK _ ?_) <;> clear hK <;> clear K
      refine qa ?_
      refine hk_cond rfl (fun hC4 => ?_) (fun hC4 => ?_)
      · (try simp only [nhs] at hC4)
        refine qm ?_
        refine hk_region fun K hK => runs_eval tab_ok ?_
        simp only [ev0, evA, evB, evP, fl, gp, tab, simprocAttr, reduceCtorEq, reduceIte]
        refine fin_run trivial (hK _ ?_) <;> clear hK <;> clear K
        refine qa (qk (qb ?_))
        simp only [Tryd.results125, enA, ev0, evA, evB, evP, fl, gp, tab, simprocAttr, reduceCtorEq, reduceIte]
        all_goals (unfold cmpi; rw [if_pos hC4])
      · (try simp only [nhs] at hC4)
        refine qh (qa (qm (qm ?_)))
        refine hk_region fun K hK => runs_eval tab_ok ?_
        simp only [ev0, evA, evB, evP, fl, gp, tab, simprocAttr, reduceCtorEq, reduceIte]
        refine fin_run trivial (hK _ ?_) <;> clear hK <;> clear K
        refine qa ?_
        refine hk_cond rfl (fun hC5 => ?_) (fun hC5 => ?_)
        · (try simp only [nhs] at hC5)
          refine qm ?_
          refine hk_region fun K hK => runs_eval tab_ok ?_
          simp only [ev0, evA, evB, evP, fl, gp, tab, simprocAttr, reduceCtorEq, reduceIte]
          refine fin_run trivial (hK _ ?_) <;> clear hK <;> clear K
          refine qa (qk (qb ?_))
          simp only [Tryd.results125, enA, ev0, evA, evB, evP, fl, gp, tab, simprocAttr, reduceCtorEq, reduceIte]
          all_goals (unfold cmpi; rw [if_neg hC4, if_pos hC5])
        · (try simp only [nhs] at hC5)
          refine qh (qa (qm ?_))
          refine hk_region fun K hK => runs_eval tab_ok ?_
          simp only [ev0, evA, evB, evP, fl, gp, tab, simprocAttr, reduceCtorEq, reduceIte]
          refine fin_run trivial (hK _ ?_) <;> clear hK <;> clear K
          refine qa (qk ?_)
          simp only [Tryd.results125, enA, ev0, evA, evB, evP, fl, gp, tab, simprocAttr, reduceCtorEq, reduceIte]
          all_goals (unfold cmpi; rw [if_neg hC4, if_neg hC5])
theorem cmpL_drop {v w : List Int} : ∀ {i : Nat}, (∀ j, j < i → j < v.length → j < w.length ∧ cmpi (v.getD j 0) (w.getD j 0) = 0) → i ≤ v.length → cmpL v w = cmpL (v.drop i) (w.drop i)
  | 0, _, _ => rfl
  | i + 1, h, hi => by
    cases v with
    | nil => simp at hi
    | cons x v =>
      cases w with
      | nil => have := (h 0 (by omega) (by simp)).1; simp at this
      | cons y w =>
        have h0 := (h 0 (by omega) (by simp)).2
        simp at h0
        have ih := cmpL_drop (v := v) (w := w) (i := i) (fun j hj hjv => by
          have := h (j + 1) (by omega) (by simpa using hjv)
          simpa using this) (by simpa using hi)
        simp only [List.drop_succ_cons]
        rw [← ih]
        show (if cmpi x y = 0 then cmpL v w else cmpi x y) = _
        rw [if_pos h0]
theorem drop_getD {v : List Int} {i : Nat} (h : i < v.length) : v.drop i = v.getD i 0 :: v.drop (i + 1) := by
  rw [List.drop_eq_getElem_cons h]
  congr 1
  simp [List.getD, List.getElem?_eq_getElem h]
theorem compareL_c (v w : List Int) (hv : v.length ≤ 1000000000) (hw : w.length ≤ 1000000000) : FnC Tryd.prog 92 [.list (il v), .list (il w)] (.int .i64 (cmpL v w)) := by
  refine fnc_of tab_ok Tryd.func92 rfl (by kernel_rfl) (by rw [Tryd.ntmps92]; exact Nat.le_add_left 2 _) ?_; rw [Tryd.ntmps92]
  refine qm ?_
  refine hk_region fun K hK => runs_eval tab_ok ?_
  simp only [ev0, evA, evB, evP, fl, gp, tab, simprocAttr, reduceCtorEq, reduceIte]
  refine fin_run trivial (hK _ ?_) <;> clear hK <;> clear K
  refine qa (qm (qm ?_))
  refine hk_region fun K hK => runs_eval tab_ok ?_
  simp only [ev0, evA, evB, evP, fl, gp, tab, simprocAttr, reduceCtorEq, reduceIte, il_length]
  refine fin_run trivial (hK _ ?_) <;> clear hK <;> clear K
  refine qa (ql ?_)
  refine hk_loop (ι := Nat) (fun i => ⟨36, [(0, .p (.list (il v))), (1, .p (.list (il w))), (9, .p (.list (il v))), (10, .p (.int .i64 v.length)), (11, .p (.int .i64 i))], []⟩) (fun i => i ≤ v.length ∧ ∀ j, j < i → j < v.length → j < w.length ∧ cmpi (v.getD j 0) (w.getD j 0) = 0) (fun i => v.length - i) 0 ⟨Nat.zero_le _, fun j hj => by omega⟩ [] (by simp only [leq, leA, ev0, evA, evB, evP, fl, gp, tab, simprocAttr, reduceCtorEq, reduceIte] <;> trivial) fun i hi => ?_
  obtain ⟨hi1, hi2⟩ := hi
  have hd := cmpL_drop hi2 hi1
  refine qm ?_
  refine hk_region fun K hK => runs_eval tab_ok ?_
  simp only [ev0, evA, evB, evP, fl, gp, tab, simprocAttr, reduceCtorEq, reduceIte]
  refine fin_run trivial (hK _ ?_) <;> clear hK <;> clear K
  refine qa (qm ?_)
  refine hk_cond rfl (fun hC1 => ?_) (fun hC1 => ?_)
  · (try simp only [nhs] at hC1)
    have hlt : i < v.length := by omega
    have hdv := drop_getD hlt
    refine qh (qa (qm (ql (qm ?_))))
    refine hk_region fun K hK => runs_eval tab_ok ?_
    simp only [ev0, evA, evB, evP, fl, gp, tab, simprocAttr, reduceCtorEq, reduceIte, il_get hlt]
    refine fin_run ?_ (hK _ ?_) <;> clear hK <;> clear K
    · (first | exact trivial | omega | (simp only [In64] at *; omega) | (simp [In64] at *; omega) | (simp_all; done) | skip)
    refine qa (qm (qm ?_))
    refine hk_region fun K hK => runs_eval tab_ok ?_
    simp only [ev0, evA, evB, evP, fl, gp, tab, simprocAttr, reduceCtorEq, reduceIte, il_length]
    refine fin_run trivial (hK _ ?_) <;> clear hK <;> clear K
    refine qa ?_
    refine hk_cond rfl (fun hC2 => ?_) (fun hC2 => ?_)
    · (try simp only [nhs] at hC2)
      refine qm ?_
      refine hk_region fun K hK => runs_eval tab_ok ?_
      simp only [ev0, evA, evB, evP, fl, gp, tab, simprocAttr, reduceCtorEq, reduceIte]
      refine fin_run trivial (hK _ ?_) <;> clear hK <;> clear K
      refine qa (qk (qb (qe (qb (qb (qe (qb ?_)))))))
      simp only [Tryd.results92, enA, ev0, evA, evB, evP, fl, gp, tab, simprocAttr, reduceCtorEq, reduceIte]
      have hdw : w.drop i = [] := List.drop_eq_nil_of_le (by omega)
      rw [hd, hdv, hdw]; rfl
    · (try simp only [nhs] at hC2)
      have hlw : i < w.length := by omega
      have hdw := drop_getD hlw
      refine qh (qa (qm ?_))
      refine hk_region fun K hK => runs_eval tab_ok ?_
      simp only [ev0, evA, evB, evP, fl, gp, tab, simprocAttr, reduceCtorEq, reduceIte, il_get hlw]
      refine fin_run ?_ (hK _ ?_) <;> clear hK <;> clear K
      · (first | exact trivial | omega | (simp only [In64] at *; omega) | (simp [In64] at *; omega) | (simp_all; done) | skip)
      refine qa (qm ?_)
      refine hk_region fun K hK => runs_eval tab_ok ?_
      simp only [ev0, evA, evB, evP, fl, gp, tab, simprocAttr, reduceCtorEq, reduceIte]
      refine fin_stop trivial (runs_call (compare_c (v.getD i 0) (w.getD i 0)) rfl rfl rfl (by simp only [dstOk, Nat.reduceLT]) (by repeat (first | exact trivial | constructor)) (runs_eval tab_ok ?_))
      simp only [ev0, evA, evB, evP, fl, gp, tab, simprocAttr, reduceCtorEq, reduceIte]
      refine fin_run trivial (hK _ ?_) <;> clear hK <;> clear K
      refine qa (qm ?_)
      refine hk_region fun K hK => runs_eval tab_ok ?_
      simp only [ev0, evA, evB, evP, fl, gp, tab, simprocAttr, reduceCtorEq, reduceIte]
      refine fin_run trivial (hK _ ?_) <;> clear hK <;> clear K
      refine qa ?_
      refine hk_cond rfl (fun hC3 => ?_) (fun hC3 => ?_)
      · (try simp only [nhs] at hC3)
        refine qm ?_
        refine hk_region fun K hK => runs_eval tab_ok ?_
        simp only [ev0, evA, evB, evP, fl, gp, tab, simprocAttr, reduceCtorEq, reduceIte]
        refine fin_run trivial (hK _ ?_) <;> clear hK <;> clear K
        refine qa (qk (qe (qb (qb (qe (qb ?_))))))
        simp only [Tryd.results92, enA, ev0, evA, evB, evP, fl, gp, tab, simprocAttr, reduceCtorEq, reduceIte]
        rw [hd, hdv, hdw]
        show _ = if _ then _ else _
        rw [if_neg hC3]
      · (try simp only [nhs] at hC3)
        refine qh (qd (qa ?_))
        refine hk_region fun K hK => runs_eval tab_ok ?_
        simp only [ev0, evA, evB, evP, fl, gp, tab, simprocAttr, reduceCtorEq, reduceIte]
        refine fin_run ?_ (hK _ ?_) <;> clear hK <;> clear K
        · (first | exact trivial | omega | (simp only [In64] at *; omega) | (simp [In64] at *; omega) | (simp_all; done) | skip)
        refine qa ?_
        refine ⟨i + 1, [], ⟨by omega, fun j hj hjv => ?_⟩, by omega, ?_⟩
        · by_cases hji : j = i
          · rw [hji]; exact ⟨hlw, by simpa using hC3⟩
          · exact hi2 j (by omega) hjv
        · simp only [leq, leA, ev0, evA, evB, evP, fl, gp, tab, simprocAttr, reduceCtorEq, reduceIte] <;> omega
  · (try simp only [nhs] at hC1)
    have hin : i = v.length := by omega
    have hdv : v.drop i = [] := List.drop_eq_nil_of_le (by omega)
    refine qj (qc (qc (qf (qa (qm (qm ?_))))))
    refine hk_region fun K hK => runs_eval tab_ok ?_
    simp only [ev0, evA, evB, evP, fl, gp, tab, simprocAttr, reduceCtorEq, reduceIte, il_length]
    refine fin_run trivial (hK _ ?_) <;> clear hK <;> clear K
    refine qa ?_
    refine hk_cond rfl (fun hC4 => ?_) (fun hC4 => ?_)
    · (try simp only [nhs] at hC4)
      refine qm ?_
      refine hk_region fun K hK => runs_eval tab_ok ?_
      simp only [ev0, evA, evB, evP, fl, gp, tab, simprocAttr, reduceCtorEq, reduceIte]
      refine fin_run trivial (hK _ ?_) <;> clear hK <;> clear K
      refine qa (qk (qb ?_))
      simp only [Tryd.results92, enA, ev0, evA, evB, evP, fl, gp, tab, simprocAttr, reduceCtorEq, reduceIte]
      all_goals (rw [hd, hdv, drop_getD (v := w) (i := i) (by omega)]; rfl)
    · (try simp only [nhs] at hC4)
      refine qh (qa (qm ?_))
      refine hk_region fun K hK => runs_eval tab_ok ?_
      simp only [ev0, evA, evB, evP, fl, gp, tab, simprocAttr, reduceCtorEq, reduceIte]
      refine fin_run trivial (hK _ ?_) <;> clear hK <;> clear K
      refine qa (qk ?_)
      simp only [Tryd.results92, enA, ev0, evA, evB, evP, fl, gp, tab, simprocAttr, reduceCtorEq, reduceIte]
      have hdw : w.drop i = [] := by
        refine List.drop_eq_nil_of_le ?_
        omega
      rw [hd, hdv, hdw]; rfl

/-! ### An order -/

theorem cmpi_lt {x y : Int} : cmpi x y < 0 ↔ x < y := by
  unfold cmpi
  by_cases h1 : x < y
  · simp [h1]
  · by_cases h2 : y < x <;> simp [h1, h2]
theorem cmpi_eq {x y : Int} : cmpi x y = 0 ↔ x = y := by
  unfold cmpi
  by_cases h1 : x < y
  · simp [h1]; omega
  · by_cases h2 : y < x
    · simp [h1, h2]; omega
    · simp [h1, h2]; omega
theorem cmpL_self : ∀ v : List Int, cmpL v v = 0
  | [] => rfl
  | x :: v => by show (if cmpi x x = 0 then cmpL v v else cmpi x x) = 0; rw [if_pos (cmpi_eq.2 rfl)]; exact cmpL_self v
theorem cmpL_cons_lt {x y : Int} {v w : List Int} : cmpL (x :: v) (y :: w) < 0 ↔ x < y ∨ x = y ∧ cmpL v w < 0 := by
  show (if cmpi x y = 0 then cmpL v w else cmpi x y) < 0 ↔ _
  by_cases h : cmpi x y = 0
  · rw [if_pos h]
    have := cmpi_eq.1 h
    constructor
    · exact fun h2 => .inr ⟨this, h2⟩
    · rintro (h2 | h2)
      · omega
      · exact h2.2
  · rw [if_neg h, cmpi_lt]
    have : ¬ x = y := fun e => h (cmpi_eq.2 e)
    constructor
    · exact fun h2 => .inl h2
    · rintro (h2 | h2)
      · exact h2
      · exact absurd h2.1 this
theorem cmpL_tot : ∀ v w : List Int, ¬ cmpL v w < 0 → ¬ cmpL w v < 0 → v = w
  | [], [], _, _ => rfl
  | [], _ :: _, h, _ => absurd (show (-1 : Int) < 0 by omega) h
  | _ :: _, [], _, h => absurd (show (-1 : Int) < 0 by omega) h
  | x :: v, y :: w, h1, h2 => by
    rw [cmpL_cons_lt] at h1 h2
    have hxy : x = y := by omega
    subst hxy
    rw [cmpL_tot v w (fun h => h1 (.inr ⟨rfl, h⟩)) (fun h => h2 (.inr ⟨rfl, h⟩))]
theorem cmpL_trans : ∀ u v w : List Int, cmpL u v < 0 → cmpL v w < 0 → cmpL u w < 0
  | [], [], _, h, _ => absurd h (by simp [cmpL])
  | [], _ :: _, [], _, h => absurd h (by simp [cmpL])
  | [], _ :: _, _ :: _, _, _ => by simp [cmpL]
  | _ :: _, [], _, h, _ => absurd h (by simp [cmpL])
  | _ :: _, _ :: _, [], _, h => absurd h (by simp [cmpL])
  | x :: u, y :: v, z :: w, h1, h2 => by
    rw [cmpL_cons_lt] at h1 h2 ⊢
    rcases h1 with h1 | ⟨rfl, h1⟩
    · rcases h2 with h2 | ⟨rfl, h2⟩
      · exact .inl (by omega)
      · exact .inl h1
    · rcases h2 with h2 | ⟨rfl, h2⟩
      · exact .inl h2
      · exact .inr ⟨rfl, cmpL_trans u v w h1 h2⟩
/-- Sets: by how many, then by lists. -/
def cmpS (a b : List Int) : Int := if (a.length : Int) - (b.length : Int) = 0 then cmpL a b else (a.length : Int) - (b.length : Int)
theorem cmpS_lt {a b : List Int} : cmpS a b < 0 ↔ a.length < b.length ∨ a.length = b.length ∧ cmpL a b < 0 := by
  unfold cmpS
  by_cases h : (a.length : Int) - (b.length : Int) = 0
  · rw [if_pos h]; constructor
    · exact fun h2 => .inr ⟨by omega, h2⟩
    · rintro (h2 | h2)
      · omega
      · exact h2.2
  · rw [if_neg h]; omega
theorem cmpS_tot (v w : List Int) (h1 : ¬ cmpS v w < 0) (h2 : ¬ cmpS w v < 0) : v = w := by
  rw [cmpS_lt] at h1 h2
  exact cmpL_tot v w (fun h => h1 (.inr ⟨by omega, h⟩)) (fun h => h2 (.inr ⟨by omega, h⟩))
theorem cmpS_trans (u v w : List Int) (h1 : cmpS u v < 0) (h2 : cmpS v w < 0) : cmpS u w < 0 := by
  rw [cmpS_lt] at h1 h2 ⊢
  rcases h1 with h1 | ⟨e1, h1⟩
  · exact .inl (by omega)
  · rcases h2 with h2 | ⟨e2, h2⟩
    · exact .inl (by omega)
    · exact .inr ⟨by omega, cmpL_trans u v w h1 h2⟩
theorem cmpS_self (v : List Int) : ¬ cmpS v v < 0 := by
  rw [cmpS_lt, cmpL_self]; omega
theorem cmpS_ntrans (u v w : List Int) (h1 : ¬ cmpS u v < 0) (h2 : ¬ cmpS v w < 0) : ¬ cmpS u w < 0 := fun h => by
  by_cases h3 : cmpS v u < 0
  · exact h2 (cmpS_trans _ _ _ h3 h)
  · rw [cmpS_tot _ _ h1 h3] at h; exact h2 h
theorem cnt_stl (x : Nat) : cnt 64 x = (stl x).length := by unfold stl; rw [thl_len]; rfl
theorem allOf1_c (x y : Nat) (hx : x < 2 ^ 64) (hy : y < 2 ^ 64) : FnC Tryd.prog 109 [.int .u64 x, .int .u64 y] (.int .i64 (cmpS (stl x) (stl y))) := by
  have l1 := stl_len x
  have l2 := stl_len y
  refine fnc_of tab_ok Tryd.func109 rfl (by kernel_rfl) (by rw [Tryd.ntmps109]; exact Nat.le_add_left 2 _) ?_; rw [Tryd.ntmps109]
  refine qm ?_
  refine hk_region fun K hK => runs_eval tab_ok ?_
  simp only [ev0, evA, evB, evP, fl, gp, tab, simprocAttr, reduceCtorEq, reduceIte]
  refine fin_run trivial (hK _ ?_) <;> clear hK <;> clear K
  refine qa (qm (qm ?_))
  refine hk_region fun K hK => runs_eval tab_ok ?_
  simp only [ev0, evA, evB, evP, fl, gp, tab, simprocAttr, reduceCtorEq, reduceIte, cnt_stl]
  refine fin_stop trivial (runs_call (ones_c x hx) rfl rfl rfl (by simp only [dstOk, Nat.reduceLT]) (by repeat (first | exact trivial | constructor)) (runs_eval tab_ok ?_))
  simp only [ev0, evA, evB, evP, fl, gp, tab, simprocAttr, reduceCtorEq, reduceIte, cnt_stl]
  refine fin_stop trivial (runs_call (ones_c y hy) rfl rfl rfl (by simp only [dstOk, Nat.reduceLT]) (by repeat (first | exact trivial | constructor)) (runs_eval tab_ok ?_))
  simp only [ev0, evA, evB, evP, fl, gp, tab, simprocAttr, reduceCtorEq, reduceIte, cnt_stl]
  refine fin_run ?_ (hK _ ?_) <;> clear hK <;> clear K
  · (first | exact trivial | omega | (simp only [In64] at *; omega) | (simp [In64] at *; omega) | (simp_all; done) | skip)
  refine qa (qm ?_)
  refine hk_region fun K hK => runs_eval tab_ok ?_
  simp only [ev0, evA, evB, evP, fl, gp, tab, simprocAttr, reduceCtorEq, reduceIte]
  refine fin_run trivial (hK _ ?_) <;> clear hK <;> clear K
  refine qa ?_
  refine hk_cond rfl (fun hC1 => ?_) (fun hC1 => ?_)
  · (try simp only [nhs] at hC1)
    refine qm ?_
    refine hk_region fun K hK => runs_eval tab_ok ?_
    simp only [ev0, evA, evB, evP, fl, gp, tab, simprocAttr, reduceCtorEq, reduceIte]
    refine fin_run trivial (hK _ ?_) <;> clear hK <;> clear K
    refine qa (qk (qb ?_))
    simp only [Tryd.results109, enA, ev0, evA, evB, evP, fl, gp, tab, simprocAttr, reduceCtorEq, reduceIte]
    all_goals (unfold cmpS; rw [if_neg hC1])
  · (try simp only [nhs] at hC1)
    refine qh (qa (qm ?_))
    refine hk_region fun K hK => runs_eval tab_ok ?_
    simp only [ev0, evA, evB, evP, fl, gp, tab, simprocAttr, reduceCtorEq, reduceIte]
    refine fin_stop trivial (runs_call (list_s x hx) rfl rfl rfl (by simp only [dstOk, Nat.reduceLT]) (by repeat (first | exact trivial | constructor)) (runs_eval tab_ok ?_))
    simp only [ev0, evA, evB, evP, fl, gp, tab, simprocAttr, reduceCtorEq, reduceIte]
    refine fin_stop trivial (runs_call (list_s y hy) rfl rfl rfl (by simp only [dstOk, Nat.reduceLT]) (by repeat (first | exact trivial | constructor)) (runs_eval tab_ok ?_))
    simp only [ev0, evA, evB, evP, fl, gp, tab, simprocAttr, reduceCtorEq, reduceIte]
    refine fin_stop trivial (runs_call (compareL_c (stl x) (stl y) (by omega) (by omega)) rfl rfl rfl (by simp only [dstOk, Nat.reduceLT]) (by repeat (first | exact trivial | constructor)) (runs_eval tab_ok ?_))
    simp only [ev0, evA, evB, evP, fl, gp, tab, simprocAttr, reduceCtorEq, reduceIte]
    refine fin_run trivial (hK _ ?_) <;> clear hK <;> clear K
    refine qa (qk ?_)
    simp only [Tryd.results109, enA, ev0, evA, evB, evP, fl, gp, tab, simprocAttr, reduceCtorEq, reduceIte]
    all_goals (unfold cmpS; rw [if_pos (by omega)])
end Go.Proofs.YtjikchbmkodgfaaDoor

/-
  All subgroups of a group, in their order. Conditions: none.
-/
set_option linter.all false
namespace Go.Proofs.YtjikchbmkodgfaaDoor
open Go.Pv

def wta (p : Nat → Bool) (a x : Nat) : Bool := p x || decide (x = a)
theorem bo_wta {n a : Nat} (p : Nat → Bool) (ha : a < n) : bo n p ||| 2 ^ a = bo n (wta p a) := by
  refine Nat.eq_of_testBit_eq fun i => ?_
  rw [Nat.testBit_or, bo_bit, bo_bit, Nat.testBit_two_pow]
  unfold wta
  by_cases hi : i < n
  · simp [hi, eq_comm]
  · have : ¬ a = i := by omega
    simp [hi, this]
theorem bo_self {n x : Nat} (hx : x < 2 ^ n) : bo n x.testBit = x := by
  refine Nat.eq_of_testBit_eq fun i => ?_
  rw [bo_bit]
  by_cases hi : i < n
  · simp [hi]
  · have := Nat.testBit_lt_two_pow (Nat.lt_of_lt_of_le hx (Nat.pow_le_pow_right (by omega) (Nat.le_of_not_lt hi)))
    simp [hi, this]
theorem onp_gen {n e : Nat} {f : Nat → Nat → Nat} : ∀ a, a < n → (onp e a = true ↔ Gen n f e (Nat.testBit 0) a) := fun a ha => by
  rw [onp_iff]
  constructor
  · rintro rfl; exact .one
  · intro hg
    exact Gen.least (H := fun a => a = e) rfl (fun a b _ _ hb _ => by simp at hb) hg

section
variable {n e : Nat} {f : Nat → Nat → Nat}

/-- With one thing more, what is made is there. -/
def Dn (n : Nat) (f : Nat → Nat → Nat) (e x a : Nat) (L : List Nat) : Prop := ∀ q : Nat → Bool, (∀ y, y < n → (q y = true ↔ Gen n f e (wta x.testBit a) y)) → bo n q ∈ L
theorem Dn.mono {x a : Nat} {L L' : List Nat} (h : Dn n f e x a L) (hs : ∀ y ∈ L, y ∈ L') : Dn n f e x a L' := fun q hq => hs _ (h q hq)

/-- All subgroups; each once. -/
structure AllI (n : Nat) (f : Nat → Nat → Nat) (e : Nat) (L : List Nat) : Prop where
  nodup : L.Nodup
  subs : ∀ x ∈ L, ∃ p, Sub n f e p ∧ x = bo n p
  one : bo n (onp e) ∈ L
theorem AllI.lt {L : List Nat} (h : AllI n f e L) : ∀ x ∈ L, x < 2 ^ n := fun x hx => by
  obtain ⟨p, _, rfl⟩ := h.subs x hx
  exact bo_lt n p
theorem AllI.len {L : List Nat} (h : AllI n f e L) : L.length ≤ 2 ^ n := nodup_lt h.nodup h.lt
theorem AllI.all {L : List Nat} (G : Grp n f e) (h : AllI n f e L) (hd : ∀ x ∈ L, ∀ a, a < n → Dn n f e x a L) : ∀ p, Sub n f e p → bo n p ∈ L := by
  intro q hq
  -- from what is there, inside q, up
  have go : ∀ c (p : Nat → Bool), Sub n f e p → bo n p ∈ L → (∀ y, y < n → p y = true → q y = true) → (mem n q).length - (mem n p).length ≤ c → bo n q ∈ L := by
    intro c
    induction c with
    | zero =>
      intro p hp hL hle hc
      have hall : ∀ y, y < n → q y = p y := by
        refine Classical.byContradiction fun hh => ?_
        have := mem_lt (p := q) (q := p) hle (fun h2 => hh fun y hy => (h2 y hy).symm)
        omega
      rw [bo_congr hall]; exact hL
    | succ c ih =>
      intro p hp hL hle hc
      by_cases hall : ∀ y, y < n → q y = p y
      · rw [bo_congr hall]; exact hL
      · have hex : ∃ a, a < n ∧ q a = true ∧ p a = false := by
          refine Classical.byContradiction fun hh => hall fun y hy => ?_
          cases hpy : p y with
          | true => exact hle y hy hpy
          | false =>
            cases hqy : q y with
            | false => rfl
            | true => exact absurd ⟨y, hy, hqy, hpy⟩ hh
        obtain ⟨a, ha, qa, pa⟩ := hex
        obtain ⟨r, hr⟩ := gen_ex n f e (wta (bo n p).testBit a)
        have hrL := hd _ hL a ha r hr
        have hin : ∀ b, b < n → wta (bo n p).testBit a b = true → q b = true := fun b hb hw => by
          unfold wta at hw
          rw [bo_bit, Bool.or_eq_true, Bool.and_eq_true, decide_eq_true_eq, decide_eq_true_eq] at hw
          rcases hw with hw | hw
          · exact hle b hb hw.2
          · rw [hw]; exact qa
        have hrq : ∀ y, y < n → r y = true → q y = true := fun y hy h1 => ((hr y hy).1 h1).sub G hq hin
        have hpr : ∀ y, y < n → p y = true → r y = true := fun y hy h1 => (hr y hy).2 (Gen.mem G hy (by unfold wta; rw [bo_bit]; simp [hy, h1]))
        have hra : r a = true := (hr a ha).2 (Gen.mem G ha (by unfold wta; simp))
        have hlt := mem_lt (p := r) (q := p) hpr (fun h2 => by have := h2 a ha; rw [pa, hra] at this; cases this)
        exact ih r (gen_sub G hr) hrL hrq (by omega)
  exact go _ (onp e) G.onp_sub h.one (fun y hy h1 => by rw [onp_iff] at h1; rw [h1]; exact hq.one) (Nat.le_refl _)

/-- .. in their order. -/
structure AllS (n : Nat) (f : Nat → Nat → Nat) (e : Nat) (L : List Nat) : Prop where
  subs : ∀ x ∈ L, ∃ p, Sub n f e p ∧ x = bo n p
  all : ∀ p, Sub n f e p → bo n p ∈ L
  rise : L.Pairwise fun x y => cmpS (stl x) (stl y) < 0
theorem AllS.nodup {L : List Nat} (h : AllS n f e L) : L.Nodup := h.rise.imp fun {x y} hxy he => by
  subst he; exact cmpS_self _ hxy
theorem AllS.perm {L M : List Nat} (G : Grp n f e) (h : AllS n f e L) (hi : AllI n f e M) (hd : ∀ x ∈ M, ∀ a, a < n → Dn n f e x a M) : M.Perm L := by
  refine (List.perm_ext_iff_of_nodup hi.nodup h.nodup).2 fun x => ⟨fun hx => ?_, fun hx => ?_⟩
  · obtain ⟨p, hp, rfl⟩ := hi.subs x hx; exact h.all p hp
  · obtain ⟨p, hp, rfl⟩ := h.subs x hx; exact hi.all G hd p hp
theorem stl_inj {x y : Nat} (hx : x < 2 ^ 64) (hy : y < 2 ^ 64) (h : stl x = stl y) : x = y := by
  refine Nat.eq_of_testBit_eq fun i => ?_
  by_cases hi : i < 64
  · exact thl_inj h hi
  · have h1 := Nat.testBit_lt_two_pow (Nat.lt_of_lt_of_le hx (Nat.pow_le_pow_right (by omega) (Nat.le_of_not_lt hi)))
    have h2 := Nat.testBit_lt_two_pow (Nat.lt_of_lt_of_le hy (Nat.pow_le_pow_right (by omega) (Nat.le_of_not_lt hi)))
    rw [h1, h2]
/-- Put into a list that rises. -/
def insS (x : Nat) : List Nat → List Nat
  | [] => [x]
  | y :: r => if cmpS (stl x) (stl y) < 0 then x :: y :: r else y :: insS x r
theorem mem_insS {x z : Nat} : ∀ {L : List Nat}, z ∈ insS x L ↔ z = x ∨ z ∈ L
  | [] => by simp [insS]
  | y :: r => by
    unfold insS
    by_cases h : cmpS (stl x) (stl y) < 0
    · rw [if_pos h]; simp
    · rw [if_neg h, List.mem_cons, mem_insS, List.mem_cons]
      constructor
      · rintro (h | h | h)
        · exact .inr (.inl h)
        · exact .inl h
        · exact .inr (.inr h)
      · rintro (h | h | h)
        · exact .inr (.inl h)
        · exact .inl h
        · exact .inr (.inr h)
theorem rise_insS {x : Nat} : ∀ {L : List Nat}, L.Pairwise (fun x y => cmpS (stl x) (stl y) < 0) → (∀ y ∈ L, stl x ≠ stl y) → (insS x L).Pairwise fun x y => cmpS (stl x) (stl y) < 0
  | [], _, _ => by simp [insS]
  | y :: r, h, hne => by
    obtain ⟨h1, h2⟩ := List.pairwise_cons.1 h
    unfold insS
    by_cases hc : cmpS (stl x) (stl y) < 0
    · rw [if_pos hc]
      refine List.pairwise_cons.2 ⟨fun z hz => ?_, h⟩
      rcases List.mem_cons.1 hz with rfl | hz
      · exact hc
      · exact cmpS_trans _ _ _ hc (h1 z hz)
    · rw [if_neg hc]
      refine List.pairwise_cons.2 ⟨fun z hz => ?_, rise_insS h2 fun z hz => hne z (by simp [hz])⟩
      rcases mem_insS.1 hz with rfl | hz
      · refine Classical.byContradiction fun hh => ?_
        exact hne y (by simp) (cmpS_tot _ _ hc hh)
      · exact h1 z hz
theorem alls_ex (G : Grp n f e) (hn : n ≤ 60) : ∃ L, AllS n f e L := by
  have hd : ∀ M : List Nat, M.Nodup → (∀ x ∈ M, x < 2 ^ n) → ∃ L : List Nat, (∀ x, x ∈ L ↔ x ∈ M) ∧ L.Pairwise fun x y => cmpS (stl x) (stl y) < 0 := by
    intro M
    induction M with
    | nil => exact fun _ _ => ⟨[], by simp, by simp⟩
    | cons x r ih =>
      intro hnd hlt
      obtain ⟨h1, h2⟩ := List.nodup_cons.1 hnd
      obtain ⟨L, l1, l2⟩ := ih h2 fun y hy => hlt y (by simp [hy])
      have hp : 2 ^ n ≤ 2 ^ 64 := Nat.pow_le_pow_right (by omega) (by omega)
      refine ⟨insS x L, fun z => by rw [mem_insS, l1]; simp, rise_insS l2 fun y hy hxy => ?_⟩
      have hyr := (l1 y).1 hy
      have h3 := hlt x (by simp)
      have h4 := hlt y (by simp [hyr])
      have := stl_inj (by omega) (by omega) hxy
      rw [this] at h1; exact h1 hyr
  have hf : ∃ M : List Nat, M.Nodup ∧ ∀ x, x ∈ M ↔ x < 2 ^ n ∧ Sub n f e x.testBit := by
    have : ∀ N, ∃ M : List Nat, M.Nodup ∧ ∀ x, x ∈ M ↔ x < N ∧ Sub n f e x.testBit := by
      intro N
      induction N with
      | zero => exact ⟨[], List.nodup_nil, by simp⟩
      | succ N ih =>
        obtain ⟨M, m1, m2⟩ := ih
        by_cases hN : Sub n f e N.testBit
        · refine ⟨N :: M, List.nodup_cons.2 ⟨fun h => by have := ((m2 N).1 h).1; omega, m1⟩, fun x => ?_⟩
          rw [List.mem_cons, m2]
          constructor
          · rintro (rfl | h)
            · exact ⟨by omega, hN⟩
            · exact ⟨by omega, h.2⟩
          · rintro ⟨h1, h2⟩
            by_cases hx : x = N
            · exact .inl hx
            · exact .inr ⟨by omega, h2⟩
        · refine ⟨M, m1, fun x => ?_⟩
          rw [m2]
          constructor
          · exact fun h => ⟨by omega, h.2⟩
          · rintro ⟨h1, h2⟩
            refine ⟨?_, h2⟩
            by_cases hx : x = N
            · rw [hx] at h2; exact absurd h2 hN
            · omega
    exact this _
  obtain ⟨M, m1, m2⟩ := hf
  obtain ⟨L, l1, l2⟩ := hd M m1 fun x hx => ((m2 x).1 hx).1
  refine ⟨L, fun x hx => ?_, fun p hp => ?_, l2⟩
  · obtain ⟨h1, h2⟩ := (m2 x).1 ((l1 x).1 hx)
    exact ⟨x.testBit, h2, (bo_self h1).symm⟩
  · refine (l1 _).2 ((m2 _).2 ⟨bo_lt n p, ?_⟩)
    have : ∀ a, a < n → (bo n p).testBit a = p a := fun a ha => by rw [bo_bit]; simp [ha]
    refine sub_of G (by rw [this e G.el]; exact hp.one) fun a b ha hb h1 h2 => ?_
    rw [this a ha] at h1
    rw [this b hb] at h2
    rw [this _ (G.cl a b ha hb)]
    exact hp.mul a b ha hb h1 h2
end
end Go.Proofs.YtjikchbmkodgfaaDoor
