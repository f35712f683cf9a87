/-
  Sets of things: what they make, as the document has it. Conditions: none.
-/
import Derived.Test.YtjikchbmkodgfaaDoorS3
set_option linter.all false
namespace Go.Proofs.YtjikchbmkodgfaaDoor
open Go.Pv

/-! ### Looked at -/

theorem thl_get_asc {n : Nat} {p : Nat → Bool} {i j : Nat} (hij : i < j) (hj : j < (thl n p).length) : (thl n p).getD i 0 < (thl n p).getD j 0 := by
  have := List.pairwise_iff_getElem.1 (thl_asc n p) i j (by omega) hj hij
  simpa [List.getD, List.getElem?_eq_getElem hj, List.getElem?_eq_getElem (show i < (thl n p).length by omega)] using this
theorem thl_get {n : Nat} {p : Nat → Bool} {i : Nat} (hi : i < (thl n p).length) : ∃ a, a < n ∧ p a = true ∧ (thl n p).getD i 0 = ((a : Nat) : Int) := by
  have : (thl n p).getD i 0 ∈ thl n p := by simp [List.getD, List.getElem?_eq_getElem hi]
  exact mem_thl.1 this
theorem thl_at {n : Nat} {p : Nat → Bool} {a : Nat} (ha : a < n) (h : p a = true) : ∃ i, i < (thl n p).length ∧ (thl n p).getD i 0 = ((a : Nat) : Int) := by
  obtain ⟨i, hi, e⟩ := List.getElem_of_mem (mem_thl.2 ⟨a, ha, h, rfl⟩)
  exact ⟨i, hi, by simp [List.getD, List.getElem?_eq_getElem hi, e]⟩
theorem mem_thl_n {n : Nat} {p : Nat → Bool} {a : Nat} (ha : a < n) : ((a : Nat) : Int) ∈ thl n p ↔ p a = true := by
  rw [mem_thl]
  constructor
  · rintro ⟨b, _, h2, e⟩
    have : a = b := by omega
    subst this; exact h2
  · exact fun h => ⟨a, ha, h, rfl⟩
theorem lf_thl (n : Nat) (p : Nat → Bool) : lf n (thl n p) = (0, 0) := by
  refine lf_none (by have := thl_le n p; omega) fun j hj => lfb_0 ?_ fun h0 => ?_
  · obtain ⟨a, h1, _, h3⟩ := thl_get hj
    unfold okT; rw [h3]; omega
  · have := thl_get_asc (n := n) (p := p) (show j - 1 < j by omega) hj
    omega
theorem sf_thl {n e : Nat} {m : List Int} (h : GT n m n e) (p : Nat → Bool) : sf n m (thl n p) = (0, 0) := by
  unfold sf; rw [gf_of h, if_neg (by simp), lf_thl]
theorem sf_ok {N : Int} {m l : List Int} (h : (sf N m l).1 = 0) : ∃ n e, GT N m n e ∧ N = (n : Nat) ∧ l = thl n (tst l) ∧ sf N m l = (0, 0) := by
  unfold sf at h
  by_cases hg : (gf N m).1 = 0
  · rw [if_neg (by simpa using hg)] at h
    obtain ⟨n, e, hT, _⟩ := gf_ok hg
    obtain rfl := hT.1
    obtain ⟨h1, h2, _⟩ := lf_list h
    exact ⟨n, e, hT, rfl, h1, by unfold sf; rw [if_neg (by simpa using hg), h2]⟩
  · rw [if_pos hg] at h; exact absurd h hg

theorem made_no (N : Int) (m l : List Int) (hm : m.length ≤ 1000000000000000) (hl : l.length ≤ 1000000000000000) (hf : ¬ (sf N m l).1 = 0) : FnC Tryd.prog 27 [gp N m, .list (il l)] (.tup [.list [], fl (sf N m l)]) := by
  refine fnc_of tab_ok Tryd.func27 rfl (by kernel_rfl) (by rw [Tryd.ntmps27]; exact Nat.le_add_left 2 _) ?_; rw [Tryd.ntmps27]
  refine qm ?_
  refine hk_region fun K hK => runs_eval tab_ok ?_
  simp only [ev0, evA, evB, evP, fl, gp, tab, simprocAttr, reduceCtorEq, reduceIte]
  refine fin_run ?_ (hK _ ?_) <;> clear hK <;> clear K
  · (first | exact trivial | omega | (simp only [In64] at *; omega) | (simp [In64] at *; omega) | (simp_all; done) | skip)
  refine qa (qm (qm ?_))
  refine hk_region fun K hK => runs_eval tab_ok ?_
  simp only [ev0, evA, evB, evP, fl, gp, tab, simprocAttr, reduceCtorEq, reduceIte]
  refine fin_stop trivial (runs_call (look_c N m l hm hl) rfl rfl rfl (by simp only [dstOk, Nat.reduceLT]) (by repeat (first | exact trivial | constructor)) (runs_eval tab_ok ?_))
  simp only [ev0, evA, evB, evP, fl, gp, tab, simprocAttr, reduceCtorEq, reduceIte]
  refine fin_run ?_ (hK _ ?_) <;> clear hK <;> clear K
  · (first | exact trivial | omega | (simp only [In64] at *; omega) | (simp [In64] at *; omega) | (simp_all; done) | skip)
  refine qa (qm ?_)
  refine hk_region fun K hK => runs_eval tab_ok ?_
  simp only [ev0, evA, evB, evP, fl, gp, tab, simprocAttr, reduceCtorEq, reduceIte]
  refine fin_run ?_ (hK _ ?_) <;> clear hK <;> clear K
  · (first | exact trivial | omega | (simp only [In64] at *; omega) | (simp [In64] at *; omega) | (simp_all; done) | skip)
  refine qa ?_
  refine hk_cond rfl (fun hC1 => ?_) (fun hC1 => ?_)
  · (try simp only [nhs] at hC1)
    refine qm ?_
    refine hk_draw mixed (by kernel_rfl) fun K hK => runs_eval tab_ok ?_
    simp only [ev0, evA, evB, evP, fl, gp, tab, simprocAttr, reduceCtorEq, reduceIte]
    refine fin_run ?_ (hK _ ?_) <;> clear hK <;> clear K
    · (first | exact trivial | omega | (simp only [In64] at *; omega) | (simp [In64] at *; omega) | (simp_all; done) | skip)
    refine qa (qk (qb ?_))
    simp only [Tryd.results27, enA, ev0, evA, evB, evP, fl, gp, tab, simprocAttr, reduceCtorEq, reduceIte]
    all_goals ((first | exact rfl | exact ⟨rfl, rfl⟩ | exact ⟨rfl, rfl, rfl⟩ | exact ⟨trivial, rfl⟩ | exact ⟨Nat.le_refl _, rfl⟩ | trivial | (simp; done)))
  · (try simp only [nhs] at hC1)
    exact absurd hC1 hf

theorem gen_bo {n e : Nat} {f : Nat → Nat → Nat} {p : Nat → Bool} {a : Nat} : Gen n f e (bo n p).testBit a ↔ Gen n f e p a :=
  ⟨Gen.mono fun b hb h => by rw [bo_bit] at h; simpa [hb] using h, Gen.mono fun b hb h => by rw [bo_bit]; simpa [hb] using h⟩

theorem made_ok {n e : Nat} {m : List Int} (h : GT n m n e) (p q : Nat → Bool) (hq : ∀ a, a < n → (q a = true ↔ Gen n (op m n) e p a)) : FnC Tryd.prog 27 [gp n m, .list (il (thl n p))] (.tup [.list (il (thl n q)), fl (0, 0)]) := by
  have hb := h.2.1.big
  have hl := thl_le n p
  have hml := h.2.1.len
  have hsq := sq_le hb
  refine fnc_of tab_ok Tryd.func27 rfl (by kernel_rfl) (by rw [Tryd.ntmps27]; exact Nat.le_add_left 2 _) ?_; rw [Tryd.ntmps27]
  refine qm ?_
  refine hk_region fun K hK => runs_eval tab_ok ?_
  simp only [ev0, evA, evB, evP, fl, gp, tab, simprocAttr, reduceCtorEq, reduceIte]
  refine fin_run ?_ (hK _ ?_) <;> clear hK <;> clear K
  · (first | exact trivial | omega | (simp only [In64] at *; omega) | (simp [In64] at *; omega) | (simp_all; done) | skip)
  refine qa (qm (qm ?_))
  refine hk_region fun K hK => runs_eval tab_ok ?_
  simp only [ev0, evA, evB, evP, fl, gp, tab, simprocAttr, reduceCtorEq, reduceIte]
  refine fin_stop trivial (runs_call (look_c n m (thl n p) (by omega) (by omega)) rfl rfl rfl (by simp only [dstOk, Nat.reduceLT]) (by repeat (first | exact trivial | constructor)) (runs_eval tab_ok ?_))
  simp only [ev0, evA, evB, evP, fl, gp, tab, simprocAttr, reduceCtorEq, reduceIte, sf_thl h]
  refine fin_run ?_ (hK _ ?_) <;> clear hK <;> clear K
  · (first | exact trivial | omega | (simp only [In64] at *; omega) | (simp [In64] at *; omega) | (simp_all; done) | skip)
  refine qa (qm ?_)
  refine hk_region fun K hK => runs_eval tab_ok ?_
  simp only [ev0, evA, evB, evP, fl, gp, tab, simprocAttr, reduceCtorEq, reduceIte]
  refine fin_run ?_ (hK _ ?_) <;> clear hK <;> clear K
  · (first | exact trivial | omega | (simp only [In64] at *; omega) | (simp [In64] at *; omega) | (simp_all; done) | skip)
  refine qa ?_
  refine hk_cond rfl (fun hC1 => ?_) (fun hC1 => ?_)
  · cases hC1
  · (try simp only [nhs] at hC1)
    refine qh (qa (qm ?_))
    refine hk_draw mixed (by kernel_rfl) fun K hK => runs_eval tab_ok ?_
    simp only [ev0, evA, evB, evP, fl, gp, tab, simprocAttr, reduceCtorEq, reduceIte]
    refine fin_stop trivial (runs_call (of_s (thl n p) (by omega) (thl_rng hb p)) rfl rfl rfl (by simp only [dstOk, Nat.reduceLT]) (by repeat (first | exact trivial | constructor)) (runs_eval tab_ok ?_))
    simp only [ev0, evA, evB, evP, fl, gp, tab, simprocAttr, reduceCtorEq, reduceIte, msk_thl]
    refine fin_stop trivial (runs_call (grow_c h (bo n p) (bo_lt n p) q (fun a ha => by rw [gen_bo]; exact hq a ha)) rfl rfl rfl (by simp only [dstOk, Nat.reduceLT]) (by repeat (first | exact trivial | constructor)) (runs_eval tab_ok ?_))
    simp only [ev0, evA, evB, evP, fl, gp, tab, simprocAttr, reduceCtorEq, reduceIte]
    refine fin_stop trivial (runs_call (list_s (bo n q) (bo_lt64 hb q)) rfl rfl rfl (by simp only [dstOk, Nat.reduceLT]) (by repeat (first | exact trivial | constructor)) (runs_eval tab_ok ?_))
    simp only [ev0, evA, evB, evP, fl, gp, tab, simprocAttr, reduceCtorEq, reduceIte, stl_bo hb]
    refine fin_run ?_ (hK _ ?_) <;> clear hK <;> clear K
    · (first | exact trivial | omega | (simp only [In64] at *; omega) | (simp [In64] at *; omega) | (simp_all; done) | skip)
    refine qa (qk ?_)
    simp only [Tryd.results27, enA, ev0, evA, evB, evP, fl, gp, tab, simprocAttr, reduceCtorEq, reduceIte]
    all_goals ((first | exact rfl | exact ⟨rfl, rfl⟩ | exact ⟨rfl, rfl, rfl⟩ | exact ⟨trivial, rfl⟩ | exact ⟨Nat.le_refl _, rfl⟩ | trivial | (simp; done)))

theorem is_no (N : Int) (m l : List Int) (hm : m.length ≤ 1000000000000000) (hl : l.length ≤ 1000000000000000) (hf : ¬ (sf N m l).1 = 0) : FnC Tryd.prog 126 [gp N m, .list (il l)] (.tup [.bool false, fl (sf N m l)]) := by
  refine fnc_of tab_ok Tryd.func126 rfl (by kernel_rfl) (by rw [Tryd.ntmps126]; exact Nat.le_add_left 2 _) ?_; rw [Tryd.ntmps126]
  refine qm ?_
  refine hk_region fun K hK => runs_eval tab_ok ?_
  simp only [ev0, evA, evB, evP, fl, gp, tab, simprocAttr, reduceCtorEq, reduceIte]
  refine fin_run ?_ (hK _ ?_) <;> clear hK <;> clear K
  · (first | exact trivial | omega | (simp only [In64] at *; omega) | (simp [In64] at *; omega) | (simp_all; done) | skip)
  refine qa (qm (qm ?_))
  refine hk_region fun K hK => runs_eval tab_ok ?_
  simp only [ev0, evA, evB, evP, fl, gp, tab, simprocAttr, reduceCtorEq, reduceIte]
  refine fin_stop trivial (runs_call (look_c N m l hm hl) rfl rfl rfl (by simp only [dstOk, Nat.reduceLT]) (by repeat (first | exact trivial | constructor)) (runs_eval tab_ok ?_))
  simp only [ev0, evA, evB, evP, fl, gp, tab, simprocAttr, reduceCtorEq, reduceIte]
  refine fin_run ?_ (hK _ ?_) <;> clear hK <;> clear K
  · (first | exact trivial | omega | (simp only [In64] at *; omega) | (simp [In64] at *; omega) | (simp_all; done) | skip)
  refine qa (qm ?_)
  refine hk_region fun K hK => runs_eval tab_ok ?_
  simp only [ev0, evA, evB, evP, fl, gp, tab, simprocAttr, reduceCtorEq, reduceIte]
  refine fin_run ?_ (hK _ ?_) <;> clear hK <;> clear K
  · (first | exact trivial | omega | (simp only [In64] at *; omega) | (simp [In64] at *; omega) | (simp_all; done) | skip)
  refine qa ?_
  refine hk_cond rfl (fun hC1 => ?_) (fun hC1 => ?_)
  · (try simp only [nhs] at hC1)
    refine qm ?_
    refine hk_draw mixed (by kernel_rfl) fun K hK => runs_eval tab_ok ?_
    simp only [ev0, evA, evB, evP, fl, gp, tab, simprocAttr, reduceCtorEq, reduceIte]
    refine fin_run ?_ (hK _ ?_) <;> clear hK <;> clear K
    · (first | exact trivial | omega | (simp only [In64] at *; omega) | (simp [In64] at *; omega) | (simp_all; done) | skip)
    refine qa (qk (qb ?_))
    simp only [Tryd.results126, enA, ev0, evA, evB, evP, fl, gp, tab, simprocAttr, reduceCtorEq, reduceIte]
    all_goals ((first | exact rfl | exact ⟨rfl, rfl⟩ | exact ⟨rfl, rfl, rfl⟩ | exact ⟨trivial, rfl⟩ | exact ⟨Nat.le_refl _, rfl⟩ | trivial | (simp; done)))
  · (try simp only [nhs] at hC1)
    exact absurd hC1 hf

theorem is_ok {n e : Nat} {m : List Int} (h : GT n m n e) (p : Nat → Bool) (b : Bool) (hbs : b = true ↔ Sub n (op m n) e p) : FnC Tryd.prog 126 [gp n m, .list (il (thl n p))] (.tup [.bool b, fl (0, 0)]) := by
  have G := h.2.2
  have hb := h.2.1.big
  have hl := thl_le n p
  have hml := h.2.1.len
  have hsq := sq_le hb
  obtain ⟨q, hq⟩ := gen_ex n (op m n) e p
  have hqs := gen_sub G hq
  have hqp : (((bo n q : Nat) : Int) = ((bo n p : Nat) : Int)) ↔ b = true := by
    rw [hbs]
    constructor
    · intro he
      have he2 : bo n q = bo n p := by omega
      have hc : ∀ a, a < n → q a = p a := fun a ha => bo_inj he2 ha
      refine ⟨?_, fun a b ha hb h1 h2 => ?_, fun a ha h1 => ?_⟩
      · rw [← hc e G.el]; exact hqs.one
      · rw [← hc _ (G.cl a b ha hb)]; exact hqs.mul a b ha hb (by rw [hc a ha]; exact h1) (by rw [hc b hb]; exact h2)
      · rw [← hc _ (G.iv_lt ha)]; exact hqs.inv a ha (by rw [hc a ha]; exact h1)
    · intro hs
      have : bo n q = bo n p := bo_congr fun a ha => by rw [Bool.eq_iff_iff, hq a ha, ← hs.gen G ha]
      rw [this]
  have hpos : b = true → 0 < (thl n p).length := fun hb1 => by
    obtain ⟨i, hi, _⟩ := thl_at G.el (hbs.1 hb1).one
    omega
  refine fnc_of tab_ok Tryd.func126 rfl (by kernel_rfl) (by rw [Tryd.ntmps126]; exact Nat.le_add_left 2 _) ?_; rw [Tryd.ntmps126]
  refine qm ?_
  refine hk_region fun K hK => runs_eval tab_ok ?_
  simp only [ev0, evA, evB, evP, fl, gp, tab, simprocAttr, reduceCtorEq, reduceIte]
  refine fin_run ?_ (hK _ ?_) <;> clear hK <;> clear K
  · (first | exact trivial | omega | (simp only [In64] at *; omega) | (simp [In64] at *; omega) | (simp_all; done) | skip)
  refine qa (qm (qm ?_))
  refine hk_region fun K hK => runs_eval tab_ok ?_
  simp only [ev0, evA, evB, evP, fl, gp, tab, simprocAttr, reduceCtorEq, reduceIte]
  refine fin_stop trivial (runs_call (look_c n m (thl n p) (by omega) (by omega)) rfl rfl rfl (by simp only [dstOk, Nat.reduceLT]) (by repeat (first | exact trivial | constructor)) (runs_eval tab_ok ?_))
  simp only [ev0, evA, evB, evP, fl, gp, tab, simprocAttr, reduceCtorEq, reduceIte, sf_thl h]
  refine fin_run ?_ (hK _ ?_) <;> clear hK <;> clear K
  · (first | exact trivial | omega | (simp only [In64] at *; omega) | (simp [In64] at *; omega) | (simp_all; done) | skip)
  refine qa (qm ?_)
  refine hk_region fun K hK => runs_eval tab_ok ?_
  simp only [ev0, evA, evB, evP, fl, gp, tab, simprocAttr, reduceCtorEq, reduceIte]
  refine fin_run ?_ (hK _ ?_) <;> clear hK <;> clear K
  · (first | exact trivial | omega | (simp only [In64] at *; omega) | (simp [In64] at *; omega) | (simp_all; done) | skip)
  refine qa ?_
  refine hk_cond rfl (fun hC1 => ?_) (fun hC1 => ?_)
  · cases hC1
  · (try simp only [nhs] at hC1)
    refine qh (qa (qm ?_))
    by_cases g4a : ((thl n p).length : Int) > 0
    · refine hk_draw mixed (by kernel_rfl) fun K hK => runs_eval tab_ok ?_
      simp only [ev0, evA, evB, evP, fl, gp, tab, simprocAttr, reduceCtorEq, reduceIte, decide_eq_true g4a]
      refine fin_stop trivial (runs_call (of_s (thl n p) (by omega) (thl_rng hb p)) rfl rfl rfl (by simp only [dstOk, Nat.reduceLT]) (by repeat (first | exact trivial | constructor)) (runs_eval tab_ok ?_))
      simp only [ev0, evA, evB, evP, fl, gp, tab, simprocAttr, reduceCtorEq, reduceIte, msk_thl, decide_eq_true g4a]
      refine fin_stop trivial (runs_call (grow_c h (bo n p) (bo_lt n p) q (fun a ha => by rw [gen_bo]; exact hq a ha)) rfl rfl rfl (by simp only [dstOk, Nat.reduceLT]) (by repeat (first | exact trivial | constructor)) (runs_eval tab_ok ?_))
      simp only [ev0, evA, evB, evP, fl, gp, tab, simprocAttr, reduceCtorEq, reduceIte, decide_eq_true g4a]
      refine fin_stop trivial (runs_call (of_s (thl n p) (by omega) (thl_rng hb p)) rfl rfl rfl (by simp only [dstOk, Nat.reduceLT]) (by repeat (first | exact trivial | constructor)) (runs_eval tab_ok ?_))
      simp only [ev0, evA, evB, evP, fl, gp, tab, simprocAttr, reduceCtorEq, reduceIte, msk_thl, decide_eq_true g4a]
      refine fin_run ?_ (hK _ ?_) <;> clear hK <;> clear K
      · (first | exact trivial | omega | (simp only [In64] at *; omega) | (simp [In64] at *; omega) | (simp_all; done) | skip)
      refine qa (qk ?_)
      simp only [Tryd.results126, enA, ev0, evA, evB, evP, fl, gp, tab, simprocAttr, reduceCtorEq, reduceIte]
      all_goals (rw [Bool.eq_iff_iff, decide_eq_true_eq]; exact hqp)
    · refine hk_draw mixed (by kernel_rfl) fun K hK => runs_eval tab_ok ?_
      simp only [ev0, evA, evB, evP, fl, gp, tab, simprocAttr, reduceCtorEq, reduceIte, decide_eq_false g4a]
      refine fin_run ?_ (hK _ ?_) <;> clear hK <;> clear K
      · (first | exact trivial | omega | (simp only [In64] at *; omega) | (simp [In64] at *; omega) | (simp_all; done) | skip)
      refine qa (qk ?_)
      simp only [Tryd.results126, enA, ev0, evA, evB, evP, fl, gp, tab, simprocAttr, reduceCtorEq, reduceIte]
      cases b with
      | false => rfl
      | true => have := hpos rfl; omega

theorem closed_c {n e : Nat} {m : List Int} (h : GT n m n e) (p : Nat → Bool) (b : Bool) (hbs : b = true ↔ Sub n (op m n) e p) : FnC Tryd.prog 49 [gp n m, .list (il (thl n p))] (.bool b) := by
  have G := h.2.2
  have T := h.2.1
  have hb := T.big
  have hl := thl_le n p
  refine fnc_of tab_ok Tryd.func49 rfl (by kernel_rfl) (by rw [Tryd.ntmps49]; exact Nat.le_add_left 2 _) ?_; rw [Tryd.ntmps49]
  refine qm ?_
  refine hk_region fun K hK => runs_eval tab_ok ?_
  simp only [ev0, evA, evB, evP, fl, gp, tab, simprocAttr, reduceCtorEq, reduceIte]
  refine fin_run ?_ (hK _ ?_) <;> clear hK <;> clear K
  · (first | exact trivial | omega | (simp only [In64] at *; omega) | (simp [In64] at *; omega) | (simp_all; done) | skip)
  refine qa (qm (qm ?_))
  refine hk_region fun K hK => runs_eval tab_ok ?_
  simp only [ev0, evA, evB, evP, fl, gp, tab, simprocAttr, reduceCtorEq, reduceIte]
  refine fin_stop trivial (runs_call (e_c T) rfl rfl rfl (by simp only [dstOk, Nat.reduceLT]) (by repeat (first | exact trivial | constructor)) (runs_eval tab_ok ?_))
  simp only [ev0, evA, evB, evP, fl, gp, tab, simprocAttr, reduceCtorEq, reduceIte, h.eI]
  refine fin_stop trivial (runs_call (has_r (thl n p) (e : Nat) (by omega)) rfl rfl rfl (by simp only [dstOk, Nat.reduceLT]) (by repeat (first | exact trivial | constructor)) (runs_eval tab_ok ?_))
  simp only [ev0, evA, evB, evP, fl, gp, tab, simprocAttr, reduceCtorEq, reduceIte]
  refine fin_run ?_ (hK _ ?_) <;> clear hK <;> clear K
  · (first | exact trivial | omega | (simp only [In64] at *; omega) | (simp [In64] at *; omega) | (simp_all; done) | skip)
  refine qa ?_
  refine hk_cond rfl (fun hC1 => ?_) (fun hC1 => ?_)
  · (try simp only [nhs] at hC1)
    refine qm ?_
    refine hk_region fun K hK => runs_eval tab_ok ?_
    simp only [ev0, evA, evB, evP, fl, gp, tab, simprocAttr, reduceCtorEq, reduceIte]
    refine fin_run trivial (hK _ ?_) <;> clear hK <;> clear K
    refine qa (qk (qb ?_))
    simp only [Tryd.results49, enA, ev0, evA, evB, evP, fl, gp, tab, simprocAttr, reduceCtorEq, reduceIte]
    cases b with
    | false => rfl
    | true => exact absurd ((mem_thl_n G.el).2 (hbs.1 rfl).one) (by simpa using hC1)
  · (try simp only [nhs] at hC1)
    have he : p e = true := (mem_thl_n G.el).1 hC1
    refine qh (qa (qm (qm ?_)))
    refine hk_region fun K hK => runs_eval tab_ok ?_
    simp only [ev0, evA, evB, evP, fl, gp, tab, simprocAttr, reduceCtorEq, reduceIte]
    refine fin_run trivial (hK _ ?_) <;> clear hK <;> clear K
    refine qa (ql ?_)
    refine hk_loop (ι := Nat) (fun i => ⟨46, [(1, .p (.list (il (thl n p)))), (2, .ptr 0 0), (5, .p (.int .i64 i))], [.own [.p (.int .i64 n), .p (.list (il m))]]⟩) (fun i => i ≤ (thl n p).length ∧ ∀ j, j < i → ∀ k, k < (thl n p).length → p (op m n ((thl n p).getD j 0).toNat ((thl n p).getD k 0).toNat) = true) (fun i => (thl n p).length - i) 0 ⟨Nat.zero_le _, fun j hj => by omega⟩ [0] (by simp only [leq, leA, ev0, evA, evB, evP, fl, gp, tab, simprocAttr, reduceCtorEq, reduceIte] <;> trivial) fun i hi => ?_
    obtain ⟨hi1, hi2⟩ := hi
    refine qm (qm ?_)
    refine hk_region fun K hK => runs_eval tab_ok ?_
    simp only [ev0, evA, evB, evP, fl, gp, tab, simprocAttr, reduceCtorEq, reduceIte]
    refine fin_run trivial (hK _ ?_) <;> clear hK <;> clear K
    refine qa ?_
    refine hk_cond rfl (fun hC2 => ?_) (fun hC2 => ?_)
    · (try simp only [nhs] at hC2)
      have hlt : i < (thl n p).length := by omega
      obtain ⟨x, x1, x2, x3⟩ := thl_get hlt
      refine qh (qa (qm (ql (qm (qm ?_)))))
      refine hk_draw mixed (by kernel_rfl) fun K hK => runs_eval tab_ok ?_
      simp only [ev0, evA, evB, evP, fl, gp, tab, simprocAttr, reduceCtorEq, reduceIte, il_get hlt, x3]
      refine fin_stop ?_ (runs_call (i_c T x1) rfl rfl rfl (by simp only [dstOk, Nat.reduceLT]) (by repeat (first | exact trivial | constructor)) (runs_eval tab_ok ?_))
      · (first | exact trivial | omega | (simp only [In64] at *; omega) | (simp [In64] at *; omega) | (simp_all; done) | skip)
      simp only [ev0, evA, evB, evP, fl, gp, tab, simprocAttr, reduceCtorEq, reduceIte, h.iI x1, il_get hlt, x3]
      refine fin_stop trivial (runs_call (has_r (thl n p) (iv n (op m n) e x : Nat) (by omega)) rfl rfl rfl (by simp only [dstOk, Nat.reduceLT]) (by repeat (first | exact trivial | constructor)) (runs_eval tab_ok ?_))
      simp only [ev0, evA, evB, evP, fl, gp, tab, simprocAttr, reduceCtorEq, reduceIte, il_get hlt, x3]
      refine fin_run ?_ (hK _ ?_) <;> clear hK <;> clear K
      · (first | exact trivial | omega | (simp only [In64] at *; omega) | (simp [In64] at *; omega) | (simp_all; done) | skip)
      refine qa ?_
      refine hk_cond rfl (fun hC3 => ?_) (fun hC3 => ?_)
      · (try simp only [nhs] at hC3)
        refine qm ?_
        refine hk_region fun K hK => runs_eval tab_ok ?_
        simp only [ev0, evA, evB, evP, fl, gp, tab, simprocAttr, reduceCtorEq, reduceIte]
        refine fin_run trivial (hK _ ?_) <;> clear hK <;> clear K
        refine qa (qk (qb (qe (qb (qb (qe (qb ?_)))))))
        simp only [Tryd.results49, enA, ev0, evA, evB, evP, fl, gp, tab, simprocAttr, reduceCtorEq, reduceIte]
        cases b with
        | false => rfl
        | true => exact absurd ((mem_thl_n (G.iv_lt x1)).2 ((hbs.1 rfl).inv x x1 x2)) (by simpa using hC3)
      · (try simp only [nhs] at hC3)
        have hi3 : p (iv n (op m n) e x) = true := (mem_thl_n (G.iv_lt x1)).1 hC3
        refine qh (qa (qm ?_))
        refine hk_region fun K hK => runs_eval tab_ok ?_
        simp only [ev0, evA, evB, evP, fl, gp, tab, simprocAttr, reduceCtorEq, reduceIte]
        refine fin_run trivial (hK _ ?_) <;> clear hK <;> clear K
        refine qa (ql ?_)
        refine hk_loop (ι := Nat) (fun k => ⟨46, [(1, .p (.list (il (thl n p)))), (2, .ptr 0 0), (5, .p (.int .i64 i)), (6, .p (.int .i64 k))], [.own [.p (.int .i64 n), .p (.list (il m))]]⟩) (fun k => k ≤ (thl n p).length ∧ ∀ j, j < k → p (op m n x ((thl n p).getD j 0).toNat) = true) (fun k => (thl n p).length - k) 0 ⟨Nat.zero_le _, fun j hj => by omega⟩ [0] (by simp only [leq, leA, ev0, evA, evB, evP, fl, gp, tab, simprocAttr, reduceCtorEq, reduceIte] <;> trivial) fun k hk => ?_
        obtain ⟨hk1, hk2⟩ := hk
        refine qm (qm ?_)
        refine hk_region fun K hK => runs_eval tab_ok ?_
        simp only [ev0, evA, evB, evP, fl, gp, tab, simprocAttr, reduceCtorEq, reduceIte]
        refine fin_run trivial (hK _ ?_) <;> clear hK <;> clear K
        refine qa ?_
        refine hk_cond rfl (fun hC4 => ?_) (fun hC4 => ?_)
        · (try simp only [nhs] at hC4)
          have hkl : k < (thl n p).length := by omega
          obtain ⟨y, y1, y2, y3⟩ := thl_get hkl
          refine qh (qa (qm (ql (qm ?_))))
          refine hk_draw mixed (by kernel_rfl) fun K hK => runs_eval tab_ok ?_
          simp only [ev0, evA, evB, evP, fl, gp, tab, simprocAttr, reduceCtorEq, reduceIte, il_get hlt, il_get hkl, x3, y3]
          refine fin_stop ?_ (runs_call (m_c T x1 y1) rfl rfl rfl (by simp only [dstOk, Nat.reduceLT]) (by repeat (first | exact trivial | constructor)) (runs_eval tab_ok ?_))
          · (first | exact trivial | omega | (simp only [In64] at *; omega) | (simp [In64] at *; omega) | (simp_all; done) | skip)
          simp only [ev0, evA, evB, evP, fl, gp, tab, simprocAttr, reduceCtorEq, reduceIte, il_get hlt, il_get hkl, x3, y3]
          refine fin_stop trivial (runs_call (has_r (thl n p) (op m n x y : Nat) (by omega)) rfl rfl rfl (by simp only [dstOk, Nat.reduceLT]) (by repeat (first | exact trivial | constructor)) (runs_eval tab_ok ?_))
          simp only [ev0, evA, evB, evP, fl, gp, tab, simprocAttr, reduceCtorEq, reduceIte, il_get hlt, il_get hkl, x3, y3]
          refine fin_run ?_ (hK _ ?_) <;> clear hK <;> clear K
          · (first | exact trivial | omega | (simp only [In64] at *; omega) | (simp [In64] at *; omega) | (simp_all; done) | skip)
          refine qa ?_
          refine hk_cond rfl (fun hC5 => ?_) (fun hC5 => ?_)
          · (try simp only [nhs] at hC5)
            refine qm ?_
            refine hk_region fun K hK => runs_eval tab_ok ?_
            simp only [ev0, evA, evB, evP, fl, gp, tab, simprocAttr, reduceCtorEq, reduceIte]
            refine fin_run trivial (hK _ ?_) <;> clear hK <;> clear K
            refine qa (qk (qe (qb (qb (qe (qe (qb (qb (qe (qb ?_))))))))))
            simp only [Tryd.results49, enA, ev0, evA, evB, evP, fl, gp, tab, simprocAttr, reduceCtorEq, reduceIte]
            cases b with
            | false => rfl
            | true => exact absurd ((mem_thl_n (G.cl x y x1 y1)).2 ((hbs.1 rfl).mul x y x1 y1 x2 y2)) (by simpa using hC5)
          · (try simp only [nhs] at hC5)
            have hm3 : p (op m n x y) = true := (mem_thl_n (G.cl x y x1 y1)).1 hC5
            refine qh (qd (qa ?_))
            refine hk_region fun K hK => runs_eval tab_ok ?_
            simp only [ev0, evA, evB, evP, fl, gp, tab, simprocAttr, reduceCtorEq, reduceIte]
            refine fin_run ?_ (hK _ ?_) <;> clear hK <;> clear K
            · (first | exact trivial | omega | (simp only [In64] at *; omega) | (simp [In64] at *; omega) | (simp_all; done) | skip)
            refine qa ?_
            refine ⟨k + 1, [0], ⟨by omega, fun j hj => ?_⟩, by omega, ?_⟩
            · by_cases hj2 : j = k
              · subst hj2; rw [y3, Int.toNat_natCast]; exact hm3
              · exact hk2 j (by omega)
            · simp only [leq, leA, ev0, evA, evB, evP, fl, gp, tab, simprocAttr, reduceCtorEq, reduceIte] <;> omega
        · (try simp only [nhs] at hC4)
          refine qj (qc (qc (qf (qd (qa ?_)))))
          refine hk_region fun K hK => runs_eval tab_ok ?_
          simp only [ev0, evA, evB, evP, fl, gp, tab, simprocAttr, reduceCtorEq, reduceIte]
          refine fin_run ?_ (hK _ ?_) <;> clear hK <;> clear K
          · (first | exact trivial | omega | (simp only [In64] at *; omega) | (simp [In64] at *; omega) | (simp_all; done) | skip)
          refine qa ?_
          refine ⟨i + 1, [0], ⟨by omega, fun j hj k' hk' => ?_⟩, by omega, ?_⟩
          · by_cases hj2 : j = i
            · subst hj2; rw [x3, Int.toNat_natCast]; exact hk2 k' (by omega)
            · exact hi2 j (by omega) k' hk'
          · simp only [leq, leA, ev0, evA, evB, evP, fl, gp, tab, simprocAttr, reduceCtorEq, reduceIte] <;> omega
    · (try simp only [nhs] at hC2)
      refine qj (qc (qc (qf (qa (qm ?_)))))
      refine hk_region fun K hK => runs_eval tab_ok ?_
      simp only [ev0, evA, evB, evP, fl, gp, tab, simprocAttr, reduceCtorEq, reduceIte]
      refine fin_run trivial (hK _ ?_) <;> clear hK <;> clear K
      refine qa (qk ?_)
      simp only [Tryd.results49, enA, ev0, evA, evB, evP, fl, gp, tab, simprocAttr, reduceCtorEq, reduceIte]
      rw [eq_comm, hbs]
      refine sub_of G he fun a b ha hb' h1 h2 => ?_
      obtain ⟨j, j1, j2⟩ := thl_at ha h1
      obtain ⟨k, k1, k2⟩ := thl_at hb' h2
      have := hi2 j (by omega) k k1
      rwa [j2, k2, Int.toNat_natCast, Int.toNat_natCast] at this

/-! ### Rows of truths -/

def bl (n : Nat) (r : Nat → Bool) : List PV := (List.range n).map fun a => .bool (r a)
theorem bl_len (n : Nat) (r : Nat → Bool) : (bl n r).length = n := by simp [bl]
theorem bl_get {n : Nat} {r : Nat → Bool} {a : Nat} (ha : a < n) : (bl n r).getD a default = .bool (r a) := by
  simp [bl, List.getD, List.getElem?_map, List.getElem?_range ha]
theorem bl_one (n : Nat) (r : Nat → Bool) : (bl n r).all PV.one = true := by
  simp [bl, PV.one]
theorem obl_get {n : Nat} {r : Nat → Bool} {a : Nat} (ha : a < n) (d : AV) : (opl (bl n r)).getD a d = .p (.bool (r a)) := by
  simp [opl, bl, List.getD, List.getElem?_map, List.getElem?_range ha]
/-- With one more. -/
def upd (r : Nat → Bool) (a i : Nat) : Bool := r i || decide (i = a)
theorem obl_set (n : Nat) (r : Nat → Bool) (a : Nat) : (opl (bl n r)).set a (.p (.bool true)) = opl (bl n (upd r a)) := by
  refine List.ext_getElem (by simp [opl, bl]) fun i h1 h2 => ?_
  simp only [opl, bl, List.length_map, List.length_range, List.length_set] at h1 h2
  rw [List.getElem_set]
  by_cases e : a = i
  · subst e; simp [opl, bl, upd]
  · rw [if_neg e]
    have : decide (i = a) = false := by simp; omega
    simp [opl, bl, upd, this]
theorem obl_new (n : Nat) : List.replicate n (AV.p (.bool false)) = opl (bl n fun _ => false) := by
  refine List.ext_getElem (by simp [opl, bl]) fun i h1 h2 => ?_
  simp [opl, bl]
theorem bl_congr {n : Nat} {r r' : Nat → Bool} (h : ∀ a, a < n → r a = r' a) : bl n r = bl n r' := by
  unfold bl
  refine List.map_congr_left fun a ha => by rw [h a (List.mem_range.1 ha)]
theorem obl_ok (n : Nat) (r : Nat → Bool) : (opl (bl n r)).all cellOk = true := opl_ok (bl_one n r)
theorem obl_len (n : Nat) (r : Nat → Bool) : (opl (bl n r)).length = n := by rw [opl_length, bl_len]

/-- More bits, a greater number. -/
theorem bo_lt_of {n : Nat} {r r' : Nat → Bool} (h : ∀ a, a < n → r a = true → r' a = true) {a : Nat} (ha : a < n) (h1 : r a = false) (h2 : r' a = true) : bo n r < bo n r' := by
  refine Nat.lt_of_le_of_ne (Nat.le_of_testBit fun i hi => ?_) fun he => ?_
  · rw [bo_bit, Bool.and_eq_true, decide_eq_true_eq] at hi ⊢
    exact ⟨hi.1, h i hi.1 hi.2⟩
  · have := bo_inj he ha
    rw [h1, h2] at this; cases this

theorem bool3 (a b : Bool) : a = false ∨ (a = true ∧ b = false) ∨ (a = true ∧ b = true) := by cases a <;> cases b <;> simp

theorem span1_c (n a : Nat) (r : Nat → Bool) (ha : a < n) (hn : n ≤ 60) : FnC Tryd.prog 77 [.int .i64 a, .ptr [.list (bl n r)]] (.bool (r a)) := by
  refine fnc_of tab_ok Tryd.func77 rfl (by kernel_rfl) (by rw [Tryd.ntmps77]; exact Nat.le_add_left 2 _) ?_; rw [Tryd.ntmps77]
  refine qm ?_
  refine hk_region fun K hK => runs_eval tab_ok ?_
  simp only [ev0, evA, evB, evP, fl, gp, tab, simprocAttr, reduceCtorEq, reduceIte]
  refine fin_run trivial (hK _ ?_) <;> clear hK <;> clear K
  refine qa (qm ?_)
  refine hk_region fun K hK => runs_eval tab_ok ?_
  simp only [ev0, evA, evB, evP, fl, gp, tab, simprocAttr, reduceCtorEq, reduceIte, bl_get ha, bl_len]
  refine fin_run ?_ (hK _ ?_) <;> clear hK <;> clear K
  · (first | exact trivial | omega | (simp only [In64] at *; omega) | (simp [In64] at *; omega) | (simp_all; done) | skip)
  refine qa (qk ?_)
  simp only [Tryd.results77, enA, ev0, evA, evB, evP, fl, gp, tab, simprocAttr, reduceCtorEq, reduceIte]
  all_goals (rfl)

set_option maxHeartbeats 2000000 in
theorem span_c {n e : Nat} {m : List Int} (h : GT n m n e) (l : List Int) (hl : l.length ≤ 1000000000000) (hr : ∀ x ∈ l, ∃ a, a < n ∧ x = ((a : Nat) : Int)) (q : Nat → Bool) (hq : ∀ a, a < n → (q a = true ↔ Gen n (op m n) e (tst l) a)) : FnC Tryd.prog 25 [gp n m, .list (il l)] (.list (il (thl n q))) := by
  have G := h.2.2
  have T := h.2.1
  have hb := T.big
  have hel := G.el
  refine fnc_of tab_ok Tryd.func25 rfl (by kernel_rfl) (by rw [Tryd.ntmps25]; exact Nat.le_add_left 2 _) ?_; rw [Tryd.ntmps25]
  refine qm ?_
  refine hk_region fun K hK => runs_eval tab_ok ?_
  simp only [ev0, evA, evB, evP, fl, gp, tab, simprocAttr, reduceCtorEq, reduceIte]
  refine fin_run ?_ (hK _ ?_) <;> clear hK <;> clear K
  · (first | exact trivial | omega | (simp only [In64] at *; omega) | (simp [In64] at *; omega) | (simp_all; done) | skip)
  refine qa (qm ?_)
  refine hk_region fun K hK => runs_eval tab_ok ?_
  simp only [ev0, evA, evB, evP, fl, gp, tab, simprocAttr, reduceCtorEq, reduceIte, makeSliceA.eq_def, obl_new]
  refine fin_run ?_ (hK _ ?_) <;> clear hK <;> clear K
  · omega
  refine qa (qm ?_)
  refine hk_draw mixed (by kernel_rfl) fun K hK => runs_eval tab_ok ?_
  simp only [ev0, evA, evB, evP, fl, gp, tab, simprocAttr, reduceCtorEq, reduceIte]
  refine fin_stop trivial (runs_call (e_c T) rfl rfl rfl (by simp only [dstOk, Nat.reduceLT]) (by repeat (first | exact trivial | constructor)) (runs_eval tab_ok ?_))
  simp only [ev0, evA, evB, evP, fl, gp, tab, simprocAttr, reduceCtorEq, reduceIte, h.eI]
  refine fin_run ?_ (hK _ ?_) <;> clear hK <;> clear K
  · rw [bl_len]; omega
  refine qa (qm (qm ?_))
  rw [obl_set, show upd (fun _ => false) e = fun a => decide (a = e) || tst (l.take 0) a from funext fun a => by simp [upd, tst]]
  refine hk_region fun K hK => runs_eval tab_ok ?_
  simp only [ev0, evA, evB, evP, fl, gp, tab, simprocAttr, reduceCtorEq, reduceIte]
  refine fin_run trivial (hK _ ?_) <;> clear hK <;> clear K
  refine qa (ql ?_)
  refine hk_loop (ι := Nat) (fun i => ⟨71, [(1, .p (.list (il l))), (2, .ptr 0 0), (5, .ptr 2 0), (6, .p (.int .i64 i))], [.own [.p (.int .i64 n), .p (.list (il m))], .own (opl (bl n fun a => decide (a = e) || tst (l.take i) a)), .own [.sl 1 0 n]]⟩) (fun i => i ≤ l.length) (fun i => l.length - i) 0 (Nat.zero_le _) [0, 1, 2] (by simp only [leq, leA, ev0, evA, evB, evP, fl, gp, tab, simprocAttr, reduceCtorEq, reduceIte] <;> first | trivial | (simp; done)) fun i hi => ?_
  refine qm (qm ?_)
  refine hk_region fun K hK => runs_eval tab_ok ?_
  simp only [ev0, evA, evB, evP, fl, gp, tab, simprocAttr, reduceCtorEq, reduceIte]
  refine fin_run trivial (hK _ ?_) <;> clear hK <;> clear K
  refine qa ?_
  refine hk_cond rfl (fun hC1 => ?_) (fun hC1 => ?_)
  · (try simp only [nhs] at hC1)
    have hlt : i < l.length := by omega
    have hmem : l.getD i 0 ∈ l := by simp [List.getD, List.getElem?_eq_getElem hlt]
    obtain ⟨x, x1, x2⟩ := hr _ hmem
    refine qh (qa (qm (ql ?_)))
    refine hk_draw mixed (by kernel_rfl) fun K hK => runs_eval tab_ok ?_
    simp only [ev0, evA, evB, evP, fl, gp, tab, simprocAttr, reduceCtorEq, reduceIte, il_get hlt, x2, obl_len]
    refine fin_run ?_ (hK _ ?_) <;> clear hK <;> clear K
    · rw [bl_len]; omega
    refine qd (qa ?_)
    rw [obl_set]
    refine hk_region fun K hK => runs_eval tab_ok ?_
    simp only [ev0, evA, evB, evP, fl, gp, tab, simprocAttr, reduceCtorEq, reduceIte]
    refine fin_run ?_ (hK _ ?_) <;> clear hK <;> clear K
    · (first | exact trivial | omega | (simp only [In64] at *; omega) | (simp [In64] at *; omega) | (simp_all; done) | skip)
    refine qa ?_
    refine ⟨i + 1, [0, 1, 2], by omega, by omega, ?_⟩
    have hc : bl n (fun a => decide (a = e) || tst (l.take (i + 1)) a) = bl n (upd (fun a => decide (a = e) || tst (l.take i) a) x) := bl_congr fun a ha => by
      rw [List.take_succ_eq_append_getElem hlt]
      have e1 : l[i] = (x : Int) := by rw [← x2]; simp [List.getD, List.getElem?_eq_getElem hlt]
      rw [e1]
      unfold upd tst
      rw [Bool.or_assoc]
      congr 1
      rw [← Bool.decide_or]
      refine decide_eq_decide.2 ?_
      rw [List.mem_append, List.mem_singleton]
      constructor
      · rintro (h | h)
        · exact .inl h
        · exact .inr (by omega)
      · rintro (h | h)
        · exact .inl h
        · exact .inr (by omega)
    rw [hc]
    simp only [leq, leA, ev0, evA, evB, evP, fl, gp, tab, simprocAttr, reduceCtorEq, reduceIte] <;> first | trivial | omega
  · (try simp only [nhs] at hC1)
    have hin : i = l.length := by omega
    subst hin
    rw [List.take_length]
    refine qj (qc (qc (qf (qa (qm (qm ?_))))))
    refine hk_region fun K hK => runs_eval tab_ok ?_
    simp only [ev0, evA, evB, evP, fl, gp, tab, simprocAttr, reduceCtorEq, reduceIte]
    refine fin_run trivial (hK _ ?_) <;> clear hK <;> clear K
    refine qa (ql ?_)
    refine hk_loop (ι := (Nat → Bool) × Bool) (fun p => ⟨71, [(2, .ptr 0 0), (5, .ptr 2 0), (7, .p (.bool p.2))], [.own [.p (.int .i64 n), .p (.list (il m))], .own (opl (bl n p.1)), .own [.sl 1 0 n]]⟩) (fun p => p.1 e = true ∧ (∀ a, a < n → tst l a = true → p.1 a = true) ∧ (∀ a, a < n → p.1 a = true → Gen n (op m n) e (tst l) a) ∧ (p.2 = false → ∀ a, a < n → ∀ b, b < n → p.1 a = true → p.1 b = true → p.1 (op m n a b) = true)) (fun p => 2 * (2 ^ 64 - bo n p.1) + (if p.2 = true then 1 else 0)) (fun a => decide (a = e) || tst l a, true) ⟨by simp, fun a _ h => by simp [h], fun a ha h => by
        simp only [Bool.or_eq_true, decide_eq_true_eq] at h
        rcases h with rfl | h
        · exact .one
        · exact Gen.mem G ha h, fun h => by cases h⟩ [0, 1, 2] (by simp only [leq, leA, ev0, evA, evB, evP, fl, gp, tab, simprocAttr, reduceCtorEq, reduceIte] <;> first | trivial | (simp; done)) fun p hp => ?_
    obtain ⟨r, again⟩ := p
    obtain ⟨r1, r2, r3, r4⟩ := hp
    simp only at r1 r2 r3 r4
    refine qm (qm ?_)
    refine hk_region fun K hK => runs_eval tab_ok ?_
    simp only [ev0, evA, evB, evP, fl, gp, tab, simprocAttr, reduceCtorEq, reduceIte]
    refine fin_run trivial (hK _ ?_) <;> clear hK <;> clear K
    refine qa ?_
    refine hk_cond rfl (fun hC2 => ?_) (fun hC2 => ?_)
    · (try simp only [nhs] at hC2)
      subst hC2
      refine qh (qa (ql (qm ?_)))
      refine hk_region fun K hK => runs_eval tab_ok ?_
      simp only [ev0, evA, evB, evP, fl, gp, tab, simprocAttr, reduceCtorEq, reduceIte]
      refine fin_run trivial (hK _ ?_) <;> clear hK <;> clear K
      refine qa (qm ?_)
      refine hk_region fun K hK => runs_eval tab_ok ?_
      simp only [ev0, evA, evB, evP, fl, gp, tab, simprocAttr, reduceCtorEq, reduceIte]
      refine fin_run trivial (hK _ ?_) <;> clear hK <;> clear K
      refine qa (ql ?_)
      refine hk_loop (ι := Nat × (Nat → Bool) × Bool) (fun p => ⟨71, [(2, .ptr 0 0), (5, .ptr 2 0), (7, .p (.bool p.2.2)), (8, .p (.int .i64 p.1))], [.own [.p (.int .i64 n), .p (.list (il m))], .own (opl (bl n p.2.1)), .own [.sl 1 0 n]]⟩) (fun p => p.1 ≤ n ∧ (∀ a, a < n → r a = true → p.2.1 a = true) ∧ (∀ a, a < n → p.2.1 a = true → Gen n (op m n) e (tst l) a) ∧ (p.2.2 = true → bo n r < bo n p.2.1) ∧ (p.2.2 = false → p.2.1 = r ∧ ∀ a, a < p.1 → ∀ b, b < n → r a = true → r b = true → r (op m n a b) = true)) (fun p => n - p.1) (0, r, false) ⟨Nat.zero_le _, fun a _ h => h, r3, fun h => by (first | cases h | simp at h), fun _ => ⟨rfl, fun a ha => by simp only at ha; omega⟩⟩ [0, 1, 2] (by simp only [leq, leA, ev0, evA, evB, evP, fl, gp, tab, simprocAttr, reduceCtorEq, reduceIte] <;> first | trivial | (simp; done)) fun p hp => ?_
      obtain ⟨i, r', ag⟩ := p
      obtain ⟨u1, u2, u3, u4, u5⟩ := hp
      simp only at u1 u2 u3 u4 u5
      refine qm (qm ?_)
      refine hk_region fun K hK => runs_eval tab_ok ?_
      simp only [ev0, evA, evB, evP, fl, gp, tab, simprocAttr, reduceCtorEq, reduceIte]
      refine fin_run ?_ (hK _ ?_) <;> clear hK <;> clear K
      · (first | exact trivial | omega | (simp only [In64] at *; omega) | (simp [In64] at *; omega) | (simp_all; done) | skip)
      refine qa ?_
      refine hk_cond rfl (fun hC3 => ?_) (fun hC3 => ?_)
      · (try simp only [nhs] at hC3)
        have hil : i < n := by omega
        refine qh (qa (qm (ql (qm ?_))))
        refine hk_region fun K hK => runs_eval tab_ok ?_
        simp only [ev0, evA, evB, evP, fl, gp, tab, simprocAttr, reduceCtorEq, reduceIte]
        refine fin_run trivial (hK _ ?_) <;> clear hK <;> clear K
        refine qa (ql ?_)
        refine hk_loop (ι := Nat × (Nat → Bool) × Bool) (fun p => ⟨71, [(2, .ptr 0 0), (5, .ptr 2 0), (7, .p (.bool p.2.2)), (8, .p (.int .i64 i)), (9, .p (.int .i64 p.1))], [.own [.p (.int .i64 n), .p (.list (il m))], .own (opl (bl n p.2.1)), .own [.sl 1 0 n]]⟩) (fun p => p.1 ≤ n ∧ (∀ a, a < n → r a = true → p.2.1 a = true) ∧ (∀ a, a < n → p.2.1 a = true → Gen n (op m n) e (tst l) a) ∧ (p.2.2 = true → bo n r < bo n p.2.1) ∧ (p.2.2 = false → p.2.1 = r ∧ (∀ a, a < i → ∀ b, b < n → r a = true → r b = true → r (op m n a b) = true) ∧ ∀ b, b < p.1 → r i = true → r b = true → r (op m n i b) = true)) (fun p => n - p.1) (0, r', ag) ⟨Nat.zero_le _, u2, u3, u4, fun h => ⟨(u5 h).1, (u5 h).2, fun b hb => by simp only at hb; omega⟩⟩ [0, 1, 2] (by simp only [leq, leA, ev0, evA, evB, evP, fl, gp, tab, simprocAttr, reduceCtorEq, reduceIte] <;> first | trivial | (simp; done)) fun p hp => ?_
        obtain ⟨j, r'', ag'⟩ := p
        obtain ⟨v1, v2, v3, v4, v5⟩ := hp
        simp only at v1 v2 v3 v4 v5
        refine qm (qm ?_)
        refine hk_region fun K hK => runs_eval tab_ok ?_
        simp only [ev0, evA, evB, evP, fl, gp, tab, simprocAttr, reduceCtorEq, reduceIte]
        refine fin_run ?_ (hK _ ?_) <;> clear hK <;> clear K
        · (first | exact trivial | omega | (simp only [In64] at *; omega) | (simp [In64] at *; omega) | (simp_all; done) | skip)
        refine qa ?_
        refine hk_cond rfl (fun hC4 => ?_) (fun hC4 => ?_)
        · (try simp only [nhs] at hC4)
          have hjl : j < n := by omega
          have hfl := G.cl i j hil hjl
          refine qh (qa (qm (ql (qm ?_))))
          rcases bool3 (r'' i) (r'' j) with hri | ⟨hri, hrj⟩ | ⟨hri, hrj⟩
          · refine hk_draw mixed (by kernel_rfl) fun K hK => runs_eval tab_ok ?_
            simp only [ev0, evA, evB, evP, fl, gp, tab, simprocAttr, reduceCtorEq, reduceIte, obl_get hil, bl_len, obl_len, hri]
            refine fin_run ?_ (hK _ ?_) <;> clear hK <;> clear K
            · omega
            refine qa ?_
            refine hk_cond rfl (fun hC5 => ?_) (fun hC5 => ?_)
            · cases hC5
            · refine qh (qd (qa ?_))
              refine hk_region fun K hK => runs_eval tab_ok ?_
              simp only [ev0, evA, evB, evP, fl, gp, tab, simprocAttr, reduceCtorEq, reduceIte]
              refine fin_run ?_ (hK _ ?_) <;> clear hK <;> clear K
              · (first | exact trivial | omega | (simp only [In64] at *; omega) | (simp [In64] at *; omega) | (simp_all; done) | skip)
              refine qa ?_
              refine ⟨(j + 1, r'', ag'), [0, 1, 2], ⟨by simp only; omega, v2, v3, v4, fun h => ?_⟩, by simp only; omega, ?_⟩
              · obtain ⟨x1, x2, x3⟩ := v5 h
                refine ⟨x1, x2, fun b hb' h1 h2 => ?_⟩
                by_cases hbj : b = j
                · rw [← x1, hri] at h1; cases h1
                · exact x3 b (by simp only at hb'; omega) h1 h2
              · simp only [leq, leA, ev0, evA, evB, evP, fl, gp, tab, simprocAttr, reduceCtorEq, reduceIte] <;> first | trivial | omega
          · refine hk_draw mixed (by kernel_rfl) fun K hK => runs_eval tab_ok ?_
            simp only [ev0, evA, evB, evP, fl, gp, tab, simprocAttr, reduceCtorEq, reduceIte, obl_get hil, obl_get hjl, bl_len, obl_len, hri, hrj]
            refine fin_run ?_ (hK _ ?_) <;> clear hK <;> clear K
            · omega
            refine qa ?_
            refine hk_cond rfl (fun hC5 => ?_) (fun hC5 => ?_)
            · cases hC5
            · refine qh (qd (qa ?_))
              refine hk_region fun K hK => runs_eval tab_ok ?_
              simp only [ev0, evA, evB, evP, fl, gp, tab, simprocAttr, reduceCtorEq, reduceIte]
              refine fin_run ?_ (hK _ ?_) <;> clear hK <;> clear K
              · (first | exact trivial | omega | (simp only [In64] at *; omega) | (simp [In64] at *; omega) | (simp_all; done) | skip)
              refine qa ?_
              refine ⟨(j + 1, r'', ag'), [0, 1, 2], ⟨by simp only; omega, v2, v3, v4, fun h => ?_⟩, by simp only; omega, ?_⟩
              · obtain ⟨x1, x2, x3⟩ := v5 h
                refine ⟨x1, x2, fun b hb' h1 h2 => ?_⟩
                by_cases hbj : b = j
                · rw [hbj, ← x1, hrj] at h2; cases h2
                · exact x3 b (by simp only at hb'; omega) h1 h2
              · simp only [leq, leA, ev0, evA, evB, evP, fl, gp, tab, simprocAttr, reduceCtorEq, reduceIte] <;> first | trivial | omega
          · refine hk_draw mixed (by kernel_rfl) fun K hK => runs_eval tab_ok ?_
            simp only [ev0, evA, evB, evP, fl, gp, tab, simprocAttr, reduceCtorEq, reduceIte, obl_get hil, obl_get hjl, obl_get hfl, bl_len, obl_len, hri, hrj]
            refine fin_stop ?_ (runs_call (m_c T hil hjl) rfl rfl rfl (by simp only [dstOk, Nat.reduceLT]) (by repeat (first | exact trivial | constructor)) (runs_eval tab_ok ?_))
            · omega
            simp only [ev0, evA, evB, evP, fl, gp, tab, simprocAttr, reduceCtorEq, reduceIte, obl_get hil, obl_get hjl, obl_get hfl, bl_len, obl_len, hri, hrj]
            refine fin_run ?_ (hK _ ?_) <;> clear hK <;> clear K
            · omega
            refine qa ?_
            refine hk_cond rfl (fun hC5 => ?_) (fun hC5 => ?_)
            · (try simp only [nhs] at hC5)
              refine qm ?_
              refine hk_draw mixed (by kernel_rfl) fun K hK => runs_eval tab_ok ?_
              simp only [ev0, evA, evB, evP, fl, gp, tab, simprocAttr, reduceCtorEq, reduceIte, obl_len, bl_len]
              refine fin_stop trivial (runs_call (m_c T hil hjl) rfl rfl rfl (by simp only [dstOk, Nat.reduceLT]) (by repeat (first | exact trivial | constructor)) (runs_eval tab_ok ?_))
              simp only [ev0, evA, evB, evP, fl, gp, tab, simprocAttr, reduceCtorEq, reduceIte, obl_len, bl_len]
              refine fin_run ?_ (hK _ ?_) <;> clear hK <;> clear K
              · omega
              refine qa ?_
              rw [obl_set]
              refine hk_region fun K hK => runs_eval tab_ok ?_
              simp only [ev0, evA, evB, evP, fl, gp, tab, simprocAttr, reduceCtorEq, reduceIte]
              refine fin_run trivial (hK _ ?_) <;> clear hK <;> clear K
              refine qd (qa ?_)
              refine hk_region fun K hK => runs_eval tab_ok ?_
              simp only [ev0, evA, evB, evP, fl, gp, tab, simprocAttr, reduceCtorEq, reduceIte]
              refine fin_run ?_ (hK _ ?_) <;> clear hK <;> clear K
              · (first | exact trivial | omega | (simp only [In64] at *; omega) | (simp [In64] at *; omega) | (simp_all; done) | skip)
              refine qa ?_
              have hnew : r'' (op m n i j) = false := by simpa using hC5
              have hgt : bo n r < bo n (upd r'' (op m n i j)) := by
                have h1 : bo n r'' < bo n (upd r'' (op m n i j)) := bo_lt_of (fun a _ h => by simp [upd, h]) hfl hnew (by simp [upd])
                cases hag : ag' with
                | true => have := v4 hag; omega
                | false => rw [(v5 hag).1] at h1; rw [(v5 hag).1]; exact h1
              refine ⟨(j + 1, upd r'' (op m n i j), true), [0, 1, 2], ⟨by simp only; omega, fun a ha h => ?_, fun a ha h => ?_, fun _ => hgt, fun h => by first | cases h | simp at h⟩, by simp only; omega, ?_⟩
              · simp [upd, v2 a ha h]
              · simp only [upd, Bool.or_eq_true, decide_eq_true_eq] at h
                rcases h with h | h
                · exact v3 a ha h
                · rw [h]; exact Gen.mul G (v3 i hil hri) (v3 j hjl hrj)
              · simp only [leq, leA, ev0, evA, evB, evP, fl, gp, tab, simprocAttr, reduceCtorEq, reduceIte] <;> first | trivial | omega
            · (try simp only [nhs] at hC5)
              refine qh (qd (qa ?_))
              refine hk_region fun K hK => runs_eval tab_ok ?_
              simp only [ev0, evA, evB, evP, fl, gp, tab, simprocAttr, reduceCtorEq, reduceIte]
              refine fin_run ?_ (hK _ ?_) <;> clear hK <;> clear K
              · (first | exact trivial | omega | (simp only [In64] at *; omega) | (simp [In64] at *; omega) | (simp_all; done) | skip)
              refine qa ?_
              have hin2 : r'' (op m n i j) = true := by simpa using hC5
              refine ⟨(j + 1, r'', ag'), [0, 1, 2], ⟨by simp only; omega, v2, v3, v4, fun h => ?_⟩, by simp only; omega, ?_⟩
              · obtain ⟨x1, x2, x3⟩ := v5 h
                refine ⟨x1, x2, fun b hb' h1 h2 => ?_⟩
                by_cases hbj : b = j
                · rw [hbj, ← x1]; exact hin2
                · exact x3 b (by simp only at hb'; omega) h1 h2
              · simp only [leq, leA, ev0, evA, evB, evP, fl, gp, tab, simprocAttr, reduceCtorEq, reduceIte] <;> first | trivial | omega
        · (try simp only [nhs] at hC4)
          have hjn : j = n := by omega
          subst hjn
          refine qj (qc (qc (qf (qd (qa ?_)))))
          refine hk_region fun K hK => runs_eval tab_ok ?_
          simp only [ev0, evA, evB, evP, fl, gp, tab, simprocAttr, reduceCtorEq, reduceIte]
          refine fin_run ?_ (hK _ ?_) <;> clear hK <;> clear K
          · (first | exact trivial | omega | (simp only [In64] at *; omega) | (simp [In64] at *; omega) | (simp_all; done) | skip)
          refine qa ?_
          refine ⟨(i + 1, r'', ag'), [0, 1, 2], ⟨by simp only; omega, v2, v3, v4, fun h => ?_⟩, by simp only; omega, ?_⟩
          · obtain ⟨x1, x2, x3⟩ := v5 h
            refine ⟨x1, fun a ha b hb' h1 h2 => ?_⟩
            by_cases hai : a = i
            · rw [hai] at h1 ⊢; exact x3 b hb' h1 h2
            · exact x2 a (by simp only at ha; omega) b hb' h1 h2
          · simp only [leq, leA, ev0, evA, evB, evP, fl, gp, tab, simprocAttr, reduceCtorEq, reduceIte] <;> first | trivial | omega
      · (try simp only [nhs] at hC3)
        have hin : i = n := by omega
        subst hin
        refine qj (qc (qc (qf (qd (qa ?_)))))
        refine ⟨(r', ag), [0, 1, 2], ⟨u2 e hel r1, fun a ha h => u2 a ha (r2 a ha h), u3, fun h a ha b hb' h1 h2 => ?_⟩, ?_, ?_⟩
        · obtain ⟨x1, x2⟩ := u5 h
          simp only [x1] at h1 h2 ⊢
          exact x2 a ha b hb' h1 h2
        · have h1 := bo_lt64 hb r'
          have h2 := bo_lt64 hb r
          simp only [if_true]
          cases hag : ag with
          | true => have := u4 hag; simp only [if_true]; omega
          | false => rw [(u5 hag).1]; simp
        · simp only [leq, leA, ev0, evA, evB, evP, fl, gp, tab, simprocAttr, reduceCtorEq, reduceIte] <;> first | trivial | omega
    · (try simp only [nhs] at hC2)
      subst hC2
      have hfin : bl n r = bl n q := bl_congr fun a ha => by
        rw [Bool.eq_iff_iff, hq a ha]
        refine ⟨r3 a ha, fun hg => ?_⟩
        exact Gen.least (H := fun x => r x = true) r1 (fun a b ga hb' hpb hH => r4 rfl a (ga.lt G) b hb' hH (r2 b hb' hpb)) hg
      rw [hfin]
      refine qj (qc (qc (qf (qa (qm ?_)))))
      refine hk_freeze 1 rfl (opl_allP _) ?_
      refine hk_purec 2 0 rfl rfl rfl ⟨by rw [bl_len]; omega, ?_⟩ ?_
      · rw [List.drop_zero, List.take_of_length_le (by rw [bl_len]; omega)]; exact bl_one n q
      simp only [hset, List.set, List.drop_zero]
      rw [List.take_of_length_le (by rw [bl_len]; omega)]
      refine hk_freeze 2 rfl rfl ?_
      simp only [hset]
      refine hk_region fun K hK => runs_eval tab_ok ?_
      simp only [ev0, evA, evB, evP, fl, gp, tab, simprocAttr, reduceCtorEq, reduceIte]
      refine fin_stop trivial (runs_call (those_c n m _ _ q (by omega) (fun a ha => span1_c n a q ha hb)) rfl rfl rfl (by simp only [dstOk, Nat.reduceLT]) (by repeat (first | exact trivial | constructor)) (runs_eval tab_ok ?_))
      simp only [ev0, evA, evB, evP, fl, gp, tab, simprocAttr, reduceCtorEq, reduceIte]
      refine fin_run ?_ (hK _ ?_) <;> clear hK <;> clear K
      · (first | exact trivial | omega | (simp only [In64] at *; omega) | (simp [In64] at *; omega) | (simp_all; done) | skip)
      refine qa (qk ?_)
      simp only [Tryd.results25, enA, ev0, evA, evB, evP, fl, gp, tab, simprocAttr, reduceCtorEq, reduceIte]
      all_goals (rfl)
end Go.Proofs.YtjikchbmkodgfaaDoor
