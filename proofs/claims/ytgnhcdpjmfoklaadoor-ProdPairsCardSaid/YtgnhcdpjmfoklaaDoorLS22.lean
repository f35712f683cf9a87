/-
  Walks: the law ProdPairs. Conditions: none.
-/
import Derived.Test.YtgnhcdpjmfoklaaDoorH10
import Derived.Test.YtgnhcdpjmfoklaaDoorG4
set_option linter.all false
namespace Go.Proofs.YtgnhcdpjmfoklaaDoor
open Go.Pv

theorem pf_zero {N N' : Int} {m m' : List Int} (h : (pf N m N' m').1 = 0) : (gf N m).1 = 0 ∧ (gf N' m').1 = 0 ∧ N * N' ≤ 60 := by
  unfold pf at h
  by_cases h1 : (gf N m).1 = 0
  · rw [if_neg (by simpa using h1)] at h
    by_cases h2 : (gf N' m').1 = 0
    · rw [if_neg (by simpa using h2)] at h
      by_cases h3 : N * N' > 60
      · rw [if_pos h3] at h; simp at h
      · exact ⟨h1, h2, by omega⟩
    · rw [if_pos h2] at h; exact absurd h h2
  · rw [if_pos h1] at h; exact absurd h h1

section
variable {n n' e e' : Nat} {f f' : Nat → Nat → Nat}
/-- The parts of a product. -/
def ppA (n' e' x : Nat) : Bool := decide (x % n' = e')
def ppB (n' e x : Nat) : Bool := decide (x / n' = e)
theorem ppA_iff {x : Nat} : ppA n' e' x = true ↔ x % n' = e' := by unfold ppA; exact decide_eq_true_iff
theorem ppB_iff {x : Nat} : ppB n' e x = true ↔ x / n' = e := by unfold ppB; exact decide_eq_true_iff
variable (G : Grp n f e) (G' : Grp n' f' e')
include G G'
theorem ppA_sub : Sub (n * n') (prd n' f f') (e * n' + e') (ppA n' e') :=
  sub_of (prd_grp G G') (ppA_iff.2 (pr_mod G'.el)) fun a b ha hb h1 h2 => by
    rw [ppA_iff] at *
    rw [prd_mod G', h1, h2, G'.one_l _ G'.el]
theorem ppB_sub : Sub (n * n') (prd n' f f') (e * n' + e') (ppB n' e) :=
  sub_of (prd_grp G G') (ppB_iff.2 (pr_div G'.el)) fun a b ha hb h1 h2 => by
    rw [ppB_iff] at *
    rw [prd_div G', h1, h2, G.one_l _ G.el]
theorem pp_com : Cmm (n * n') (prd n' f f') (ppA n' e') (ppB n' e) := fun a b ha hb h1 h2 => by
  rw [ppA_iff] at h1
  rw [ppB_iff] at h2
  obtain ⟨a1, a2, _⟩ := pr_split G'.pos ha
  obtain ⟨b1, b2, _⟩ := pr_split G'.pos hb
  unfold prd
  rw [h1, h2, G.one_r _ a1, G.one_l _ a1, G'.one_l _ b2, G'.one_r _ b2]
theorem pp_meet {a : Nat} (ha : a < n * n') (h1 : ppA n' e' a = true) (h2 : ppB n' e a = true) : a = e * n' + e' := by
  obtain ⟨_, _, a3⟩ := pr_split G'.pos ha
  rw [ppA_iff] at h1
  rw [ppB_iff] at h2
  rw [← a3, h1, h2]
theorem pp_dir : (mem (n * n') (ppA n' e')).length * (mem (n * n') (ppB n' e)).length = n * n' ∧ (mem (n * n') fun x => ppA n' e' x && ppB n' e x).length = 1 ∧ Cmm (n * n') (prd n' f f') (ppA n' e') (ppB n' e) := by
  have K := prd_grp G G'
  have sA := ppA_sub G G'
  have sB := ppB_sub G G'
  have hm := (K.meet_len sA sB).2 fun a ha h1 h2 => pp_meet G G' ha h1 h2
  refine ⟨?_, hm, pp_com G G'⟩
  have hc := K.prod_count sA sB
  rw [hm, Nat.mul_one] at hc
  rw [← hc, mem_all]
  intro x hx
  obtain ⟨x1, x2, x3⟩ := pr_split G'.pos hx
  have u1 : x / n' * n' + e' < n * n' := pr_lt x1 G'.el
  have u2 : e * n' + x % n' < n * n' := pr_lt G.el x2
  have := K.pr2_mk (p := ppA n' e') (q := ppB n' e) u1 u2 (ppA_iff.2 (pr_mod G'.el)) (ppB_iff.2 (pr_div x2))
  have e1 : prd n' f f' (x / n' * n' + e') (e * n' + x % n') = x := by
    unfold prd
    rw [pr_div G'.el, pr_div x2, pr_mod G'.el, pr_mod x2, G.one_r _ x1, G'.one_l _ x2, x3]
  rwa [e1] at this
end

theorem pp1_c (n' e' a : Nat) (m' : List Int) (h' : 0 < n') (hb : n' ≤ 60) (ha : a ≤ 3600) : FnC Tryd.prog 40 [.int .i64 a, .ptr [.int .i64 n', .list (il m')], .ptr [.int .i64 e']] (.bool (ppA n' e' a)) := by
  refine fnc_of tab_ok Tryd.func40 rfl (by kernel_rfl) (by rw [Tryd.ntmps40]; exact Nat.le_add_left 3 _) ?_; rw [Tryd.ntmps40]
  refine qm ?_
  refine hk_region fun K hK => runs_eval tab_ok ?_
  simp only [ev0, evA, evB, evP, fl, gp, tab, simprocAttr, reduceCtorEq, reduceIte]
  refine fin_run trivial (hK _ ?_) <;> clear hK <;> clear K
  refine qa (qm ?_)
  refine hk_draw mixed (by kernel_rfl) fun K hK => runs_eval tab_ok ?_
  simp only [ev0, evA, evB, evP, fl, gp, tab, simprocAttr, reduceCtorEq, reduceIte, tm_nat]
  refine fin_run ?_ (hK _ ?_) <;> clear hK <;> clear K
  · (first | exact trivial | omega | (simp only [In64] at *; omega) | (simp [In64] at *; omega) | (simp_all; done) | skip)
  refine qa (qk ?_)
  simp only [Tryd.results40, enA, ev0, evA, evB, evP, fl, gp, tab, simprocAttr, reduceCtorEq, reduceIte]
  all_goals (exact decide_eq_decide.2 Int.ofNat_inj)
theorem pp2_c (n' e a : Nat) (m' : List Int) (h' : 0 < n') (hb : n' ≤ 60) (ha : a ≤ 3600) : FnC Tryd.prog 41 [.int .i64 a, .ptr [.int .i64 n', .list (il m')], .ptr [.int .i64 e]] (.bool (ppB n' e a)) := by
  refine fnc_of tab_ok Tryd.func41 rfl (by kernel_rfl) (by rw [Tryd.ntmps41]; exact Nat.le_add_left 3 _) ?_; rw [Tryd.ntmps41]
  refine qm ?_
  refine hk_region fun K hK => runs_eval tab_ok ?_
  simp only [ev0, evA, evB, evP, fl, gp, tab, simprocAttr, reduceCtorEq, reduceIte]
  refine fin_run trivial (hK _ ?_) <;> clear hK <;> clear K
  refine qa (qm ?_)
  refine hk_draw mixed (by kernel_rfl) fun K hK => runs_eval tab_ok ?_
  simp only [ev0, evA, evB, evP, fl, gp, tab, simprocAttr, reduceCtorEq, reduceIte, td_nat]
  refine fin_run ?_ (hK _ ?_) <;> clear hK <;> clear K
  · have := Nat.div_le_self a n'; generalize a / n' = z at *; simp only [In64]; omega
  refine qa (qk ?_)
  simp only [Tryd.results41, enA, ev0, evA, evB, evP, fl, gp, tab, simprocAttr, reduceCtorEq, reduceIte]
  all_goals (exact decide_eq_decide.2 Int.ofNat_inj)

set_option maxRecDepth 20000 in
set_option maxHeartbeats 4000000 in
theorem prodPairs_c (N : Int) (m : List Int) (N' : Int) (m' : List Int) (hm : m.length ≤ 17592186043904) (hm' : m'.length ≤ 17592186043904) : FnC Tryd.prog 8 [gp N m, gp N' m'] (.bool true) := by
  refine fnc_of tab_ok Tryd.func8 rfl (by kernel_rfl) (by rw [Tryd.ntmps8]; exact Nat.le_add_left 2 _) ?_; rw [Tryd.ntmps8]
  refine qm ?_
  refine hk_region fun K hK => runs_eval tab_ok ?_
  simp only [ev0, evA, evB, evP, fl, gp, tab, simprocAttr, reduceCtorEq, reduceIte]
  refine fin_run ?_ (hK _ ?_) <;> clear hK <;> clear K
  · (first | exact trivial | omega | (simp only [In64] at *; omega) | (simp [In64] at *; omega) | (simp_all; done) | skip)
  refine qa (qm (qm ?_))
  refine hk_region fun K hK => runs_eval tab_ok ?_
  simp only [ev0, evA, evB, evP, fl, gp, tab, simprocAttr, reduceCtorEq, reduceIte]
  refine fin_stop trivial (runs_call (prodBegun_c) rfl rfl rfl (by simp only [dstOk, Nat.reduceLT]) (by repeat (first | exact trivial | constructor)) (runs_eval tab_ok ?_))
  simp only [ev0, evA, evB, evP, fl, gp, tab, simprocAttr, reduceCtorEq, reduceIte]
  refine fin_run trivial (hK _ ?_) <;> clear hK <;> clear K
  refine qa ?_
  refine hk_cond rfl (fun hC1 => ?_) (fun hC1 => ?_)
  · cases hC1
  · (try simp only [nhs] at hC1)
    refine qh (qa (qm ?_))
    by_cases hf : (pf N m N' m').1 = 0
    · obtain ⟨z1, z2, z3⟩ := pf_zero hf
      obtain ⟨n, e, h, _⟩ := gf_ok z1
      obtain ⟨n', e', h', _⟩ := gf_ok z2
      obtain rfl := h.1
      obtain rfl := h'.1
      have hb := h.2.1.big
      have hb' := h'.2.1.big
      have hpos := h'.2.2.pos
      have hmul : (n : Int) * (n' : Int) = ((n * n' : Nat) : Int) := (Int.natCast_mul _ _).symm
      have hle : n * n' ≤ 60 := by omega
      have htg : tg n m n' m' = (0, 0) := by unfold tg; rw [if_pos z1, gf_of h']
      have K := prd_grp h.2.2 h'.2.2
      have hK := tbl_GT' hle K
      have hPO := product_ok h h' hle
      have hop : ∀ a b, a < n * n' → b < n * n' → op (tbl (fun a b => (prd n' (op m n) (op m' n') a b : Nat)) (n * n')) (n * n') a b = prd n' (op m n) (op m' n') a b := fun a b ha hb => tbl_op' _ ha hb
      have hA := ppA_sub h.2.2 h'.2.2
      have hB := ppB_sub h.2.2 h'.2.2
      have hdir := pp_dir h.2.2 h'.2.2
      have hA' : Sub (n * n') (op (tbl (fun a b => (prd n' (op m n) (op m' n') a b : Nat)) (n * n')) (n * n')) (e * n' + e') (ppA n' e') := sub_of hK.2.2 hA.one fun a b ha hb h1 h2 => by rw [hop a b ha hb]; exact hA.mul a b ha hb h1 h2
      have hB' : Sub (n * n') (op (tbl (fun a b => (prd n' (op m n) (op m' n') a b : Nat)) (n * n')) (n * n')) (e * n' + e') (ppB n' e) := sub_of hK.2.2 hB.one fun a b ha hb h1 h2 => by rw [hop a b ha hb]; exact hB.mul a b ha hb h1 h2
      have hD := direct_ok hK hA' hB' true ⟨fun _ => ⟨hdir.1, hdir.2.1, fun a b ha hb h1 h2 => by rw [hop a b ha hb, hop b a hb ha]; exact hdir.2.2 a b ha hb h1 h2⟩, fun _ => rfl⟩
      clear hA hB hA' hB' hdir hop
      generalize tbl (fun a b => (prd n' (op m n) (op m' n') a b : Nat)) (n * n') = tp at *
      refine hk_region fun K hK => runs_eval tab_ok ?_
      simp only [ev0, evA, evB, evP, fl, gp, tab, simprocAttr, reduceCtorEq, reduceIte]
      refine fin_stop trivial (runs_call (hPO) rfl rfl rfl (by simp only [dstOk, Nat.reduceLT]) (by repeat (first | exact trivial | constructor)) (runs_eval tab_ok ?_))
      simp only [ev0, evA, evB, evP, fl, gp, tab, simprocAttr, reduceCtorEq, reduceIte]
      refine fin_run ?_ (hK _ ?_) <;> clear hK <;> clear K
      · (first | exact trivial | omega | (simp only [In64] at *; omega) | (simp [In64] at *; omega) | (simp_all; done) | skip)
      refine qa (qm (qm ?_))
      refine hk_region fun K hK => runs_eval tab_ok ?_
      simp only [ev0, evA, evB, evP, fl, gp, tab, simprocAttr, reduceCtorEq, reduceIte]
      refine fin_stop trivial (runs_call (twoGroups_c n m n' m' (by omega) (by omega)) rfl rfl rfl (by simp only [dstOk, Nat.reduceLT]) (by repeat (first | exact trivial | constructor)) (runs_eval tab_ok ?_))
      simp only [ev0, evA, evB, evP, fl, gp, tab, simprocAttr, reduceCtorEq, reduceIte, htg, hmul]
      refine fin_run ?_ (hK _ ?_) <;> clear hK <;> clear K
      · simp only [In64]; omega
      refine qa ?_
      refine hk_cond rfl (fun hC2 => ?_) (fun hC2 => ?_)
      · cases hC2
      · (try simp only [nhs] at hC2)
        refine qh (qa (qm ?_))
        refine hk_draw2 mixed fun K hK => runs2_eval tab_ok ?_
        simp only [evD, ev0, evA, evB, evP, fl, gp, tab, simprocAttr, reduceCtorEq, reduceIte]
        refine fin2_stop trivial (runs2_call (e_c h.2.1) rfl rfl rfl rfl (by simp only [dstOk, Nat.reduceLT]) (by repeat (first | exact trivial | constructor)) (runs2_eval tab_ok ?_))
        simp only [evD, ev0, evA, evB, evP, fl, gp, tab, simprocAttr, reduceCtorEq, reduceIte, h.eI]
        refine fin2_stop trivial (runs2_call (e_c h'.2.1) rfl rfl rfl rfl (by simp only [dstOk, Nat.reduceLT]) (by repeat (first | exact trivial | constructor)) (runs2_eval tab_ok ?_))
        simp only [evD, ev0, evA, evB, evP, fl, gp, tab, simprocAttr, reduceCtorEq, reduceIte, h'.eI]
        refine fin2_run ?_ (hK _ _ (by first | kernel_rfl | rfl) ?_) <;> clear hK <;> clear K
        · (first | exact trivial | omega | (simp only [In64] at *; omega) | (simp [In64] at *; omega) | (simp_all; done) | skip)
        refine qa (qm ?_)
        refine hk_freeze 1 rfl rfl ?_
        refine hk_freeze 4 rfl rfl ?_
        refine hk_freeze 5 rfl rfl ?_
        refine hk_pure 3 rfl (Nat.zero_le _) ?_
        refine hk_pure 7 rfl (Nat.zero_le _) ?_
        refine hk_pure 8 rfl (Nat.zero_le _) ?_
        simp only [hset, List.drop_zero]
        refine hk_draw2 mixed fun K hK => runs2_eval tab_ok ?_
        simp only [evD, ev0, evA, evB, evP, fl, gp, tab, simprocAttr, reduceCtorEq, reduceIte]
        refine fin2_stop trivial (runs2_call (those_c (n * n') tp _ _ (ppA n' e') (by omega) (fun a ha => pp1_c n' e' a m' hpos hb' (by omega))) rfl rfl rfl rfl (by simp only [dstOk, Nat.reduceLT]) (by repeat (first | exact trivial | constructor)) (runs2_eval tab_ok ?_))
        simp only [evD, ev0, evA, evB, evP, fl, gp, tab, simprocAttr, reduceCtorEq, reduceIte]
        refine fin2_stop trivial (runs2_call (those_c (n * n') tp _ _ (ppB n' e) (by omega) (fun a ha => pp2_c n' e a m' hpos hb' (by omega))) rfl rfl rfl rfl (by simp only [dstOk, Nat.reduceLT]) (by repeat (first | exact trivial | constructor)) (runs2_eval tab_ok ?_))
        simp only [evD, ev0, evA, evB, evP, fl, gp, tab, simprocAttr, reduceCtorEq, reduceIte]
        refine fin2_stop trivial (runs2_call (hD) rfl rfl rfl rfl (by simp only [dstOk, Nat.reduceLT]) (by repeat (first | exact trivial | constructor)) (runs2_eval tab_ok ?_))
        simp only [evD, ev0, evA, evB, evP, fl, gp, tab, simprocAttr, reduceCtorEq, reduceIte]
        refine fin2_run ?_ (hK _ _ (by first | kernel_rfl | rfl) ?_) <;> clear hK <;> clear K
        · (first | exact trivial | omega | (simp only [In64] at *; omega) | (simp [In64] at *; omega) | (simp_all; done) | skip)
        refine qa (qm ?_)
        refine hk_region fun K hK => runs_eval tab_ok ?_
        simp only [ev0, evA, evB, evP, fl, gp, tab, simprocAttr, reduceCtorEq, reduceIte]
        refine fin_run ?_ (hK _ ?_) <;> clear hK <;> clear K
        · (first | exact trivial | omega | (simp only [In64] at *; omega) | (simp [In64] at *; omega) | (simp_all; done) | skip)
        refine qa (qk ?_)
        simp only [Tryd.results8, enA, ev0, evA, evB, evP, fl, gp, tab, simprocAttr, reduceCtorEq, reduceIte]
        all_goals (rfl)
    · refine hk_region fun K hK => runs_eval tab_ok ?_
      simp only [ev0, evA, evB, evP, fl, gp, tab, simprocAttr, reduceCtorEq, reduceIte]
      refine fin_stop trivial (runs_call (product_no N m N' m' (by omega) (by omega) hf) rfl rfl rfl (by simp only [dstOk, Nat.reduceLT]) (by repeat (first | exact trivial | constructor)) (runs_eval tab_ok ?_))
      simp only [ev0, evA, evB, evP, fl, gp, tab, simprocAttr, reduceCtorEq, reduceIte]
      refine fin_run ?_ (hK _ ?_) <;> clear hK <;> clear K
      · (first | exact trivial | omega | (simp only [In64] at *; omega) | (simp [In64] at *; omega) | (simp_all; done) | skip)
      refine qa (qm (qm ?_))
      refine hk_region fun K hK => runs_eval tab_ok ?_
      simp only [ev0, evA, evB, evP, fl, gp, tab, simprocAttr, reduceCtorEq, reduceIte, decide_eq_false hf]
      refine fin_run ?_ (hK _ ?_) <;> clear hK <;> clear K
      · (first | exact trivial | omega | (simp only [In64] at *; omega) | (simp [In64] at *; omega) | (simp_all; done) | skip)
      refine qa ?_
      refine hk_cond rfl (fun hC2 => ?_) (fun hC2 => ?_)
      · refine qm ?_
        refine hk_region fun K hK => runs_eval tab_ok ?_
        simp only [ev0, evA, evB, evP, fl, gp, tab, simprocAttr, reduceCtorEq, reduceIte, decide_eq_false hf]
        refine fin_run ?_ (hK _ ?_) <;> clear hK <;> clear K
        · (first | exact trivial | omega | (simp only [In64] at *; omega) | (simp [In64] at *; omega) | (simp_all; done) | skip)
        refine qa (qk (qb ?_))
        simp only [Tryd.results8, enA, ev0, evA, evB, evP, fl, gp, tab, simprocAttr, reduceCtorEq, reduceIte]
        all_goals (rfl)
      · cases hC2
end Go.Proofs.YtgnhcdpjmfoklaaDoor
