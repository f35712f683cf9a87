/-
  Walks: the law ClassSums. Conditions: none.
-/
import Derived.Test.YthdmioeddgednaaDoorLS25
import Derived.Test.YthdmioeddgednaaDoorG25
set_option linter.all false
namespace Go.Proofs.YthdmioeddgednaaDoor
open Go.Pv

theorem len_sm (n : Nat) (p : Nat → Bool) : ((thn' n p).length : Int) = sm n fun a => bi (p a) := by
  induction n with
  | zero => simp [thn', sm_zero]
  | succ n ih =>
    rw [sm_succ, ← ih, thn', List.range_succ, List.filter_append, List.length_append]
    cases h : p n <;> simp [h, bi, thn']

def ldr (n : Nat) (f : Nat → Nat → Nat) (e k : Nat) : Nat := (mem n (lead (cjb n f e))).getD k 0
def clb (n : Nat) (f : Nat → Nat → Nat) (e k u : Nat) : Bool := cjb n f e (ldr n f e k) u

theorem Grp.classes {n e : Nat} {f : Nat → Nat → Nat} (G : Grp n f e) : Cls n f e (cst n (cjb n f e)).length (clb n f e) (ldr n f e) where
  zl c hc := by
    obtain ⟨x, x1, x2, x3, x4⟩ := cst_get hc
    rw [ldr, x4]; exact x1
  cl c hc a g ha hg := by
    obtain ⟨x, x1, x2, x3, x4⟩ := cst_get hc
    have E := G.cjb_eqv
    have hl := G.cl _ _ (G.cl _ _ (G.iv_lt hg) ha) hg
    have h1 : cjb n f e a (f (f (iv n f e g) a) g) = true := cjb_iff.2 ⟨g, hg, rfl⟩
    unfold clb
    rw [ldr, x4]
    cases h2 : cjb n f e x a with
    | true => exact E.trans _ _ _ x1 ha hl h2 h1
    | false =>
      cases h3 : cjb n f e x (f (f (iv n f e g) a) g) with
      | false => rfl
      | true => rw [E.trans _ _ _ x1 hl ha h3 (E.symm _ _ ha hl h1)] at h2; cases h2
  at_ c hc u hu h := by
    obtain ⟨g, g1, g2⟩ := cjb_iff.1 h
    exact ⟨g, g1, g2.symm⟩
  one u hu := by
    have E := G.cjb_eqv
    obtain ⟨c, c1, c2⟩ := cst_in E hu
    obtain ⟨x, x1, x2, x3, x4⟩ := cst_get c1
    refine ⟨c, c1, ?_, fun c' hc' h => ?_⟩
    · rw [x3, mem_thl_n hu] at c2
      unfold clb; rw [ldr, x4]; exact c2
    · obtain ⟨y, y1, y2, y3, y4⟩ := cst_get hc'
      unfold clb at h; rw [ldr, y4] at h
      exact cst_apart E hc' c1 hu (by rw [y3, mem_thl_n hu]; exact h) c2

theorem cls_row {n e : Nat} {f : Nat → Nat → Nat} {i : Nat} (hi : i < (cst n (cjb n f e)).length) : (cst n (cjb n f e)).getD i [] = thl n (clb n f e i) := by
  obtain ⟨x, x1, x2, x3, x4⟩ := cst_get hi
  rw [x3]
  refine thl_congr fun a _ => ?_
  unfold clb; rw [ldr, x4]

theorem ct_cn {n e : Nat} {f : Nat → Nat → Nat} (G : Grp n f e) {i j k : Nat} (hi : i < (cst n (cjb n f e)).length) (hj : j < (cst n (cjb n f e)).length) (hk : k < (cst n (cjb n f e)).length) :
    ct n f e i j k = cn n f e (clb n f e i) (clb n f e j) (ldr n f e k) := by
  have hz := G.classes.zl k hk
  have hw : ∀ a, a < n → (cw n f e k (a : Int) = (j : Int) ↔ clb n f e j (f (iv n f e a) (ldr n f e k)) = true) := by
    intro a ha
    have hu := G.cl _ _ (G.iv_lt ha) hz
    have E := G.cjb_eqv
    unfold cw
    rw [Int.toNat_natCast]
    have hrow := cls_row (f := f) (e := e) hj
    constructor
    · intro h
      obtain ⟨q, q1, q2⟩ := cst_in E hu
      have h2 := wch_at E q1 hu q2
      have h3 : wch (cst n (cjb n f e)) ((f (iv n f e a) (ldr n f e k) : Nat) : Int) = (j : Int) := h
      rw [h2] at h3
      have : q = j := by omega
      subst this
      rw [hrow, mem_thl_n hu] at q2
      exact q2
    · intro h
      have h2 : ((f (iv n f e a) (ldr n f e k) : Nat) : Int) ∈ (cst n (cjb n f e)).getD j [] := by rw [hrow, mem_thl_n hu]; exact h
      exact wch_at E hj hu h2
  unfold ct tcp cn
  rw [List.take_length, cls_row hi, thl, List.countP_map]
  have e1 : (thn' n (clb n f e i)).countP ((fun x : Int => decide (cw n f e k x = (j : Int))) ∘ fun (a : Nat) => (a : Int)) = (thn' n (clb n f e i)).countP fun a => clb n f e j (f (iv n f e a) (ldr n f e k)) := by
    refine List.countP_congr fun a ha => ?_
    simp only [Function.comp, decide_eq_true_eq]
    exact hw a (mem_thn.1 ha).1
  rw [e1, thn_count, len_sm]
  refine sm_congr fun a _ => ?_
  cases clb n f e i a <;> cases clb n f e j (f (iv n f e a) (ldr n f e k)) <;> rfl

theorem crow_len {n e : Nat} {f : Nat → Nat → Nat} {i : Nat} (hi : i < (cst n (cjb n f e)).length) : (((cst n (cjb n f e)).getD i []).length : Int) = sm n fun u => bi (clb n f e i u) := by
  rw [cls_row hi, thl_len, len_sm]

/-! ### The three laws, as the statement asks -/

theorem ct_comm {n e : Nat} {f : Nat → Nat → Nat} (G : Grp n f e) {i j k : Nat} (hi : i < (cst n (cjb n f e)).length) (hj : j < (cst n (cjb n f e)).length) (hk : k < (cst n (cjb n f e)).length) : ct n f e i j k = ct n f e j i k := by
  rw [ct_cn G hi hj hk, ct_cn G hj hi hk]
  exact G.cn_comm (G.classes.cl i hi) (G.classes.zl k hk)
theorem ct_all {n e : Nat} {f : Nat → Nat → Nat} (G : Grp n f e) {i j : Nat} (hi : i < (cst n (cjb n f e)).length) (hj : j < (cst n (cjb n f e)).length) :
    sm (cst n (cjb n f e)).length (fun m => ct n f e i j m * (((cst n (cjb n f e)).getD m []).length : Int)) = (((cst n (cjb n f e)).getD i []).length : Int) * (((cst n (cjb n f e)).getD j []).length : Int) := by
  rw [crow_len hi, crow_len hj, ← G.classes.pairs G hi hj]
  exact sm_congr fun m hm => by rw [ct_cn G hi hj hm, crow_len hm]
theorem ct_assoc {n e : Nat} {f : Nat → Nat → Nat} (G : Grp n f e) {i j k m : Nat} (hi : i < (cst n (cjb n f e)).length) (hj : j < (cst n (cjb n f e)).length) (hk : k < (cst n (cjb n f e)).length) (hm : m < (cst n (cjb n f e)).length) :
    sm (cst n (cjb n f e)).length (fun c => ct n f e i j c * ct n f e c k m) = sm (cst n (cjb n f e)).length fun c => ct n f e j k c * ct n f e i c m := by
  have h := G.classes.assoc G (i := i) (j := j) (k := k) (w := ldr n f e m) hi hj hk (G.classes.zl m hm)
  rw [sm_congr (g := fun c => ct n f e i j c * ct n f e c k m) (h := fun c => cn n f e (clb n f e i) (clb n f e j) (ldr n f e c) * cn n f e (clb n f e c) (clb n f e k) (ldr n f e m)) fun c hc => by rw [ct_cn G hi hj hc, ct_cn G hc hk hm], h]
  exact sm_congr fun c hc => by rw [ct_cn G hj hk hc, ct_cn G hi hc hm]

theorem ct_rng {n e : Nat} {f : Nat → Nat → Nat} (hn : n ≤ 60) {i : Nat} (hi : i < (cst n (cjb n f e)).length) (j k : Nat) : 0 ≤ ct n f e i j k ∧ ct n f e i j k ≤ 60 := by
  unfold ct
  have := tcp_rng ((cst n (cjb n f e)).getD i []) (cw n f e k) ((cst n (cjb n f e)).getD i []).length j
  have h2 : ((cst n (cjb n f e)).getD i []).length ≤ n := by rw [cls_row hi]; exact thl_le _ _
  omega
theorem mul_rng {x y : Int} (hx : 0 ≤ x ∧ x ≤ 60) (hy : 0 ≤ y ∧ y ≤ 60) : 0 ≤ x * y ∧ x * y ≤ 3600 := by
  refine ⟨Int.mul_nonneg hx.1 hy.1, ?_⟩
  have := Int.mul_le_mul hx.2 hy.2 hy.1 (by omega)
  omega
theorem sm_rng {g : Nat → Int} {B : Int} : ∀ q, (∀ a, a < q → 0 ≤ g a ∧ g a ≤ B) → 0 ≤ sm q g ∧ sm q g ≤ q * B
  | 0, _ => by simp [sm_zero]
  | q + 1, h => by
    have ih := sm_rng q fun a ha => h a (by omega)
    have := h q (by omega)
    rw [sm_succ, Int.natCast_add, Int.add_mul]
    omega

theorem sums_no (N : Int) (m : List Int) (i j k : Int) (hm : m.length ≤ 17592186043904) (hf : ¬ (gf N m).1 = 0) : FnC Tryd.prog 10 [gp N m, .int .i64 i, .int .i64 j, .int .i64 k] (.bool true) := by
  refine fnc_of tab_ok Tryd.func10 rfl (by kernel_rfl) (by rw [Tryd.ntmps10]; exact Nat.le_add_left 4 _) ?_; rw [Tryd.ntmps10]
  refine qm ?_
  refine hk_region fun K hK => runs_eval tab_ok ?_
  simp only [ev0, evA, evB, evP, fl, gp, tab, simprocAttr, reduceCtorEq, reduceIte]
  refine fin_run ?_ (hK _ ?_) <;> clear hK <;> clear K
  · (first | exact trivial | omega | (simp only [In64] at *; omega) | (simp [In64] at *; omega) | (simp_all; done) | skip)
  refine qa (qm (qm ?_))
  refine hk_region fun K hK => runs_eval tab_ok ?_
  simp only [ev0, evA, evB, evP, fl, gp, tab, simprocAttr, reduceCtorEq, reduceIte]
  refine fin_stop trivial (runs_call (begun_k) rfl rfl rfl (by simp only [dstOk, Nat.reduceLT]) (by repeat (first | exact trivial | constructor)) (runs_eval tab_ok ?_))
  simp only [ev0, evA, evB, evP, fl, gp, tab, simprocAttr, reduceCtorEq, reduceIte]
  refine fin_run trivial (hK _ ?_) <;> clear hK <;> clear K
  refine qa ?_
  refine hk_cond rfl (fun hC1 => ?_) (fun hC1 => ?_)
  · cases hC1
  · (try simp only [nhs] at hC1)
    refine qh (qa (qm ?_))
    refine hk_region fun K hK => runs_eval tab_ok ?_
    simp only [ev0, evA, evB, evP, fl, gp, tab, simprocAttr, reduceCtorEq, reduceIte]
    refine fin_stop trivial (runs_call (clsAll_no N m (by omega) hf) rfl rfl rfl (by simp only [dstOk, Nat.reduceLT]) (by repeat (first | exact trivial | constructor)) (runs_eval tab_ok ?_))
    simp only [ev0, evA, evB, evP, fl, gp, tab, simprocAttr, reduceCtorEq, reduceIte]
    refine fin_run ?_ (hK _ ?_) <;> clear hK <;> clear K
    · (first | exact trivial | omega | (simp only [In64] at *; omega) | (simp [In64] at *; omega) | (simp_all; done) | skip)
    refine qa (qm ?_)
    refine hk_region fun K hK => runs_eval tab_ok ?_
    simp only [ev0, evA, evB, evP, fl, gp, tab, simprocAttr, reduceCtorEq, reduceIte]
    refine fin_stop trivial (runs_call (times_no N m (by omega) hf) rfl rfl rfl (by simp only [dstOk, Nat.reduceLT]) (by repeat (first | exact trivial | constructor)) (runs_eval tab_ok ?_))
    simp only [ev0, evA, evB, evP, fl, gp, tab, simprocAttr, reduceCtorEq, reduceIte]
    refine fin_run ?_ (hK _ ?_) <;> clear hK <;> clear K
    · (first | exact trivial | omega | (simp only [In64] at *; omega) | (simp [In64] at *; omega) | (simp_all; done) | skip)
    refine qa (qm (qm ?_))
    refine hk_region fun K hK => runs_eval tab_ok ?_
    simp only [ev0, evA, evB, evP, fl, gp, tab, simprocAttr, reduceCtorEq, reduceIte, ne_eq, hf, not_false_eq_true, decide_true]
    refine fin_run ?_ (hK _ ?_) <;> clear hK <;> clear K
    · (first | exact trivial | omega | (simp only [In64] at *; omega) | (simp [In64] at *; omega) | (simp_all; done) | skip)
    refine qa ?_
    refine hk_cond rfl (fun hC2 => ?_) (fun hC2 => ?_)
    · refine qm ?_
      refine hk_region fun K hK => runs_eval tab_ok ?_
      simp only [ev0, evA, evB, evP, fl, gp, tab, simprocAttr, reduceCtorEq, reduceIte]
      refine fin_run trivial (hK _ ?_) <;> clear hK <;> clear K
      refine qa (qk (qb ?_))
      simp only [Tryd.results10, enA, ev0, evA, evB, evP, fl, gp, tab, simprocAttr, reduceCtorEq, reduceIte]
      all_goals ((first | exact rfl | exact ⟨rfl, rfl⟩ | exact ⟨rfl, rfl, rfl⟩ | exact ⟨trivial, rfl⟩ | exact ⟨Nat.le_refl _, rfl⟩ | trivial | (simp; done)))
    · cases hC2

theorem sums_many {n e : Nat} {m : List Int} (i j k : Int) (h : GT n m n e) (hc : 24 < (cst n (cjb n (op m n) e)).length) : FnC Tryd.prog 10 [gp n m, .int .i64 i, .int .i64 j, .int .i64 k] (.bool true) := by
  refine fnc_of tab_ok Tryd.func10 rfl (by kernel_rfl) (by rw [Tryd.ntmps10]; exact Nat.le_add_left 4 _) ?_; rw [Tryd.ntmps10]
  refine qm ?_
  refine hk_region fun K hK => runs_eval tab_ok ?_
  simp only [ev0, evA, evB, evP, fl, gp, tab, simprocAttr, reduceCtorEq, reduceIte]
  refine fin_run ?_ (hK _ ?_) <;> clear hK <;> clear K
  · (first | exact trivial | omega | (simp only [In64] at *; omega) | (simp [In64] at *; omega) | (simp_all; done) | skip)
  refine qa (qm (qm ?_))
  refine hk_region fun K hK => runs_eval tab_ok ?_
  simp only [ev0, evA, evB, evP, fl, gp, tab, simprocAttr, reduceCtorEq, reduceIte]
  refine fin_stop trivial (runs_call (begun_k) rfl rfl rfl (by simp only [dstOk, Nat.reduceLT]) (by repeat (first | exact trivial | constructor)) (runs_eval tab_ok ?_))
  simp only [ev0, evA, evB, evP, fl, gp, tab, simprocAttr, reduceCtorEq, reduceIte]
  refine fin_run trivial (hK _ ?_) <;> clear hK <;> clear K
  refine qa ?_
  refine hk_cond rfl (fun hC1 => ?_) (fun hC1 => ?_)
  · cases hC1
  · (try simp only [nhs] at hC1)
    refine qh (qa (qm ?_))
    refine hk_region fun K hK => runs_eval tab_ok ?_
    simp only [ev0, evA, evB, evP, fl, gp, tab, simprocAttr, reduceCtorEq, reduceIte]
    refine fin_stop trivial (runs_call (clsAll_ok h) rfl rfl rfl (by simp only [dstOk, Nat.reduceLT]) (by repeat (first | exact trivial | constructor)) (runs_eval tab_ok ?_))
    simp only [ev0, evA, evB, evP, fl, gp, tab, simprocAttr, reduceCtorEq, reduceIte]
    refine fin_run ?_ (hK _ ?_) <;> clear hK <;> clear K
    · (first | exact trivial | omega | (simp only [In64] at *; omega) | (simp [In64] at *; omega) | (simp_all; done) | skip)
    refine qa (qm ?_)
    refine hk_region fun K hK => runs_eval tab_ok ?_
    simp only [ev0, evA, evB, evP, fl, gp, tab, simprocAttr, reduceCtorEq, reduceIte]
    refine fin_stop trivial (runs_call (times_many h hc) rfl rfl rfl (by simp only [dstOk, Nat.reduceLT]) (by repeat (first | exact trivial | constructor)) (runs_eval tab_ok ?_))
    simp only [ev0, evA, evB, evP, fl, gp, tab, simprocAttr, reduceCtorEq, reduceIte]
    refine fin_run ?_ (hK _ ?_) <;> clear hK <;> clear K
    · (first | exact trivial | omega | (simp only [In64] at *; omega) | (simp [In64] at *; omega) | (simp_all; done) | skip)
    refine qa (qm (qm ?_))
    refine hk_region fun K hK => runs_eval tab_ok ?_
    simp only [ev0, evA, evB, evP, fl, gp, tab, simprocAttr, reduceCtorEq, reduceIte]
    refine fin_run ?_ (hK _ ?_) <;> clear hK <;> clear K
    · (first | exact trivial | omega | (simp only [In64] at *; omega) | (simp [In64] at *; omega) | (simp_all; done) | skip)
    refine qa ?_
    refine hk_cond rfl (fun hC2 => ?_) (fun hC2 => ?_)
    · (try simp only [nhs] at hC2)
      refine qm ?_
      refine hk_region fun K hK => runs_eval tab_ok ?_
      simp only [ev0, evA, evB, evP, fl, gp, tab, simprocAttr, reduceCtorEq, reduceIte]
      refine fin_run trivial (hK _ ?_) <;> clear hK <;> clear K
      refine qa (qk (qb ?_))
      simp only [Tryd.results10, enA, ev0, evA, evB, evP, fl, gp, tab, simprocAttr, reduceCtorEq, reduceIte]
      all_goals ((first | exact rfl | exact ⟨rfl, rfl⟩ | exact ⟨rfl, rfl, rfl⟩ | exact ⟨trivial, rfl⟩ | exact ⟨Nat.le_refl _, rfl⟩ | trivial | (simp; done)))
    · cases hC2

set_option maxHeartbeats 4000000 in
theorem sums_ok {n e : Nat} {m : List Int} (i j k : Int) (h : GT n m n e) (hc : (cst n (cjb n (op m n) e)).length ≤ 24) : FnC Tryd.prog 10 [gp n m, .int .i64 i, .int .i64 j, .int .i64 k] (.bool true) := by
  have G := h.2.2
  have hb := h.2.1.big
  have hrow : ∀ i, i < (cst n (cjb n (op m n) e)).length → ((cst n (cjb n (op m n) e)).getD i []).length ≤ 60 := fun i hi => by rw [cls_row hi]; exact Nat.le_trans (thl_le _ _) hb
  have hct : ∀ i j k, i < (cst n (cjb n (op m n) e)).length → 0 ≤ ct n (op m n) e i j k ∧ ct n (op m n) e i j k ≤ 60 := fun i j k hi => ct_rng hb hi j k
  have hcm := @ct_comm n e (op m n) G
  have hca := @ct_all n e (op m n) G
  have hcs := @ct_assoc n e (op m n) G
  generalize hL : cst n (cjb n (op m n) e) = L at *
  refine fnc_of tab_ok Tryd.func10 rfl (by kernel_rfl) (by rw [Tryd.ntmps10]; exact Nat.le_add_left 4 _) ?_; rw [Tryd.ntmps10]
  refine qm ?_
  refine hk_region fun K hK => runs_eval tab_ok ?_
  simp only [ev0, evA, evB, evP, fl, gp, tab, simprocAttr, reduceCtorEq, reduceIte]
  refine fin_run ?_ (hK _ ?_) <;> clear hK <;> clear K
  · (first | exact trivial | omega | (simp only [In64] at *; omega) | (simp [In64] at *; omega) | (simp_all; done) | skip)
  refine qa (qm (qm ?_))
  refine hk_region fun K hK => runs_eval tab_ok ?_
  simp only [ev0, evA, evB, evP, fl, gp, tab, simprocAttr, reduceCtorEq, reduceIte]
  refine fin_stop trivial (runs_call (begun_k) rfl rfl rfl (by simp only [dstOk, Nat.reduceLT]) (by repeat (first | exact trivial | constructor)) (runs_eval tab_ok ?_))
  simp only [ev0, evA, evB, evP, fl, gp, tab, simprocAttr, reduceCtorEq, reduceIte]
  refine fin_run trivial (hK _ ?_) <;> clear hK <;> clear K
  refine qa ?_
  refine hk_cond rfl (fun hC1 => ?_) (fun hC1 => ?_)
  · cases hC1
  · (try simp only [nhs] at hC1)
    refine qh (qa (qm ?_))
    refine hk_region fun K hK => runs_eval tab_ok ?_
    simp only [ev0, evA, evB, evP, fl, gp, tab, simprocAttr, reduceCtorEq, reduceIte]
    refine fin_stop trivial (runs_call ((hL ▸ clsAll_ok h)) rfl rfl rfl (by simp only [dstOk, Nat.reduceLT]) (by repeat (first | exact trivial | constructor)) (runs_eval tab_ok ?_))
    simp only [ev0, evA, evB, evP, fl, gp, tab, simprocAttr, reduceCtorEq, reduceIte]
    refine fin_run ?_ (hK _ ?_) <;> clear hK <;> clear K
    · (first | exact trivial | omega | (simp only [In64] at *; omega) | (simp [In64] at *; omega) | (simp_all; done) | skip)
    refine qa (qm ?_)
    refine hk_region fun K hK => runs_eval tab_ok ?_
    simp only [ev0, evA, evB, evP, fl, gp, tab, simprocAttr, reduceCtorEq, reduceIte]
    refine fin_stop trivial (runs_call ((hL ▸ times_ok h (by rw [hL]; exact hc))) rfl rfl rfl (by simp only [dstOk, Nat.reduceLT]) (by repeat (first | exact trivial | constructor)) (runs_eval tab_ok ?_))
    simp only [ev0, evA, evB, evP, fl, gp, tab, simprocAttr, reduceCtorEq, reduceIte]
    refine fin_run ?_ (hK _ ?_) <;> clear hK <;> clear K
    · (first | exact trivial | omega | (simp only [In64] at *; omega) | (simp [In64] at *; omega) | (simp_all; done) | skip)
    refine qa (qm (qm ?_))
    refine hk_region fun K hK => runs_eval tab_ok ?_
    simp only [ev0, evA, evB, evP, fl, gp, tab, simprocAttr, reduceCtorEq, reduceIte]
    refine fin_run ?_ (hK _ ?_) <;> clear hK <;> clear K
    · (first | exact trivial | omega | (simp only [In64] at *; omega) | (simp [In64] at *; omega) | (simp_all; done) | skip)
    refine qa ?_
    refine hk_cond rfl (fun hC2 => ?_) (fun hC2 => ?_)
    · cases hC2
    · (try simp only [nhs] at hC2)
      refine qh (qa (qm ?_))
      refine hk_region fun K hK => runs_eval tab_ok ?_
      simp only [ev0, evA, evB, evP, fl, gp, tab, simprocAttr, reduceCtorEq, reduceIte, ll_length]
      refine fin_run trivial (hK _ ?_) <;> clear hK <;> clear K
      refine qa (qm (qm ?_))
      by_cases g8b : i < 0
      · refine hk_region fun K hK => runs_eval tab_ok ?_
        simp only [ev0, evA, evB, evP, fl, gp, tab, simprocAttr, reduceCtorEq, reduceIte, List.length_map, List.length_range, decide_eq_true g8b]
        refine fin_run trivial (hK _ ?_) <;> clear hK <;> clear K
        refine qa ?_
        refine hk_cond rfl (fun hC3 => ?_) (fun hC3 => ?_)
        · refine qm ?_
          refine hk_region fun K hK => runs_eval tab_ok ?_
          simp only [ev0, evA, evB, evP, fl, gp, tab, simprocAttr, reduceCtorEq, reduceIte]
          refine fin_run trivial (hK _ ?_) <;> clear hK <;> clear K
          refine qa (qk (qb ?_))
          simp only [Tryd.results10, enA, ev0, evA, evB, evP, fl, gp, tab, simprocAttr, reduceCtorEq, reduceIte]
          all_goals ((first | exact rfl | exact ⟨rfl, rfl⟩ | exact ⟨rfl, rfl, rfl⟩ | exact ⟨trivial, rfl⟩ | exact ⟨Nat.le_refl _, rfl⟩ | trivial | (simp; done)))
        · cases hC3
      · by_cases g8c : i ≥ (L.length : Int)
        · refine hk_region fun K hK => runs_eval tab_ok ?_
          simp only [ev0, evA, evB, evP, fl, gp, tab, simprocAttr, reduceCtorEq, reduceIte, List.length_map, List.length_range, decide_eq_false g8b, decide_eq_true g8c]
          refine fin_run trivial (hK _ ?_) <;> clear hK <;> clear K
          refine qa ?_
          refine hk_cond rfl (fun hC3 => ?_) (fun hC3 => ?_)
          · refine qm ?_
            refine hk_region fun K hK => runs_eval tab_ok ?_
            simp only [ev0, evA, evB, evP, fl, gp, tab, simprocAttr, reduceCtorEq, reduceIte]
            refine fin_run trivial (hK _ ?_) <;> clear hK <;> clear K
            refine qa (qk (qb ?_))
            simp only [Tryd.results10, enA, ev0, evA, evB, evP, fl, gp, tab, simprocAttr, reduceCtorEq, reduceIte]
            all_goals ((first | exact rfl | exact ⟨rfl, rfl⟩ | exact ⟨rfl, rfl, rfl⟩ | exact ⟨trivial, rfl⟩ | exact ⟨Nat.le_refl _, rfl⟩ | trivial | (simp; done)))
          · cases hC3
        · by_cases g8d : j < 0
          · refine hk_region fun K hK => runs_eval tab_ok ?_
            simp only [ev0, evA, evB, evP, fl, gp, tab, simprocAttr, reduceCtorEq, reduceIte, List.length_map, List.length_range, decide_eq_false g8b, decide_eq_false g8c, decide_eq_true g8d]
            refine fin_run trivial (hK _ ?_) <;> clear hK <;> clear K
            refine qa ?_
            refine hk_cond rfl (fun hC3 => ?_) (fun hC3 => ?_)
            · refine qm ?_
              refine hk_region fun K hK => runs_eval tab_ok ?_
              simp only [ev0, evA, evB, evP, fl, gp, tab, simprocAttr, reduceCtorEq, reduceIte]
              refine fin_run trivial (hK _ ?_) <;> clear hK <;> clear K
              refine qa (qk (qb ?_))
              simp only [Tryd.results10, enA, ev0, evA, evB, evP, fl, gp, tab, simprocAttr, reduceCtorEq, reduceIte]
              all_goals ((first | exact rfl | exact ⟨rfl, rfl⟩ | exact ⟨rfl, rfl, rfl⟩ | exact ⟨trivial, rfl⟩ | exact ⟨Nat.le_refl _, rfl⟩ | trivial | (simp; done)))
            · cases hC3
          · by_cases g8e : j ≥ (L.length : Int)
            · refine hk_region fun K hK => runs_eval tab_ok ?_
              simp only [ev0, evA, evB, evP, fl, gp, tab, simprocAttr, reduceCtorEq, reduceIte, List.length_map, List.length_range, decide_eq_false g8b, decide_eq_false g8c, decide_eq_false g8d, decide_eq_true g8e]
              refine fin_run trivial (hK _ ?_) <;> clear hK <;> clear K
              refine qa ?_
              refine hk_cond rfl (fun hC3 => ?_) (fun hC3 => ?_)
              · refine qm ?_
                refine hk_region fun K hK => runs_eval tab_ok ?_
                simp only [ev0, evA, evB, evP, fl, gp, tab, simprocAttr, reduceCtorEq, reduceIte]
                refine fin_run trivial (hK _ ?_) <;> clear hK <;> clear K
                refine qa (qk (qb ?_))
                simp only [Tryd.results10, enA, ev0, evA, evB, evP, fl, gp, tab, simprocAttr, reduceCtorEq, reduceIte]
                all_goals ((first | exact rfl | exact ⟨rfl, rfl⟩ | exact ⟨rfl, rfl, rfl⟩ | exact ⟨trivial, rfl⟩ | exact ⟨Nat.le_refl _, rfl⟩ | trivial | (simp; done)))
              · cases hC3
            · by_cases g8f : k < 0
              · refine hk_region fun K hK => runs_eval tab_ok ?_
                simp only [ev0, evA, evB, evP, fl, gp, tab, simprocAttr, reduceCtorEq, reduceIte, List.length_map, List.length_range, decide_eq_false g8b, decide_eq_false g8c, decide_eq_false g8d, decide_eq_false g8e, decide_eq_true g8f]
                refine fin_run trivial (hK _ ?_) <;> clear hK <;> clear K
                refine qa ?_
                refine hk_cond rfl (fun hC3 => ?_) (fun hC3 => ?_)
                · refine qm ?_
                  refine hk_region fun K hK => runs_eval tab_ok ?_
                  simp only [ev0, evA, evB, evP, fl, gp, tab, simprocAttr, reduceCtorEq, reduceIte]
                  refine fin_run trivial (hK _ ?_) <;> clear hK <;> clear K
                  refine qa (qk (qb ?_))
                  simp only [Tryd.results10, enA, ev0, evA, evB, evP, fl, gp, tab, simprocAttr, reduceCtorEq, reduceIte]
                  all_goals ((first | exact rfl | exact ⟨rfl, rfl⟩ | exact ⟨rfl, rfl, rfl⟩ | exact ⟨trivial, rfl⟩ | exact ⟨Nat.le_refl _, rfl⟩ | trivial | (simp; done)))
                · cases hC3
              · refine hk_region fun K hK => runs_eval tab_ok ?_
                simp only [ev0, evA, evB, evP, fl, gp, tab, simprocAttr, reduceCtorEq, reduceIte, List.length_map, List.length_range, decide_eq_false g8b, decide_eq_false g8c, decide_eq_false g8d, decide_eq_false g8e, decide_eq_false g8f]
                refine fin_run trivial (hK _ ?_) <;> clear hK <;> clear K
                refine qa ?_
                refine hk_cond rfl (fun hC3 => ?_) (fun hC3 => ?_)
                · (try simp only [nhs] at hC3)
                  refine qm ?_
                  refine hk_region fun K hK => runs_eval tab_ok ?_
                  simp only [ev0, evA, evB, evP, fl, gp, tab, simprocAttr, reduceCtorEq, reduceIte]
                  refine fin_run trivial (hK _ ?_) <;> clear hK <;> clear K
                  refine qa (qk (qb ?_))
                  simp only [Tryd.results10, enA, ev0, evA, evB, evP, fl, gp, tab, simprocAttr, reduceCtorEq, reduceIte]
                  all_goals ((first | exact rfl | exact ⟨rfl, rfl⟩ | exact ⟨rfl, rfl, rfl⟩ | exact ⟨trivial, rfl⟩ | exact ⟨Nat.le_refl _, rfl⟩ | trivial | (simp; done)))
                · (try simp only [nhs] at hC3)
                  refine qh (qa (qm (qm ?_)))
                  obtain ⟨i, rfl⟩ := Int.eq_ofNat_of_zero_le (show 0 ≤ i by omega)
                  obtain ⟨j, rfl⟩ := Int.eq_ofNat_of_zero_le (show 0 ≤ j by omega)
                  obtain ⟨k, rfl⟩ := Int.eq_ofNat_of_zero_le (show 0 ≤ k by omega)
                  have hi : i < L.length := by omega
                  have hj : j < L.length := by omega
                  have hk : k < L.length := by omega
                  refine hk_region fun K hK => runs_eval tab_ok ?_
                  simp only [ev0, evA, evB, evP, fl, gp, tab, simprocAttr, reduceCtorEq, reduceIte]
                  refine fin_run trivial (hK _ ?_) <;> clear hK <;> clear K
                  refine qa (ql ?_)
                  refine hk_loop (ι := Nat) (fun a => ⟨212, [(1, .p (.int .i64 i)), (2, .p (.int .i64 j)), (3, .p (.int .i64 k)), (9, .p (.list (ll L))), (11, .p (.list ((List.range L.length).map (cto n (op m n) e)))), (13, .p (.int .i64 L.length)), (14, .p (.int .i64 a))], []⟩) (fun a => a ≤ L.length) (fun a => L.length - a) 0 (Nat.zero_le _) [] (by simp only [leq, leA, ev0, evA, evB, evP, fl, gp, tab, simprocAttr, reduceCtorEq, reduceIte]) fun a ha => ?_
                  refine qm (qm ?_)
                  refine hk_region fun K hK => runs_eval tab_ok ?_
                  simp only [ev0, evA, evB, evP, fl, gp, tab, simprocAttr, reduceCtorEq, reduceIte]
                  refine fin_run trivial (hK _ ?_) <;> clear hK <;> clear K
                  refine qa ?_
                  refine hk_cond rfl (fun hC4 => ?_) (fun hC4 => ?_)
                  · (try simp only [nhs] at hC4)
                    have hal : a < L.length := by omega
                    refine qh (qa (qm (ql (qm (qm ?_)))))
                    refine hk_region fun K hK => runs_eval tab_ok ?_
                    simp only [ev0, evA, evB, evP, fl, gp, tab, simprocAttr, reduceCtorEq, reduceIte, cto_get hal, hL, ll_length, mat_len]
                    refine fin_run ?_ (hK _ ?_) <;> clear hK <;> clear K
                    · simp only [List.length_map, List.length_range]; omega
                    refine qa ?_
                    refine hk_cond rfl (fun hC5 => ?_) (fun hC5 => ?_)
                    · cases hC5
                    · (try simp only [nhs] at hC5)
                      refine qh (qa (qm ?_))
                      refine hk_region fun K hK => runs_eval tab_ok ?_
                      simp only [ev0, evA, evB, evP, fl, gp, tab, simprocAttr, reduceCtorEq, reduceIte]
                      refine fin_run trivial (hK _ ?_) <;> clear hK <;> clear K
                      refine qa (ql ?_)
                      refine hk_loop (ι := Nat) (fun b => ⟨212, [(1, .p (.int .i64 i)), (2, .p (.int .i64 j)), (3, .p (.int .i64 k)), (9, .p (.list (ll L))), (11, .p (.list ((List.range L.length).map (cto n (op m n) e)))), (13, .p (.int .i64 L.length)), (14, .p (.int .i64 a)), (15, .p (.int .i64 b))], []⟩) (fun b => b ≤ L.length) (fun b => L.length - b) 0 (Nat.zero_le _) [] (by simp only [leq, leA, ev0, evA, evB, evP, fl, gp, tab, simprocAttr, reduceCtorEq, reduceIte]) fun b hb2 => ?_
                      refine qm (qm ?_)
                      refine hk_region fun K hK => runs_eval tab_ok ?_
                      simp only [ev0, evA, evB, evP, fl, gp, tab, simprocAttr, reduceCtorEq, reduceIte]
                      refine fin_run trivial (hK _ ?_) <;> clear hK <;> clear K
                      refine qa ?_
                      refine hk_cond rfl (fun hC6 => ?_) (fun hC6 => ?_)
                      · (try simp only [nhs] at hC6)
                        have hbl : b < L.length := by omega
                        refine qh (qa (qm (ql (qm ?_))))
                        refine hk_region fun K hK => runs_eval tab_ok ?_
                        simp only [ev0, evA, evB, evP, fl, gp, tab, simprocAttr, reduceCtorEq, reduceIte, cto_get hal, hL, ll_get (show b < (mat L.length (ct n (op m n) e a)).length by rw [mat_len]; exact hbl), mat_get hbl, rgz_len, il_length]
                        refine fin_run ?_ (hK _ ?_) <;> clear hK <;> clear K
                        · simp only [List.length_map, List.length_range, ll_length, mat_len]; omega
                        refine qa ?_
                        refine hk_cond rfl (fun hC7 => ?_) (fun hC7 => ?_)
                        · cases hC7
                        · (try simp only [nhs] at hC7)
                          refine qh (qd (qa ?_))
                          refine hk_region fun K hK => runs_eval tab_ok ?_
                          simp only [ev0, evA, evB, evP, fl, gp, tab, simprocAttr, reduceCtorEq, reduceIte]
                          refine fin_run ?_ (hK _ ?_) <;> clear hK <;> clear K
                          · (first | exact trivial | omega | (simp only [In64] at *; omega) | (simp [In64] at *; omega) | (simp_all; done) | skip)
                          refine qa ?_
                          refine ⟨b + 1, [], by omega, by omega, ?_⟩
                          simp only [leq, leA, ev0, evA, evB, evP, fl, gp, tab, simprocAttr, reduceCtorEq, reduceIte]
                      · (try simp only [nhs] at hC6)
                        refine qj (qc (qc (qf (qd (qa ?_)))))
                        refine hk_region fun K hK => runs_eval tab_ok ?_
                        simp only [ev0, evA, evB, evP, fl, gp, tab, simprocAttr, reduceCtorEq, reduceIte]
                        refine fin_run ?_ (hK _ ?_) <;> clear hK <;> clear K
                        · (first | exact trivial | omega | (simp only [In64] at *; omega) | (simp [In64] at *; omega) | (simp_all; done) | skip)
                        refine qa ?_
                        refine ⟨a + 1, [], by omega, by omega, ?_⟩
                        simp only [leq, leA, ev0, evA, evB, evP, fl, gp, tab, simprocAttr, reduceCtorEq, reduceIte]
                  · (try simp only [nhs] at hC4)
                    refine qj (qc (qc (qf (qa (qm ?_)))))
                    refine hk_region fun K hK => runs_eval tab_ok ?_
                    simp only [ev0, evA, evB, evP, fl, gp, tab, simprocAttr, reduceCtorEq, reduceIte]
                    refine fin_run trivial (hK _ ?_) <;> clear hK <;> clear K
                    refine qa (qm (qm ?_))
                    refine hk_region fun K hK => runs_eval tab_ok ?_
                    simp only [ev0, evA, evB, evP, fl, gp, tab, simprocAttr, reduceCtorEq, reduceIte]
                    refine fin_run trivial (hK _ ?_) <;> clear hK <;> clear K
                    refine qa (ql ?_)
                    refine hk_loop (ι := Nat) (fun q => ⟨212, [(1, .p (.int .i64 i)), (2, .p (.int .i64 j)), (3, .p (.int .i64 k)), (9, .p (.list (ll L))), (11, .p (.list ((List.range L.length).map (cto n (op m n) e)))), (13, .p (.int .i64 L.length)), (16, .p (.int .i64 (sm q fun m' => ct n (op m n) e i j m' * ((L.getD m' []).length : Int)))), (17, .p (.int .i64 q))], []⟩) (fun q => q ≤ L.length) (fun q => L.length - q) 0 (Nat.zero_le _) [] (by
                      rw [sm_zero]
                      simp only [leq, leA, ev0, evA, evB, evP, fl, gp, tab, simprocAttr, reduceCtorEq, reduceIte]) fun q hq => ?_
                    have hs1 := sm_rng (g := fun m' => ct n (op m n) e i j m' * ((L.getD m' []).length : Int)) (B := 3600) q fun a ha => mul_rng (hct i j a hi) ⟨Int.natCast_nonneg _, by have := hrow a (by omega); omega⟩
                    refine qm (qm ?_)
                    refine hk_region fun K hK => runs_eval tab_ok ?_
                    simp only [ev0, evA, evB, evP, fl, gp, tab, simprocAttr, reduceCtorEq, reduceIte]
                    refine fin_run trivial (hK _ ?_) <;> clear hK <;> clear K
                    refine qa ?_
                    refine hk_cond rfl (fun hC8 => ?_) (fun hC8 => ?_)
                    · (try simp only [nhs] at hC8)
                      have hql : q < L.length := by omega
                      have hs2 := mul_rng (hct i j q hi) (y := ((L.getD q []).length : Int)) ⟨Int.natCast_nonneg _, by have := hrow q hql; omega⟩
                      refine qh (qa (qm (ql (qm (qm ?_)))))
                      refine hk_draw mixed (by kernel_rfl) fun K hK => runs_eval tab_ok ?_
                      simp only [ev0, evA, evB, evP, fl, gp, tab, simprocAttr, reduceCtorEq, reduceIte, hL, cto_get (n := n) (e := e) (f := op m n) (show i < L.length by omega), ll_get (show j < (mat L.length (ct n (op m n) e i)).length by rw [mat_len]; omega), mat_get (f := ct n (op m n) e i) (show j < L.length by omega), il_get (show q < (rgz L.length (ct n (op m n) e i j)).length by rw [rgz_len]; omega), rgz_get (g := ct n (op m n) e i j) (show q < L.length by omega), cto_get (n := n) (e := e) (f := op m n) (show j < L.length by omega), ll_get (show i < (mat L.length (ct n (op m n) e j)).length by rw [mat_len]; omega), mat_get (f := ct n (op m n) e j) (show i < L.length by omega), il_get (show q < (rgz L.length (ct n (op m n) e j i)).length by rw [rgz_len]; omega), rgz_get (g := ct n (op m n) e j i) (show q < L.length by omega), hcm hi hj hql]
                      refine fin_run ?_ (hK _ ?_) <;> clear hK <;> clear K
                      · simp only [List.length_map, List.length_range, ll_length, mat_len, rgz_len]; omega
                      refine qa ?_
                      refine hk_cond rfl (fun hC9 => ?_) (fun hC9 => ?_)
                      · cases hC9
                      · (try simp only [nhs] at hC9)
                        refine qh (qa (qm ?_))
                        refine hk_draw mixed (by kernel_rfl) fun K hK => runs_eval tab_ok ?_
                        simp only [ev0, evA, evB, evP, fl, gp, tab, simprocAttr, reduceCtorEq, reduceIte, hL, cto_get (n := n) (e := e) (f := op m n) (show i < L.length by omega), ll_get (show j < (mat L.length (ct n (op m n) e i)).length by rw [mat_len]; omega), mat_get (f := ct n (op m n) e i) (show j < L.length by omega), il_get (show q < (rgz L.length (ct n (op m n) e i j)).length by rw [rgz_len]; omega), rgz_get (g := ct n (op m n) e i j) (show q < L.length by omega), ll_get hql, il_length]
                        refine fin_run ?_ (hK _ ?_) <;> clear hK <;> clear K
                        · simp only [List.length_map, List.length_range, ll_length, mat_len, rgz_len, In64]; omega
                        refine qa (qm ?_)
                        refine hk_region fun K hK => runs_eval tab_ok ?_
                        simp only [ev0, evA, evB, evP, fl, gp, tab, simprocAttr, reduceCtorEq, reduceIte]
                        refine fin_run trivial (hK _ ?_) <;> clear hK <;> clear K
                        refine qa (qm (qm ?_))
                        refine hk_region fun K hK => runs_eval tab_ok ?_
                        simp only [ev0, evA, evB, evP, fl, gp, tab, simprocAttr, reduceCtorEq, reduceIte]
                        refine fin_run trivial (hK _ ?_) <;> clear hK <;> clear K
                        refine qa (ql ?_)
                        refine hk_loop (ι := Nat) (fun c => ⟨212, [(1, .p (.int .i64 i)), (2, .p (.int .i64 j)), (3, .p (.int .i64 k)), (9, .p (.list (ll L))), (11, .p (.list ((List.range L.length).map (cto n (op m n) e)))), (13, .p (.int .i64 L.length)), (16, .p (.int .i64 (sm (q + 1) fun m' => ct n (op m n) e i j m' * ((L.getD m' []).length : Int)))), (17, .p (.int .i64 q)), (18, .p (.int .i64 (sm c fun c' => ct n (op m n) e i j c' * ct n (op m n) e c' k q))), (19, .p (.int .i64 (sm c fun c' => ct n (op m n) e j k c' * ct n (op m n) e i c' q))), (20, .p (.int .i64 c))], []⟩) (fun c => c ≤ L.length) (fun c => L.length - c) 0 (Nat.zero_le _) [] (by
                          rw [sm_zero, sm_zero, sm_succ]
                          simp only [leq, leA, ev0, evA, evB, evP, fl, gp, tab, simprocAttr, reduceCtorEq, reduceIte]) fun c hc4 => ?_
                        refine qm (qm ?_)
                        refine hk_region fun K hK => runs_eval tab_ok ?_
                        simp only [ev0, evA, evB, evP, fl, gp, tab, simprocAttr, reduceCtorEq, reduceIte]
                        refine fin_run trivial (hK _ ?_) <;> clear hK <;> clear K
                        refine qa ?_
                        refine hk_cond rfl (fun hC10 => ?_) (fun hC10 => ?_)
                        · (try simp only [nhs] at hC10)
                          have hcl : c < L.length := by omega
                          have hx := sm_rng (g := fun c' => ct n (op m n) e i j c' * ct n (op m n) e c' k q) (B := 3600) c fun a ha => mul_rng (hct i j a hi) (hct a k q (by omega))
                          have hy := sm_rng (g := fun c' => ct n (op m n) e j k c' * ct n (op m n) e i c' q) (B := 3600) c fun a ha => mul_rng (hct j k a hj) (hct i a q hi)
                          have hx1 := mul_rng (hct i j c hi) (hct c k q hcl)
                          have hy1 := mul_rng (hct j k c hj) (hct i c q hi)
                          refine qh (qa (qm (ql (qm ?_))))
                          refine hk_draw mixed (by kernel_rfl) fun K hK => runs_eval tab_ok ?_
                          simp only [ev0, evA, evB, evP, fl, gp, tab, simprocAttr, reduceCtorEq, reduceIte, hL, cto_get (n := n) (e := e) (f := op m n) (show i < L.length by omega), ll_get (show j < (mat L.length (ct n (op m n) e i)).length by rw [mat_len]; omega), mat_get (f := ct n (op m n) e i) (show j < L.length by omega), il_get (show c < (rgz L.length (ct n (op m n) e i j)).length by rw [rgz_len]; omega), rgz_get (g := ct n (op m n) e i j) (show c < L.length by omega), cto_get (n := n) (e := e) (f := op m n) (show c < L.length by omega), ll_get (show k < (mat L.length (ct n (op m n) e c)).length by rw [mat_len]; omega), mat_get (f := ct n (op m n) e c) (show k < L.length by omega), il_get (show q < (rgz L.length (ct n (op m n) e c k)).length by rw [rgz_len]; omega), rgz_get (g := ct n (op m n) e c k) (show q < L.length by omega)]
                          refine fin_run ?_ (hK _ ?_) <;> clear hK <;> clear K
                          · simp only [List.length_map, List.length_range, ll_length, mat_len, rgz_len, In64]; omega
                          refine qa ?_
                          refine hk_draw mixed (by kernel_rfl) fun K hK => runs_eval tab_ok ?_
                          simp only [ev0, evA, evB, evP, fl, gp, tab, simprocAttr, reduceCtorEq, reduceIte, hL, cto_get (n := n) (e := e) (f := op m n) (show j < L.length by omega), ll_get (show k < (mat L.length (ct n (op m n) e j)).length by rw [mat_len]; omega), mat_get (f := ct n (op m n) e j) (show k < L.length by omega), il_get (show c < (rgz L.length (ct n (op m n) e j k)).length by rw [rgz_len]; omega), rgz_get (g := ct n (op m n) e j k) (show c < L.length by omega), cto_get (n := n) (e := e) (f := op m n) (show i < L.length by omega), ll_get (show c < (mat L.length (ct n (op m n) e i)).length by rw [mat_len]; omega), mat_get (f := ct n (op m n) e i) (show c < L.length by omega), il_get (show q < (rgz L.length (ct n (op m n) e i c)).length by rw [rgz_len]; omega), rgz_get (g := ct n (op m n) e i c) (show q < L.length by omega)]
                          refine fin_run ?_ (hK _ ?_) <;> clear hK <;> clear K
                          · simp only [List.length_map, List.length_range, ll_length, mat_len, rgz_len, In64]; omega
                          refine qd (qa ?_)
                          refine hk_region fun K hK => runs_eval tab_ok ?_
                          simp only [ev0, evA, evB, evP, fl, gp, tab, simprocAttr, reduceCtorEq, reduceIte]
                          refine fin_run ?_ (hK _ ?_) <;> clear hK <;> clear K
                          · (first | exact trivial | omega | (simp only [In64] at *; omega) | (simp [In64] at *; omega) | (simp_all; done) | skip)
                          refine qa ?_
                          refine ⟨c + 1, [], by omega, by omega, ?_⟩
                          rw [sm_succ c, sm_succ c]
                          simp only [leq, leA, ev0, evA, evB, evP, fl, gp, tab, simprocAttr, reduceCtorEq, reduceIte]
                        · (try simp only [nhs] at hC10)
                          have hce : c = L.length := by omega
                          subst hce
                          refine qj (qc (qc (qf (qa (qm ?_)))))
                          refine hk_region fun K hK => runs_eval tab_ok ?_
                          simp only [ev0, evA, evB, evP, fl, gp, tab, simprocAttr, reduceCtorEq, reduceIte, hcs hi hj hk hql]
                          refine fin_run trivial (hK _ ?_) <;> clear hK <;> clear K
                          refine qa ?_
                          refine hk_cond rfl (fun hC11 => ?_) (fun hC11 => ?_)
                          · cases hC11
                          · (try simp only [nhs] at hC11)
                            refine qh (qd (qa ?_))
                            refine hk_region fun K hK => runs_eval tab_ok ?_
                            simp only [ev0, evA, evB, evP, fl, gp, tab, simprocAttr, reduceCtorEq, reduceIte]
                            refine fin_run ?_ (hK _ ?_) <;> clear hK <;> clear K
                            · (first | exact trivial | omega | (simp only [In64] at *; omega) | (simp [In64] at *; omega) | (simp_all; done) | skip)
                            refine qa ?_
                            refine ⟨q + 1, [], by omega, by omega, ?_⟩
                            simp only [leq, leA, ev0, evA, evB, evP, fl, gp, tab, simprocAttr, reduceCtorEq, reduceIte]
                    · (try simp only [nhs] at hC8)
                      have hqe : q = L.length := by omega
                      subst hqe
                      have hp := mul_rng (x := ((L.getD i []).length : Int)) (y := ((L.getD j []).length : Int)) ⟨Int.natCast_nonneg _, by have := hrow i hi; omega⟩ ⟨Int.natCast_nonneg _, by have := hrow j hj; omega⟩
                      rw [hca hi hj]
                      refine qj (qc (qc (qf (qa (qm ?_)))))
                      refine hk_draw mixed (by kernel_rfl) fun K hK => runs_eval tab_ok ?_
                      simp only [ev0, evA, evB, evP, fl, gp, tab, simprocAttr, reduceCtorEq, reduceIte, hL, ll_get hi, ll_get hj, il_length]
                      refine fin_run ?_ (hK _ ?_) <;> clear hK <;> clear K
                      · simp only [List.length_map, List.length_range, ll_length, mat_len, rgz_len, In64]; omega
                      refine qa (qk ?_)
                      simp only [Tryd.results10, enA, ev0, evA, evB, evP, fl, gp, tab, simprocAttr, reduceCtorEq, reduceIte]
                      all_goals ((first | exact rfl | exact ⟨rfl, rfl⟩ | exact ⟨rfl, rfl, rfl⟩ | exact ⟨trivial, rfl⟩ | exact ⟨Nat.le_refl _, rfl⟩ | trivial | (simp; done)))

theorem clsSums_c (N : Int) (m : List Int) (i j k : Int) (hm : m.length ≤ 17592186043904) : FnC Tryd.prog 10 [gp N m, .int .i64 i, .int .i64 j, .int .i64 k] (.bool true) := by
  by_cases hf : (gf N m).1 = 0
  · obtain ⟨n, e, h, _⟩ := gf_ok hf
    obtain rfl := h.1
    by_cases hc : 24 < (cst n (cjb n (op m n) e)).length
    · exact sums_many i j k h hc
    · exact sums_ok i j k h (by omega)
  · exact sums_no N m i j k hm hf
end Go.Proofs.YthdmioeddgednaaDoor
