/-
  Texts of this proof, one behind the other: what each says stands at its head. Conditions: none.
-/
import Derived.Test.YtboadfahlflmhaaDoorB5
import Derived.Test.YtboadfahlflmhaaDoorB4
import Derived.Shelf.SlSortCmp.Whole1
import Derived.Test.YtboadfahlflmhaaDoorProg
import Derived.Shelf.SlLaysF
import Derived.Maps.RangeRun
import Derived.RangeFuncRecord
import Derived.RangeFuncLeaves

/-
  Sets of things: what they make, as the document has it. Conditions: none.
-/
set_option linter.all false
namespace Go.Proofs.YtboadfahlflmhaaDoor
open Go.Pv

/-! ### Looked at -/

theorem thl_get_asc {n : Nat} {p : Nat → Bool} {i j : Nat} (hij : i < j) (hj : j < (thl n p).length) : (thl n p).getD i 0 < (thl n p).getD j 0 := by
  have := List.pairwise_iff_getElem.1 (thl_asc n p) i j (by omega) hj hij
  simpa [List.getD, List.getElem?_eq_getElem hj, List.getElem?_eq_getElem (show i < (thl n p).length by omega)] using this
theorem thl_get {n : Nat} {p : Nat → Bool} {i : Nat} (hi : i < (thl n p).length) : ∃ a, a < n ∧ p a = true ∧ (thl n p).getD i 0 = ((a : Nat) : Int) := by
  have : (thl n p).getD i 0 ∈ thl n p := by simp [List.getD, List.getElem?_eq_getElem hi]
  exact mem_thl.1 this
theorem thl_at {n : Nat} {p : Nat → Bool} {a : Nat} (ha : a < n) (h : p a = true) : ∃ i, i < (thl n p).length ∧ (thl n p).getD i 0 = ((a : Nat) : Int) := by
  obtain ⟨i, hi, e⟩ := List.getElem_of_mem (mem_thl.2 ⟨a, ha, h, rfl⟩)
  exact ⟨i, hi, by simp [List.getD, List.getElem?_eq_getElem hi, e]⟩
theorem mem_thl_n {n : Nat} {p : Nat → Bool} {a : Nat} (ha : a < n) : ((a : Nat) : Int) ∈ thl n p ↔ p a = true := by
  rw [mem_thl]
  constructor
  · rintro ⟨b, _, h2, e⟩
    have : a = b := by omega
    subst this; exact h2
  · exact fun h => ⟨a, ha, h, rfl⟩
theorem lf_thl (n : Nat) (p : Nat → Bool) : lf n (thl n p) = (0, 0) := by
  refine lf_none (by have := thl_le n p; omega) fun j hj => lfb_0 ?_ fun h0 => ?_
  · obtain ⟨a, h1, _, h3⟩ := thl_get hj
    unfold okT; rw [h3]; omega
  · have := thl_get_asc (n := n) (p := p) (show j - 1 < j by omega) hj
    omega
theorem sf_thl {n e : Nat} {m : List Int} (h : GT n m n e) (p : Nat → Bool) : sf n m (thl n p) = (0, 0) := by
  unfold sf; rw [gf_of h, if_neg (by simp), lf_thl]
theorem gen_bo {n e : Nat} {f : Nat → Nat → Nat} {p : Nat → Bool} {a : Nat} : Gen n f e (bo n p).testBit a ↔ Gen n f e p a :=
  ⟨Gen.mono fun b hb h => by rw [bo_bit] at h; simpa [hb] using h, Gen.mono fun b hb h => by rw [bo_bit]; simpa [hb] using h⟩

theorem is_ok {n e : Nat} {m : List Int} (h : GT n m n e) (p : Nat → Bool) (b : Bool) (hbs : b = true ↔ Sub n (op m n) e p) : FnC Tryd.prog 66 [gp n m, .list (il (thl n p))] (.tup [.bool b, fl (0, 0)]) := by
  have G := h.2.2
  have hb := h.2.1.big
  have hl := thl_le n p
  have hml := h.2.1.len
  have hsq := sq_le hb
  obtain ⟨q, hq⟩ := gen_ex n (op m n) e p
  have hqs := gen_sub G hq
  have hqp : (((bo n q : Nat) : Int) = ((bo n p : Nat) : Int)) ↔ b = true := by
    rw [hbs]
    constructor
    · intro he
      have he2 : bo n q = bo n p := by omega
      have hc : ∀ a, a < n → q a = p a := fun a ha => bo_inj he2 ha
      refine ⟨?_, fun a b ha hb h1 h2 => ?_, fun a ha h1 => ?_⟩
      · rw [← hc e G.el]; exact hqs.one
      · rw [← hc _ (G.cl a b ha hb)]; exact hqs.mul a b ha hb (by rw [hc a ha]; exact h1) (by rw [hc b hb]; exact h2)
      · rw [← hc _ (G.iv_lt ha)]; exact hqs.inv a ha (by rw [hc a ha]; exact h1)
    · intro hs
      have : bo n q = bo n p := bo_congr fun a ha => by rw [Bool.eq_iff_iff, hq a ha, ← hs.gen G ha]
      rw [this]
  have hpos : b = true → 0 < (thl n p).length := fun hb1 => by
    obtain ⟨i, hi, _⟩ := thl_at G.el (hbs.1 hb1).one
    omega
  refine fnc_of tab_ok Tryd.func66 rfl (by kernel_rfl) (by rw [Tryd.ntmps66]; exact Nat.le_add_left 2 _) ?_; rw [Tryd.ntmps66]
  refine qm ?_
  refine hk_region fun K hK => runs_eval tab_ok ?_
  simp only [ev0, evA, evB, evP, fl, gp, tab, simprocAttr, reduceCtorEq, reduceIte]
  refine fin_run ?_ (hK _ ?_) <;> clear hK <;> clear K
  · (first | exact trivial | omega | (simp only [In64] at *; omega) | (simp [In64] at *; omega) | (simp_all; done) | skip)
  refine qa (qm (qm ?_))
  refine hk_region fun K hK => runs_eval tab_ok ?_
  simp only [ev0, evA, evB, evP, fl, gp, tab, simprocAttr, reduceCtorEq, reduceIte]
  refine fin_stop trivial (runs_call (look_c n m (thl n p) (by omega) (by omega)) rfl rfl rfl (by simp only [dstOk, Nat.reduceLT]) (by repeat (first | exact trivial | constructor)) (runs_eval tab_ok ?_))
  simp only [ev0, evA, evB, evP, fl, gp, tab, simprocAttr, reduceCtorEq, reduceIte, sf_thl h]
  refine fin_run ?_ (hK _ ?_) <;> clear hK <;> clear K
  · (first | exact trivial | omega | (simp only [In64] at *; omega) | (simp [In64] at *; omega) | (simp_all; done) | skip)
  refine qa (qm ?_)
  refine hk_region fun K hK => runs_eval tab_ok ?_
  simp only [ev0, evA, evB, evP, fl, gp, tab, simprocAttr, reduceCtorEq, reduceIte]
  refine fin_run ?_ (hK _ ?_) <;> clear hK <;> clear K
  · (first | exact trivial | omega | (simp only [In64] at *; omega) | (simp [In64] at *; omega) | (simp_all; done) | skip)
  refine qa ?_
  refine hk_cond rfl (fun hC1 => ?_) (fun hC1 => ?_)
  · cases hC1
  · (try simp only [nhs] at hC1)
    refine qh (qa (qm ?_))
    by_cases g4a : ((thl n p).length : Int) > 0
    · refine hk_draw mixed (by kernel_rfl) fun K hK => runs_eval tab_ok ?_
      simp only [ev0, evA, evB, evP, fl, gp, tab, simprocAttr, reduceCtorEq, reduceIte, decide_eq_true g4a]
      refine fin_stop trivial (runs_call (of_s (thl n p) (by omega) (thl_rng hb p)) rfl rfl rfl (by simp only [dstOk, Nat.reduceLT]) (by repeat (first | exact trivial | constructor)) (runs_eval tab_ok ?_))
      simp only [ev0, evA, evB, evP, fl, gp, tab, simprocAttr, reduceCtorEq, reduceIte, msk_thl, decide_eq_true g4a]
      refine fin_stop trivial (runs_call (grow_c h (bo n p) (bo_lt n p) q (fun a ha => by rw [gen_bo]; exact hq a ha)) rfl rfl rfl (by simp only [dstOk, Nat.reduceLT]) (by repeat (first | exact trivial | constructor)) (runs_eval tab_ok ?_))
      simp only [ev0, evA, evB, evP, fl, gp, tab, simprocAttr, reduceCtorEq, reduceIte, decide_eq_true g4a]
      refine fin_stop trivial (runs_call (of_s (thl n p) (by omega) (thl_rng hb p)) rfl rfl rfl (by simp only [dstOk, Nat.reduceLT]) (by repeat (first | exact trivial | constructor)) (runs_eval tab_ok ?_))
      simp only [ev0, evA, evB, evP, fl, gp, tab, simprocAttr, reduceCtorEq, reduceIte, msk_thl, decide_eq_true g4a]
      refine fin_run ?_ (hK _ ?_) <;> clear hK <;> clear K
      · (first | exact trivial | omega | (simp only [In64] at *; omega) | (simp [In64] at *; omega) | (simp_all; done) | skip)
      refine qa (qk ?_)
      simp only [Tryd.results66, enA, ev0, evA, evB, evP, fl, gp, tab, simprocAttr, reduceCtorEq, reduceIte]
      all_goals (rw [Bool.eq_iff_iff, decide_eq_true_eq]; exact hqp)
    · refine hk_draw mixed (by kernel_rfl) fun K hK => runs_eval tab_ok ?_
      simp only [ev0, evA, evB, evP, fl, gp, tab, simprocAttr, reduceCtorEq, reduceIte, decide_eq_false g4a]
      refine fin_run ?_ (hK _ ?_) <;> clear hK <;> clear K
      · (first | exact trivial | omega | (simp only [In64] at *; omega) | (simp [In64] at *; omega) | (simp_all; done) | skip)
      refine qa (qk ?_)
      simp only [Tryd.results66, enA, ev0, evA, evB, evP, fl, gp, tab, simprocAttr, reduceCtorEq, reduceIte]
      cases b with
      | false => rfl
      | true => have := hpos rfl; omega

/-! ### Rows of truths -/

end Go.Proofs.YtboadfahlflmhaaDoor

/-
  Walks: groups that are made of a product. Conditions: none.
-/
set_option linter.all false
namespace Go.Proofs.YtboadfahlflmhaaDoor
open Go.Pv

/-- A table, by a rule. -/
def tbr (g : Nat → Nat → Int) (n : Nat) : Nat → List Int := rg fun i => g (i / n) (i % n)
def tbl (g : Nat → Nat → Int) (n : Nat) : List Int := tbr g n (n * n)

theorem tbr_succ (g : Nat → Nat → Int) {n a b : Nat} (hb : b < n) : tbr g n (a * n + (b + 1)) = tbr g n (a * n + b) ++ [g a b] := by
  unfold tbr
  rw [← Nat.add_assoc, rg_succ]
  have h1 : (a * n + b) / n = a := by
    rw [Nat.mul_comm, Nat.mul_add_div (by omega), Nat.div_eq_of_lt hb]; omega
  have h2 : (a * n + b) % n = b := by
    rw [Nat.mul_comm, Nat.mul_add_mod, Nat.mod_eq_of_lt hb]
  simp only [h1, h2]
theorem tbr_len (g : Nat → Nat → Int) (n k : Nat) : (tbr g n k).length = k := rg_len _ k
theorem tbl_len (g : Nat → Nat → Int) (n : Nat) : (tbl g n).length = n * n := rg_len _ _
theorem tbl_get (g : Nat → Nat → Int) {n a b : Nat} (ha : a < n) (hb : b < n) : (tbl g n).getD (a * n + b) 0 = g a b := by
  unfold tbl tbr
  rw [rg_get _ (at_lt ha hb)]
  have h1 : (a * n + b) / n = a := by
    rw [Nat.mul_comm, Nat.mul_add_div (by omega), Nat.div_eq_of_lt hb]; omega
  have h2 : (a * n + b) % n = b := by
    rw [Nat.mul_comm, Nat.mul_add_mod, Nat.mod_eq_of_lt hb]
  rw [h1, h2]

end Go.Proofs.YtboadfahlflmhaaDoor

/-
  Sets of things: centres; the square's group; an example of the document. Conditions: none.
-/
set_option linter.all false
namespace Go.Proofs.YtboadfahlflmhaaDoor
open Go.Pv

/-! ### What two lists have -/

/-! ### Functions of the library -/

/-! ### What commutes with a set -/

/-! ### The square's group -/

end Go.Proofs.YtboadfahlflmhaaDoor

/-
  Sets of things: conjugated things, commutators, what they make. Conditions: none.
-/
set_option linter.all false
namespace Go.Proofs.YtboadfahlflmhaaDoor
open Go.Pv

theorem thl_rng2 {n : Nat} {p : Nat → Bool} : ∀ x ∈ thl n p, ∃ a, a < n ∧ x = ((a : Nat) : Int) := fun x hx => by
  obtain ⟨a, h1, _, h3⟩ := mem_thl.1 hx
  exact ⟨a, h1, h3⟩
theorem conj_s {n e : Nat} {m : List Int} (h : GT n m n e) {x a : Nat} (hx : x < n) (ha : a < n) : FnC Tryd.prog 84 [gp n m, .int .i64 x, .int .i64 a] (.int .i64 (cjr n (op m n) e x a : Nat)) := by
  have G := h.2.2
  have ia := G.iv_lt ha
  refine fnc_of tab_ok Tryd.func84 rfl (by kernel_rfl) (by rw [Tryd.ntmps84]; exact Nat.le_add_left 3 _) ?_; rw [Tryd.ntmps84]
  refine qm ?_
  refine hk_region fun K hK => runs_eval tab_ok ?_
  simp only [ev0, evA, evB, evP, fl, gp, tab, simprocAttr, reduceCtorEq, reduceIte]
  refine fin_run ?_ (hK _ ?_) <;> clear hK <;> clear K
  · (first | exact trivial | omega | (simp only [In64] at *; omega) | (simp [In64] at *; omega) | (simp_all; done) | skip)
  refine qa (qm ?_)
  refine hk_draw mixed (by kernel_rfl) fun K hK => runs_eval tab_ok ?_
  simp only [ev0, evA, evB, evP, fl, gp, tab, simprocAttr, reduceCtorEq, reduceIte]
  refine fin_stop trivial (runs_call (invOf_c h ha) rfl rfl rfl (by simp only [dstOk, Nat.reduceLT]) (by repeat (first | exact trivial | constructor)) (runs_eval tab_ok ?_))
  simp only [ev0, evA, evB, evP, fl, gp, tab, simprocAttr, reduceCtorEq, reduceIte]
  refine fin_stop trivial (runs_call (of_c h.2.1 ia hx) rfl rfl rfl (by simp only [dstOk, Nat.reduceLT]) (by repeat (first | exact trivial | constructor)) (runs_eval tab_ok ?_))
  simp only [ev0, evA, evB, evP, fl, gp, tab, simprocAttr, reduceCtorEq, reduceIte]
  refine fin_stop trivial (runs_call (of_c h.2.1 (G.cl _ _ ia hx) ha) rfl rfl rfl (by simp only [dstOk, Nat.reduceLT]) (by repeat (first | exact trivial | constructor)) (runs_eval tab_ok ?_))
  simp only [ev0, evA, evB, evP, fl, gp, tab, simprocAttr, reduceCtorEq, reduceIte]
  refine fin_run ?_ (hK _ ?_) <;> clear hK <;> clear K
  · (first | exact trivial | omega | (simp only [In64] at *; omega) | (simp [In64] at *; omega) | (simp_all; done) | skip)
  refine qa (qk ?_)
  simp only [Tryd.results84, enA, ev0, evA, evB, evP, fl, gp, tab, simprocAttr, reduceCtorEq, reduceIte]
  all_goals (rfl)
/-! ### Commutators of two lists -/

/-! ### Small words -/

theorem stays_r (n : Nat) (hn : n ≤ 1000000) : FnC Tryd.prog 68 [.int .i64 n] (.list (il (thl n fun _ => true))) := by
  refine fnc_of tab_ok Tryd.func68 rfl (by kernel_rfl) (by rw [Tryd.ntmps68]; exact Nat.le_add_left 1 _) ?_; rw [Tryd.ntmps68]
  refine qm ?_
  refine hk_region fun K hK => runs_eval tab_ok ?_
  simp only [ev0, evA, evB, evP, fl, gp, tab, simprocAttr, reduceCtorEq, reduceIte]
  refine fin_run trivial (hK _ ?_) <;> clear hK <;> clear K
  refine qa (qm ?_)
  refine hk_region fun K hK => runs_eval tab_ok ?_
  simp only [ev0, evA, evB, evP, fl, gp, tab, simprocAttr, reduceCtorEq, reduceIte]
  refine fin_run trivial (hK _ ?_) <;> clear hK <;> clear K
  refine qa (qm (qm ?_))
  refine hk_own0 3 rfl ?_
  refine hk_region fun K hK => runs_eval tab_ok ?_
  simp only [ev0, evA, evB, evP, fl, gp, tab, simprocAttr, reduceCtorEq, reduceIte]
  refine fin_run trivial (hK _ ?_) <;> clear hK <;> clear K
  refine qa (ql ?_)
  refine hk_loop (ι := Nat) (fun i => ⟨15, [(0, .p (.int .i64 n)), (3, .sl 0 0 (thl i fun _ => true).length), (4, .p (.int .i64 i))], [.own (ol (thl i fun _ => true))]⟩) (fun i => i ≤ n) (fun i => n - i) 0 (Nat.zero_le _) [0] (by simp only [leq, leA, ev0, evA, evB, evP, fl, gp, tab, simprocAttr, reduceCtorEq, reduceIte] <;> simp [thl, thn', ol_nil]) fun i hi => ?_
  have hl := thl_le i fun _ => true
  refine qm (qm ?_)
  refine hk_region fun K hK => runs_eval tab_ok ?_
  simp only [ev0, evA, evB, evP, fl, gp, tab, simprocAttr, reduceCtorEq, reduceIte]
  refine fin_run trivial (hK _ ?_) <;> clear hK <;> clear K
  refine qa ?_
  refine hk_cond rfl (fun hC1 => ?_) (fun hC1 => ?_)
  · (try simp only [nhs] at hC1)
    have hlt : i < n := by omega
    have hs := thl_succ i fun _ => true
    rw [if_pos rfl] at hs
    refine qh (qa (qm (ql ?_)))
    refine hk_region fun K hK => runs_eval tab_ok ?_
    simp only [ev0, evA, evB, evP, fl, gp, tab, simprocAttr, reduceCtorEq, reduceIte]
    refine fin_run ?_ (hK _ ?_) <;> clear hK <;> clear K
    · (first | exact trivial | omega | (simp only [In64] at *; omega) | (simp [In64] at *; omega) | (simp_all; done) | skip)
    refine qd (qa ?_)
    refine hk_region fun K hK => runs_eval tab_ok ?_
    simp only [ev0, evA, evB, evP, fl, gp, tab, simprocAttr, reduceCtorEq, reduceIte]
    refine fin_run ?_ (hK _ ?_) <;> clear hK <;> clear K
    · (first | exact trivial | omega | (simp only [In64] at *; omega) | (simp [In64] at *; omega) | (simp_all; done) | skip)
    refine qa ?_
    refine ⟨i + 1, [1], by omega, by omega, ?_⟩
    rw [hs]
    simp only [leq, leA, ev0, evA, evB, evP, fl, gp, tab, simprocAttr, reduceCtorEq, reduceIte] <;> first | trivial | omega
  · (try simp only [nhs] at hC1)
    have hin : i = n := by omega
    subst hin
    refine hk_seal 3 0 rfl rfl ?_
    refine qj (qc (qc (qf (qa (qm ?_)))))
    refine hk_region fun K hK => runs_eval tab_ok ?_
    simp only [ev0, evA, evB, evP, fl, gp, tab, simprocAttr, reduceCtorEq, reduceIte]
    refine fin_run trivial (hK _ ?_) <;> clear hK <;> clear K
    refine qa (qk ?_)
    simp only [Tryd.results68, enA, ev0, evA, evB, evP, fl, gp, tab, simprocAttr, reduceCtorEq, reduceIte]
    all_goals (rfl)

end Go.Proofs.YtboadfahlflmhaaDoor

/-
  Subgroups, conjugated: Moved, Normaliser, Normal, Core, Closure, and what the document has. Conditions: none.
-/
set_option linter.all false
namespace Go.Proofs.YtboadfahlflmhaaDoor
open Go.Pv

/-- The fault of a set that is, or is not, a subgroup. -/
def ufb (b : Bool) : Int × Int := bif b then (0, 0) else (7, 0)

theorem group_ok {n e : Nat} {m : List Int} (h : GT n m n e) (p : Nat → Bool) (b : Bool) (hbs : b = true ↔ Sub n (op m n) e p) : FnC Tryd.prog 109 [gp n m, .list (il (thl n p))] (fl (ufb b)) := by
  refine fnc_of tab_ok Tryd.func109 rfl (by kernel_rfl) (by rw [Tryd.ntmps109]; exact Nat.le_add_left 2 _) ?_; rw [Tryd.ntmps109]
  refine qm ?_
  refine hk_region fun K hK => runs_eval tab_ok ?_
  simp only [ev0, evA, evB, evP, fl, gp, tab, simprocAttr, reduceCtorEq, reduceIte]
  refine fin_run ?_ (hK _ ?_) <;> clear hK <;> clear K
  · (first | exact trivial | omega | (simp only [In64] at *; omega) | (simp [In64] at *; omega) | (simp_all; done) | skip)
  refine qa (qm ?_)
  refine hk_region fun K hK => runs_eval tab_ok ?_
  simp only [ev0, evA, evB, evP, fl, gp, tab, simprocAttr, reduceCtorEq, reduceIte]
  refine fin_stop trivial (runs_call (is_ok h p b hbs) rfl rfl rfl (by simp only [dstOk, Nat.reduceLT]) (by repeat (first | exact trivial | constructor)) (runs_eval tab_ok ?_))
  simp only [ev0, evA, evB, evP, fl, gp, tab, simprocAttr, reduceCtorEq, reduceIte]
  refine fin_run ?_ (hK _ ?_) <;> clear hK <;> clear K
  · (first | exact trivial | omega | (simp only [In64] at *; omega) | (simp [In64] at *; omega) | (simp_all; done) | skip)
  refine qa (qm (qm ?_))
  refine hk_region fun K hK => runs_eval tab_ok ?_
  simp only [ev0, evA, evB, evP, fl, gp, tab, simprocAttr, reduceCtorEq, reduceIte]
  refine fin_run ?_ (hK _ ?_) <;> clear hK <;> clear K
  · (first | exact trivial | omega | (simp only [In64] at *; omega) | (simp [In64] at *; omega) | (simp_all; done) | skip)
  refine qa ?_
  refine hk_cond rfl (fun hC1 => ?_) (fun hC1 => ?_)
  · (try simp only [nhs] at hC1)
    have hbf : b = false := by simpa using hC1
    refine qm ?_
    refine hk_region fun K hK => runs_eval tab_ok ?_
    simp only [ev0, evA, evB, evP, fl, gp, tab, simprocAttr, reduceCtorEq, reduceIte]
    refine fin_stop trivial (runs_call (sfault_c 7 0) rfl rfl rfl (by simp only [dstOk, Nat.reduceLT]) (by repeat (first | exact trivial | constructor)) (runs_eval tab_ok ?_))
    simp only [ev0, evA, evB, evP, fl, gp, tab, simprocAttr, reduceCtorEq, reduceIte]
    refine fin_run ?_ (hK _ ?_) <;> clear hK <;> clear K
    · (first | exact trivial | omega | (simp only [In64] at *; omega) | (simp [In64] at *; omega) | (simp_all; done) | skip)
    refine qa (qk (qb ?_))
    simp only [Tryd.results109, enA, ev0, evA, evB, evP, fl, gp, tab, simprocAttr, reduceCtorEq, reduceIte]
    all_goals (rw [hbf]; exact ⟨rfl, rfl⟩)
  · (try simp only [nhs] at hC1)
    have hbt : b = true := by simpa using hC1
    refine qh (qa (qm ?_))
    refine hk_region fun K hK => runs_eval tab_ok ?_
    simp only [ev0, evA, evB, evP, fl, gp, tab, simprocAttr, reduceCtorEq, reduceIte]
    refine fin_run ?_ (hK _ ?_) <;> clear hK <;> clear K
    · (first | exact trivial | omega | (simp only [In64] at *; omega) | (simp [In64] at *; omega) | (simp_all; done) | skip)
    refine qa (qk ?_)
    simp only [Tryd.results109, enA, ev0, evA, evB, evP, fl, gp, tab, simprocAttr, reduceCtorEq, reduceIte]
    all_goals (rw [hbt]; exact ⟨rfl, rfl⟩)
/-! ### A set, conjugated -/

def cjl (n : Nat) (f : Nat → Nat → Nat) (e a : Nat) (l : List Int) : List Int := l.map fun x => ((cjr n f e x.toNat a : Nat) : Int)
theorem cjl_succ (n : Nat) (f : Nat → Nat → Nat) (e a : Nat) {l : List Int} {i : Nat} (hi : i < l.length) : cjl n f e a (l.take (i + 1)) = cjl n f e a (l.take i) ++ [((cjr n f e (l.getD i 0).toNat a : Nat) : Int)] := by
  unfold cjl
  rw [List.take_succ_eq_append_getElem hi, List.map_append]
  have : l[i] = l.getD i 0 := by simp [List.getD, List.getElem?_eq_getElem hi]
  rw [this]; rfl
theorem mem_cjl {n e a : Nat} {f : Nat → Nat → Nat} {p : Nat → Bool} {x : Int} : x ∈ cjl n f e a (thl n p) ↔ ∃ y, y < n ∧ p y = true ∧ x = ((cjr n f e y a : Nat) : Int) := by
  unfold cjl
  rw [List.mem_map]
  constructor
  · rintro ⟨z, hz, rfl⟩
    obtain ⟨y, y1, y2, rfl⟩ := mem_thl.1 hz
    exact ⟨y, y1, y2, by simp⟩
  · rintro ⟨y, y1, y2, rfl⟩
    exact ⟨_, (mem_thl_n y1).2 y2, by simp⟩
theorem msk_cjl {n e a : Nat} {f : Nat → Nat → Nat} (G : Grp n f e) (p : Nat → Bool) (ha : a < n) : msk (cjl n f e a (thl n p)) = bo n (shf n f e p a) := by
  refine Nat.eq_of_testBit_eq fun i => ?_
  rw [msk_bit, bo_bit, Bool.eq_iff_iff, decide_eq_true_eq, Bool.and_eq_true, decide_eq_true_eq, shf_iff]
  constructor
  · rintro ⟨x, hx, rfl⟩
    obtain ⟨y, y1, y2, rfl⟩ := mem_cjl.1 hx
    exact ⟨by simpa using G.cjr_lt y1 ha, y, y1, y2, by simp⟩
  · rintro ⟨_, y, y1, y2, rfl⟩
    exact ⟨_, mem_cjl.2 ⟨y, y1, y2, rfl⟩, by simp⟩

theorem moved_s {n e : Nat} {m : List Int} (h : GT n m n e) (p : Nat → Bool) {a : Nat} (ha : a < n) : FnC Tryd.prog 114 [gp n m, .int .u64 (bo n p), .int .i64 a] (.int .u64 (bo n (shf n (op m n) e p a))) := by
  have G := h.2.2
  have hb := h.2.1.big
  have hlp := thl_le n p
  refine fnc_of tab_ok Tryd.func114 rfl (by kernel_rfl) (by rw [Tryd.ntmps114]; exact Nat.le_add_left 3 _) ?_; rw [Tryd.ntmps114]
  refine qm ?_
  refine hk_region fun K hK => runs_eval tab_ok ?_
  simp only [ev0, evA, evB, evP, fl, gp, tab, simprocAttr, reduceCtorEq, reduceIte]
  refine fin_run ?_ (hK _ ?_) <;> clear hK <;> clear K
  · (first | exact trivial | omega | (simp only [In64] at *; omega) | (simp [In64] at *; omega) | (simp_all; done) | skip)
  refine qa (qm ?_)
  refine hk_region fun K hK => runs_eval tab_ok ?_
  simp only [ev0, evA, evB, evP, fl, gp, tab, simprocAttr, reduceCtorEq, reduceIte]
  refine fin_run trivial (hK _ ?_) <;> clear hK <;> clear K
  refine qa (qm (qm ?_))
  refine hk_region fun K hK => runs_eval tab_ok ?_
  simp only [ev0, evA, evB, evP, fl, gp, tab, simprocAttr, reduceCtorEq, reduceIte]
  refine fin_stop trivial (runs_call (list_s (bo n p) (bo_lt64 hb p)) rfl rfl rfl (by simp only [dstOk, Nat.reduceLT]) (by repeat (first | exact trivial | constructor)) (runs_eval tab_ok ?_))
  simp only [ev0, evA, evB, evP, fl, gp, tab, simprocAttr, reduceCtorEq, reduceIte, stl_bo hb, il_length]
  refine fin_run trivial (hK _ ?_) <;> clear hK <;> clear K
  refine qa (ql ?_)
  refine hk_loop (ι := Nat) (fun i => ⟨26, [(2, .p (.int .i64 a)), (3, .ptr 0 0), (7, .p (.int .u64 (msk (cjl n (op m n) e a ((thl n p).take i))))), (11, .p (.list (il (thl n p)))), (12, .p (.int .i64 (thl n p).length)), (13, .p (.int .i64 i))], [.own [.p (.int .i64 n), .p (.list (il m))]]⟩) (fun i => i ≤ (thl n p).length) (fun i => (thl n p).length - i) 0 (Nat.zero_le _) [0] (by simp only [leq, leA, ev0, evA, evB, evP, fl, gp, tab, simprocAttr, reduceCtorEq, reduceIte] <;> first | trivial | simp [cjl, msk]) fun i hi => ?_
  refine qm ?_
  refine hk_region fun K hK => runs_eval tab_ok ?_
  simp only [ev0, evA, evB, evP, fl, gp, tab, simprocAttr, reduceCtorEq, reduceIte]
  refine fin_run trivial (hK _ ?_) <;> clear hK <;> clear K
  refine qa (qm ?_)
  refine hk_cond rfl (fun hC1 => ?_) (fun hC1 => ?_)
  · (try simp only [nhs] at hC1)
    have hlt : i < (thl n p).length := by omega
    obtain ⟨x, x1, x2, x3⟩ := thl_get hlt
    have hc := G.cjr_lt x1 ha
    have hp := pow_lt64 (b := cjr n (op m n) e x a) (by omega)
    have hall : ∀ z ∈ cjl n (op m n) e a ((thl n p).take i), z.toNat < n := fun z hz => by
      obtain ⟨w, hw, rfl⟩ := List.mem_map.1 hz
      obtain ⟨w', w1, w2⟩ := thl_rng2 w (List.mem_of_mem_take hw)
      subst w2
      exact G.cjr_lt w1 ha
    have hm := lt64 hb (msk_lt hall)
    refine qh (qa (qm (ql (qm ?_))))
    refine hk_region fun K hK => runs_eval tab_ok ?_
    simp only [ev0, evA, evB, evP, fl, gp, tab, simprocAttr, reduceCtorEq, reduceIte, il_get hlt, x3]
    refine fin_run ?_ (hK _ ?_) <;> clear hK <;> clear K
    · (first | exact trivial | omega | (simp only [In64] at *; omega) | (simp [In64] at *; omega) | (simp_all; done) | skip)
    refine qa ?_
    refine hk_region fun K hK => runs_eval tab_ok ?_
    simp only [ev0, evA, evB, evP, fl, gp, tab, simprocAttr, reduceCtorEq, reduceIte]
    refine fin_stop trivial (runs_call (conj_s h x1 ha) rfl rfl rfl (by simp only [dstOk, Nat.reduceLT]) (by repeat (first | exact trivial | constructor)) (runs_eval tab_ok ?_))
    simp only [ev0, evA, evB, evP, fl, gp, tab, simprocAttr, reduceCtorEq, reduceIte, shl_one (show cjr n (op m n) e x a < 64 by omega), bv_or hm hp]
    refine fin_run ?_ (hK _ ?_) <;> clear hK <;> clear K
    · (first | exact trivial | omega | (simp only [In64] at *; omega) | (simp [In64] at *; omega) | (simp_all; done) | skip)
    refine qd (qa ?_)
    refine hk_region fun K hK => runs_eval tab_ok ?_
    simp only [ev0, evA, evB, evP, fl, gp, tab, simprocAttr, reduceCtorEq, reduceIte]
    refine fin_run ?_ (hK _ ?_) <;> clear hK <;> clear K
    · (first | exact trivial | omega | (simp only [In64] at *; omega) | (simp [In64] at *; omega) | (simp_all; done) | skip)
    refine qa ?_
    refine ⟨i + 1, [0], by omega, by omega, ?_⟩
    rw [cjl_succ n (op m n) e a hlt, msk_snoc, x3]
    simp only [leq, leA, ev0, evA, evB, evP, fl, gp, tab, simprocAttr, reduceCtorEq, reduceIte] <;> first | trivial | omega
  · (try simp only [nhs] at hC1)
    have hin : i = (thl n p).length := by omega
    rw [hin, List.take_length, msk_cjl G p ha]
    refine qj (qc (qc (qf (qa (qm ?_)))))
    refine hk_region fun K hK => runs_eval tab_ok ?_
    simp only [ev0, evA, evB, evP, fl, gp, tab, simprocAttr, reduceCtorEq, reduceIte]
    refine fin_run trivial (hK _ ?_) <;> clear hK <;> clear K
    refine qa (qk ?_)
    simp only [Tryd.results114, enA, ev0, evA, evB, evP, fl, gp, tab, simprocAttr, reduceCtorEq, reduceIte]
    all_goals (rfl)

theorem normaliser1_c {n e : Nat} {m : List Int} (h : GT n m n e) (p : Nat → Bool) {a : Nat} (ha : a < n) : FnC Tryd.prog 150 [.int .i64 a, .ptr [.int .i64 n, .list (il m)], .ptr [.list (il (thl n p))]] (.bool (nzr n (op m n) e p a)) := by
  have hb := h.2.1.big
  have hlp := thl_le n p
  have hz : decide ((bo n (shf n (op m n) e p a) : Int) = (bo n p : Int)) = nzr n (op m n) e p a := by
    rw [Bool.eq_iff_iff, decide_eq_true_eq, nzr_iff]
    exact ⟨fun he y hy => bo_inj (by omega) hy, fun he => by rw [bo_congr he]⟩
  refine fnc_of tab_ok Tryd.func150 rfl (by kernel_rfl) (by rw [Tryd.ntmps150]; exact Nat.le_add_left 3 _) ?_; rw [Tryd.ntmps150]
  refine qm ?_
  refine hk_region fun K hK => runs_eval tab_ok ?_
  simp only [ev0, evA, evB, evP, fl, gp, tab, simprocAttr, reduceCtorEq, reduceIte]
  refine fin_run trivial (hK _ ?_) <;> clear hK <;> clear K
  refine qa (qm ?_)
  refine hk_draw mixed (by kernel_rfl) fun K hK => runs_eval tab_ok ?_
  simp only [ev0, evA, evB, evP, fl, gp, tab, simprocAttr, reduceCtorEq, reduceIte]
  refine fin_stop trivial (runs_call (of_s (thl n p) (by omega) (thl_rng hb p)) rfl rfl rfl (by simp only [dstOk, Nat.reduceLT]) (by repeat (first | exact trivial | constructor)) (runs_eval tab_ok ?_))
  simp only [ev0, evA, evB, evP, fl, gp, tab, simprocAttr, reduceCtorEq, reduceIte, msk_thl]
  refine fin_stop trivial (runs_call (moved_s h p ha) rfl rfl rfl (by simp only [dstOk, Nat.reduceLT]) (by repeat (first | exact trivial | constructor)) (runs_eval tab_ok ?_))
  simp only [ev0, evA, evB, evP, fl, gp, tab, simprocAttr, reduceCtorEq, reduceIte]
  refine fin_stop trivial (runs_call (of_s (thl n p) (by omega) (thl_rng hb p)) rfl rfl rfl (by simp only [dstOk, Nat.reduceLT]) (by repeat (first | exact trivial | constructor)) (runs_eval tab_ok ?_))
  simp only [ev0, evA, evB, evP, fl, gp, tab, simprocAttr, reduceCtorEq, reduceIte]
  refine fin_run ?_ (hK _ ?_) <;> clear hK <;> clear K
  · (first | exact trivial | omega | (simp only [In64] at *; omega) | (simp [In64] at *; omega) | (simp_all; done) | skip)
  refine qa (qk ?_)
  simp only [Tryd.results150, enA, ev0, evA, evB, evP, fl, gp, tab, simprocAttr, reduceCtorEq, reduceIte]
  all_goals (exact hz)
theorem normaliser_ok {n e : Nat} {m : List Int} (h : GT n m n e) (p : Nat → Bool) (hs : Sub n (op m n) e p) : FnC Tryd.prog 119 [gp n m, .list (il (thl n p))] (.tup [.list (il (thl n (nzr n (op m n) e p))), fl (0, 0)]) := by
  have hb := h.2.1.big
  refine fnc_of tab_ok Tryd.func119 rfl (by kernel_rfl) (by rw [Tryd.ntmps119]; exact Nat.le_add_left 2 _) ?_; rw [Tryd.ntmps119]
  refine qm ?_
  refine hk_region fun K hK => runs_eval tab_ok ?_
  simp only [ev0, evA, evB, evP, fl, gp, tab, simprocAttr, reduceCtorEq, reduceIte]
  refine fin_run ?_ (hK _ ?_) <;> clear hK <;> clear K
  · (first | exact trivial | omega | (simp only [In64] at *; omega) | (simp [In64] at *; omega) | (simp_all; done) | skip)
  refine qa (qm (qm ?_))
  refine hk_region fun K hK => runs_eval tab_ok ?_
  simp only [ev0, evA, evB, evP, fl, gp, tab, simprocAttr, reduceCtorEq, reduceIte]
  refine fin_stop trivial (runs_call (group_ok h p true (by simp [hs])) rfl rfl rfl (by simp only [dstOk, Nat.reduceLT]) (by repeat (first | exact trivial | constructor)) (runs_eval tab_ok ?_))
  simp only [ev0, evA, evB, evP, fl, gp, tab, simprocAttr, reduceCtorEq, reduceIte, ufb]
  refine fin_run ?_ (hK _ ?_) <;> clear hK <;> clear K
  · (first | exact trivial | omega | (simp only [In64] at *; omega) | (simp [In64] at *; omega) | (simp_all; done) | skip)
  refine qa (qm ?_)
  refine hk_region fun K hK => runs_eval tab_ok ?_
  simp only [ev0, evA, evB, evP, fl, gp, tab, simprocAttr, reduceCtorEq, reduceIte]
  refine fin_run ?_ (hK _ ?_) <;> clear hK <;> clear K
  · (first | exact trivial | omega | (simp only [In64] at *; omega) | (simp [In64] at *; omega) | (simp_all; done) | skip)
  refine qa ?_
  refine hk_cond rfl (fun hC1 => ?_) (fun hC1 => ?_)
  · cases hC1
  · (try simp only [nhs] at hC1)
    refine qh (qa (qm ?_))
    refine hk_freeze 0 rfl rfl ?_
    refine hk_freeze 1 rfl rfl ?_
    simp only [hset]
    refine hk_region fun K hK => runs_eval tab_ok ?_
    simp only [ev0, evA, evB, evP, fl, gp, tab, simprocAttr, reduceCtorEq, reduceIte]
    refine fin_stop trivial (runs_call (choose_c n m _ _ (nzr n (op m n) e p) (by omega) (fun a ha => normaliser1_c h p ha)) rfl rfl rfl (by simp only [dstOk, Nat.reduceLT]) (by repeat (first | exact trivial | constructor)) (runs_eval tab_ok ?_))
    simp only [ev0, evA, evB, evP, fl, gp, tab, simprocAttr, reduceCtorEq, reduceIte]
    refine fin_run ?_ (hK _ ?_) <;> clear hK <;> clear K
    · (first | exact trivial | omega | (simp only [In64] at *; omega) | (simp [In64] at *; omega) | (simp_all; done) | skip)
    refine qa (qk ?_)
    simp only [Tryd.results119, enA, ev0, evA, evB, evP, fl, gp, tab, simprocAttr, reduceCtorEq, reduceIte]
    all_goals ((first | exact rfl | exact ⟨rfl, rfl⟩ | exact ⟨rfl, rfl, rfl⟩ | exact ⟨trivial, rfl⟩ | exact ⟨Nat.le_refl _, rfl⟩ | trivial | (simp; done)))
theorem normal_ok {n e : Nat} {m : List Int} (h : GT n m n e) (p : Nat → Bool) (hs : Sub n (op m n) e p) (b : Bool) (hb' : b = true ↔ Nml n (op m n) e p) : FnC Tryd.prog 65 [gp n m, .list (il (thl n p))] (.tup [.bool b, fl (0, 0)]) := by
  have hb := h.2.1.big
  have hl := thl_le n (nzr n (op m n) e p)
  have hz : decide (((thl n (nzr n (op m n) e p)).length : Int) = (n : Int)) = b := by
    rw [Bool.eq_iff_iff, decide_eq_true_eq, hb', h.2.2.nml_iff, ← mem_all]
    have : (thl n (nzr n (op m n) e p)).length = (mem n (nzr n (op m n) e p)).length := thl_len _ _
    omega
  refine fnc_of tab_ok Tryd.func65 rfl (by kernel_rfl) (by rw [Tryd.ntmps65]; exact Nat.le_add_left 2 _) ?_; rw [Tryd.ntmps65]
  refine qm ?_
  refine hk_region fun K hK => runs_eval tab_ok ?_
  simp only [ev0, evA, evB, evP, fl, gp, tab, simprocAttr, reduceCtorEq, reduceIte]
  refine fin_run ?_ (hK _ ?_) <;> clear hK <;> clear K
  · (first | exact trivial | omega | (simp only [In64] at *; omega) | (simp [In64] at *; omega) | (simp_all; done) | skip)
  refine qa (qm ?_)
  refine hk_region fun K hK => runs_eval tab_ok ?_
  simp only [ev0, evA, evB, evP, fl, gp, tab, simprocAttr, reduceCtorEq, reduceIte]
  refine fin_stop trivial (runs_call (normaliser_ok h p hs) rfl rfl rfl (by simp only [dstOk, Nat.reduceLT]) (by repeat (first | exact trivial | constructor)) (runs_eval tab_ok ?_))
  simp only [ev0, evA, evB, evP, fl, gp, tab, simprocAttr, reduceCtorEq, reduceIte]
  refine fin_run ?_ (hK _ ?_) <;> clear hK <;> clear K
  · (first | exact trivial | omega | (simp only [In64] at *; omega) | (simp [In64] at *; omega) | (simp_all; done) | skip)
  refine qa (qm ?_)
  refine hk_draw mixed (by kernel_rfl) fun K hK => runs_eval tab_ok ?_
  simp only [ev0, evA, evB, evP, fl, gp, tab, simprocAttr, reduceCtorEq, reduceIte, il_length]
  refine fin_run ?_ (hK _ ?_) <;> clear hK <;> clear K
  · (first | exact trivial | omega | (simp only [In64] at *; omega) | (simp [In64] at *; omega) | (simp_all; done) | skip)
  refine qa (qk ?_)
  simp only [Tryd.results65, enA, ev0, evA, evB, evP, fl, gp, tab, simprocAttr, reduceCtorEq, reduceIte]
  all_goals (rw [hz])

theorem bo_and (n : Nat) (p q : Nat → Bool) : bo n p &&& bo n q = bo n fun a => p a && q a := by
  refine Nat.eq_of_testBit_eq fun i => ?_
  rw [Nat.testBit_and, bo_bit, bo_bit, bo_bit]
  cases decide (i < n) <;> simp
/-! ### As the document has them -/

end Go.Proofs.YtboadfahlflmhaaDoor

/-
  How many bits are set: by sums of neighbours. Conditions: none.
-/
set_option linter.all false
namespace Go.Proofs.YtboadfahlflmhaaDoor
open Go.Pv

def p1 (M x : Nat) : Nat := (x / 2 &&& M) + (x &&& M)
def p2 (M x : Nat) : Nat := (x / 4 &&& M) + (x &&& M)
def p3 (M x : Nat) : Nat := (x / 16 + x) &&& M
def cnt (k x : Nat) : Nat := ((List.range k).filter x.testBit).length
theorem dv {a B q : Nat} (h : a < B) : (a + B * q) / B = q := by
  rw [Nat.add_mul_div_left _ _ (Nat.lt_of_le_of_lt (Nat.zero_le _) h), Nat.div_eq_of_lt h, Nat.zero_add]
theorem l3 {E0 E1 E2 E3 : Nat} (h0 : E0 ≤ 5000) (h1 : E1 ≤ 5000) (h2 : E2 ≤ 5000) (h3 : E3 ≤ 5000) :
    let y4 := E0 + 65536 * (E1 + 65536 * (E2 + 65536 * E3))
    let y5 := y4 + y4 / 65536
    (y5 + y5 / 4294967296) % 128 = (E0 + E1 + E2 + E3) % 128 := by
  intro y4 y5
  have a1 : y4 / 65536 = E1 + 65536 * (E2 + 65536 * E3) := dv (by omega)
  have a2 : y5 = ((E0 + E1) + 65536 * (E1 + E2)) + 4294967296 * ((E2 + E3) + 65536 * E3) := by
    show y4 + y4 / 65536 = _
    rw [a1]; show E0 + 65536 * (E1 + 65536 * (E2 + 65536 * E3)) + _ = _
    omega
  have a3 : y5 / 4294967296 = (E2 + E3) + 65536 * E3 := by rw [a2]; exact dv (by omega)
  rw [a3, a2]
  omega
theorem l1 {d0 d1 d2 d3 d4 d5 d6 d7 : Nat} : d0 + 256 * (d1 + 256 * (d2 + 256 * (d3 + 256 * (d4 + 256 * (d5 + 256 * (d6 + 256 * d7)))))) + (d1 + 256 * (d2 + 256 * (d3 + 256 * (d4 + 256 * (d5 + 256 * (d6 + 256 * d7)))))) =
    (d0 + d1 + 256 * (d1 + d2)) + 65536 * ((d2 + d3 + 256 * (d3 + d4)) + 65536 * ((d4 + d5 + 256 * (d5 + d6)) + 65536 * (d6 + d7 + 256 * d7))) := by
  omega

end Go.Proofs.YtboadfahlflmhaaDoor

/-
  How many bits are set; lists compared. Conditions: none.
-/
set_option linter.all false
namespace Go.Proofs.YtboadfahlflmhaaDoor
open Go.Pv

/-! ### Lists, compared -/

def cmpi (x y : Int) : Int := if x < y then -1 else if y < x then 1 else 0
def cmpL : List Int → List Int → Int
  | [], [] => 0
  | [], _ :: _ => -1
  | _ :: _, [] => 1
  | x :: v, y :: w => if cmpi x y = 0 then cmpL v w else cmpi x y
/-! ### An order -/

theorem cmpi_eq {x y : Int} : cmpi x y = 0 ↔ x = y := by
  unfold cmpi
  by_cases h1 : x < y
  · simp [h1]; omega
  · by_cases h2 : y < x
    · simp [h1, h2]; omega
    · simp [h1, h2]; omega
theorem cmpL_self : ∀ v : List Int, cmpL v v = 0
  | [] => rfl
  | x :: v => by show (if cmpi x x = 0 then cmpL v v else cmpi x x) = 0; rw [if_pos (cmpi_eq.2 rfl)]; exact cmpL_self v
/-- Sets: by how many, then by lists. -/
def cmpS (a b : List Int) : Int := if (a.length : Int) - (b.length : Int) = 0 then cmpL a b else (a.length : Int) - (b.length : Int)
theorem cmpS_lt {a b : List Int} : cmpS a b < 0 ↔ a.length < b.length ∨ a.length = b.length ∧ cmpL a b < 0 := by
  unfold cmpS
  by_cases h : (a.length : Int) - (b.length : Int) = 0
  · rw [if_pos h]; constructor
    · exact fun h2 => .inr ⟨by omega, h2⟩
    · rintro (h2 | h2)
      · omega
      · exact h2.2
  · rw [if_neg h]; omega
theorem cmpS_self (v : List Int) : ¬ cmpS v v < 0 := by
  rw [cmpS_lt, cmpL_self]; omega
end Go.Proofs.YtboadfahlflmhaaDoor

/-
  Tables by a rule. Conditions: none.
-/
set_option linter.all false
namespace Go.Proofs.YtboadfahlflmhaaDoor
open Go.Pv

theorem Grp.cong' {n : Nat} {f f' : Nat → Nat → Nat} {e : Nat} (G : Grp n f e) (h : ∀ a b, a < n → b < n → f' a b = f a b) : Grp n f' e := by
  refine ⟨G.pos, fun a b ha hb => by rw [h a b ha hb]; exact G.cl a b ha hb, G.el, fun a ha => by rw [h e a G.el ha]; exact G.one_l a ha, fun a ha => by rw [h a e ha G.el]; exact G.one_r a ha, fun a b c ha hb hc => ?_, fun a ha => ?_⟩
  · rw [h a b ha hb, h _ c (G.cl a b ha hb) hc, h b c hb hc, h a _ ha (G.cl b c hb hc)]
    exact G.assoc a b c ha hb hc
  · obtain ⟨b, hb, h1, h2⟩ := G.inv a ha
    exact ⟨b, hb, by rw [h a b ha hb]; exact h1, by rw [h b a hb ha]; exact h2⟩
theorem tbl_op' (g : Nat → Nat → Nat) {n a b : Nat} (ha : a < n) (hb : b < n) : op (tbl (fun a b => (g a b : Nat)) n) n a b = g a b := by
  unfold op
  rw [tbl_get _ ha hb]; rfl
theorem tbl_Tab {n : Nat} {g : Nat → Nat → Nat} (h1 : 1 ≤ n) (hn : n ≤ 60) (hg : ∀ a b, a < n → b < n → g a b < n) : Tab n (tbl (fun a b => (g a b : Nat)) n) := by
  refine ⟨h1, hn, tbl_len _ _, fun i hi => ?_⟩
  have h1 : i / n < n := Nat.div_lt_of_lt_mul hi
  have h2 : i % n < n := Nat.mod_lt _ (by omega)
  have h3 : i / n * n + i % n = i := by rw [Nat.mul_comm]; exact Nat.div_add_mod i n
  have := tbl_get (fun a b => ((g a b : Nat) : Int)) h1 h2
  rw [h3] at this
  rw [this]
  have := hg _ _ h1 h2
  omega
theorem tbl_GT' {n e : Nat} {g : Nat → Nat → Nat} (hn : n ≤ 60) (G : Grp n g e) : GT n (tbl (fun a b => (g a b : Nat)) n) n e :=
  ⟨rfl, tbl_Tab G.pos hn G.cl, G.cong' fun a b ha hb => tbl_op' g ha hb⟩

end Go.Proofs.YtboadfahlflmhaaDoor

/-
  Operations that are the same on a group's things: inverses, conjugates, what is made. Conditions: none.
-/
set_option linter.all false
namespace Go.Proofs.YtboadfahlflmhaaDoor
open Go.Pv

section
variable {n e : Nat} {f g : Nat → Nat → Nat} {p : Nat → Bool}

theorem iv_cong (G : Grp n f e) (h : ∀ a b, a < n → b < n → g a b = f a b) {a : Nat} (ha : a < n) : iv n g e a = iv n f e a := by
  have G' := G.cong' h
  refine (G'.iv_unique ha (G.iv_lt ha) (.inl ?_)).symm
  rw [h _ _ ha (G.iv_lt ha), G.mul_iv ha]
theorem cjr_cong (G : Grp n f e) (h : ∀ a b, a < n → b < n → g a b = f a b) {x a : Nat} (hx : x < n) (ha : a < n) : cjr n g e x a = cjr n f e x a := by
  unfold cjr
  rw [iv_cong G h ha, h _ _ (G.iv_lt ha) hx, h _ _ (G.cl _ _ (G.iv_lt ha) hx) ha]
theorem cup_cong (G : Grp n f e) (h : ∀ a b, a < n → b < n → g a b = f a b) (y : Nat) : cup n g e p y = cup n f e p y := by
  rw [Bool.eq_iff_iff, cup_iff, cup_iff]
  constructor
  · rintro ⟨x, a, hx, ha, h1, h2⟩
    exact ⟨x, a, hx, ha, h1, by rw [← cjr_cong G h hx ha]; exact h2⟩
  · rintro ⟨x, a, hx, ha, h1, h2⟩
    exact ⟨x, a, hx, ha, h1, by rw [cjr_cong G h hx ha]; exact h2⟩
theorem Gen.cong_op (G : Grp n f e) (h : ∀ a b, a < n → b < n → g a b = f a b) {a : Nat} (hg : Gen n g e p a) : Gen n f e p a := by
  have G' := G.cong' h
  induction hg with
  | one => exact .one
  | step a b ha hb hp ih => rw [h a b (ih.lt G) hb]; exact .step a b ih hb hp
theorem Sub.cong_op (G : Grp n f e) (h : ∀ a b, a < n → b < n → g a b = f a b) (hs : Sub n g e p) : Sub n f e p :=
  sub_of G hs.one fun a b ha hb h1 h2 => by rw [← h a b ha hb]; exact hs.mul a b ha hb h1 h2
theorem Nml.cong_op (G : Grp n f e) (h : ∀ a b, a < n → b < n → g a b = f a b) (hs : Nml n g e p) : Nml n f e p := fun a ha x hx hp => by
  rw [← cjr_cong G h hx ha]; exact hs a ha x hx hp
end
end Go.Proofs.YtboadfahlflmhaaDoor

/-
  All subgroups of a group, in their order. Conditions: none.
-/
set_option linter.all false
namespace Go.Proofs.YtboadfahlflmhaaDoor
open Go.Pv

def wta (p : Nat → Bool) (a x : Nat) : Bool := p x || decide (x = a)
section
variable {n e : Nat} {f : Nat → Nat → Nat}

/-- With one thing more, what is made is there. -/
def Dn (n : Nat) (f : Nat → Nat → Nat) (e x a : Nat) (L : List Nat) : Prop := ∀ q : Nat → Bool, (∀ y, y < n → (q y = true ↔ Gen n f e (wta x.testBit a) y)) → bo n q ∈ L
theorem Dn.mono {x a : Nat} {L L' : List Nat} (h : Dn n f e x a L) (hs : ∀ y ∈ L, y ∈ L') : Dn n f e x a L' := fun q hq => hs _ (h q hq)

/-- All subgroups; each once. -/
structure AllI (n : Nat) (f : Nat → Nat → Nat) (e : Nat) (L : List Nat) : Prop where
  nodup : L.Nodup
  subs : ∀ x ∈ L, ∃ p, Sub n f e p ∧ x = bo n p
  one : bo n (onp e) ∈ L
theorem AllI.lt {L : List Nat} (h : AllI n f e L) : ∀ x ∈ L, x < 2 ^ n := fun x hx => by
  obtain ⟨p, _, rfl⟩ := h.subs x hx
  exact bo_lt n p
theorem AllI.len {L : List Nat} (h : AllI n f e L) : L.length ≤ 2 ^ n := nodup_lt h.nodup h.lt
theorem AllI.all {L : List Nat} (G : Grp n f e) (h : AllI n f e L) (hd : ∀ x ∈ L, ∀ a, a < n → Dn n f e x a L) : ∀ p, Sub n f e p → bo n p ∈ L := by
  intro q hq
  -- from what is there, inside q, up
  have go : ∀ c (p : Nat → Bool), Sub n f e p → bo n p ∈ L → (∀ y, y < n → p y = true → q y = true) → (mem n q).length - (mem n p).length ≤ c → bo n q ∈ L := by
    intro c
    induction c with
    | zero =>
      intro p hp hL hle hc
      have hall : ∀ y, y < n → q y = p y := by
        refine Classical.byContradiction fun hh => ?_
        have := mem_lt (p := q) (q := p) hle (fun h2 => hh fun y hy => (h2 y hy).symm)
        omega
      rw [bo_congr hall]; exact hL
    | succ c ih =>
      intro p hp hL hle hc
      by_cases hall : ∀ y, y < n → q y = p y
      · rw [bo_congr hall]; exact hL
      · have hex : ∃ a, a < n ∧ q a = true ∧ p a = false := by
          refine Classical.byContradiction fun hh => hall fun y hy => ?_
          cases hpy : p y with
          | true => exact hle y hy hpy
          | false =>
            cases hqy : q y with
            | false => rfl
            | true => exact absurd ⟨y, hy, hqy, hpy⟩ hh
        obtain ⟨a, ha, qa, pa⟩ := hex
        obtain ⟨r, hr⟩ := gen_ex n f e (wta (bo n p).testBit a)
        have hrL := hd _ hL a ha r hr
        have hin : ∀ b, b < n → wta (bo n p).testBit a b = true → q b = true := fun b hb hw => by
          unfold wta at hw
          rw [bo_bit, Bool.or_eq_true, Bool.and_eq_true, decide_eq_true_eq, decide_eq_true_eq] at hw
          rcases hw with hw | hw
          · exact hle b hb hw.2
          · rw [hw]; exact qa
        have hrq : ∀ y, y < n → r y = true → q y = true := fun y hy h1 => ((hr y hy).1 h1).sub G hq hin
        have hpr : ∀ y, y < n → p y = true → r y = true := fun y hy h1 => (hr y hy).2 (Gen.mem G hy (by unfold wta; rw [bo_bit]; simp [hy, h1]))
        have hra : r a = true := (hr a ha).2 (Gen.mem G ha (by unfold wta; simp))
        have hlt := mem_lt (p := r) (q := p) hpr (fun h2 => by have := h2 a ha; rw [pa, hra] at this; cases this)
        exact ih r (gen_sub G hr) hrL hrq (by omega)
  exact go _ (onp e) G.onp_sub h.one (fun y hy h1 => by rw [onp_iff] at h1; rw [h1]; exact hq.one) (Nat.le_refl _)

/-- .. in their order. -/
structure AllS (n : Nat) (f : Nat → Nat → Nat) (e : Nat) (L : List Nat) : Prop where
  subs : ∀ x ∈ L, ∃ p, Sub n f e p ∧ x = bo n p
  all : ∀ p, Sub n f e p → bo n p ∈ L
  rise : L.Pairwise fun x y => cmpS (stl x) (stl y) < 0
theorem AllS.nodup {L : List Nat} (h : AllS n f e L) : L.Nodup := h.rise.imp fun {x y} hxy he => by
  subst he; exact cmpS_self _ hxy
end
end Go.Proofs.YtboadfahlflmhaaDoor

/-
  Sylow's subgroups, as the program has them: look, Cauchy, one. Conditions: none.
-/
set_option linter.all false
namespace Go.Proofs.YtboadfahlflmhaaDoor
open Go.Pv

section
variable {n e P : Nat} {m : List Int}
end
end Go.Proofs.YtboadfahlflmhaaDoor

/-
  Sylow's subgroups, as the program grows one. Conditions: none.
-/
set_option linter.all false
namespace Go.Proofs.YtboadfahlflmhaaDoor
open Go.Pv

section
variable {n e P : Nat} {m : List Int}
end
end Go.Proofs.YtboadfahlflmhaaDoor

/-
  Plain law: conjugated sets in a list that rises. Conditions: none.
-/
set_option linter.all false
namespace Go.Proofs.YtboadfahlflmhaaDoor
open Go.Pv

/-- All sets that a set is conjugated to, in their order. -/
structure SyS (n : Nat) (f : Nat → Nat → Nat) (e : Nat) (s : Nat → Bool) (SL : List Nat) : Prop where
  all : ∀ x, x ∈ SL ↔ ∃ a, a < n ∧ x = bo n (shf n f e s a)
  rise : SL.Pairwise fun x y => cmpL (stl x) (stl y) < 0
section
variable {n e : Nat} {f : Nat → Nat → Nat} {s : Nat → Bool} {SL : List Nat}
theorem SyS.nodup (h : SyS n f e s SL) : SL.Nodup := h.rise.imp fun {x y} hxy he => by
  subst he; rw [cmpL_self] at hxy; exact absurd hxy (by decide)
theorem SyS.pos (h : SyS n f e s SL) (G : Grp n f e) : 0 < SL.length := List.length_pos_of_mem ((h.all _).2 ⟨e, G.el, rfl⟩)
theorem SyS.len (h : SyS n f e s SL) : SL.length ≤ n := by
  have h1 := List.Nodup.length_le_of_subset h.nodup (l₂ := (List.range n).map fun a => bo n (shf n f e s a)) fun x hx => by
    obtain ⟨a, h1, h2⟩ := (h.all x).1 hx
    exact List.mem_map.2 ⟨a, List.mem_range.2 h1, h2.symm⟩
  simpa using h1
theorem SyS.num (h : SyS n f e s SL) (G : Grp n f e) (hs : Sub n f e s) : SL.length * (mem n (nzr n f e s)).length = n :=
  G.conj_num hs (code := bo n) (fun p q => ⟨fun he y hy => by
    have := congrArg (fun x => Nat.testBit x y) he
    simpa [bo_bit, hy] using this, fun he => bo_congr he⟩) h.nodup h.all
end
end Go.Proofs.YtboadfahlflmhaaDoor

/-
  Maps by lists of keys. Conditions: none.
-/
set_option linter.all false
namespace Go.Proofs.YtboadfahlflmhaaDoor
open Go.Pv

/-! ### Maps by lists of keys -/
theorem ll_takeL (ls : List (List Int)) : (ll ls).take ls.length = ll ls := List.take_of_length_le (by rw [ll_length]; exact Nat.le_refl _)
theorem ll_takeS (ls : List (List Int)) (x : List Int) : (ll (ls ++ [x])).take (ls.length + 1) = ll (ls ++ [x]) := List.take_of_length_le (by rw [ll_length]; simp)
end Go.Proofs.YtboadfahlflmhaaDoor

/-
  The library's sort by a comparison, over a row of the caller's own: what it leaves. Conditions: none; a library text.
-/
set_option linter.all false
namespace Go.Pv
open Go.RowKit

section
variable {P : Program} {ρ : Go.Shelf.Ren}

end
end Go.Pv

/-
  Contracts of the library, laid at this dump: numbers, and that each body is the same. Conditions: none; written by a program of this repo out of the kit's own tool.
-/
set_option linter.all false
namespace Go.Proofs
open Go.Shelf
end Go.Proofs

/-
  A loop over a map of one's own: its entries come in whatever order. Conditions: none; a library text.
-/
set_option linter.all false
namespace Go.Pv
open Go.RowKit

section
variable {P : Program} {C : Ctx} {m : Map} {s : St} {tmps : Array Value} {w : World}

/-- The frame where some blocks are left alone. -/
def holdC (C : Ctx) (X : Nat → Prop) (w : World) : Ctx := ⟨fun b => C.okA b ∨ C.B b, fun b => C.B b ∧ ¬ X b, w, C.anc⟩

theorem holdC_ok (C : Ctx) (X : Nat → Prop) (w0 : World) (m : Map) (H : Heap) (w : World) : OK (holdC C X w0) m H w = OK C m H w := by
  funext b
  unfold OK holdC
  refine propext ⟨fun h => ⟨?_, h.2⟩, fun h => ⟨.inl h.1, h.2⟩⟩
  rcases h.1 with h1 | h1
  · exact h1
  · exact .inr h1.1

theorem Rel.hold (R : Rel C m s tmps w) (X : Nat → Prop) (hX : ∀ b, X b → b < w.heap.size ∧ ∀ cur e sh, w.heap[b]? ≠ some (.cells cur e sh))
    (hmp : ∀ (k : Nat) (kk : IntKind) (d : Int → Bool) (v : Int → PV) (l : Loc), s.H[k]? = some (Blk.mp kk d v) → m k = some l → ¬ X l.g) (hlp : ∀ b, X b → ∀ rr, w.heap[b]? ≠ some (.loop rr)) : Rel (holdC C X w) m s tmps w := by
  have e := holdC_ok C X w m s.H w
  refine ⟨by rw [e]; exact R.laid, BelowP.refl _ _, fun b hb => ⟨R.base b hb, fun hx => by have := (hX b hx).1; omega⟩, R.size, R.inj, fun k c h => ?_, by rw [e]; exact R.fro, by rw [e]; exact R.slot, fun k kk d v h => ?_, R.mp.2.1, R.mp.2.2.1, fun k rr h => (let ⟨l, a1, a2, a3⟩ := R.mp.2.2.2.1 k rr h; ⟨l, a1, ⟨a2, fun hx => hlp _ hx _ a3⟩, a3⟩), R.mp.2.2.2.2⟩
  · rw [e]
    rcases R.blk k c h with h1 | ⟨l, cur, ee, a1, a2, a3, a4⟩
    · exact .inl h1
    · exact .inr ⟨l, cur, ee, a1, ⟨a2, fun hx => (hX _ hx).2 _ _ _ a3⟩, a3, a4⟩
  · rw [e]
    obtain ⟨l, ar, clk, vs, a1, a2, a3⟩ := R.mp.1 k kk d v h
    exact ⟨l, ar, clk, vs, a1, ⟨a2, hmp k kk d v l h a1⟩, a3⟩

theorem BelowP.monoB {B B' : Nat → Prop} {a b : World} (h : BelowP B a b) (hB : ∀ k, B k → B' k) : BelowP B' a b :=
  ⟨h.os, h.tape, h.output, h.size, fun k hk => h.block k fun hh => hk (hB k hh), h.dr⟩

theorem Rel.unhold {X : Nat → Prop} {w0 : World} (R : Rel (holdC C X w0) m s tmps w) (hb : BelowP C.B C.w0 w0) : Rel C m s tmps w := by
  have e := holdC_ok C X w0 m s.H w
  have hB : ∀ b, (holdC C X w0).B b → C.B b := fun b h => h.1
  refine ⟨by rw [← e]; exact R.laid, hb.trans (R.below.monoB hB), fun b h => hB b (R.base b h), R.size, R.inj, fun k c h => ?_, by rw [← e]; exact R.fro, by rw [← e]; exact R.slot, fun k kk d v h => ?_, R.mp.2.1, R.mp.2.2.1, fun k rr h => (let ⟨l, a1, a2, a3⟩ := R.mp.2.2.2.1 k rr h; ⟨l, a1, hB _ a2, a3⟩), R.mp.2.2.2.2⟩
  · rw [← e]
    rcases R.blk k c h with h1 | ⟨l, cur, ee, a1, a2, a3, a4⟩
    · exact .inl h1
    · exact .inr ⟨l, cur, ee, a1, hB _ a2, a3, a4⟩
  · rw [← e]
    obtain ⟨l, ar, clk, vs, a1, a2, a3⟩ := R.mp.1 k kk d v h
    exact ⟨l, ar, clk, vs, a1, hB _ a2, a3⟩

/-! ### The loop -/

end
end Go.Pv

/-
  All of Sylow's subgroups, as the program has them. Conditions: none.
-/
set_option linter.all false
namespace Go.Proofs.YtboadfahlflmhaaDoor
open Go.Pv

def pvi : PV → Int
  | .int _ x => x
  | _ => 0
theorem pvi_il (v : List Int) : (il v).map pvi = v := by
  unfold il
  rw [List.map_map]
  exact (List.map_congr_left fun _ _ => rfl).trans (List.map_id v)
section
variable {n e P : Nat} {m : List Int}
end
end Go.Proofs.YtboadfahlflmhaaDoor

/-
  What reads as one value reads as another. Conditions: none.
-/
set_option linter.all false
namespace Go.Proofs.YtboadfahlflmhaaDoor
open Go.Pv

/-! ### What reads as one reads as another -/

def Rle (a b : PV) : Prop := ∀ (ok : Nat → Prop) (w : World) (v : Value), Reads ok w a v → Reads ok w b v
theorem Rle.rfl {a : PV} : Rle a a := fun _ _ _ h => h
theorem Rle.nn {l : List PV} : Rle (.nn l) (.list l) := fun _ _ _ h => h.nn_list
def Rles : List PV → List PV → Prop
  | [], [] => True
  | a :: r, b :: s => Rle a b ∧ Rles r s
  | _, _ => False
theorem Rles.len : ∀ {l r : List PV}, Rles l r → l.length = r.length
  | [], [], _ => by rfl
  | a :: l, b :: r, h => by simp [Rles.len h.2]
  | [], _ :: _, h => h.elim
  | _ :: _, [], h => h.elim
theorem Rles.get : ∀ {l r : List PV}, Rles l r → ∀ (i : Nat) (h : i < l.length) (h' : i < r.length), Rle l[i] r[i]
  | a :: l, b :: r, h, 0, _, _ => h.1
  | a :: l, b :: r, h, i + 1, h1, h2 => by simpa using Rles.get h.2 i (by simpa using h1) (by simpa using h2)
  | [], [], _, i, h, _ => by simp at h
  | [], _ :: _, h, _, _, _ => h.elim
  | _ :: _, [], h, _, _, _ => h.elim
theorem FnC.weak {P : Program} {f : FuncId} {args args' : List PV} {r : PV} (h : FnC P f args r) (hs : Rles args' args) : FnC P f args' r := by
  refine ⟨h.1, fun okA w vals h1 h2 h3 => h.2 okA w vals h1 (h2.trans hs.len) fun i hi => ?_⟩
  have := hs.len
  exact hs.get i (by omega) hi _ _ _ (h3 i (by omega))

theorem Rle.nn2 {a b : List PV} : Rle (.nn [.nn a, .nn b]) (.list [.list a, .list b]) := fun ok w v h => by
  cases h with
  | nn _ k off sz vs hb hsz hc hr =>
    refine .list [.list a, .list b] k off 2 1 vs hb (by simp [PV.cells]) (by simp) (fun c hc' => hc c (by simpa [flat, PV.cells] using hc')) fun c hcl => ?_
    have h0 := hr 0 (by simp [flat, PV.cells])
    have h1 := hr 1 (by simp [flat, PV.cells])
    match c, hcl with
    | 0, _ => exact Reads.nn_list h0
    | 1, _ => exact Reads.nn_list h1
end Go.Proofs.YtboadfahlflmhaaDoor

/-
  Classes: by what is alike; of conjugate things. Conditions: none.
-/
set_option linter.all false
namespace Go.Proofs.YtboadfahlflmhaaDoor
open Go.Pv

/-- The classes whose least things are below a. -/
def cstp (n : Nat) (r : Nat → Nat → Bool) (a : Nat) : List (List Int) := ((List.range a).filter (lead r)).map fun x => thl n (r x)
def cst (n : Nat) (r : Nat → Nat → Bool) : List (List Int) := cstp n r n
theorem cstp_succ (n : Nat) (r : Nat → Nat → Bool) (a : Nat) : cstp n r (a + 1) = cstp n r a ++ if lead r a = true then [thl n (r a)] else [] := by
  unfold cstp
  rw [List.range_succ, List.filter_append, List.map_append]
  congr 1
  cases h : lead r a <;> simp [h]
theorem cstp_len (n : Nat) (r : Nat → Nat → Bool) (a : Nat) : (cstp n r a).length ≤ a := by
  unfold cstp
  rw [List.length_map]
  have := List.length_filter_le (lead r) (List.range a)
  rwa [List.length_range] at this
/-- The class at a place: its least thing. -/
theorem cst_get {n : Nat} {r : Nat → Nat → Bool} {i : Nat} (hi : i < (cst n r).length) : ∃ x, x < n ∧ lead r x = true ∧ (cst n r).getD i [] = thl n (r x) ∧ (mem n (lead r)).getD i 0 = x := by
  unfold cst cstp at hi ⊢
  rw [List.length_map] at hi
  have hm := List.getElem_mem hi
  obtain ⟨h1, h2⟩ := List.mem_filter.1 hm
  refine ⟨_, List.mem_range.1 h1, h2, ?_, ?_⟩
  · simp [List.getD, List.getElem?_eq_getElem hi]
  · unfold mem
    simp [List.getD, List.getElem?_eq_getElem hi]
/-- The first of a list of things. -/
theorem thl_head {n : Nat} {p : Nat → Bool} {a : Nat} (ha : a < n) (h1 : p a = true) (h2 : ∀ b, b < a → p b = false) : 0 < (thl n p).length ∧ (thl n p).getD 0 0 = (a : Int) := by
  have : thl n p = (a : Int) :: (thn' n fun i => p i && !decide (i = a)).map (fun (a : Nat) => (a : Int)) := by
    unfold thl
    rw [thn_first ha h1 h2]; rfl
  rw [this]
  exact ⟨by simp, rfl⟩
theorem head_thl {n : Nat} {p : Nat → Bool} {a : Nat} (ha : a < n) (h0 : 0 < (thl n p).length) (h : (thl n p).getD 0 0 = (a : Int)) : p a = true ∧ ∀ b, b < a → p b = false := by
  obtain ⟨x, x1, x2, x3⟩ := thl_get h0
  have : x = a := by omega
  subst this
  refine ⟨x2, fun b hb => ?_⟩
  cases hpb : p b with
  | false => rfl
  | true =>
    exfalso
    obtain ⟨i, i1, i2⟩ := thl_at (n := n) (p := p) (show b < n by omega) hpb
    rcases Nat.eq_zero_or_pos i with h' | h'
    · subst h'; omega
    · have := thl_get_asc (n := n) (p := p) h' i1
      omega
theorem lead_head {n : Nat} {r : Nat → Nat → Bool} {a : Nat} (ha : a < n) : lead r a = true ↔ 0 < (thl n (r a)).length ∧ (thl n (r a)).getD 0 0 = (a : Int) := by
  rw [lead_iff]
  exact ⟨fun h => thl_head ha h.1 h.2, fun h => head_thl ha h.1 h.2⟩



theorem thl_one {n x : Nat} (hx : x < n) : thl n (fun y => decide (y = x)) = [(x : Int)] := by
  refine asc_ext (thl_asc _ _) (by simp) fun z => ?_
  rw [mem_thl, List.mem_singleton]
  constructor
  · rintro ⟨a, _, h2, rfl⟩
    rw [decide_eq_true_eq] at h2
    rw [h2]
  · rintro rfl
    exact ⟨x, hx, by simp, rfl⟩
/-! ### Rows of rows, compared -/

/-! ### Classes of conjugate things -/

theorem bo_or (n : Nat) (p q : Nat → Bool) : bo n p ||| bo n q = bo n fun a => p a || q a := by
  refine Nat.eq_of_testBit_eq fun i => ?_
  rw [Nat.testBit_or, bo_bit, bo_bit, bo_bit]
  cases decide (i < n) <;> simp
/-- What is in a class of an earlier thing. -/
def hadp (r : Nat → Nat → Bool) (x y : Nat) : Bool := decide (∃ z, z < x ∧ r z y = true)
/-- What is x, conjugated by an earlier thing. -/
def sp (n : Nat) (f : Nat → Nat → Nat) (e x a y : Nat) : Bool := decide (∃ b, b < a ∧ cjr n f e x b = y)
theorem bo_zero (n : Nat) : bo n (fun _ => false) = 0 := by
  refine Nat.eq_of_testBit_eq fun i => ?_
  rw [bo_bit]; simp

end Go.Proofs.YtboadfahlflmhaaDoor

/-
  Classes: where things stand; powers of classes; pairs that commute. Conditions: none.
-/
set_option linter.all false
namespace Go.Proofs.YtboadfahlflmhaaDoor
open Go.Pv

theorem cst_len (n : Nat) (r : Nat → Nat → Bool) : (cst n r).length = (mem n (lead r)).length := by
  unfold cst cstp mem
  rw [List.length_map]

/-- The place of the first list that has a thing; -1: none has. -/
def wch (l : List (List Int)) (x : Int) : Int := match fst' (fun i => decide (x ∈ l.getD i [])) l.length with | some i => (i : Int) | none => -1

/-- A row by a rule. -/
def rgz (n : Nat) (g : Nat → Int) : List Int := (List.range n).map g
theorem rgz_len (n : Nat) (g : Nat → Int) : (rgz n g).length = n := by simp [rgz]
theorem rgz_get {n : Nat} {g : Nat → Int} {a : Nat} (ha : a < n) : (rgz n g).getD a 0 = g a := by
  simp [rgz, List.getD, List.getElem?_map, List.getElem?_range ha]
theorem rgz_congr {n : Nat} {g g' : Nat → Int} (h : ∀ a, a < n → g a = g' a) : rgz n g = rgz n g' := List.map_congr_left fun a ha => h a (List.mem_range.1 ha)
theorem rgz_set (n : Nat) (g : Nat → Int) (c : Nat) (x : Int) : (rgz n g).set c x = rgz n fun a => if a = c then x else g a := by
  refine List.ext_getElem (by simp [rgz]) fun i h1 h2 => ?_
  rw [List.getElem_set]
  by_cases e : c = i
  · subst e; simp [rgz]
  · rw [if_neg e]
    simp [rgz, Ne.symm e]
theorem rgz_new (n : Nat) : List.replicate n (AV.p (.int .i64 0)) = ol (rgz n fun _ => 0) := by
  refine List.ext_getElem (by simp [ol, il, rgz]) fun i h1 h2 => ?_
  simp [ol, il, rgz]

/-- Where each thing's class stands. -/
def whl (n : Nat) (r : Nat → Nat → Bool) : List Int := rgz n fun a => wch (cst n r) a

theorem cst_apart {n : Nat} {r : Nat → Nat → Bool} (h : Eqv n r) {i j a : Nat} (hi : i < (cst n r).length) (hj : j < (cst n r).length) (ha : a < n) (h1 : ((a : Nat) : Int) ∈ (cst n r).getD i []) (h2 : ((a : Nat) : Int) ∈ (cst n r).getD j []) : i = j := by
  obtain ⟨x, x1, x2, x3, x4⟩ := cst_get hi
  obtain ⟨y, y1, y2, y3, y4⟩ := cst_get hj
  rw [x3, mem_thl_n ha] at h1
  rw [y3, mem_thl_n ha] at h2
  have hxy : x = y := h.lead_eq x1 y1 x2 y2 (h.trans x a y x1 ha y1 h1 (h.symm y a y1 ha h2))
  subst hxy
  have hn : (mem n (lead r)).Nodup := List.nodup_range.filter _
  have hl := cst_len n r
  exact at_inj hn (by omega) (by omega) (x4.trans y4.symm)
theorem cst_in {n : Nat} {r : Nat → Nat → Bool} (h : Eqv n r) {a : Nat} (ha : a < n) : ∃ i, i < (cst n r).length ∧ ((a : Nat) : Int) ∈ (cst n r).getD i [] := by
  obtain ⟨x, x1, x2, x3⟩ := h.least ha
  obtain ⟨i, hi, e⟩ := List.getElem_of_mem (mem_mem.2 ⟨x1, x2⟩ : x ∈ mem n (lead r))
  have hl := cst_len n r
  refine ⟨i, by omega, ?_⟩
  obtain ⟨y, y1, y2, y3, y4⟩ := cst_get (n := n) (r := r) (i := i) (by omega)
  rw [y3, mem_thl_n ha]
  have : y = x := by rw [← y4]; simp [List.getD, List.getElem?_eq_getElem hi, e]
  rw [this]; exact x3
theorem wch_at {n : Nat} {r : Nat → Nat → Bool} (h : Eqv n r) {i a : Nat} (hi : i < (cst n r).length) (ha : a < n) (h1 : ((a : Nat) : Int) ∈ (cst n r).getD i []) : wch (cst n r) a = (i : Int) := by
  have e : fst' (fun k => decide (((a : Nat) : Int) ∈ (cst n r).getD k [])) (cst n r).length = some i := fst_some hi (decide_eq_true h1) fun j hj => decide_eq_false fun h2 => by
    have := cst_apart h hi (by omega) ha h1 h2
    omega
  simp only [wch, e]

end Go.Proofs.YtboadfahlflmhaaDoor

/-
  Cosets: right, left and double, of the program and of the document. Conditions: none.
-/
set_option linter.all false
namespace Go.Proofs.YtboadfahlflmhaaDoor
open Go.Pv

/-! ### Gathered -/

set_option maxHeartbeats 2000000 in
theorem gather_c (n : Nat) (hb : n ≤ 60) (F : FuncId) (caps : List PV) (r : Nat → Nat → Bool) (E : Eqv n r) (hF : ∀ a, a < n → FnC Tryd.prog F (.int .i64 a :: caps) (.int .u64 (bo n (r a)))) : FnC Tryd.prog 141 [.int .i64 n, .fn F caps] (.list (ll (cst n r))) := by
  have hz : bo n (hadp r 0) = 0 := by
    have h1 : bo n (hadp r 0) = bo n fun _ => false := bo_congr fun a _ => by simp [hadp]
    rw [h1, bo_zero]
  have hlead : ∀ x, x < n → lead r x = !hadp r x x := by
    intro x hx
    rw [Bool.eq_iff_iff, lead_iff, Bool.not_eq_true']
    unfold hadp
    rw [decide_eq_false_iff_not]
    constructor
    · rintro ⟨_, h2⟩ ⟨z, z1, z2⟩
      have := E.symm z x (by omega) hx z2
      rw [h2 z z1] at this; cases this
    · intro h1
      refine ⟨E.refl x hx, fun b hb' => ?_⟩
      cases hv : r x b with
      | false => rfl
      | true => exact absurd ⟨b, hb', E.symm x b hx (by omega) hv⟩ h1
  refine fnc_of tab_ok Tryd.func141 rfl (by kernel_rfl) (by rw [Tryd.ntmps141]; exact Nat.le_add_left 2 _) ?_; rw [Tryd.ntmps141]
  refine qm ?_
  refine hk_region fun K hK => runs_eval tab_ok ?_
  simp only [ev0, evA, evB, evP, fl, gp, tab, simprocAttr, reduceCtorEq, reduceIte]
  refine fin_run trivial (hK _ ?_) <;> clear hK <;> clear K
  refine qa (qm ?_)
  refine hk_region fun K hK => runs_eval tab_ok ?_
  simp only [ev0, evA, evB, evP, fl, gp, tab, simprocAttr, reduceCtorEq, reduceIte]
  refine fin_run trivial (hK _ ?_) <;> clear hK <;> clear K
  refine qa (qm ?_)
  refine hk_own0 5 rfl ?_
  refine hk_region fun K hK => runs_eval tab_ok ?_
  simp only [ev0, evA, evB, evP, fl, gp, tab, simprocAttr, reduceCtorEq, reduceIte]
  refine fin_run trivial (hK _ ?_) <;> clear hK <;> clear K
  refine qa (qm (qm ?_))
  refine hk_region fun K hK => runs_eval tab_ok ?_
  simp only [ev0, evA, evB, evP, fl, gp, tab, simprocAttr, reduceCtorEq, reduceIte]
  refine fin_run trivial (hK _ ?_) <;> clear hK <;> clear K
  refine qa (ql ?_)
  refine hk_loop (ι := Nat) (fun x => ⟨29, [(1, .p (.fn F caps)), (5, .sl 0 0 (cstp n r x).length), (6, .p (.int .u64 (bo n (hadp r x)))), (9, .p (.int .i64 n)), (10, .p (.int .i64 x))], [.own (opl (ll (cstp n r x)))]⟩) (fun x => x ≤ n) (fun x => n - x) 0 (Nat.zero_le _) [0] (by simp only [leq, leA, ev0, evA, evB, evP, fl, gp, tab, simprocAttr, reduceCtorEq, reduceIte, ll_takeL, ll_snoc, ll_takeS] <;> first | trivial | (simp [cstp, ll, opl, hz]; done) | (simp [cstp, ll, opl]; done)) fun x hx => ?_
  have hlen := cstp_len n r x
  have hll := ll_length (cstp n r x)
  refine qm ?_
  refine hk_region fun K hK => runs_eval tab_ok ?_
  simp only [ev0, evA, evB, evP, fl, gp, tab, simprocAttr, reduceCtorEq, reduceIte]
  refine fin_run trivial (hK _ ?_) <;> clear hK <;> clear K
  refine qa (qm ?_)
  refine hk_cond rfl (fun hC1 => ?_) (fun hC1 => ?_)
  · (try simp only [nhs] at hC1)
    have hlt : x < n := by omega
    have hs := cstp_succ n r x
    have hhb : (bo n (hadp r x)).testBit x = hadp r x x := by rw [bo_bit]; simp [hlt]
    have hb1 := bo_lt64 hb (hadp r x)
    have hb2 := bo_lt64 hb (r x)
    refine qh (qa (qm (ql (qm ?_))))
    refine hk_region fun K hK => runs_eval tab_ok ?_
    simp only [ev0, evA, evB, evP, fl, gp, tab, simprocAttr, reduceCtorEq, reduceIte]
    refine fin_run trivial (hK _ ?_) <;> clear hK <;> clear K
    refine qa (qm (qm ?_))
    refine hk_region fun K hK => runs_eval tab_ok ?_
    simp only [ev0, evA, evB, evP, fl, gp, tab, simprocAttr, reduceCtorEq, reduceIte]
    refine fin_stop trivial (runs_call (has_s (bo n (hadp r x)) x hb1 (by omega)) rfl rfl rfl (by simp only [dstOk, Nat.reduceLT]) (by repeat (first | exact trivial | constructor)) (runs_eval tab_ok ?_))
    simp only [ev0, evA, evB, evP, fl, gp, tab, simprocAttr, reduceCtorEq, reduceIte, hhb]
    refine fin_run trivial (hK _ ?_) <;> clear hK <;> clear K
    refine qa ?_
    refine hk_cond rfl (fun hC2 => ?_) (fun hC2 => ?_)
    · (try simp only [nhs] at hC2)
      have hld : lead r x = false := by rw [hlead x hlt, hC2]; rfl
      rw [if_neg (by rw [hld]; simp), List.append_nil] at hs
      have hh : bo n (hadp r (x + 1)) = bo n (hadp r x) := bo_congr fun y hy => by
        unfold hadp at hC2 ⊢
        rw [decide_eq_true_eq] at hC2
        refine decide_eq_decide.2 ⟨?_, fun ⟨z, z1, z2⟩ => ⟨z, by omega, z2⟩⟩
        rintro ⟨z, z1, z2⟩
        by_cases hzx : z = x
        · subst hzx
          obtain ⟨w, w1, w2⟩ := hC2
          exact ⟨w, w1, E.trans w z y (by omega) hlt hy w2 z2⟩
        · exact ⟨z, by omega, z2⟩
      refine qj (qc (qf (qa ?_)))
      refine hk_region fun K hK => runs_eval tab_ok ?_
      simp only [ev0, evA, evB, evP, fl, gp, tab, simprocAttr, reduceCtorEq, reduceIte]
      refine fin_run ?_ (hK _ ?_) <;> clear hK <;> clear K
      · (first | exact trivial | omega | (simp only [In64] at *; omega) | (simp [In64] at *; omega) | (simp_all; done) | skip)
      refine qa ?_
      refine ⟨x + 1, [0], by omega, by omega, ?_⟩
      rw [hs, hh]
      simp only [leq, leA, ev0, evA, evB, evP, fl, gp, tab, simprocAttr, reduceCtorEq, reduceIte, ll_takeL, ll_snoc, ll_takeS] <;> first | trivial | omega
    · (try simp only [nhs] at hC2)
      have hld : lead r x = true := by rw [hlead x hlt, hC2]; rfl
      rw [if_pos hld] at hs
      have hh : bo n (hadp r (x + 1)) = bo n (fun y => hadp r x y || r x y) := bo_congr fun y hy => by
        unfold hadp
        rw [Bool.eq_iff_iff, Bool.or_eq_true, decide_eq_true_eq, decide_eq_true_eq]
        constructor
        · rintro ⟨z, z1, z2⟩
          by_cases hzx : z = x
          · subst hzx; exact .inr z2
          · exact .inl ⟨z, by omega, z2⟩
        · rintro (⟨z, z1, z2⟩ | h')
          · exact ⟨z, by omega, z2⟩
          · exact ⟨x, by omega, h'⟩
      refine qh (qa (qm ?_))
      refine hk_region fun K hK => runs_eval tab_ok ?_
      simp only [ev0, evA, evB, evP, fl, gp, tab, simprocAttr, reduceCtorEq, reduceIte]
      refine fin_stop trivial (runs_call (hF x hlt) rfl rfl rfl (by simp only [dstOk, Nat.reduceLT]) (by repeat (first | exact trivial | constructor)) (runs_eval tab_ok ?_))
      simp only [ev0, evA, evB, evP, fl, gp, tab, simprocAttr, reduceCtorEq, reduceIte]
      refine fin_run trivial (hK _ ?_) <;> clear hK <;> clear K
      refine qa (qm ?_)
      refine hk_region fun K hK => runs_eval tab_ok ?_
      simp only [ev0, evA, evB, evP, fl, gp, tab, simprocAttr, reduceCtorEq, reduceIte, bv_or hb1 hb2, bo_or]
      refine fin_run ?_ (hK _ ?_) <;> clear hK <;> clear K
      · (first | exact trivial | omega | (simp only [In64] at *; omega) | (simp [In64] at *; omega) | (simp_all; done) | skip)
      refine qa ?_
      refine hk_region fun K hK => runs_eval tab_ok ?_
      simp only [ev0, evA, evB, evP, fl, gp, tab, simprocAttr, reduceCtorEq, reduceIte, ll_takeL, oll_ok, ll_snoc]
      refine fin_stop trivial (runs_call (list_s (bo n (r x)) hb2) rfl rfl rfl (by simp only [dstOk, Nat.reduceLT]) (by repeat (first | exact trivial | constructor)) (runs_eval tab_ok ?_))
      simp only [ev0, evA, evB, evP, fl, gp, tab, simprocAttr, reduceCtorEq, reduceIte, stl_bo hb, ll_takeL, oll_ok, ll_snoc]
      refine fin_run ?_ (hK _ ?_) <;> clear hK <;> clear K
      · (first | exact trivial | omega | (simp only [In64] at *; omega) | (simp [In64] at *; omega) | (simp_all; done) | skip)
      refine qd (qa ?_)
      refine hk_region fun K hK => runs_eval tab_ok ?_
      simp only [ev0, evA, evB, evP, fl, gp, tab, simprocAttr, reduceCtorEq, reduceIte]
      refine fin_run ?_ (hK _ ?_) <;> clear hK <;> clear K
      · (first | exact trivial | omega | (simp only [In64] at *; omega) | (simp [In64] at *; omega) | (simp_all; done) | skip)
      refine qa ?_
      refine ⟨x + 1, [1], by omega, by omega, ?_⟩
      rw [hs, hh]
      simp only [leq, leA, ev0, evA, evB, evP, fl, gp, tab, simprocAttr, reduceCtorEq, reduceIte, ll_takeL, ll_snoc, ll_takeS] <;> first | trivial | omega | (simp [ll]; done)
  · (try simp only [nhs] at hC1)
    have hxn : x = n := by omega
    subst hxn
    rw [← ll_length (cstp x r x)]
    refine hk_sealp 5 0 (ll_all _) rfl rfl ?_
    refine qj (qc (qc (qf (qa (qm ?_)))))
    refine hk_region fun K hK => runs_eval tab_ok ?_
    simp only [ev0, evA, evB, evP, fl, gp, tab, simprocAttr, reduceCtorEq, reduceIte]
    refine fin_run trivial (hK _ ?_) <;> clear hK <;> clear K
    refine qa (qk ?_)
    simp only [Tryd.results141, enA, ev0, evA, evB, evP, fl, gp, tab, simprocAttr, reduceCtorEq, reduceIte]
    all_goals (rfl)

/-! ### Products of a set, a thing and a set -/

def pdr (f : Nat → Nat → Nat) (x a : Nat) (lm : List Int) : List Int := lm.map fun y => ((f (f x a) y.toNat : Nat) : Int)
def pdl (f : Nat → Nat → Nat) (a : Nat) (l lm : List Int) : List Int := l.flatMap fun x => pdr f x.toNat a lm
theorem pdl_succ (f : Nat → Nat → Nat) (a : Nat) {l : List Int} (lm : List Int) {i : Nat} (hi : i < l.length) : pdl f a (l.take (i + 1)) lm = pdl f a (l.take i) lm ++ pdr f (l.getD i 0).toNat a lm := by
  unfold pdl
  rw [List.take_succ_eq_append_getElem hi, List.flatMap_append]
  congr 1
  have : l[i] = l.getD i 0 := by simp [List.getD, List.getElem?_eq_getElem hi]
  rw [this]; simp
theorem pdr_succ (f : Nat → Nat → Nat) (x a : Nat) {lm : List Int} {j : Nat} (hj : j < lm.length) : pdr f x a (lm.take (j + 1)) = pdr f x a (lm.take j) ++ [((f (f x a) (lm.getD j 0).toNat : Nat) : Int)] := by
  unfold pdr
  rw [List.take_succ_eq_append_getElem hj, List.map_append]
  have : lm[j] = lm.getD j 0 := by simp [List.getD, List.getElem?_eq_getElem hj]
  rw [this]; rfl
theorem mem_pdl {n a : Nat} {f : Nat → Nat → Nat} {p q : Nat → Bool} {z : Int} : z ∈ pdl f a (thl n p) (thl n q) ↔ ∃ x y, x < n ∧ y < n ∧ p x = true ∧ q y = true ∧ z = ((f (f x a) y : Nat) : Int) := by
  unfold pdl pdr
  rw [List.mem_flatMap]
  constructor
  · rintro ⟨u, hu, hz⟩
    obtain ⟨v, hv, rfl⟩ := List.mem_map.1 hz
    obtain ⟨x, x1, x2, rfl⟩ := mem_thl.1 hu
    obtain ⟨y, y1, y2, rfl⟩ := mem_thl.1 hv
    exact ⟨x, y, x1, y1, x2, y2, by simp⟩
  · rintro ⟨x, y, x1, y1, x2, y2, rfl⟩
    exact ⟨_, (mem_thl_n x1).2 x2, List.mem_map.2 ⟨_, (mem_thl_n y1).2 y2, by simp⟩⟩
theorem msk_pdl {n e a : Nat} {f : Nat → Nat → Nat} (G : Grp n f e) (p q : Nat → Bool) (ha : a < n) : msk (pdl f a (thl n p) (thl n q)) = bo n (dco n f p q a) := by
  refine Nat.eq_of_testBit_eq fun i => ?_
  rw [msk_bit, bo_bit, Bool.eq_iff_iff, decide_eq_true_eq, Bool.and_eq_true, decide_eq_true_eq, dco_iff]
  constructor
  · rintro ⟨z, hz, rfl⟩
    obtain ⟨x, y, x1, y1, x2, y2, rfl⟩ := mem_pdl.1 hz
    exact ⟨by simpa using G.cl _ _ (G.cl _ _ x1 ha) y1, x, y, x1, y1, x2, y2, by simp⟩
  · rintro ⟨_, x, y, x1, y1, x2, y2, rfl⟩
    exact ⟨_, mem_pdl.2 ⟨x, y, x1, y1, x2, y2, rfl⟩, by simp⟩

theorem product_s {n e : Nat} {m : List Int} (h : GT n m n e) (p q : Nat → Bool) {a : Nat} (ha : a < n) : FnC Tryd.prog 143 [gp n m, .list (il (thl n p)), .int .i64 a, .list (il (thl n q))] (.int .u64 (bo n (dco n (op m n) p q a))) := by
  have G := h.2.2
  have hb := h.2.1.big
  have hlp := thl_le n p
  have hlq := thl_le n q
  refine fnc_of tab_ok Tryd.func143 rfl (by kernel_rfl) (by rw [Tryd.ntmps143]; exact Nat.le_add_left 4 _) ?_; rw [Tryd.ntmps143]
  refine qm ?_
  refine hk_region fun K hK => runs_eval tab_ok ?_
  simp only [ev0, evA, evB, evP, fl, gp, tab, simprocAttr, reduceCtorEq, reduceIte]
  refine fin_run ?_ (hK _ ?_) <;> clear hK <;> clear K
  · (first | exact trivial | omega | (simp only [In64] at *; omega) | (simp [In64] at *; omega) | (simp_all; done) | skip)
  refine qa (qm ?_)
  refine hk_region fun K hK => runs_eval tab_ok ?_
  simp only [ev0, evA, evB, evP, fl, gp, tab, simprocAttr, reduceCtorEq, reduceIte]
  refine fin_run trivial (hK _ ?_) <;> clear hK <;> clear K
  refine qa (qm (qm ?_))
  refine hk_region fun K hK => runs_eval tab_ok ?_
  simp only [ev0, evA, evB, evP, fl, gp, tab, simprocAttr, reduceCtorEq, reduceIte, il_length]
  refine fin_run trivial (hK _ ?_) <;> clear hK <;> clear K
  refine qa (ql ?_)
  refine hk_loop (ι := Nat) (fun i => ⟨39, [(2, .p (.int .i64 a)), (3, .p (.list (il (thl n q)))), (4, .ptr 0 0), (9, .p (.int .u64 (msk (pdl (op m n) a ((thl n p).take i) (thl n q))))), (14, .p (.list (il (thl n p)))), (15, .p (.int .i64 (thl n p).length)), (16, .p (.int .i64 i))], [.own [.p (.int .i64 n), .p (.list (il m))]]⟩) (fun i => i ≤ (thl n p).length) (fun i => (thl n p).length - i) 0 (Nat.zero_le _) [0] (by simp only [leq, leA, ev0, evA, evB, evP, fl, gp, tab, simprocAttr, reduceCtorEq, reduceIte] <;> first | trivial | simp [pdl, msk]) fun i hi => ?_
  refine qm ?_
  refine hk_region fun K hK => runs_eval tab_ok ?_
  simp only [ev0, evA, evB, evP, fl, gp, tab, simprocAttr, reduceCtorEq, reduceIte]
  refine fin_run trivial (hK _ ?_) <;> clear hK <;> clear K
  refine qa (qm ?_)
  refine hk_cond rfl (fun hC1 => ?_) (fun hC1 => ?_)
  · (try simp only [nhs] at hC1)
    have hlt : i < (thl n p).length := by omega
    obtain ⟨x, x1, x2, x3⟩ := thl_get hlt
    refine qh (qa (qm (ql (qm ?_))))
    refine hk_region fun K hK => runs_eval tab_ok ?_
    simp only [ev0, evA, evB, evP, fl, gp, tab, simprocAttr, reduceCtorEq, reduceIte, il_get hlt, x3]
    refine fin_run ?_ (hK _ ?_) <;> clear hK <;> clear K
    · (first | exact trivial | omega | (simp only [In64] at *; omega) | (simp [In64] at *; omega) | (simp_all; done) | skip)
    refine qa (qm ?_)
    refine hk_region fun K hK => runs_eval tab_ok ?_
    simp only [ev0, evA, evB, evP, fl, gp, tab, simprocAttr, reduceCtorEq, reduceIte, il_length]
    refine fin_run trivial (hK _ ?_) <;> clear hK <;> clear K
    refine qa (ql ?_)
    refine hk_loop (ι := Nat) (fun j => ⟨39, [(2, .p (.int .i64 a)), (3, .p (.list (il (thl n q)))), (4, .ptr 0 0), (9, .p (.int .u64 (msk (pdl (op m n) a ((thl n p).take i) (thl n q) ++ pdr (op m n) x a ((thl n q).take j))))), (11, .p (.int .i64 x)), (14, .p (.list (il (thl n p)))), (15, .p (.int .i64 (thl n p).length)), (16, .p (.int .i64 i)), (20, .p (.list (il (thl n q)))), (21, .p (.int .i64 (thl n q).length)), (22, .p (.int .i64 j))], [.own [.p (.int .i64 n), .p (.list (il m))]]⟩) (fun j => j ≤ (thl n q).length) (fun j => (thl n q).length - j) 0 (Nat.zero_le _) [0] (by simp only [leq, leA, ev0, evA, evB, evP, fl, gp, tab, simprocAttr, reduceCtorEq, reduceIte] <;> first | trivial | simp [pdr]) fun j hj => ?_
    refine qm ?_
    refine hk_region fun K hK => runs_eval tab_ok ?_
    simp only [ev0, evA, evB, evP, fl, gp, tab, simprocAttr, reduceCtorEq, reduceIte]
    refine fin_run trivial (hK _ ?_) <;> clear hK <;> clear K
    refine qa (qm ?_)
    refine hk_cond rfl (fun hC2 => ?_) (fun hC2 => ?_)
    · (try simp only [nhs] at hC2)
      have hjl : j < (thl n q).length := by omega
      obtain ⟨y, y1, y2, y3⟩ := thl_get hjl
      have hxa := G.cl _ _ x1 ha
      have hc := G.cl _ _ hxa y1
      have hp := pow_lt64 (b := op m n (op m n x a) y) (by omega)
      have hall : ∀ z ∈ pdl (op m n) a ((thl n p).take i) (thl n q) ++ pdr (op m n) x a ((thl n q).take j), z.toNat < n := fun z hz => by
        rcases List.mem_append.1 hz with hz | hz
        · obtain ⟨u, hu, hv⟩ := List.mem_flatMap.1 hz
          obtain ⟨w, hw, rfl⟩ := List.mem_map.1 hv
          obtain ⟨u', u1, u2⟩ := thl_rng2 u (List.mem_of_mem_take hu)
          obtain ⟨w', w1, w2⟩ := thl_rng2 w hw
          subst u2; subst w2
          exact G.cl _ _ (G.cl _ _ u1 ha) w1
        · obtain ⟨w, hw, rfl⟩ := List.mem_map.1 hz
          obtain ⟨w', w1, w2⟩ := thl_rng2 w (List.mem_of_mem_take hw)
          subst w2
          exact G.cl _ _ hxa w1
      have hm := lt64 hb (msk_lt hall)
      refine qh (qa (qm (ql (qm ?_))))
      refine hk_region fun K hK => runs_eval tab_ok ?_
      simp only [ev0, evA, evB, evP, fl, gp, tab, simprocAttr, reduceCtorEq, reduceIte, il_get hjl, y3]
      refine fin_run ?_ (hK _ ?_) <;> clear hK <;> clear K
      · (first | exact trivial | omega | (simp only [In64] at *; omega) | (simp [In64] at *; omega) | (simp_all; done) | skip)
      refine qa ?_
      refine hk_draw mixed (by kernel_rfl) fun K hK => runs_eval tab_ok ?_
      simp only [ev0, evA, evB, evP, fl, gp, tab, simprocAttr, reduceCtorEq, reduceIte]
      refine fin_stop trivial (runs_call (of_c h.2.1 x1 ha) rfl rfl rfl (by simp only [dstOk, Nat.reduceLT]) (by repeat (first | exact trivial | constructor)) (runs_eval tab_ok ?_))
      simp only [ev0, evA, evB, evP, fl, gp, tab, simprocAttr, reduceCtorEq, reduceIte]
      refine fin_stop trivial (runs_call (of_c h.2.1 hxa y1) rfl rfl rfl (by simp only [dstOk, Nat.reduceLT]) (by repeat (first | exact trivial | constructor)) (runs_eval tab_ok ?_))
      simp only [ev0, evA, evB, evP, fl, gp, tab, simprocAttr, reduceCtorEq, reduceIte, shl_one (show op m n (op m n x a) y < 64 by omega), bv_or hm hp]
      refine fin_run ?_ (hK _ ?_) <;> clear hK <;> clear K
      · (first | exact trivial | omega | (simp only [In64] at *; omega) | (simp [In64] at *; omega) | (simp_all; done) | skip)
      refine qd (qa ?_)
      refine hk_region fun K hK => runs_eval tab_ok ?_
      simp only [ev0, evA, evB, evP, fl, gp, tab, simprocAttr, reduceCtorEq, reduceIte]
      refine fin_run ?_ (hK _ ?_) <;> clear hK <;> clear K
      · (first | exact trivial | omega | (simp only [In64] at *; omega) | (simp [In64] at *; omega) | (simp_all; done) | skip)
      refine qa ?_
      refine ⟨j + 1, [0], by omega, by omega, ?_⟩
      rw [pdr_succ (op m n) x a hjl, ← List.append_assoc, msk_snoc, y3]
      simp only [leq, leA, ev0, evA, evB, evP, fl, gp, tab, simprocAttr, reduceCtorEq, reduceIte] <;> first | trivial | omega
    · (try simp only [nhs] at hC2)
      have hjn : j = (thl n q).length := by omega
      rw [hjn, List.take_length]
      refine qj (qc (qc (qf (qd (qa ?_)))))
      refine hk_region fun K hK => runs_eval tab_ok ?_
      simp only [ev0, evA, evB, evP, fl, gp, tab, simprocAttr, reduceCtorEq, reduceIte]
      refine fin_run ?_ (hK _ ?_) <;> clear hK <;> clear K
      · (first | exact trivial | omega | (simp only [In64] at *; omega) | (simp [In64] at *; omega) | (simp_all; done) | skip)
      refine qa ?_
      refine ⟨i + 1, [0], by omega, by omega, ?_⟩
      rw [pdl_succ (op m n) a (thl n q) hlt, x3]
      simp only [leq, leA, ev0, evA, evB, evP, fl, gp, tab, simprocAttr, reduceCtorEq, reduceIte] <;> first | trivial | omega
  · (try simp only [nhs] at hC1)
    have hin : i = (thl n p).length := by omega
    rw [hin, List.take_length, msk_pdl G p q ha]
    refine qj (qc (qc (qf (qa (qm ?_)))))
    refine hk_region fun K hK => runs_eval tab_ok ?_
    simp only [ev0, evA, evB, evP, fl, gp, tab, simprocAttr, reduceCtorEq, reduceIte]
    refine fin_run trivial (hK _ ?_) <;> clear hK <;> clear K
    refine qa (qk ?_)
    simp only [Tryd.results143, enA, ev0, evA, evB, evP, fl, gp, tab, simprocAttr, reduceCtorEq, reduceIte]
    all_goals (rfl)

theorem one_s {n e : Nat} {m : List Int} (h : GT n m n e) : FnC Tryd.prog 144 [gp n m] (.list (il (thl n (onp e)))) := by
  have ht : thl n (onp e) = [(e : Int)] := thl_one h.2.2.el
  refine fnc_of tab_ok Tryd.func144 rfl (by kernel_rfl) (by rw [Tryd.ntmps144]; exact Nat.le_add_left 1 _) ?_; rw [Tryd.ntmps144]
  refine qm ?_
  refine hk_region fun K hK => runs_eval tab_ok ?_
  simp only [ev0, evA, evB, evP, fl, gp, tab, simprocAttr, reduceCtorEq, reduceIte]
  refine fin_run ?_ (hK _ ?_) <;> clear hK <;> clear K
  · (first | exact trivial | omega | (simp only [In64] at *; omega) | (simp [In64] at *; omega) | (simp_all; done) | skip)
  refine qa (qm ?_)
  refine hk_region fun K hK => runs_eval tab_ok ?_
  simp only [ev0, evA, evB, evP, fl, gp, tab, simprocAttr, reduceCtorEq, reduceIte]
  refine fin_stop trivial (runs_call (oneOf_c h) rfl rfl rfl (by simp only [dstOk, Nat.reduceLT]) (by repeat (first | exact trivial | constructor)) (runs_eval tab_ok ?_))
  simp only [ev0, evA, evB, evP, fl, gp, tab, simprocAttr, reduceCtorEq, reduceIte]
  refine fin_run ?_ (hK _ ?_) <;> clear hK <;> clear K
  · (first | exact trivial | omega | (simp only [In64] at *; omega) | (simp [In64] at *; omega) | (simp_all; done) | skip)
  refine qa (qk ?_)
  simp only [Tryd.results144, enA, ev0, evA, evB, evP, fl, gp, tab, simprocAttr, reduceCtorEq, reduceIte]
  all_goals (rw [ht]; rfl)

theorem right1_c {n e : Nat} {m : List Int} (h : GT n m n e) (p : Nat → Bool) {a : Nat} (ha : a < n) : FnC Tryd.prog 142 [.int .i64 a, .ptr [.int .i64 n, .list (il m)], .ptr [.list (il (thl n p))]] (.int .u64 (bo n (dco n (op m n) p (onp e) a))) := by
  refine fnc_of tab_ok Tryd.func142 rfl (by kernel_rfl) (by rw [Tryd.ntmps142]; exact Nat.le_add_left 3 _) ?_; rw [Tryd.ntmps142]
  refine qm ?_
  refine hk_region fun K hK => runs_eval tab_ok ?_
  simp only [ev0, evA, evB, evP, fl, gp, tab, simprocAttr, reduceCtorEq, reduceIte]
  refine fin_run trivial (hK _ ?_) <;> clear hK <;> clear K
  refine qa (qm ?_)
  refine hk_draw mixed (by kernel_rfl) fun K hK => runs_eval tab_ok ?_
  simp only [ev0, evA, evB, evP, fl, gp, tab, simprocAttr, reduceCtorEq, reduceIte]
  refine fin_stop trivial (runs_call (one_s h) rfl rfl rfl (by simp only [dstOk, Nat.reduceLT]) (by repeat (first | exact trivial | constructor)) (runs_eval tab_ok ?_))
  simp only [ev0, evA, evB, evP, fl, gp, tab, simprocAttr, reduceCtorEq, reduceIte]
  refine fin_stop trivial (runs_call (product_s h p (onp e) ha) rfl rfl rfl (by simp only [dstOk, Nat.reduceLT]) (by repeat (first | exact trivial | constructor)) (runs_eval tab_ok ?_))
  simp only [ev0, evA, evB, evP, fl, gp, tab, simprocAttr, reduceCtorEq, reduceIte]
  refine fin_run ?_ (hK _ ?_) <;> clear hK <;> clear K
  · (first | exact trivial | omega | (simp only [In64] at *; omega) | (simp [In64] at *; omega) | (simp_all; done) | skip)
  refine qa (qk ?_)
  simp only [Tryd.results142, enA, ev0, evA, evB, evP, fl, gp, tab, simprocAttr, reduceCtorEq, reduceIte]
  all_goals (rfl)
theorem right_ok {n e : Nat} {m : List Int} (h : GT n m n e) (p : Nat → Bool) (hs : Sub n (op m n) e p) : FnC Tryd.prog 107 [gp n m, .list (il (thl n p))] (.tup [.list (ll (cst n (dco n (op m n) p (onp e)))), fl (0, 0)]) := by
  have G := h.2.2
  have hb := h.2.1.big
  refine fnc_of tab_ok Tryd.func107 rfl (by kernel_rfl) (by rw [Tryd.ntmps107]; exact Nat.le_add_left 2 _) ?_; rw [Tryd.ntmps107]
  refine qm ?_
  refine hk_region fun K hK => runs_eval tab_ok ?_
  simp only [ev0, evA, evB, evP, fl, gp, tab, simprocAttr, reduceCtorEq, reduceIte]
  refine fin_run ?_ (hK _ ?_) <;> clear hK <;> clear K
  · (first | exact trivial | omega | (simp only [In64] at *; omega) | (simp [In64] at *; omega) | (simp_all; done) | skip)
  refine qa (qm (qm ?_))
  refine hk_region fun K hK => runs_eval tab_ok ?_
  simp only [ev0, evA, evB, evP, fl, gp, tab, simprocAttr, reduceCtorEq, reduceIte]
  refine fin_stop trivial (runs_call (group_ok h p true (by simp [hs])) rfl rfl rfl (by simp only [dstOk, Nat.reduceLT]) (by repeat (first | exact trivial | constructor)) (runs_eval tab_ok ?_))
  simp only [ev0, evA, evB, evP, fl, gp, tab, simprocAttr, reduceCtorEq, reduceIte, ufb]
  refine fin_run ?_ (hK _ ?_) <;> clear hK <;> clear K
  · (first | exact trivial | omega | (simp only [In64] at *; omega) | (simp [In64] at *; omega) | (simp_all; done) | skip)
  refine qa (qm ?_)
  refine hk_region fun K hK => runs_eval tab_ok ?_
  simp only [ev0, evA, evB, evP, fl, gp, tab, simprocAttr, reduceCtorEq, reduceIte]
  refine fin_run ?_ (hK _ ?_) <;> clear hK <;> clear K
  · (first | exact trivial | omega | (simp only [In64] at *; omega) | (simp [In64] at *; omega) | (simp_all; done) | skip)
  refine qa ?_
  refine hk_cond rfl (fun hC1 => ?_) (fun hC1 => ?_)
  · cases hC1
  · (try simp only [nhs] at hC1)
    refine qh (qa (qm ?_))
    refine hk_freeze 0 rfl rfl ?_
    refine hk_freeze 1 rfl rfl ?_
    simp only [hset]
    refine hk_region fun K hK => runs_eval tab_ok ?_
    simp only [ev0, evA, evB, evP, fl, gp, tab, simprocAttr, reduceCtorEq, reduceIte]
    refine fin_stop trivial (runs_call (gather_c n hb _ _ (dco n (op m n) p (onp e)) (G.dco_eqv hs G.onp_sub) (fun a ha => right1_c h p ha)) rfl rfl rfl (by simp only [dstOk, Nat.reduceLT]) (by repeat (first | exact trivial | constructor)) (runs_eval tab_ok ?_))
    simp only [ev0, evA, evB, evP, fl, gp, tab, simprocAttr, reduceCtorEq, reduceIte]
    refine fin_run ?_ (hK _ ?_) <;> clear hK <;> clear K
    · (first | exact trivial | omega | (simp only [In64] at *; omega) | (simp [In64] at *; omega) | (simp_all; done) | skip)
    refine qa (qk ?_)
    simp only [Tryd.results107, enA, ev0, evA, evB, evP, fl, gp, tab, simprocAttr, reduceCtorEq, reduceIte]
    all_goals ((first | exact rfl | exact ⟨rfl, rfl⟩ | exact ⟨rfl, rfl, rfl⟩ | exact ⟨trivial, rfl⟩ | exact ⟨Nat.le_refl _, rfl⟩ | trivial | (simp; done)))
/-! ### As the document has them -/

/-! ### An example of the document -/

end Go.Proofs.YtboadfahlflmhaaDoor

/-
  The quotient of a group by a congruence; by a normal subgroup. Conditions: none.
-/
set_option linter.all false
namespace Go.Proofs.YtboadfahlflmhaaDoor
open Go.Pv

/-- Places for classes: of each thing its place; of each place a thing. -/
structure Qm (n : Nat) (f : Nat → Nat → Nat) (k : Nat) (cl rep : Nat → Nat) : Prop where
  lt : ∀ a, a < n → cl a < k
  rlt : ∀ i, i < k → rep i < n
  at_ : ∀ i, i < k → cl (rep i) = i
  cong : ∀ a b c d, a < n → b < n → c < n → d < n → cl a = cl b → cl c = cl d → cl (f a c) = cl (f b d)

section
variable {n : Nat} {f : Nat → Nat → Nat} {e : Nat} {p : Nat → Bool}
def qop (f : Nat → Nat → Nat) (cl rep : Nat → Nat) (i j : Nat) : Nat := cl (f (rep i) (rep j))
theorem Qm.op {k : Nat} {cl rep : Nat → Nat} (Q : Qm n f k cl rep) {a b : Nat} (ha : a < n) (hb : b < n) : qop f cl rep (cl a) (cl b) = cl (f a b) :=
  Q.cong _ _ _ _ (Q.rlt _ (Q.lt a ha)) ha (Q.rlt _ (Q.lt b hb)) hb (Q.at_ _ (Q.lt a ha)) (Q.at_ _ (Q.lt b hb))
theorem Qm.grp {k : Nat} {cl rep : Nat → Nat} (Q : Qm n f k cl rep) (G : Grp n f e) : Grp k (qop f cl rep) (cl e) where
  pos := Nat.lt_of_le_of_lt (Nat.zero_le _) (Q.lt e G.el)
  cl i j hi hj := Q.lt _ (G.cl _ _ (Q.rlt i hi) (Q.rlt j hj))
  el := Q.lt e G.el
  one_l i hi := by
    have h1 := Q.rlt i hi
    have h2 := Q.op G.el h1
    rw [Q.at_ i hi, G.one_l _ h1, Q.at_ i hi] at h2; exact h2
  one_r i hi := by
    have h1 := Q.rlt i hi
    have h2 := Q.op h1 G.el
    rw [Q.at_ i hi, G.one_r _ h1, Q.at_ i hi] at h2; exact h2
  assoc i j l hi hj hl := by
    have h1 := Q.rlt i hi
    have h2 := Q.rlt j hj
    have h3 := Q.rlt l hl
    have e1 := Q.op (G.cl _ _ h1 h2) h3
    have e2 := Q.op h1 (G.cl _ _ h2 h3)
    rw [Q.at_ l hl] at e1
    rw [Q.at_ i hi] at e2
    have e3 : qop f cl rep i j = cl (f (rep i) (rep j)) := rfl
    have e4 : qop f cl rep j l = cl (f (rep j) (rep l)) := rfl
    rw [e3, e4, e1, e2, G.assoc _ _ _ h1 h2 h3]
  inv i hi := by
    have h1 := Q.rlt i hi
    have h2 := G.iv_lt h1
    have e1 := Q.op h1 h2
    have e2 := Q.op h2 h1
    rw [Q.at_ i hi] at e1 e2
    exact ⟨_, Q.lt _ h2, by rw [e1, G.mul_iv h1], by rw [e2, G.iv_mul h1]⟩

/-- Of a normal subgroup: alike things have alike products. -/
theorem Grp.rco_cong (G : Grp n f e) (hp : Sub n f e p) (hn : Nml n f e p) {a b c d : Nat} (ha : a < n) (hb : b < n) (hc : c < n) (hd : d < n) (h1 : dco n f p (onp e) a b = true) (h2 : dco n f p (onp e) c d = true) : dco n f p (onp e) (f a c) (f b d) = true := by
  have ia := G.iv_lt ha
  have ic := G.iv_lt hc
  have h3 := G.cl _ _ hb ia
  have h4 := G.cl _ _ hd ic
  rw [G.rco_iff ha hb] at h1
  rw [G.rco_iff hc hd] at h2
  rw [G.rco_iff (G.cl _ _ ha hc) (G.cl _ _ hb hd), G.iv_prod ha hc]
  -- b d c' a' = (b a') (a (d c') a')
  have h5 := hn _ ia _ h4 h2
  unfold cjr at h5
  rw [G.iv_iv ha] at h5
  have h6 := hp.mul _ _ h3 (G.cl _ _ (G.cl _ _ ha h4) ia) h1 h5
  have e1 : f (f b (iv n f e a)) (f (f a (f d (iv n f e c))) (iv n f e a)) = f (f b d) (f (iv n f e c) (iv n f e a)) := by
    rw [G.assoc b _ _ hb ia (G.cl _ _ (G.cl _ _ ha h4) ia), G.assoc a _ _ ha h4 ia, ← G.assoc _ a _ ia ha (G.cl _ _ h4 ia), G.iv_mul ha, G.one_l _ (G.cl _ _ h4 ia), G.assoc d _ _ hd ic ia, ← G.assoc b d _ hb hd (G.cl _ _ ic ia)]
  rw [← e1]; exact h6
end
end Go.Proofs.YtboadfahlflmhaaDoor

/-
  Quotients, of the program and of the document. Conditions: none.
-/
set_option linter.all false
namespace Go.Proofs.YtboadfahlflmhaaDoor
open Go.Pv

/-- The fault of a subgroup that is, or is not, normal. -/
def nfb (b : Bool) : Int × Int := bif b then (0, 0) else (4, 0)
theorem nfb_t : nfb true = (0, 0) := rfl
theorem qfault_c (c a : Int) : FnC Tryd.prog 140 [.int .i64 c, .int .i64 a] (fl (c, a)) := by
  refine fnc_of tab_ok Tryd.func140 rfl (by kernel_rfl) (by rw [Tryd.ntmps140]; exact Nat.le_add_left 2 _) ?_; rw [Tryd.ntmps140]
  refine qm ?_
  refine hk_region fun K hK => runs_eval tab_ok ?_
  simp only [ev0, evA, evB, evP, fl, gp, tab, simprocAttr, reduceCtorEq, reduceIte]
  refine fin_run ?_ (hK _ ?_) <;> clear hK <;> clear K
  · (first | exact trivial | omega | (simp only [In64] at *; omega) | (simp [In64] at *; omega) | (simp_all; done) | skip)
  refine qa (qm ?_)
  refine hk_region fun K hK => runs_eval tab_ok ?_
  simp only [ev0, evA, evB, evP, fl, gp, tab, simprocAttr, reduceCtorEq, reduceIte]
  refine fin_run ?_ (hK _ ?_) <;> clear hK <;> clear K
  · (first | exact trivial | omega | (simp only [In64] at *; omega) | (simp [In64] at *; omega) | (simp_all; done) | skip)
  refine qa (qk ?_)
  simp only [Tryd.results140, enA, ev0, evA, evB, evP, fl, gp, tab, simprocAttr, reduceCtorEq, reduceIte]
  all_goals ((first | exact rfl | exact ⟨rfl, rfl⟩ | exact ⟨rfl, rfl, rfl⟩ | exact ⟨trivial, rfl⟩ | exact ⟨Nat.le_refl _, rfl⟩ | trivial | (simp; done)))
theorem quotN_ok {n e : Nat} {m : List Int} (h : GT n m n e) (p : Nat → Bool) (hs : Sub n (op m n) e p) (b : Bool) (hb' : b = true ↔ Nml n (op m n) e p) : FnC Tryd.prog 106 [gp n m, .list (il (thl n p))] (fl (nfb b)) := by
  refine fnc_of tab_ok Tryd.func106 rfl (by kernel_rfl) (by rw [Tryd.ntmps106]; exact Nat.le_add_left 2 _) ?_; rw [Tryd.ntmps106]
  refine qm ?_
  refine hk_region fun K hK => runs_eval tab_ok ?_
  simp only [ev0, evA, evB, evP, fl, gp, tab, simprocAttr, reduceCtorEq, reduceIte]
  refine fin_run ?_ (hK _ ?_) <;> clear hK <;> clear K
  · (first | exact trivial | omega | (simp only [In64] at *; omega) | (simp [In64] at *; omega) | (simp_all; done) | skip)
  refine qa (qm ?_)
  refine hk_region fun K hK => runs_eval tab_ok ?_
  simp only [ev0, evA, evB, evP, fl, gp, tab, simprocAttr, reduceCtorEq, reduceIte]
  refine fin_stop trivial (runs_call (normal_ok h p hs b hb') rfl rfl rfl (by simp only [dstOk, Nat.reduceLT]) (by repeat (first | exact trivial | constructor)) (runs_eval tab_ok ?_))
  simp only [ev0, evA, evB, evP, fl, gp, tab, simprocAttr, reduceCtorEq, reduceIte]
  refine fin_run ?_ (hK _ ?_) <;> clear hK <;> clear K
  · (first | exact trivial | omega | (simp only [In64] at *; omega) | (simp [In64] at *; omega) | (simp_all; done) | skip)
  refine qa (qm (qm ?_))
  refine hk_region fun K hK => runs_eval tab_ok ?_
  simp only [ev0, evA, evB, evP, fl, gp, tab, simprocAttr, reduceCtorEq, reduceIte]
  refine fin_run ?_ (hK _ ?_) <;> clear hK <;> clear K
  · (first | exact trivial | omega | (simp only [In64] at *; omega) | (simp [In64] at *; omega) | (simp_all; done) | skip)
  refine qa ?_
  refine hk_cond rfl (fun hC1 => ?_) (fun hC1 => ?_)
  · (try simp only [nhs] at hC1)
    have hbf : b = false := by simpa using hC1
    refine qm ?_
    refine hk_region fun K hK => runs_eval tab_ok ?_
    simp only [ev0, evA, evB, evP, fl, gp, tab, simprocAttr, reduceCtorEq, reduceIte]
    refine fin_stop trivial (runs_call (qfault_c 4 0) rfl rfl rfl (by simp only [dstOk, Nat.reduceLT]) (by repeat (first | exact trivial | constructor)) (runs_eval tab_ok ?_))
    simp only [ev0, evA, evB, evP, fl, gp, tab, simprocAttr, reduceCtorEq, reduceIte]
    refine fin_run ?_ (hK _ ?_) <;> clear hK <;> clear K
    · (first | exact trivial | omega | (simp only [In64] at *; omega) | (simp [In64] at *; omega) | (simp_all; done) | skip)
    refine qa (qk (qb ?_))
    simp only [Tryd.results106, enA, ev0, evA, evB, evP, fl, gp, tab, simprocAttr, reduceCtorEq, reduceIte]
    all_goals (rw [hbf]; exact ⟨rfl, rfl⟩)
  · (try simp only [nhs] at hC1)
    have hbt : b = true := by simpa using hC1
    refine qh (qa (qm ?_))
    refine hk_region fun K hK => runs_eval tab_ok ?_
    simp only [ev0, evA, evB, evP, fl, gp, tab, simprocAttr, reduceCtorEq, reduceIte]
    refine fin_run ?_ (hK _ ?_) <;> clear hK <;> clear K
    · (first | exact trivial | omega | (simp only [In64] at *; omega) | (simp [In64] at *; omega) | (simp_all; done) | skip)
    refine qa (qk ?_)
    simp only [Tryd.results106, enA, ev0, evA, evB, evP, fl, gp, tab, simprocAttr, reduceCtorEq, reduceIte]
    all_goals (rw [hbt]; exact ⟨rfl, rfl⟩)
/-! ### Places of classes -/

def rpq (n : Nat) (r : Nat → Nat → Bool) (i : Nat) : Nat := (mem n (lead r)).getD i 0
def clq (n : Nat) (r : Nat → Nat → Bool) (a : Nat) : Nat := (wch (cst n r) a).toNat
section
variable {n : Nat} {r : Nat → Nat → Bool}
theorem clq_at (E : Eqv n r) {a : Nat} (ha : a < n) : clq n r a < (cst n r).length ∧ wch (cst n r) a = (clq n r a : Int) ∧ ((a : Nat) : Int) ∈ (cst n r).getD (clq n r a) [] := by
  obtain ⟨i, i1, i2⟩ := cst_in E ha
  have h1 := wch_at E i1 ha i2
  have h2 : clq n r a = i := by unfold clq; rw [h1]; rfl
  rw [h2]
  exact ⟨i1, h1, i2⟩
theorem clq_iff (E : Eqv n r) {a b : Nat} (ha : a < n) (hb : b < n) : clq n r a = clq n r b ↔ r a b = true := by
  obtain ⟨a1, a2, a3⟩ := clq_at E ha
  obtain ⟨b1, b2, b3⟩ := clq_at E hb
  obtain ⟨x, x1, x2, x3, x4⟩ := cst_get a1
  rw [x3, mem_thl_n ha] at a3
  constructor
  · intro he
    rw [← he, x3, mem_thl_n hb] at b3
    exact E.trans a x b ha x1 hb (E.symm x a x1 ha a3) b3
  · intro hr
    have : ((b : Nat) : Int) ∈ (cst n r).getD (clq n r a) [] := by rw [x3, mem_thl_n hb]; exact E.trans x a b x1 ha hb a3 hr
    exact cst_apart E a1 b1 hb this b3
theorem rpq_at (E : Eqv n r) {i : Nat} (hi : i < (cst n r).length) : rpq n r i < n ∧ clq n r (rpq n r i) = i ∧ (cst n r).getD i [] = thl n (r (rpq n r i)) ∧ lead r (rpq n r i) = true := by
  obtain ⟨x, x1, x2, x3, x4⟩ := cst_get hi
  have h1 : rpq n r i = x := x4
  rw [h1]
  have h2 : ((x : Nat) : Int) ∈ (cst n r).getD i [] := by rw [x3, mem_thl_n x1]; exact E.refl x x1
  have h3 := wch_at E hi x1 h2
  exact ⟨x1, by unfold clq; rw [h3]; rfl, x3, x2⟩
theorem whl_get (E : Eqv n r) {a : Nat} (ha : a < n) : (whl n r).getD a 0 = (clq n r a : Int) := by
  unfold whl; rw [rgz_get ha]; exact (clq_at E ha).2.1
theorem whl_len (n : Nat) (r : Nat → Nat → Bool) : (whl n r).length = n := rgz_len _ _
theorem cst_qm {f : Nat → Nat → Nat} {e : Nat} (G : Grp n f e) (E : Eqv n r) (hc : ∀ a b c d, a < n → b < n → c < n → d < n → r a b = true → r c d = true → r (f a c) (f b d) = true) : Qm n f (cst n r).length (clq n r) (rpq n r) where
  lt a ha := (clq_at E ha).1
  rlt i hi := (rpq_at E hi).1
  at_ i hi := (rpq_at E hi).2.1
  cong a b c d ha hb hc' hd h1 h2 := (clq_iff E (G.cl _ _ ha hc') (G.cl _ _ hb hd)).2 (hc a b c d ha hb hc' hd ((clq_iff E ha hb).1 h1) ((clq_iff E hc' hd).1 h2))
end
/-- The quotient's table. -/
def qtb (n : Nat) (f : Nat → Nat → Nat) (r : Nat → Nat → Bool) : List Int := tbl (fun i j => ((qop f (clq n r) (rpq n r) i j : Nat) : Int)) (cst n r).length

set_option maxHeartbeats 4000000 in
theorem quotient_ok {n e : Nat} {m : List Int} (h : GT n m n e) (p : Nat → Bool) (hs : Sub n (op m n) e p) (hN : Nml n (op m n) e p) :
    FnC Tryd.prog 46 [gp n m, .list (il (thl n p))] (.tup [gp (cst n (dco n (op m n) p (onp e))).length (qtb n (op m n) (dco n (op m n) p (onp e))), .list (il (whl n (dco n (op m n) p (onp e)))), fl (0, 0)]) := by
  have G := h.2.2
  have hb := h.2.1.big
  have E := G.dco_eqv hs G.onp_sub
  have hR := right_ok h p hs
  have Q := cst_qm G E fun a b c d ha hb' hc hd h1 h2 => G.rco_cong hs hN ha hb' hc hd h1 h2
  generalize dco n (op m n) p (onp e) = r at *
  have hcl : (cst n r).length ≤ n := cstp_len _ _ _
  have hsq := sq_le (show (cst n r).length ≤ 60 by omega)
  have hlen := tbr_len (fun i j => ((qop (op m n) (clq n r) (rpq n r) i j : Nat) : Int)) (cst n r).length
  refine fnc_of tab_ok Tryd.func46 rfl (by kernel_rfl) (by rw [Tryd.ntmps46]; exact Nat.le_add_left 2 _) ?_; rw [Tryd.ntmps46]
  refine qm ?_
  refine hk_region fun K hK => runs_eval tab_ok ?_
  simp only [ev0, evA, evB, evP, fl, gp, tab, simprocAttr, reduceCtorEq, reduceIte]
  refine fin_run ?_ (hK _ ?_) <;> clear hK <;> clear K
  · (first | exact trivial | omega | (simp only [In64] at *; omega) | (simp [In64] at *; omega) | (simp_all; done) | skip)
  refine qa (qm (qm ?_))
  refine hk_region fun K hK => runs_eval tab_ok ?_
  simp only [ev0, evA, evB, evP, fl, gp, tab, simprocAttr, reduceCtorEq, reduceIte, nfb_t]
  refine fin_stop trivial (runs_call (quotN_ok h p hs true (by simp [hN])) rfl rfl rfl (by simp only [dstOk, Nat.reduceLT]) (by repeat (first | exact trivial | constructor)) (runs_eval tab_ok ?_))
  simp only [ev0, evA, evB, evP, fl, gp, tab, simprocAttr, reduceCtorEq, reduceIte, nfb_t]
  refine fin_run ?_ (hK _ ?_) <;> clear hK <;> clear K
  · (first | exact trivial | omega | (simp only [In64] at *; omega) | (simp [In64] at *; omega) | (simp_all; done) | skip)
  refine qa (qm ?_)
  refine hk_region fun K hK => runs_eval tab_ok ?_
  simp only [ev0, evA, evB, evP, fl, gp, tab, simprocAttr, reduceCtorEq, reduceIte]
  refine fin_run ?_ (hK _ ?_) <;> clear hK <;> clear K
  · (first | exact trivial | omega | (simp only [In64] at *; omega) | (simp [In64] at *; omega) | (simp_all; done) | skip)
  refine qa ?_
  refine hk_cond rfl (fun hC1 => ?_) (fun hC1 => ?_)
  · cases hC1
  · (try simp only [nhs] at hC1)
    refine qh (qa (qm ?_))
    refine hk_region fun K hK => runs_eval tab_ok ?_
    simp only [ev0, evA, evB, evP, fl, gp, tab, simprocAttr, reduceCtorEq, reduceIte]
    refine fin_stop trivial (runs_call (hR) rfl rfl rfl (by simp only [dstOk, Nat.reduceLT]) (by repeat (first | exact trivial | constructor)) (runs_eval tab_ok ?_))
    simp only [ev0, evA, evB, evP, fl, gp, tab, simprocAttr, reduceCtorEq, reduceIte]
    refine fin_run ?_ (hK _ ?_) <;> clear hK <;> clear K
    · (first | exact trivial | omega | (simp only [In64] at *; omega) | (simp [In64] at *; omega) | (simp_all; done) | skip)
    refine qa (qm (qm ?_))
    refine hk_region fun K hK => runs_eval tab_ok ?_
    simp only [ev0, evA, evB, evP, fl, gp, tab, simprocAttr, reduceCtorEq, reduceIte]
    refine fin_run ?_ (hK _ ?_) <;> clear hK <;> clear K
    · (first | exact trivial | omega | (simp only [In64] at *; omega) | (simp [In64] at *; omega) | (simp_all; done) | skip)
    refine qa ?_
    refine hk_cond rfl (fun hC2 => ?_) (fun hC2 => ?_)
    · cases hC2
    · (try simp only [nhs] at hC2)
      refine qh (qa (qm ?_))
      refine hk_region fun K hK => runs_eval tab_ok ?_
      simp only [ev0, evA, evB, evP, fl, gp, tab, simprocAttr, reduceCtorEq, reduceIte, makeSliceA.eq_def, rgz_new]
      refine fin_run ?_ (hK _ ?_) <;> clear hK <;> clear K
      · omega
      refine qa (qm (qm ?_))
      refine hk_region fun K hK => runs_eval tab_ok ?_
      simp only [ev0, evA, evB, evP, fl, gp, tab, simprocAttr, reduceCtorEq, reduceIte]
      refine fin_run trivial (hK _ ?_) <;> clear hK <;> clear K
      refine qa (ql ?_)
      refine hk_loop (ι := Nat × (Nat → Int)) (fun p => ⟨97, [(2, .ptr 0 0), (4, .ptr 1 0), (6, .ptr 2 0), (8, .p (.list (ll (cst n r)))), (9, .ptr 3 0), (10, .sl 4 0 n), (42, .p (.list (ll (cst n r)))), (43, .p (.int .i64 (cst n r).length)), (44, .p (.int .i64 p.1))], [.own [.p (.int .i64 n), .p (.list (il m))], .own [.p (.int .i64 0), .p .nil], .own [.p (.int .i64 0), .p (.int .i64 0)], .own [.p (.int .i64 0), .p (.int .i64 0)], .own (ol (rgz n p.2))]⟩) (fun p => p.1 ≤ (cst n r).length ∧ ∀ a, a < n → ∀ k, k < p.1 → ((a : Nat) : Int) ∈ (cst n r).getD k [] → p.2 a = (k : Int)) (fun p => (cst n r).length - p.1) (0, fun _ => 0) ⟨Nat.zero_le _, fun a _ k hk => by simp only at hk; omega⟩ [0, 1, 2, 4, 5] (by simp only [leq, leA, ev0, evA, evB, evP, fl, gp, tab, simprocAttr, reduceCtorEq, reduceIte, ll_length] <;> first | trivial | (simp; done)) fun p hp => ?_
      obtain ⟨i, g⟩ := p
      obtain ⟨hi1, hi2⟩ := hp
      simp only at hi1 hi2
      refine qm ?_
      refine hk_region fun K hK => runs_eval tab_ok ?_
      simp only [ev0, evA, evB, evP, fl, gp, tab, simprocAttr, reduceCtorEq, reduceIte]
      refine fin_run trivial (hK _ ?_) <;> clear hK <;> clear K
      refine qa (qm ?_)
      refine hk_cond rfl (fun hC3 => ?_) (fun hC3 => ?_)
      · (try simp only [nhs] at hC3)
        have hlt : i < (cst n r).length := by omega
        obtain ⟨x, x1, x2, x3, x4⟩ := cst_get hlt
        have l1 := thl_le n (r x)
        refine qh (qa (qm (ql (qm ?_))))
        refine hk_region fun K hK => runs_eval tab_ok ?_
        simp only [ev0, evA, evB, evP, fl, gp, tab, simprocAttr, reduceCtorEq, reduceIte, ll_length, ll_get hlt, x3]
        refine fin_run ?_ (hK _ ?_) <;> clear hK <;> clear K
        · (first | exact trivial | omega | (simp only [In64] at *; omega) | (simp [In64] at *; omega) | (simp_all; done) | skip)
        refine qa (qm ?_)
        refine hk_region fun K hK => runs_eval tab_ok ?_
        simp only [ev0, evA, evB, evP, fl, gp, tab, simprocAttr, reduceCtorEq, reduceIte, il_length]
        refine fin_run trivial (hK _ ?_) <;> clear hK <;> clear K
        refine qa (ql ?_)
        refine hk_loop (ι := Nat × (Nat → Int)) (fun p => ⟨97, [(2, .ptr 0 0), (4, .ptr 1 0), (6, .ptr 2 0), (8, .p (.list (ll (cst n r)))), (9, .ptr 3 0), (10, .sl 4 0 n), (11, .p (.int .i64 i)), (42, .p (.list (ll (cst n r)))), (43, .p (.int .i64 (cst n r).length)), (44, .p (.int .i64 i)), (49, .p (.list (il (thl n (r x))))), (50, .p (.int .i64 (thl n (r x)).length)), (51, .p (.int .i64 p.1))], [.own [.p (.int .i64 n), .p (.list (il m))], .own [.p (.int .i64 0), .p .nil], .own [.p (.int .i64 0), .p (.int .i64 0)], .own [.p (.int .i64 0), .p (.int .i64 0)], .own (ol (rgz n p.2))]⟩) (fun p => p.1 ≤ (thl n (r x)).length ∧ (∀ a, a < n → ∀ k, k < i → ((a : Nat) : Int) ∈ (cst n r).getD k [] → p.2 a = (k : Int)) ∧ ∀ a, a < n → ∀ k, k < p.1 → (thl n (r x)).getD k 0 = (a : Int) → p.2 a = (i : Int)) (fun p => (thl n (r x)).length - p.1) (0, g) ⟨Nat.zero_le _, hi2, fun a _ k hk => by simp only at hk; omega⟩ [0, 1, 2, 3, 4] (by simp only [leq, leA, ev0, evA, evB, evP, fl, gp, tab, simprocAttr, reduceCtorEq, reduceIte] <;> first | trivial | (simp; done)) fun p hp => ?_
        obtain ⟨j, g'⟩ := p
        obtain ⟨hj1, hj2, hj3⟩ := hp
        simp only at hj1 hj2 hj3
        refine qm ?_
        refine hk_region fun K hK => runs_eval tab_ok ?_
        simp only [ev0, evA, evB, evP, fl, gp, tab, simprocAttr, reduceCtorEq, reduceIte]
        refine fin_run trivial (hK _ ?_) <;> clear hK <;> clear K
        refine qa (qm ?_)
        refine hk_cond rfl (fun hC4 => ?_) (fun hC4 => ?_)
        · (try simp only [nhs] at hC4)
          have hjl : j < (thl n (r x)).length := by omega
          obtain ⟨c, c1, c2, c3⟩ := thl_get hjl
          refine qh (qa (qm (ql (qm ?_))))
          refine hk_region fun K hK => runs_eval tab_ok ?_
          simp only [ev0, evA, evB, evP, fl, gp, tab, simprocAttr, reduceCtorEq, reduceIte, il_get hjl, c3]
          refine fin_run ?_ (hK _ ?_) <;> clear hK <;> clear K
          · (first | exact trivial | omega | (simp only [In64] at *; omega) | (simp [In64] at *; omega) | (simp_all; done) | skip)
          refine qa ?_
          refine hk_region fun K hK => runs_eval tab_ok ?_
          simp only [ev0, evA, evB, evP, fl, gp, tab, simprocAttr, reduceCtorEq, reduceIte]
          refine fin_run ?_ (hK _ ?_) <;> clear hK <;> clear K
          · rw [rgz_len]; omega
          refine qd (qa ?_)
          rw [ol_set, rgz_set]
          refine hk_region fun K hK => runs_eval tab_ok ?_
          simp only [ev0, evA, evB, evP, fl, gp, tab, simprocAttr, reduceCtorEq, reduceIte]
          refine fin_run ?_ (hK _ ?_) <;> clear hK <;> clear K
          · (first | exact trivial | omega | (simp only [In64] at *; omega) | (simp [In64] at *; omega) | (simp_all; done) | skip)
          refine qa ?_
          refine ⟨(j + 1, fun a => if a = c then (i : Int) else g' a), [0, 1, 2, 3, 4], ⟨by simp only; omega, fun a ha k hk hm => ?_, fun a ha k hk hm => ?_⟩, by simp only; omega, ?_⟩
          · have hne : a ≠ c := by
              intro he
              subst he
              have h3 : ((a : Nat) : Int) ∈ (cst n r).getD i [] := by rw [x3, mem_thl_n ha]; exact c2
              have := cst_apart E hlt (by omega) ha h3 hm
              omega
            simp only [if_neg hne]
            exact hj2 a ha k hk hm
          · simp only at hk ⊢
            by_cases hac : a = c
            · rw [if_pos hac]
            · rw [if_neg hac]
              have hkj : k ≠ j := by intro he; rw [he, c3] at hm; omega
              exact hj3 a ha k (by omega) hm
          · simp only [leq, leA, ev0, evA, evB, evP, fl, gp, tab, simprocAttr, reduceCtorEq, reduceIte] <;> first | trivial | omega | (simp [rgz]; done)
        · (try simp only [nhs] at hC4)
          have hjn : j = (thl n (r x)).length := by omega
          refine qj (qc (qc (qf (qd (qa ?_)))))
          refine hk_region fun K hK => runs_eval tab_ok ?_
          simp only [ev0, evA, evB, evP, fl, gp, tab, simprocAttr, reduceCtorEq, reduceIte]
          refine fin_run ?_ (hK _ ?_) <;> clear hK <;> clear K
          · (first | exact trivial | omega | (simp only [In64] at *; omega) | (simp [In64] at *; omega) | (simp_all; done) | skip)
          refine qa ?_
          refine ⟨(i + 1, g'), [0, 1, 2, 3, 4], ⟨by simp only; omega, fun a ha k hk hm => ?_⟩, by simp only; omega, ?_⟩
          · by_cases hki : k = i
            · subst hki
              rw [x3] at hm
              obtain ⟨q, q1, q2⟩ := thl_at (n := n) (p := r x) ha ((mem_thl_n ha).1 hm)
              exact hj3 a ha q (by omega) q2
            · exact hj2 a ha k (by simp only at hk; omega) hm
          · simp only [leq, leA, ev0, evA, evB, evP, fl, gp, tab, simprocAttr, reduceCtorEq, reduceIte] <;> first | trivial | omega | (simp [rgz]; done)
      · (try simp only [nhs] at hC3)
        have hin : i = (cst n r).length := by omega
        have hfin : rgz n g = whl n r := rgz_congr fun a ha => by
          obtain ⟨k, k1, k2⟩ := cst_in E ha
          rw [hi2 a ha k (by omega) k2, wch_at E k1 ha k2]
        rw [hfin]
        have hwl := whl_len n r
        refine hk_seal 10 4 (by show AV.sl 4 0 n = AV.sl 4 0 _; rw [hwl]) rfl ?_
        refine qj (qc (qc (qf (qa (qm ?_)))))
        refine hk_region fun K hK => runs_eval tab_ok ?_
        simp only [ev0, evA, evB, evP, fl, gp, tab, simprocAttr, reduceCtorEq, reduceIte, ll_length]
        refine fin_run ?_ (hK _ ?_) <;> clear hK <;> clear K
        · (first | exact trivial | omega | (simp only [In64] at *; omega) | (simp [In64] at *; omega) | (simp_all; done) | skip)
        refine qa (qm (qm ?_))
        refine hk_own0c 5 1 rfl rfl ?_
        simp only [hset, List.cons_append, List.nil_append, List.set, List.length_cons, List.length_nil]
        refine hk_region fun K hK => runs_eval tab_ok ?_
        simp only [ev0, evA, evB, evP, fl, gp, tab, simprocAttr, reduceCtorEq, reduceIte, ll_length]
        refine fin_run trivial (hK _ ?_) <;> clear hK <;> clear K
        refine qa (ql ?_)
        refine hk_loop (ι := Nat) (fun i => ⟨97, [(2, .ptr 0 0), (4, .ptr 1 0), (6, .ptr 2 0), (8, .p (.list (ll (cst n r)))), (9, .ptr 3 0), (10, .p (.list (il (whl n r)))), (15, .ptr 4 0), (64, .p (.list (ll (cst n r)))), (65, .p (.int .i64 (cst n r).length)), (66, .p (.int .i64 i))], [.own [.p (.int .i64 n), .p (.list (il m))], .own [.p (.int .i64 0), .p .nil], .own [.p (.int .i64 0), .p (.int .i64 0)], .own [.p (.int .i64 0), .p (.int .i64 0)], .own [.p (.int .i64 (cst n r).length), .sl 5 0 (tbr (fun i j => ((qop (op m n) (clq n r) (rpq n r) i j : Nat) : Int)) (cst n r).length (i * (cst n r).length)).length], .own (ol (tbr (fun i j => ((qop (op m n) (clq n r) (rpq n r) i j : Nat) : Int)) (cst n r).length (i * (cst n r).length)))]⟩) (fun i => i ≤ (cst n r).length) (fun i => (cst n r).length - i) 0 (Nat.zero_le _) [0, 1, 2, 3, 5, 6] (by rw [Nat.zero_mul]; simp only [leq, leA, ev0, evA, evB, evP, fl, gp, tab, simprocAttr, reduceCtorEq, reduceIte] <;> first | trivial | simp [tbr, rg, ol_nil]) fun i hi => ?_
        refine qm ?_
        refine hk_region fun K hK => runs_eval tab_ok ?_
        simp only [ev0, evA, evB, evP, fl, gp, tab, simprocAttr, reduceCtorEq, reduceIte]
        refine fin_run trivial (hK _ ?_) <;> clear hK <;> clear K
        refine qa (qm ?_)
        refine hk_cond rfl (fun hC5 => ?_) (fun hC5 => ?_)
        · (try simp only [nhs] at hC5)
          have hlt : i < (cst n r).length := by omega
          obtain ⟨x1, x2, x3, x4⟩ := rpq_at E hlt
          obtain ⟨hd1, hd2⟩ := (lead_head x1).1 x4
          refine qh (qa (qm (ql (qm ?_))))
          refine hk_region fun K hK => runs_eval tab_ok ?_
          simp only [ev0, evA, evB, evP, fl, gp, tab, simprocAttr, reduceCtorEq, reduceIte, ll_length, ll_get hlt, x3]
          refine fin_run ?_ (hK _ ?_) <;> clear hK <;> clear K
          · (first | exact trivial | omega | (simp only [In64] at *; omega) | (simp [In64] at *; omega) | (simp_all; done) | skip)
          refine qa (qm ?_)
          refine hk_region fun K hK => runs_eval tab_ok ?_
          simp only [ev0, evA, evB, evP, fl, gp, tab, simprocAttr, reduceCtorEq, reduceIte, ll_length]
          refine fin_run trivial (hK _ ?_) <;> clear hK <;> clear K
          refine qa (ql ?_)
          refine hk_loop (ι := Nat) (fun j => ⟨97, [(2, .ptr 0 0), (4, .ptr 1 0), (6, .ptr 2 0), (8, .p (.list (ll (cst n r)))), (9, .ptr 3 0), (10, .p (.list (il (whl n r)))), (15, .ptr 4 0), (17, .p (.list (il (thl n (r (rpq n r i)))))), (64, .p (.list (ll (cst n r)))), (65, .p (.int .i64 (cst n r).length)), (66, .p (.int .i64 i)), (70, .p (.list (ll (cst n r)))), (71, .p (.int .i64 (cst n r).length)), (72, .p (.int .i64 j))], [.own [.p (.int .i64 n), .p (.list (il m))], .own [.p (.int .i64 0), .p .nil], .own [.p (.int .i64 0), .p (.int .i64 0)], .own [.p (.int .i64 0), .p (.int .i64 0)], .own [.p (.int .i64 (cst n r).length), .sl 5 0 (tbr (fun i j => ((qop (op m n) (clq n r) (rpq n r) i j : Nat) : Int)) (cst n r).length (i * (cst n r).length + j)).length], .own (ol (tbr (fun i j => ((qop (op m n) (clq n r) (rpq n r) i j : Nat) : Int)) (cst n r).length (i * (cst n r).length + j)))]⟩) (fun j => j ≤ (cst n r).length) (fun j => (cst n r).length - j) 0 (Nat.zero_le _) [0, 1, 2, 3, 4, 5] (by rw [Nat.add_zero]; simp only [leq, leA, ev0, evA, evB, evP, fl, gp, tab, simprocAttr, reduceCtorEq, reduceIte] <;> trivial) fun j hj => ?_
          refine qm ?_
          refine hk_region fun K hK => runs_eval tab_ok ?_
          simp only [ev0, evA, evB, evP, fl, gp, tab, simprocAttr, reduceCtorEq, reduceIte]
          refine fin_run trivial (hK _ ?_) <;> clear hK <;> clear K
          refine qa (qm ?_)
          refine hk_cond rfl (fun hC6 => ?_) (fun hC6 => ?_)
          · (try simp only [nhs] at hC6)
            have hjl : j < (cst n r).length := by omega
            obtain ⟨y1, y2, y3, y4⟩ := rpq_at E hjl
            obtain ⟨he1, he2⟩ := (lead_head y1).1 y4
            have hxy := G.cl _ _ x1 y1
            have hat := at_lt hlt hjl
            have hl := hlen (i * (cst n r).length + j)
            have hwl := whl_len n r
            have hwg := whl_get E hxy
            have hwi : op m n (rpq n r i) (rpq n r j) < (whl n r).length := by omega
            refine qh (qa (qm (ql (qm ?_))))
            refine hk_region fun K hK => runs_eval tab_ok ?_
            simp only [ev0, evA, evB, evP, fl, gp, tab, simprocAttr, reduceCtorEq, reduceIte, ll_length, ll_get hjl, y3]
            refine fin_run ?_ (hK _ ?_) <;> clear hK <;> clear K
            · (first | exact trivial | omega | (simp only [In64] at *; omega) | (simp [In64] at *; omega) | (simp_all; done) | skip)
            refine qa ?_
            refine hk_draw2 mixed fun K hK => runs2_eval tab_ok ?_
            simp only [evD, ev0, evA, evB, evP, fl, gp, tab, simprocAttr, reduceCtorEq, reduceIte, il_length, il_get hd1, hd2, il_get he1, he2, il_get hwi, hwg]
            refine fin2_stop ?_ (runs2_call (of_c h.2.1 x1 y1) rfl rfl rfl rfl (by simp only [dstOk, Nat.reduceLT]) (by repeat (first | exact trivial | constructor)) (runs2_eval tab_ok ?_))
            · (first | exact trivial | omega | (simp only [In64] at *; omega) | (simp [In64] at *; omega) | (simp_all; done) | skip)
            simp only [evD, ev0, evA, evB, evP, fl, gp, tab, simprocAttr, reduceCtorEq, reduceIte, il_length, il_get hd1, hd2, il_get he1, he2, il_get hwi, hwg]
            refine fin2_run ?_ (hK _ _ (by first | kernel_rfl | rfl) ?_) <;> clear hK <;> clear K
            · (first | exact trivial | omega | (simp only [In64] at *; omega) | (simp [In64] at *; omega) | (simp_all; done) | skip)
            refine qd (qa ?_)
            refine hk_region fun K hK => runs_eval tab_ok ?_
            simp only [ev0, evA, evB, evP, fl, gp, tab, simprocAttr, reduceCtorEq, reduceIte]
            refine fin_run ?_ (hK _ ?_) <;> clear hK <;> clear K
            · (first | exact trivial | omega | (simp only [In64] at *; omega) | (simp [In64] at *; omega) | (simp_all; done) | skip)
            refine qa ?_
            refine ⟨j + 1, [0, 1, 2, 3, 4, 6], by omega, by omega, ?_⟩
            rw [tbr_succ (fun i j => ((qop (op m n) (clq n r) (rpq n r) i j : Nat) : Int)) hjl]
            simp only [leq, leA, ev0, evA, evB, evP, fl, gp, tab, simprocAttr, reduceCtorEq, reduceIte] <;> first | trivial | omega
          · (try simp only [nhs] at hC6)
            have hjn : j = (cst n r).length := by omega
            refine qj (qc (qc (qf (qd (qa ?_)))))
            refine hk_region fun K hK => runs_eval tab_ok ?_
            simp only [ev0, evA, evB, evP, fl, gp, tab, simprocAttr, reduceCtorEq, reduceIte]
            refine fin_run ?_ (hK _ ?_) <;> clear hK <;> clear K
            · (first | exact trivial | omega | (simp only [In64] at *; omega) | (simp [In64] at *; omega) | (simp_all; done) | skip)
            refine qa ?_
            refine ⟨i + 1, [0, 1, 2, 3, 4, 5], by omega, by omega, ?_⟩
            rw [hjn, show (i + 1) * (cst n r).length = i * (cst n r).length + (cst n r).length by rw [Nat.add_mul, Nat.one_mul]]
            simp only [leq, leA, ev0, evA, evB, evP, fl, gp, tab, simprocAttr, reduceCtorEq, reduceIte] <;> first | trivial | omega
        · (try simp only [nhs] at hC5)
          have hin : i = (cst n r).length := by omega
          refine qj (qc (qc (qf (qa (qm ?_)))))
          refine hk_draw2 mixed fun K hK => runs2_eval tab_ok ?_
          simp only [evD, ev0, evA, evB, evP, fl, gp, tab, simprocAttr, reduceCtorEq, reduceIte]
          refine fin2_run ?_ (hK _ _ (by first | kernel_rfl | rfl) ?_) <;> clear hK <;> clear K
          · (first | exact trivial | omega | (simp only [In64] at *; omega) | (simp [In64] at *; omega) | (simp_all; done) | skip)
          refine qa (qk ?_)
          simp only [Tryd.results46, enA, ev0, evA, evB, evP, fl, gp, tab, simprocAttr, reduceCtorEq, reduceIte]
          all_goals (simp [hin, tbl, qtb])
end Go.Proofs.YtboadfahlflmhaaDoor

/-
  Parts of a group as groups; what a group does with cosets: by maps. Conditions: none.
-/
set_option linter.all false
namespace Go.Proofs.YtboadfahlflmhaaDoor
open Go.Pv

/-! ### Parts -/

/-- Where a thing stands among those of which something is so. -/
def pix (p : Nat → Bool) (x : Nat) : Nat := (thl x p).length
theorem thl_split (n x : Nat) (p : Nat → Bool) (hx : x < n) (hp : p x = true) : ∃ r, thl n p = thl x p ++ (x : Int) :: r := by
  induction n with
  | zero => omega
  | succ n ih =>
    rw [thl_succ]
    by_cases h : x = n
    · subst h
      rw [if_pos hp]; exact ⟨[], rfl⟩
    · obtain ⟨r, hr⟩ := ih (by omega)
      rw [hr]
      exact ⟨r ++ (if p n = true then [(n : Int)] else []), by simp⟩
theorem pix_at {n x : Nat} {p : Nat → Bool} (hx : x < n) (hp : p x = true) : pix p x < (thl n p).length ∧ (thl n p).getD (pix p x) 0 = (x : Int) := by
  obtain ⟨r, hr⟩ := thl_split n x p hx hp
  unfold pix
  rw [hr]
  constructor
  · simp
  · simp [List.getD]
theorem pix_get {n i x : Nat} {p : Nat → Bool} (hi : i < (thl n p).length) (hx : x < n) (hp : p x = true) (h : (thl n p).getD i 0 = (x : Int)) : pix p x = i := by
  obtain ⟨h1, h2⟩ := pix_at hx hp
  rcases Nat.lt_trichotomy (pix p x) i with h3 | h3 | h3
  · have := thl_get_asc h3 hi; omega
  · exact h3
  · have := thl_get_asc h3 h1; omega
def lat (n : Nat) (p : Nat → Bool) (i : Nat) : Nat := ((thl n p).getD i 0).toNat
theorem lat_at {n i : Nat} {p : Nat → Bool} (hi : i < (thl n p).length) : lat n p i < n ∧ p (lat n p i) = true ∧ (thl n p).getD i 0 = (lat n p i : Int) ∧ pix p (lat n p i) = i := by
  obtain ⟨x, x1, x2, x3⟩ := thl_get hi
  have : lat n p i = x := by unfold lat; rw [x3]; rfl
  rw [this]
  exact ⟨x1, x2, x3, pix_get hi x1 x2 x3⟩
/-- The part's operation, by places. -/
def pop (n : Nat) (f : Nat → Nat → Nat) (p : Nat → Bool) (i j : Nat) : Nat := pix p (f (lat n p i) (lat n p j))
theorem pop_at {n e : Nat} {f : Nat → Nat → Nat} {p : Nat → Bool} (G : Grp n f e) (hs : Sub n f e p) {i j : Nat} (hi : i < (thl n p).length) (hj : j < (thl n p).length) : pop n f p i j < (thl n p).length ∧ lat n p (pop n f p i j) = f (lat n p i) (lat n p j) := by
  obtain ⟨x1, x2, _, _⟩ := lat_at hi
  obtain ⟨y1, y2, _, _⟩ := lat_at hj
  obtain ⟨h1, h2⟩ := pix_at (G.cl _ _ x1 y1) (hs.mul _ _ x1 y1 x2 y2)
  exact ⟨h1, by unfold pop lat at *; rw [h2]; rfl⟩
/-- A part is a group. -/
theorem ptb_grp {n e : Nat} {f : Nat → Nat → Nat} {p : Nat → Bool} (G : Grp n f e) (hs : Sub n f e p) : Grp (thl n p).length (pop n f p) (pix p e) := by
  have le := pix_at G.el hs.one
  have hat : ∀ {i}, i < (thl n p).length → pix p (lat n p i) = i := fun hi => (lat_at hi).2.2.2
  have hle : lat n p (pix p e) = e := by unfold lat; rw [le.2]; rfl
  refine ⟨by omega, fun i j hi hj => (pop_at G hs hi hj).1, le.1, fun i hi => ?_, fun i hi => ?_, fun i j k hi hj hk => ?_, fun i hi => ?_⟩
  · unfold pop; rw [hle, G.one_l _ (lat_at hi).1, hat hi]
  · unfold pop; rw [hle, G.one_r _ (lat_at hi).1, hat hi]
  · have h1 := pop_at G hs hi hj
    have h2 := pop_at G hs hj hk
    show pix p (f (lat n p (pop n f p i j)) (lat n p k)) = pix p (f (lat n p i) (lat n p (pop n f p j k)))
    rw [h1.2, h2.2, G.assoc _ _ _ (lat_at hi).1 (lat_at hj).1 (lat_at hk).1]
  · obtain ⟨x1, x2, _, _⟩ := lat_at hi
    have h1 := pix_at (G.iv_lt x1) (hs.inv _ x1 x2)
    have h2 : lat n p (pix p (iv n f e (lat n p i))) = iv n f e (lat n p i) := by
      show ((thl n p).getD (pix p (iv n f e (lat n p i))) 0).toNat = _
      rw [h1.2]; rfl
    refine ⟨_, h1.1, ?_, ?_⟩
    · show pix p (f (lat n p i) (lat n p (pix p (iv n f e (lat n p i))))) = _
      rw [h2, G.mul_iv x1]
    · show pix p (f (lat n p (pix p (iv n f e (lat n p i)))) (lat n p i)) = _
      rw [h2, G.iv_mul x1]

end Go.Proofs.YtboadfahlflmhaaDoor

/-
  All subgroups, as the program has them: AllOf, All, Frattini. Conditions: none.
-/
set_option linter.all false
namespace Go.Proofs.YtboadfahlflmhaaDoor
open Go.Pv

theorem getD_memN {L : List Nat} {j : Nat} (hj : j < L.length) : L.getD j 0 ∈ L := by
  rw [List.getD_eq_getElem?_getD, List.getElem?_eq_getElem hj]; exact List.getElem_mem hj
theorem mem_getDN {L : List Nat} {x : Nat} (hx : x ∈ L) : ∃ j, j < L.length ∧ L.getD j 0 = x := by
  obtain ⟨j, hj, rfl⟩ := List.getElem_of_mem hx
  exact ⟨j, hj, by rw [List.getD_eq_getElem?_getD, List.getElem?_eq_getElem hj]; rfl⟩

section
variable {n e : Nat} {m : List Int}

/-- Where the search stands: at row i, things below a are done. -/
structure Srch (n : Nat) (f : Nat → Nat → Nat) (e : Nat) (i : Nat) (L : List Nat) : Prop where
  inv : AllI n f e L
  done : ∀ j, j < i → ∀ a, a < n → Dn n f e (L.getD j 0) a L

end
end Go.Proofs.YtboadfahlflmhaaDoor

/-
  All subgroups in lists: All; what no set needs: Frattini. Conditions: none.
-/
set_option linter.all false
namespace Go.Proofs.YtboadfahlflmhaaDoor
open Go.Pv

def sll (SL : List Nat) : List (List Int) := SL.map stl
theorem sll_get {SL : List Nat} {i : Nat} (hi : i < SL.length) : (sll SL).getD i [] = stl (SL.getD i 0) := by
  simp [sll, List.getD, List.getElem?_eq_getElem hi]
section
variable {n e : Nat} {m : List Int}
end
end Go.Proofs.YtboadfahlflmhaaDoor

/-
  What no set needs: Frattini. Conditions: none.
-/
set_option linter.all false
namespace Go.Proofs.YtboadfahlflmhaaDoor
open Go.Pv

def andn (a b : Nat) : Nat := (BitVec.ofInt 64 (a : Int) &&& ~~~(BitVec.ofInt 64 (b : Int))).toNat
theorem andn_zero {a b : Nat} (ha : a < 2 ^ 64) (hb : b < 2 ^ 64) : andn a b = 0 ↔ ∀ i, a.testBit i = true → b.testBit i = true := by
  have key : ∀ i, i < 64 → (andn a b).testBit i = (a.testBit i && !b.testBit i) := fun i hi => by
    unfold andn
    rw [BitVec.testBit_toNat, BitVec.getLsbD_and, BitVec.getLsbD_not, ← BitVec.testBit_toNat, ← BitVec.testBit_toNat, ofInt_n ha, ofInt_n hb]
    simp [hi]
  constructor
  · intro h i hi
    have hl := bit_lt ha hi
    have := key i hl
    rw [h, Nat.zero_testBit, hi] at this
    simpa using this
  · intro h
    refine Nat.eq_of_testBit_eq fun i => ?_
    rw [Nat.zero_testBit]
    by_cases hl : i < 64
    · rw [key i hl]
      cases ha' : a.testBit i with
      | false => rfl
      | true => rw [h i ha']; rfl
    · exact Nat.testBit_lt_two_pow (Nat.lt_of_lt_of_le (BitVec.isLt _) (Nat.pow_le_pow_right (by omega) (Nat.le_of_not_lt hl)))

/-! ### Rows of sets -/

/-! ### Frattini -/

/-- t is another set that has all of s. -/
def ovr (s t : Nat) : Bool := decide (¬ s = t) && decide (andn s t = 0)
/-- Row i has no other one over it, but the last. -/
def mxr (SL : List Nat) (i : Nat) : Bool := !decide (∃ j, j < SL.length - 1 ∧ (i < j ∧ ovr (SL.getD i 0) (SL.getD j 0) = true))
section
variable {n e : Nat} {m : List Int}
end
end Go.Proofs.YtboadfahlflmhaaDoor

/-
  Walks: the law SubProducts. Conditions: none.
-/
set_option linter.all false
namespace Go.Proofs.YtboadfahlflmhaaDoor
open Go.Pv

end Go.Proofs.YtboadfahlflmhaaDoor

/-
  Walks: the law SubMeets. Conditions: none.
-/
set_option linter.all false
namespace Go.Proofs.YtboadfahlflmhaaDoor
open Go.Pv

theorem AllS.len {n e : Nat} {f : Nat → Nat → Nat} {SL : List Nat} (h : AllS n f e SL) (hn : n ≤ 24) : SL.length ≤ 16777216 := by
  have h1 : SL.length ≤ 2 ^ n := nodup_lt h.nodup fun x hx => by
    obtain ⟨p, _, rfl⟩ := h.subs x hx
    exact bo_lt n p
  have h24 : 2 ^ n ≤ 16777216 := Nat.le_trans (Nat.pow_le_pow_right (by omega) hn) (by decide)
  omega
theorem AllS.row {n e : Nat} {f : Nat → Nat → Nat} {SL : List Nat} (h : AllS n f e SL) (hn : n ≤ 60) {i : Nat} (hi : i < SL.length) : ∃ p, Sub n f e p ∧ (sll SL).getD i [] = thl n p := by
  obtain ⟨p, hp, hx⟩ := h.subs _ (getD_memN hi)
  exact ⟨p, hp, by rw [sll_get hi, hx, stl_bo hn]⟩
theorem AllS.at {n e : Nat} {f : Nat → Nat → Nat} {SL : List Nat} (h : AllS n f e SL) (hn : n ≤ 60) {p : Nat → Bool} (hp : Sub n f e p) : ∃ i, i < SL.length ∧ (sll SL).getD i [] = thl n p := by
  obtain ⟨i, hi, hx⟩ := mem_getDN (h.all p hp)
  exact ⟨i, hi, by rw [sll_get hi, hx, stl_bo hn]⟩
section
variable {n e : Nat} {m : List Int}
end
end Go.Proofs.YtboadfahlflmhaaDoor

/-
  Walks: the law SubNeedless. Conditions: none.
-/
set_option linter.all false
namespace Go.Proofs.YtboadfahlflmhaaDoor
open Go.Pv

theorem AllS.pos {n e : Nat} {f : Nat → Nat → Nat} {SL : List Nat} (G : Grp n f e) (h : AllS n f e SL) : 0 < SL.length := List.length_pos_of_mem (h.all _ G.onp_sub)
theorem AllS.pair {n e : Nat} {f : Nat → Nat → Nat} {SL : List Nat} (h : AllS n f e SL) {i j : Nat} (hij : i < j) (hj : j < SL.length) : cmpS (stl (SL.getD i 0)) (stl (SL.getD j 0)) < 0 := by
  have := (List.pairwise_iff_getElem.1 h.rise) i j (by omega) hj hij
  simpa [List.getD, List.getElem?_eq_getElem hj, List.getElem?_eq_getElem (show i < SL.length by omega)] using this
theorem all_len (n : Nat) : (thl n fun _ => true).length = n := by rw [thl_len]; unfold thn'; rw [List.filter_eq_self.2 fun _ _ => rfl, List.length_range]
theorem len_all {n : Nat} {p : Nat → Bool} (h : ¬ (thl n p).length < n) : ∀ y, y < n → p y = true := by
  intro y hy
  cases hp : p y with
  | true => rfl
  | false =>
    exfalso
    have := mem_lt (n := n) (p := fun _ => true) (q := p) (fun _ _ _ => rfl) (fun hh => by have := hh y hy; rw [hp] at this; cases this)
    have e1 : (thl n p).length = (mem n p).length := thl_len _ _
    have e2 : (mem n fun _ => true).length = n := by unfold mem; rw [List.filter_eq_self.2 fun _ _ => rfl, List.length_range]
    omega
theorem AllS.last {n e : Nat} {f : Nat → Nat → Nat} {SL : List Nat} (G : Grp n f e) (h : AllS n f e SL) (hn : n ≤ 60) : SL.getD (SL.length - 1) 0 = bo n fun _ => true := by
  have hpos := h.pos G
  obtain ⟨t, ht, hx⟩ := mem_getDN (h.all _ G.all_sub)
  by_cases htl : t = SL.length - 1
  · rw [← htl]; exact hx
  · exfalso
    have hp := h.pair (i := t) (j := SL.length - 1) (by omega) (by omega)
    obtain ⟨p, _, hpl⟩ := h.subs _ (getD_memN (show SL.length - 1 < SL.length by omega))
    rw [hx, hpl, stl_bo hn, stl_bo hn, cmpS_lt, all_len] at hp
    have := thl_le n p
    rcases hp with hp | ⟨hp, hp2⟩
    · omega
    · have : thl n p = thl n fun _ => true := thl_congr fun y hy => len_all (by omega) y hy
      rw [this, cmpL_self] at hp2; omega
theorem ovr_bo {n : Nat} (hn : n ≤ 60) (p q : Nat → Bool) : ovr (bo n p) (bo n q) = true ↔ (¬ ∀ a, a < n → p a = q a) ∧ ∀ a, a < n → p a = true → q a = true := by
  unfold ovr
  rw [Bool.and_eq_true, decide_eq_true_eq, decide_eq_true_eq, andn_zero (bo_lt64 hn p) (bo_lt64 hn q)]
  refine and_congr (not_congr ⟨fun h a ha => bo_inj h ha, fun h => bo_congr h⟩) ⟨fun h a ha hp => ?_, fun h i hi => ?_⟩
  · have := h a (by rw [bo_bit]; simp [ha, hp])
    rw [bo_bit] at this; simpa [ha] using this
  · rw [bo_bit, Bool.and_eq_true, decide_eq_true_eq] at hi ⊢
    exact ⟨hi.1, h i hi.1 hi.2⟩

section
variable {n e : Nat} {m : List Int}
/-- A subgroup that is not all stands in one that nothing but all stands over. -/
theorem AllS.max {f : Nat → Nat → Nat} {SL : List Nat} (G : Grp n f e) (h : AllS n f e SL) (hn : n ≤ 60) {r : Nat → Bool} (hr : Sub n f e r) (hne : ¬ ∀ a, a < n → r a = true) :
    ∃ i p, i < SL.length - 1 ∧ SL.getD i 0 = bo n p ∧ Sub n f e p ∧ mxr SL i = true ∧ (∀ a, a < n → r a = true → p a = true) ∧ ¬ ∀ a, a < n → p a = true := by
  have hpos := h.pos G
  have hlast := h.last G hn
  have notlast : ∀ i p, i < SL.length → SL.getD i 0 = bo n p → (¬ ∀ a, a < n → p a = true) → i < SL.length - 1 := fun i p hi hx hp => by
    by_cases hil : i = SL.length - 1
    · exfalso
      rw [hil, hlast] at hx
      exact hp fun a ha => (bo_inj hx ha).symm
    · omega
  have go : ∀ c i p, SL.length - i ≤ c → i < SL.length → SL.getD i 0 = bo n p → Sub n f e p → (∀ a, a < n → r a = true → p a = true) → (¬ ∀ a, a < n → p a = true) →
      ∃ i p, i < SL.length - 1 ∧ SL.getD i 0 = bo n p ∧ Sub n f e p ∧ mxr SL i = true ∧ (∀ a, a < n → r a = true → p a = true) ∧ ¬ ∀ a, a < n → p a = true := by
    intro c
    induction c with
    | zero => intro i p hc hi; omega
    | succ c ih =>
      intro i p hc hi hx hp hrp hpn
      cases hm : mxr SL i with
      | true => exact ⟨i, p, notlast i p hi hx hpn, hx, hp, hm, hrp, hpn⟩
      | false =>
        unfold mxr at hm
        rw [Bool.not_eq_false', decide_eq_true_eq] at hm
        obtain ⟨j, j1, j2, j3⟩ := hm
        obtain ⟨q, hq, hqx⟩ := h.subs _ (getD_memN (show j < SL.length by omega))
        rw [hx, hqx, ovr_bo hn] at j3
        refine ih j q (by omega) (by omega) hqx hq (fun a ha h1 => j3.2 a ha (hrp a ha h1)) fun hall => ?_
        have : j = SL.length - 1 := by
          by_cases hjl : j < SL.length - 1
          · exfalso
            have hpq := h.pair (i := j) (j := SL.length - 1) hjl (by omega)
            rw [hlast, hqx, bo_congr (q := fun _ => true) (fun a ha => hall a ha)] at hpq
            exact cmpS_self _ hpq
          · omega
        omega
  obtain ⟨i, hi, hx⟩ := mem_getDN (h.all r hr)
  exact go _ i r (Nat.le_refl _) hi hx hr (fun a _ h => h) hne
end
end Go.Proofs.YtboadfahlflmhaaDoor

/-
  All subgroups as the document has them: from cyclic ones on, by what two make; put in order. Conditions: none.
-/
set_option linter.all false
namespace Go.Proofs.YtboadfahlflmhaaDoor
open Go.Pv

end Go.Proofs.YtboadfahlflmhaaDoor

/-
  Walks: rows without doubles. Conditions: none.
-/
set_option linter.all false
namespace Go.Proofs.YtboadfahlflmhaaDoor
open Go.Pv

section
variable {α : Type} [DecidableEq α]
/-- A row without what repeats what stands ahead of it. -/
def cpN (d : α) (xs : List α) (k : Nat) : List α := ((List.range k).filter fun j => j == 0 || decide (xs.getD j d ≠ xs.getD (j - 1) d)).map fun j => xs.getD j d
theorem cpN_succ (d : α) (xs : List α) (k : Nat) : cpN d xs (k + 1) = if k = 0 ∨ xs.getD k d ≠ xs.getD (k - 1) d then cpN d xs k ++ [xs.getD k d] else cpN d xs k := by
  unfold cpN
  rw [List.range_succ, List.filter_append, List.map_append]
  by_cases h : k = 0 ∨ xs.getD k d ≠ xs.getD (k - 1) d
  · rw [if_pos h]
    congr 1
    rw [List.filter_cons_of_pos (by
      simp only [Bool.or_eq_true, beq_iff_eq, decide_eq_true_eq]
      exact h)]
    rfl
  · rw [if_neg h]
    rw [List.filter_cons_of_neg (by
      simp only [Bool.or_eq_true, beq_iff_eq, decide_eq_true_eq]
      exact h)]
    simp
/-- Within: what stands so far. -/
structure CpS (d : α) (xs : List α) (i0 k : Nat) (R : List α) (i : Nat) : Prop where
  len : R.length = xs.length
  tk : R.take i = cpN d xs (i0 + k)
  il : (cpN d xs (i0 + k)).length = i
  lt : 0 < i ∧ i + 1 ≤ i0 + k
  le : i0 + k ≤ xs.length
  same : ∀ j, i0 + k ≤ j + 1 → j < xs.length → R.getD j d = xs.getD j d

theorem CpS.begin {d : α} {xs : List α} {i : Nat} (hi : i + 1 < xs.length) (h : cpN d xs (i + 1) = xs.take (i + 1)) (hd : xs.getD (i + 1) d = xs.getD i d) : CpS d xs (i + 1) 1 xs (i + 1) := by
  have e : cpN d xs (i + 1 + 1) = xs.take (i + 1) := by
    rw [cpN_succ, if_neg (by simpa using hd), h]
  exact ⟨rfl, e.symm, by rw [e]; simp; omega, by omega, by omega, fun _ _ _ => rfl⟩
theorem CpS.skip {d : α} {xs R : List α} {i0 k i : Nat} (h : CpS d xs i0 k R i) (hk : i0 + k < xs.length) (hd : R.getD (i0 + k) d = R.getD (i0 + k - 1) d) : CpS d xs i0 (k + 1) R i := by
  have hl := h.lt
  rw [h.same _ (by omega) hk, h.same _ (by omega) (by omega)] at hd
  have e : cpN d xs (i0 + (k + 1)) = cpN d xs (i0 + k) := by
    rw [← Nat.add_assoc, cpN_succ, if_neg]
    rintro (h1 | h1)
    · omega
    · exact h1 hd
  exact ⟨h.len, by rw [e]; exact h.tk, by rw [e]; exact h.il, by omega, by omega, fun j h1 h2 => h.same j (by omega) h2⟩
theorem CpS.keep {d : α} {xs R : List α} {i0 k i : Nat} (h : CpS d xs i0 k R i) (hk : i0 + k < xs.length) (hd : R.getD (i0 + k) d ≠ R.getD (i0 + k - 1) d) : CpS d xs i0 (k + 1) (R.set i (R.getD (i0 + k) d)) (i + 1) := by
  have hl := h.lt
  have e0 := h.same (i0 + k) (by omega) hk
  rw [e0] at hd ⊢
  rw [h.same _ (by omega) (by omega)] at hd
  have e : cpN d xs (i0 + (k + 1)) = cpN d xs (i0 + k) ++ [xs.getD (i0 + k) d] := by
    rw [← Nat.add_assoc, cpN_succ, if_pos (.inr hd)]
  have hiR : i < R.length := by rw [h.len]; omega
  refine ⟨by rw [List.length_set]; exact h.len, ?_, by rw [e, List.length_append, h.il]; rfl, by omega, by omega, fun j h1 h2 => ?_⟩
  · rw [e, ← h.tk, List.take_succ_eq_append_getElem (by rw [List.length_set]; exact hiR), List.take_set_of_le (Nat.le_refl _)]
    simp
  · have hne : i ≠ j := by omega
    rw [← h.same j (by omega) h2]
    simp only [List.getD, List.getElem?_set_ne hne]
end

theorem equal_c (v w : List Int) (hl : v.length ≤ 1000000) (hw : w.length ≤ 1000000) : FnC Tryd.prog 86 [.list (il v), .list (il w)] (.bool (decide (v = w))) := by
  refine fnc_of tab_ok Tryd.func86 rfl (by kernel_rfl) (by rw [Tryd.ntmps86]; exact Nat.le_add_left 2 _) ?_; rw [Tryd.ntmps86]
  refine qm ?_
  refine hk_region fun K hK => runs_eval tab_ok ?_
  simp only [ev0, evA, evB, evP, fl, gp, tab, simprocAttr, reduceCtorEq, reduceIte]
  refine fin_run trivial (hK _ ?_) <;> clear hK <;> clear K
  refine qa (qm (qm ?_))
  refine hk_region fun K hK => runs_eval tab_ok ?_
  simp only [ev0, evA, evB, evP, fl, gp, tab, simprocAttr, reduceCtorEq, reduceIte, il_length]
  refine fin_run trivial (hK _ ?_) <;> clear hK <;> clear K
  refine qa ?_
  refine hk_cond rfl (fun hC1 => ?_) (fun hC1 => ?_)
  · (try simp only [nhs] at hC1)
    have hne : v ≠ w := fun h => hC1 (by rw [h])
    refine qm ?_
    refine hk_region fun K hK => runs_eval tab_ok ?_
    simp only [ev0, evA, evB, evP, fl, gp, tab, simprocAttr, reduceCtorEq, reduceIte]
    refine fin_run trivial (hK _ ?_) <;> clear hK <;> clear K
    refine qa (qk (qb ?_))
    simp only [Tryd.results86, enA, ev0, evA, evB, evP, fl, gp, tab, simprocAttr, reduceCtorEq, reduceIte]
    all_goals (simp [hne])
  · (try simp only [nhs] at hC1)
    refine qh (qa (qm (qm ?_)))
    refine hk_region fun K hK => runs_eval tab_ok ?_
    simp only [ev0, evA, evB, evP, fl, gp, tab, simprocAttr, reduceCtorEq, reduceIte, il_length]
    refine fin_run trivial (hK _ ?_) <;> clear hK <;> clear K
    refine qa (ql ?_)
    refine hk_loop (ι := Nat) (fun k => ⟨26, [(0, .p (.list (il v))), (1, .p (.list (il w))), (12, .p (.int .i64 v.length)), (13, .p (.int .i64 k))], []⟩) (fun k => k ≤ v.length ∧ ∀ j, j < k → v.getD j 0 = w.getD j 0) (fun k => v.length - k) 0 ⟨Nat.zero_le _, fun j hj => absurd hj (Nat.not_lt_zero _)⟩ [] (by simp only [leq, leA, ev0, evA, evB, evP, fl, gp, tab, simprocAttr, reduceCtorEq, reduceIte] <;> trivial) fun k hk => ?_
    obtain ⟨hk1, hk2⟩ := hk
    refine qm ?_
    refine hk_region fun K hK => runs_eval tab_ok ?_
    simp only [ev0, evA, evB, evP, fl, gp, tab, simprocAttr, reduceCtorEq, reduceIte]
    refine fin_run trivial (hK _ ?_) <;> clear hK <;> clear K
    refine qa (qm ?_)
    refine hk_cond rfl (fun hC2 => ?_) (fun hC2 => ?_)
    · (try simp only [nhs] at hC2)
      have hkl : k < v.length := by omega
      refine qh (qa (qm (ql (qm ?_))))
      refine hk_region fun K hK => runs_eval tab_ok ?_
      simp only [ev0, evA, evB, evP, fl, gp, tab, simprocAttr, reduceCtorEq, reduceIte]
      refine fin_run trivial (hK _ ?_) <;> clear hK <;> clear K
      refine qa (qm ?_)
      refine hk_draw mixed (by kernel_rfl) fun K hK => runs_eval tab_ok ?_
      simp only [ev0, evA, evB, evP, fl, gp, tab, simprocAttr, reduceCtorEq, reduceIte, il_get (show k < v.length by omega), il_get (show k < w.length by omega)]
      refine fin_run ?_ (hK _ ?_) <;> clear hK <;> clear K
      · (first | exact trivial | omega | (simp only [In64] at *; omega) | (simp [In64] at *; omega) | (simp_all; done) | skip)
      refine qa ?_
      refine hk_cond rfl (fun hC3 => ?_) (fun hC3 => ?_)
      · (try simp only [nhs] at hC3)
        have hne : v ≠ w := fun h => hC3 (by rw [h])
        refine qm ?_
        refine hk_region fun K hK => runs_eval tab_ok ?_
        simp only [ev0, evA, evB, evP, fl, gp, tab, simprocAttr, reduceCtorEq, reduceIte]
        refine fin_run trivial (hK _ ?_) <;> clear hK <;> clear K
        refine qa (qk (qe (qb (qb (qe (qb ?_))))))
        simp only [Tryd.results86, enA, ev0, evA, evB, evP, fl, gp, tab, simprocAttr, reduceCtorEq, reduceIte]
        all_goals (simp [hne])
      · (try simp only [nhs] at hC3)
        refine qh (qd (qa ?_))
        refine hk_region fun K hK => runs_eval tab_ok ?_
        simp only [ev0, evA, evB, evP, fl, gp, tab, simprocAttr, reduceCtorEq, reduceIte]
        refine fin_run ?_ (hK _ ?_) <;> clear hK <;> clear K
        · (first | exact trivial | omega | (simp only [In64] at *; omega) | (simp [In64] at *; omega) | (simp_all; done) | skip)
        refine qa ?_
        refine ⟨k + 1, [], ⟨by omega, fun j hj => ?_⟩, by omega, ?_⟩
        · by_cases hjk : j = k
          · rw [hjk]; simpa using hC3
          · exact hk2 j (by omega)
        · simp only [leq, leA, ev0, evA, evB, evP, fl, gp, tab, simprocAttr, reduceCtorEq, reduceIte] <;> first | trivial | omega
    · (try simp only [nhs] at hC2)
      have he : v = w := by
        refine List.ext_getElem (by omega) fun j h1 h2 => ?_
        have := hk2 j (by omega)
        simpa [List.getD, List.getElem?_eq_getElem h1, List.getElem?_eq_getElem h2] using this
      refine qj (qc (qc (qf (qa (qm ?_)))))
      refine hk_region fun K hK => runs_eval tab_ok ?_
      simp only [ev0, evA, evB, evP, fl, gp, tab, simprocAttr, reduceCtorEq, reduceIte]
      refine fin_run trivial (hK _ ?_) <;> clear hK <;> clear K
      refine qa (qk ?_)
      simp only [Tryd.results86, enA, ev0, evA, evB, evP, fl, gp, tab, simprocAttr, reduceCtorEq, reduceIte]
      all_goals (simp [he])

end Go.Proofs.YtboadfahlflmhaaDoor

/-
  Series of subgroups, as the program has them. Conditions: none.
-/
set_option linter.all false
namespace Go.Proofs.YtboadfahlflmhaaDoor
open Go.Pv

theorem Stp.at {n : Nat} {T : Nat → Nat → Bool} {K k : Nat} (h : Stp n T K) (hk : k ≤ K) : bo n (T (k + 1)) = bo n (T k) ↔ k = K := by
  constructor
  · intro he
    rcases Nat.lt_or_eq_of_le hk with h1 | h1
    · exact absurd (fun a ha => bo_inj he ha) (h.ne k h1)
    · exact h1
  · rintro rfl
    exact bo_congr h.eq
/-! ### Derived, Lower -/

section
variable {n e : Nat} {m : List Int}
end
/-! ### Upper -/

/-! ### An example of the document -/

end Go.Proofs.YtboadfahlflmhaaDoor

/-
  Composition series: parts of parts; the greatest normal subgroup; Composition walked. Conditions: none.
-/
set_option linter.all false
namespace Go.Proofs.YtboadfahlflmhaaDoor
open Go.Pv

/-! ### What a part has, in the whole -/

def lft (p q : Nat → Bool) (x : Nat) : Bool := p x && q (pix p x)
theorem lat_pix {n x : Nat} {p : Nat → Bool} (hx : x < n) (hp : p x = true) : lat n p (pix p x) = x := by
  have := (pix_at hx hp).2
  unfold lat; rw [this]; rfl
theorem lat_low {n i : Nat} {p : Nat → Bool} (hi : i < (thl n p).length) : lat (n + 1) p i = lat n p i := by
  unfold lat
  rw [thl_succ, List.getD_eq_getElem?_getD, List.getElem?_append_left hi, ← List.getD_eq_getElem?_getD]
theorem lft_thl (p q : Nat → Bool) : ∀ n, (thl (thl n p).length q).map (fun z => ((lat n p z.toNat : Nat) : Int)) = thl n (lft p q)
  | 0 => rfl
  | n + 1 => by
    have ih := lft_thl p q n
    have hc : (thl (thl n p).length q).map (fun z => ((lat (n + 1) p z.toNat : Nat) : Int)) = thl n (lft p q) := by
      rw [← ih]
      refine List.map_congr_left fun z hz => ?_
      obtain ⟨i, i1, _, rfl⟩ := mem_thl.1 hz
      rw [Int.toNat_natCast, lat_low i1]
    rw [thl_succ n (lft p q)]
    by_cases hp : p n = true
    · have hl : (thl (n + 1) p).length = (thl n p).length + 1 := by rw [thl_succ, if_pos hp]; simp
      have ha : lat (n + 1) p (thl n p).length = n := by
        unfold lat
        rw [thl_succ, if_pos hp]; simp [List.getD]
      rw [hl, thl_succ, List.map_append, hc]
      have hv : lft p q n = q (thl n p).length := by unfold lft pix; rw [hp]; rfl
      rw [hv]
      by_cases hq : q (thl n p).length = true
      · rw [if_pos hq, if_pos hq]; simp [ha]
      · rw [if_neg hq, if_neg hq]; rfl
    · have hl : thl (n + 1) p = thl n p := by rw [thl_succ, if_neg hp]; simp
      have hv : lft p q n = false := by unfold lft; rw [Bool.not_eq_true] at hp; rw [hp]; rfl
      rw [hl, hv, if_neg (by simp), List.append_nil]
      exact hc

section
variable {n e : Nat} {f : Nat → Nat → Nat} {p q : Nat → Bool}

theorem pop_pix (hs : Sub n f e p) {a b : Nat} (ha : a < n) (hb : b < n) (pa : p a = true) (pb : p b = true) : pop n f p (pix p a) (pix p b) = pix p (f a b) := by
  unfold pop; rw [lat_pix ha pa, lat_pix hb pb]
theorem cjr_in (G : Grp n f e) (hs : Sub n f e p) {x a : Nat} (hx : x < n) (ha : a < n) (px : p x = true) (pa : p a = true) : p (cjr n f e x a) = true := by
  have hi := G.iv_lt ha
  have pi := hs.inv _ ha pa
  exact hs.mul _ _ (G.cl _ _ hi hx) ha (hs.mul _ _ hi hx pi px) pa

/-- A normal subgroup of a subgroup, not all of it; with any thing more, and what that is conjugated to, it is all. -/
structure Mxn (n : Nat) (f : Nat → Nat → Nat) (e : Nat) (p p' : Nat → Bool) : Prop where
  sub : Sub n f e p'
  le : ∀ x, x < n → p' x = true → p x = true
  nml : ∀ a x, a < n → x < n → p a = true → p' x = true → p' (cjr n f e x a) = true
  ne : ∃ x, x < n ∧ p x = true ∧ p' x = false
  mx : ∀ x, x < n → p x = true → p' x = false → ∀ t : Nat → Bool, Sub n f e t → (∀ y, y < n → p' y = true → t y = true) → (∀ b, b < n → p b = true → t (cjr n f e x b) = true) → ∀ y, y < n → p y = true → t y = true

def wth (q : Nat → Bool) (a x : Nat) : Bool := q x || decide (x = a)
/-- What the greatest normal subgroup is. -/
structure Grt (n : Nat) (f : Nat → Nat → Nat) (e : Nat) (q : Nat → Bool) : Prop where
  sub : Sub n f e q
  nml : Nml n f e q
  ne : ∃ x, x < n ∧ q x = false
  mx : ∀ a, a < n → q a = false → ∀ y, y < n → Gen n f e (cup n f e (wth q a)) y

theorem Mxn.lt (h : Mxn n f e p q) : (mem n q).length < (mem n p).length := mem_lt h.le fun hh => by
  obtain ⟨x, x1, x2, x3⟩ := h.ne
  rw [hh x x1] at x3; rw [x3] at x2; cases x2
end

section
variable {n e : Nat} {f : Nat → Nat → Nat}
end

/-! ### greatest -/

/-! ### Composition -/

theorem Grt.cong {n e : Nat} {f g : Nat → Nat → Nat} {q : Nat → Bool} (G : Grp n f e) (h : ∀ a b, a < n → b < n → g a b = f a b) (hq : Grt n g e q) : Grt n f e q :=
  ⟨hq.sub.cong_op G h, hq.nml.cong_op G h, hq.ne, fun a ha hqa y hy => (Gen.mono (fun b _ hb => by rwa [cup_cong G h] at hb) (hq.mx a ha hqa y hy)).cong_op G h⟩

section
variable {n e : Nat} {m : List Int}
/-- A composition series: from all on, to one thing. -/
structure Cps (n : Nat) (f : Nat → Nat → Nat) (e : Nat) (T : Nat → Nat → Bool) (K : Nat) : Prop where
  all : T 0 = fun _ => true
  sub : ∀ k, k ≤ K → Sub n f e (T k)
  mxn : ∀ k, k < K → Mxn n f e (T k) (T (k + 1))
  last : (thl n (T K)).length = 1
  short : K ≤ 5

end
end Go.Proofs.YtboadfahlflmhaaDoor

/-
  Direct products of subgroups. Conditions: none.
-/
set_option linter.all false
namespace Go.Proofs.YtboadfahlflmhaaDoor

section
variable {n e : Nat} {f : Nat → Nat → Nat} {p q : Nat → Bool}
/-- All things of one commute with all of the other. -/
def Cmm (n : Nat) (f : Nat → Nat → Nat) (p q : Nat → Bool) : Prop := ∀ a b, a < n → b < n → p a = true → q b = true → f a b = f b a
theorem Grp.pr2_mk (G : Grp n f e) {a b : Nat} (ha : a < n) (hb : b < n) (h1 : p a = true) (h2 : q b = true) : pr2 n f e p q (f a b) = true :=
  pr2_iff.2 ⟨a, ha, h1, by rwa [← G.assoc _ _ _ (G.iv_lt ha) ha hb, G.iv_mul ha, G.one_l b hb]⟩
theorem Grp.meet_len (G : Grp n f e) (hp : Sub n f e p) (hq : Sub n f e q) : (mem n fun x => p x && q x).length = 1 ↔ ∀ a, a < n → p a = true → q a = true → a = e := by
  have he : (fun x => p x && q x) e = true := by simp [hp.one, hq.one]
  constructor
  · intro h a ha h1 h2
    exact one_mem G.el he h ha (by simp [h1, h2])
  · intro h
    refine mem_one G.el fun a ha => ⟨fun h1 => ?_, fun h1 => by rw [h1]; exact he⟩
    rw [Bool.and_eq_true] at h1
    exact h a ha h1.1 h1.2
theorem Grp.gen_none (G : Grp n f e) {p : Nat → Bool} (h : ∀ a, a < n → p a = false) {a : Nat} (ha : a < n) : onp e a = true ↔ Gen n f e p a := by
  rw [onp_iff]
  constructor
  · rintro rfl; exact .one
  · intro h1
    exact onp_iff.1 (Gen.sub G G.onp_sub (fun b hb h2 => by rw [h b hb] at h2; cases h2) h1)
end
end Go.Proofs.YtboadfahlflmhaaDoor

/-
  Plain: chains of subgroups whose steps are as small as can be (Jordan and Hoelder). Conditions: none.
-/
set_option linter.all false
namespace Go.Proofs.YtboadfahlflmhaaDoor

section
variable {n e : Nat} {f : Nat → Nat → Nat} {p q a b : Nat → Bool}
theorem Mxn.nz (G : Grp n f e) (h : Mxn n f e p q) {c : Nat} (hc : c < n) (pc : p c = true) : nzr n f e q c = true :=
  G.nzr_of h.sub hc fun y hy hh => by
    obtain ⟨x, x1, x2, rfl⟩ := shf_iff.1 hh
    exact h.nml c x hc x1 pc x2
theorem Mxn.congr_l {p' : Nat → Bool} (h : Mxn n f e p q) (hp : ∀ x, x < n → p' x = p x) : Mxn n f e p' q where
  sub := h.sub
  le x hx hq := by rw [hp x hx]; exact h.le x hx hq
  nml c x hc hx pc := h.nml c x hc hx (by rw [← hp c hc]; exact pc)
  ne := by obtain ⟨x, x1, x2, x3⟩ := h.ne; exact ⟨x, x1, by rw [hp x x1]; exact x2, x3⟩
  mx x hx px qx t ht h1 h2 y hy py := h.mx x hx (by rwa [← hp x hx]) qx t ht h1 (fun c hc pc => h2 c hc (by rwa [hp c hc])) y hy (by rwa [← hp y hy])
theorem Mxn.congr_r {q' : Nat → Bool} (G : Grp n f e) (h : Mxn n f e p q) (hs : Sub n f e q') (hq : ∀ x, x < n → q' x = q x) : Mxn n f e p q' where
  sub := hs
  le x hx hh := h.le x hx (by rwa [← hq x hx])
  nml c x hc hx pc hh := by
    rw [hq _ (G.cjr_lt hx hc)]
    exact h.nml c x hc hx pc (by rwa [← hq x hx])
  ne := by obtain ⟨x, x1, x2, x3⟩ := h.ne; exact ⟨x, x1, x2, by rw [hq x x1]; exact x3⟩
  mx x hx px qx t ht h1 h2 y hy py := h.mx x hx px (by rwa [← hq x hx]) t ht (fun y hy hh => h1 y hy (by rwa [hq y hy])) h2 y hy py

/-- A chain from a subgroup down to the one. -/
def Chn (n : Nat) (f : Nat → Nat → Nat) (e : Nat) : (Nat → Bool) → List (Nat → Bool) → Prop
  | p, [] => ∀ x, x < n → p x = true → x = e
  | p, q :: l => Mxn n f e p q ∧ Chn n f e q l
def idx (n : Nat) : (Nat → Bool) → List (Nat → Bool) → List Nat
  | _, [] => []
  | p, q :: l => (mem n p).length / (mem n q).length :: idx n q l
theorem Chn.congr {p' : Nat → Bool} (hp : ∀ x, x < n → p' x = p x) : ∀ {l : List (Nat → Bool)}, Chn n f e p l → Chn n f e p' l ∧ idx n p' l = idx n p l
  | [], h => ⟨fun x hx hh => h x hx (by rwa [← hp x hx]), rfl⟩
  | q :: l, h => ⟨⟨h.1.congr_l hp, h.2⟩, by show _ / _ :: _ = _ / _ :: _; rw [mem_congr hp]⟩
end
end Go.Proofs.YtboadfahlflmhaaDoor

/-
  Plain: homomorphisms of a subgroup onto a group; chains go there and back; steps in which things commute. Conditions: none.
-/
set_option linter.all false
namespace Go.Proofs.YtboadfahlflmhaaDoor

/-- A homomorphism of a subgroup onto a group. -/
structure Hm (n : Nat) (f : Nat → Nat → Nat) (e : Nat) (p : Nat → Bool) (k : Nat) (g : Nat → Nat → Nat) (d : Nat) (φ : Nat → Nat) : Prop where
  grp : Grp k g d
  sub : Sub n f e p
  lt : ∀ x, x < n → p x = true → φ x < k
  mul : ∀ x y, x < n → y < n → p x = true → p y = true → φ (f x y) = g (φ x) (φ y)
  onto : ∀ i, i < k → ∃ x, x < n ∧ p x = true ∧ φ x = i

section
variable {n e k d : Nat} {f g : Nat → Nat → Nat} {p : Nat → Bool} {φ : Nat → Nat}
theorem Hm.one (H : Hm n f e p k g d φ) (G : Grp n f e) : φ e = d := by
  have h1 := H.mul e e G.el G.el H.sub.one H.sub.one
  have hl := H.lt e G.el H.sub.one
  rw [G.one_l e G.el] at h1
  have h2 : g (φ e) d = g (φ e) (φ e) := by rw [← h1, H.grp.one_r _ hl]
  exact (H.grp.cancel_l hl H.grp.el hl h2).symm
theorem Hm.iv (H : Hm n f e p k g d φ) (G : Grp n f e) {x : Nat} (hx : x < n) (px : p x = true) : φ (Go.Proofs.YtboadfahlflmhaaDoor.iv n f e x) = Go.Proofs.YtboadfahlflmhaaDoor.iv k g d (φ x) := by
  have ix := G.iv_lt hx
  have pix := H.sub.inv x hx px
  refine H.grp.iv_unique (H.lt x hx px) (H.lt _ ix pix) (.inl ?_)
  rw [← H.mul _ _ hx ix px pix, G.mul_iv hx, H.one G]
theorem Hm.cjr (H : Hm n f e p k g d φ) (G : Grp n f e) {x c : Nat} (hx : x < n) (hc : c < n) (px : p x = true) (pc : p c = true) : φ (Go.Proofs.YtboadfahlflmhaaDoor.cjr n f e x c) = Go.Proofs.YtboadfahlflmhaaDoor.cjr k g d (φ x) (φ c) := by
  have ic := G.iv_lt hc
  have pi := H.sub.inv c hc pc
  show φ (f (f _ _) _) = g (g _ _) _
  rw [H.mul _ _ (G.cl _ _ ic hx) hc (H.sub.mul _ _ ic hx pi px) pc, H.mul _ _ ic hx pi px, H.iv G hc pc]
theorem Hm.cmt (H : Hm n f e p k g d φ) (G : Grp n f e) {x c : Nat} (hx : x < n) (hc : c < n) (px : p x = true) (pc : p c = true) : φ (Go.Proofs.YtboadfahlflmhaaDoor.cmt n f e x c) = Go.Proofs.YtboadfahlflmhaaDoor.cmt k g d (φ x) (φ c) := by
  have ic := G.iv_lt hc
  have ix := G.iv_lt hx
  have pic := H.sub.inv c hc pc
  have pix := H.sub.inv x hx px
  show φ (f (f _ _) (f _ _)) = g (g _ _) (g _ _)
  rw [H.mul _ _ (G.cl _ _ ix ic) (G.cl _ _ hx hc) (H.sub.mul _ _ ix ic pix pic) (H.sub.mul _ _ hx hc px pc), H.mul _ _ ix ic pix pic, H.mul _ _ hx hc px pc, H.iv G hc pc, H.iv G hx px]
theorem cmt_in {q : Nat → Bool} (G : Grp n f e) (hq : Sub n f e q) {x c : Nat} (hx : x < n) (hc : c < n) (px : q x = true) (pc : q c = true) : q (cmt n f e x c) = true :=
  hq.mul _ _ (G.cl _ _ (G.iv_lt hx) (G.iv_lt hc)) (G.cl _ _ hx hc) (hq.mul _ _ (G.iv_lt hx) (G.iv_lt hc) (hq.inv _ hx px) (hq.inv _ hc pc)) (hq.mul _ _ hx hc px pc)

/-- What goes into a set. -/
def pre (p : Nat → Bool) (φ : Nat → Nat) (b : Nat → Bool) (x : Nat) : Bool := p x && b (φ x)
theorem pre_iff {b : Nat → Bool} {x : Nat} : pre p φ b x = true ↔ p x = true ∧ b (φ x) = true := by unfold pre; rw [Bool.and_eq_true]
theorem Hm.pre_sub (H : Hm n f e p k g d φ) (G : Grp n f e) {b : Nat → Bool} (hb : Sub k g d b) : Sub n f e (pre p φ b) :=
  sub_of G (pre_iff.2 ⟨H.sub.one, by rw [H.one G]; exact hb.one⟩) fun x y hx hy h1 h2 => by
    obtain ⟨h1, h3⟩ := pre_iff.1 h1
    obtain ⟨h2, h4⟩ := pre_iff.1 h2
    exact pre_iff.2 ⟨H.sub.mul x y hx hy h1 h2, by rw [H.mul x y hx hy h1 h2]; exact hb.mul _ _ (H.lt x hx h1) (H.lt y hy h2) h3 h4⟩
theorem Hm.of_pre (H : Hm n f e p k g d φ) (G : Grp n f e) {a b : Nat → Bool} (hb : Sub k g d b) (h : Mxn n f e (pre p φ a) (pre p φ b)) : Mxn k g d a b where
  sub := hb
  le i hi bi := by
    obtain ⟨x, x1, x2, rfl⟩ := H.onto i hi
    exact (pre_iff.1 (h.le x x1 (pre_iff.2 ⟨x2, bi⟩))).2
  nml c i hc hi ac bi := by
    obtain ⟨x, x1, x2, rfl⟩ := H.onto i hi
    obtain ⟨y, y1, y2, rfl⟩ := H.onto c hc
    have := (pre_iff.1 (h.nml y x y1 x1 (pre_iff.2 ⟨y2, ac⟩) (pre_iff.2 ⟨x2, bi⟩))).2
    rwa [H.cjr G x1 y1 x2 y2] at this
  ne := by
    obtain ⟨x, x1, x2, x3⟩ := h.ne
    obtain ⟨px, ax⟩ := pre_iff.1 x2
    unfold pre at x3
    rw [px, Bool.true_and] at x3
    exact ⟨_, H.lt x x1 px, ax, x3⟩
  mx i hi ai bi t ht h1 h2 j hj aj := by
    obtain ⟨x, x1, x2, rfl⟩ := H.onto i hi
    obtain ⟨y, y1, y2, rfl⟩ := H.onto j hj
    refine (pre_iff.1 (h.mx x x1 (pre_iff.2 ⟨x2, ai⟩) (by unfold pre; rw [bi, Bool.and_false]) (pre p φ t) (H.pre_sub G ht) (fun z hz hh => ?_) (fun c hc hh => ?_) y y1 (pre_iff.2 ⟨y2, aj⟩))).2
    · obtain ⟨pz, bz⟩ := pre_iff.1 hh
      exact pre_iff.2 ⟨pz, h1 _ (H.lt z hz pz) bz⟩
    · obtain ⟨pc, ac⟩ := pre_iff.1 hh
      exact pre_iff.2 ⟨cjr_in G H.sub x1 hc x2 pc, by rw [H.cjr G x1 hc x2 pc]; exact h2 _ (H.lt c hc pc) ac⟩

/-- Things of the first commute, up to the second. -/
def Abl (n : Nat) (f : Nat → Nat → Nat) (e : Nat) (p q : Nat → Bool) : Prop := ∀ x y, x < n → y < n → p x = true → p y = true → q (cmt n f e x y) = true
def AbC (n : Nat) (f : Nat → Nat → Nat) (e : Nat) : (Nat → Bool) → List (Nat → Bool) → Prop
  | _, [] => True
  | p, q :: l => Abl n f e p q ∧ AbC n f e q l
theorem AbC.congr {p' : Nat → Bool} (hp : ∀ x, x < n → p' x = p x) : ∀ {l : List (Nat → Bool)}, AbC n f e p l → AbC n f e p' l
  | [], _ => trivial
  | q :: l, h => ⟨fun x y hx hy h1 h2 => h.1 x y hx hy (by rwa [← hp x hx]) (by rwa [← hp y hy]), h.2⟩
theorem Chn.subs (G : Grp n f e) : ∀ {l : List (Nat → Bool)} {p : Nat → Bool}, Chn n f e p l → ∀ q ∈ l, Sub n f e q
  | [], _, _, q, hq => by simp at hq
  | r :: l, p, h, q, hq => by
    rcases List.mem_cons.1 hq with rfl | hq
    · exact h.1.sub
    · exact Chn.subs G h.2 q hq

end
end Go.Proofs.YtboadfahlflmhaaDoor

/-
  Plain law, FRATTINI'S ARGUMENT. Conditions: none.
-/
set_option linter.all false
namespace Go.Proofs.YtboadfahlflmhaaDoor
open Go.Pv

section
variable {n e P : Nat} {f : Nat → Nat → Nat} {q s : Nat → Bool}

theorem Syl.cong {f g : Nat → Nat → Nat} {j t : Nat} (hY : Syl n g e P s j t) (G : Grp n f e) (h : ∀ a b, a < n → b < n → g a b = f a b) : Syl n f e P s j t :=
  ⟨hY.sub.cong_op G h, hY.len, hY.num, hY.non⟩

end
end Go.Proofs.YtboadfahlflmhaaDoor

/-
  Nilpotent groups; classes of a quotient; the quotient by commutators. Conditions: none.
-/
set_option linter.all false
namespace Go.Proofs.YtboadfahlflmhaaDoor
open Go.Pv

section
variable {n : Nat} {f : Nat → Nat → Nat} {e : Nat}
/-! ### Classes of a quotient -/

theorem lead_le {k : Nat} {r1 r2 : Nat → Nat → Bool} (E1 : Eqv n r1) (E2 : Eqv k r2) (rep : Nat → Nat) (hr : ∀ i, i < k → rep i < n) (h : ∀ i j, i < k → j < k → r1 (rep i) (rep j) = true → r2 i j = true) : (mem k (lead r2)).length ≤ (mem n (lead r1)).length := by
  have hex : ∀ i, ∃ x, i < k → x < n ∧ lead r1 x = true ∧ r1 x (rep i) = true := fun i => by
    by_cases hi : i < k
    · obtain ⟨x, h1, h2, h3⟩ := E1.least (hr i hi)
      exact ⟨x, fun _ => ⟨h1, h2, h3⟩⟩
    · exact ⟨0, fun h => absurd h hi⟩
  obtain ⟨g, hg⟩ := Classical.axiomOfChoice hex
  rw [← List.length_map (f := g) («as» := mem k (lead r2))]
  refine List.Nodup.length_le_of_subset (nodup_map (List.nodup_range.filter _) fun i hi j hj he => ?_) fun x hx => ?_
  · obtain ⟨i1, i2⟩ := mem_mem.1 hi
    obtain ⟨j1, j2⟩ := mem_mem.1 hj
    obtain ⟨a1, a2, a3⟩ := hg i i1
    obtain ⟨b1, b2, b3⟩ := hg j j1
    rw [← he] at b3
    exact E2.lead_eq i1 j1 i2 j2 (h i j i1 j1 (E1.trans _ _ _ (hr i i1) a1 (hr j j1) (E1.symm _ _ a1 (hr i i1) a3) b3))
  · obtain ⟨i, hi, rfl⟩ := List.mem_map.1 hx
    obtain ⟨i1, i2⟩ := mem_mem.1 hi
    exact mem_mem.2 ⟨(hg i i1).1, (hg i i1).2.1⟩
theorem Qm.iv {k : Nat} {cl rep : Nat → Nat} (Q : Qm n f k cl rep) (G : Grp n f e) {a : Nat} (ha : a < n) : iv k (qop f cl rep) (cl e) (cl a) = cl (Go.Proofs.YtboadfahlflmhaaDoor.iv n f e a) :=
  ((Q.grp G).iv_unique (Q.lt a ha) (Q.lt _ (G.iv_lt ha)) (.inl (by rw [Q.op ha (G.iv_lt ha), G.mul_iv ha]))).symm
theorem Qm.cjb {k : Nat} {cl rep : Nat → Nat} (Q : Qm n f k cl rep) (G : Grp n f e) {x y : Nat} (hx : x < n) (hy : y < n) (h : cjb n f e x y = true) : cjb k (qop f cl rep) (cl e) (cl x) (cl y) = true := by
  obtain ⟨a, ha, rfl⟩ := cjb_iff.1 h
  have ia := G.iv_lt ha
  refine cjb_iff.2 ⟨cl a, Q.lt a ha, ?_⟩
  rw [Q.iv G ha, Q.op ia hx, Q.op (G.cl _ _ ia hx) ha]
/-- A quotient has no more classes. -/
theorem Qm.classes {k : Nat} {cl rep : Nat → Nat} (Q : Qm n f k cl rep) (G : Grp n f e) : (mem k (lead (Go.Proofs.YtboadfahlflmhaaDoor.cjb k (qop f cl rep) (cl e)))).length ≤ (mem n (lead (Go.Proofs.YtboadfahlflmhaaDoor.cjb n f e))).length :=
  lead_le G.cjb_eqv (Q.grp G).cjb_eqv rep Q.rlt fun i j hi hj h => by
    have := Q.cjb G (Q.rlt i hi) (Q.rlt j hj) h
    rwa [Q.at_ i hi, Q.at_ j hj] at this
end
end Go.Proofs.YtboadfahlflmhaaDoor

/-
  Plain law: nilpotent is just where all of Sylow's subgroups are normal; both central series are as long. Conditions: none.
-/
set_option linter.all false
namespace Go.Proofs.YtboadfahlflmhaaDoor
open Go.Pv

section
variable {n e P : Nat} {f : Nat → Nat → Nat} {p q s : Nat → Bool}

/-! ### Both series -/
section
variable {nl : (Nat → Bool) → Nat → Bool}
theorem Stp.le {T : Nat → Nat → Bool} {K k : Nat} (h : Stp n T K) (he : ∀ a, a < n → T (k + 1) a = T k a) : K ≤ k :=
  Nat.le_of_not_lt fun hh => h.ne k hh he
end

/-! ### Sylow's subgroups of what is nilpotent -/
/-! ### A group of a power of P things, and a normal subgroup that is not all -/
/-! ### Where all of Sylow's subgroups are normal -/
end
end Go.Proofs.YtboadfahlflmhaaDoor

/-
  Plain: each step of a chain has its quotient; it is of a prime where things commute; what is solvable. Conditions: none.
-/
set_option linter.all false
namespace Go.Proofs.YtboadfahlflmhaaDoor

section
variable {n e : Nat} {f : Nat → Nat → Nat} {p q : Nat → Bool}
/-- The quotient of a group. -/
theorem quot_hm (G : Grp n f e) (hq : Sub n f e q) (hN : Nml n f e q) : Hm n f e (fun _ => true) (cst n (dco n f q (onp e))).length (qop f (clq n (dco n f q (onp e))) (rpq n (dco n f q (onp e)))) (clq n (dco n f q (onp e)) e) (clq n (dco n f q (onp e))) := by
  have E := G.dco_eqv hq G.onp_sub
  have Q := cst_qm G E fun a b c d ha hb hc hd h1 h2 => G.rco_cong hq hN ha hb hc hd h1 h2
  exact ⟨Q.grp G, G.all_sub, fun x hx _ => Q.lt x hx, fun x y hx hy _ _ => (Q.op hx hy).symm, fun i hi => ⟨_, Q.rlt i hi, rfl, Q.at_ i hi⟩⟩
theorem quot_ker (G : Grp n f e) (hq : Sub n f e q) {x : Nat} (hx : x < n) : clq n (dco n f q (onp e)) x = clq n (dco n f q (onp e)) e ↔ q x = true := by
  have E := G.dco_eqv hq G.onp_sub
  rw [clq_iff E hx G.el, G.rco_iff hx G.el, G.one_l _ (G.iv_lt hx)]
  exact ⟨fun h => by have := hq.inv _ (G.iv_lt hx) h; rwa [G.iv_iv hx] at this, fun h => hq.inv x hx h⟩
theorem quot_num (G : Grp n f e) (hq : Sub n f e q) : (cst n (dco n f q (onp e))).length * (mem n q).length = n := by
  rw [cst_len]; exact G.rco_num hq
/-- The part of a group. -/
theorem part_hm (G : Grp n f e) (hp : Sub n f e p) : Hm n f e p (thl n p).length (pop n f p) (pix p e) (pix p) :=
  ⟨ptb_grp G hp, hp, fun x hx px => (pix_at hx px).1, fun x y hx hy px py => (pop_pix hp hx hy px py).symm, fun i hi => ⟨lat n p i, (lat_at hi).1, (lat_at hi).2.1, (lat_at hi).2.2.2⟩⟩
variable {k k2 d d2 : Nat} {g g2 : Nat → Nat → Nat} {φ ψ : Nat → Nat}
theorem Hm.comp (H : Hm n f e p k g d φ) (K : Hm k g d (fun _ => true) k2 g2 d2 ψ) : Hm n f e p k2 g2 d2 fun x => ψ (φ x) where
  grp := K.grp
  sub := H.sub
  lt x hx px := K.lt _ (H.lt x hx px) rfl
  mul x y hx hy px py := by
    show ψ (φ (f x y)) = _
    rw [H.mul x y hx hy px py, K.mul _ _ (H.lt x hx px) (H.lt y hy py) rfl rfl]
  onto i hi := by
    obtain ⟨y, y1, _, rfl⟩ := K.onto i hi
    obtain ⟨x, x1, x2, rfl⟩ := H.onto y y1
    exact ⟨x, x1, x2, rfl⟩
theorem Hm.cong_op (H : Hm n f e p k g d φ) (h : ∀ a b, a < k → b < k → g2 a b = g a b) (G2 : Grp k g2 d) : Hm n f e p k g2 d φ :=
  ⟨G2, H.sub, H.lt, fun x y hx hy px py => by rw [H.mul x y hx hy px py, h _ _ (H.lt x hx px) (H.lt y hy py)], H.onto⟩
/-- What stands of a smaller one in the part. -/
def dwn (n : Nat) (p q : Nat → Bool) (i : Nat) : Bool := q (lat n p i)
theorem lft_dwn (hle : ∀ x, x < n → q x = true → p x = true) : ∀ x, x < n → lft p (dwn n p q) x = q x := fun x hx => by
  unfold lft dwn
  cases px : p x with
  | false =>
    cases qx : q x with
    | false => rfl
    | true => rw [hle x hx qx] at px; cases px
  | true => rw [lat_pix hx px]; rfl
theorem dwn_sub (G : Grp n f e) (hp : Sub n f e p) (hq : Sub n f e q) : Sub (thl n p).length (pop n f p) (pix p e) (dwn n p q) :=
  sub_of (ptb_grp G hp) (by unfold dwn; rw [lat_pix G.el hp.one]; exact hq.one) fun i j hi hj h1 h2 => by
    unfold dwn at h1 h2 ⊢
    rw [(pop_at G hp hi hj).2]
    exact hq.mul _ _ (lat_at hi).1 (lat_at hj).1 h1 h2
theorem dwn_nml (G : Grp n f e) (hp : Sub n f e p) : Nml (thl n p).length (pop n f p) (pix p e) (dwn n p q) ↔ ∀ a x, a < n → x < n → p a = true → p x = true → q x = true → q (cjr n f e x a) = true := by
  have H := part_hm G hp
  constructor
  · intro h a x ha hx pa px qx
    have := h (pix p a) (pix_at ha pa).1 (pix p x) (pix_at hx px).1 (by unfold dwn; rw [lat_pix hx px]; exact qx)
    rw [← H.cjr G hx ha px pa] at this
    unfold dwn at this
    rwa [lat_pix (G.cjr_lt hx ha) (cjr_in G hp hx ha px pa)] at this
  · intro h i hi j hj hd
    obtain ⟨a1, a2, _, a4⟩ := lat_at hi
    obtain ⟨b1, b2, _, b4⟩ := lat_at hj
    have := h _ _ a1 b1 a2 b2 hd
    rw [← a4, ← b4, ← H.cjr G b1 a1 b2 a2]
    unfold dwn
    rwa [lat_pix (G.cjr_lt b1 a1) (cjr_in G hp b1 a1 b2 a2)]
theorem dwn_len (hle : ∀ x, x < n → q x = true → p x = true) : (mem (thl n p).length (dwn n p q)).length = (mem n q).length := by
  have h1 := congrArg List.length (lft_thl p (dwn n p q) n)
  rw [List.length_map] at h1
  have e1 : (thl (thl n p).length (dwn n p q)).length = (mem (thl n p).length (dwn n p q)).length := thl_len _ _
  have e2 : (thl n (lft p (dwn n p q))).length = (mem n (lft p (dwn n p q))).length := thl_len _ _
  rw [← e1, h1, e2, mem_congr (lft_dwn hle)]

/-- The quotient of a subgroup by what is normal in it. -/
theorem step_hm (G : Grp n f e) (hp : Sub n f e p) (hq : Sub n f e q) (hle : ∀ x, x < n → q x = true → p x = true) (hN : ∀ a x, a < n → x < n → p a = true → p x = true → q x = true → q (cjr n f e x a) = true) :
    ∃ k g d φ, Hm n f e p k g d φ ∧ (∀ x, x < n → pre p φ (onp d) x = q x) ∧ k * (mem n q).length = (mem n p).length := by
  have H := part_hm G hp
  have P := H.grp
  have ds := dwn_sub G hp hq
  have K := quot_hm P ds ((dwn_nml G hp).2 hN)
  refine ⟨_, _, _, _, H.comp K, fun x hx => ?_, ?_⟩
  · unfold pre
    cases px : p x with
    | false =>
      cases qx : q x with
      | false => rfl
      | true => rw [hle x hx qx] at px; cases px
    | true =>
      rw [Bool.true_and, Bool.eq_iff_iff, onp_iff, quot_ker P ds (H.lt x hx px)]
      unfold dwn
      rw [lat_pix hx px]
  · have := quot_num P ds
    rw [dwn_len hle] at this
    have e1 : (thl n p).length = (mem n p).length := thl_len _ _
    rw [← e1]; exact this
theorem Mxn.hm (G : Grp n f e) (hp : Sub n f e p) (h : Mxn n f e p q) : ∃ k g d φ, Hm n f e p k g d φ ∧ (∀ x, x < n → pre p φ (onp d) x = q x) ∧ k * (mem n q).length = (mem n p).length ∧ Mxn k g d (fun _ => true) (onp d) := by
  obtain ⟨k, g, d, φ, H, h1, h2⟩ := step_hm G hp h.sub h.le fun a x ha hx pa _ qx => h.nml a x ha hx pa qx
  refine ⟨k, g, d, φ, H, h1, h2, H.of_pre G H.grp.onp_sub ?_⟩
  refine (h.congr_r G (H.pre_sub G H.grp.onp_sub) h1).congr_l fun x hx => ?_
  show (p x && true) = p x
  rw [Bool.and_true]

end
end Go.Proofs.YtboadfahlflmhaaDoor

/-
  Plain: homomorphisms, and how a map of some things is spread. Conditions: none.
-/
set_option linter.all false
namespace Go.Proofs.YtboadfahlflmhaaDoor

/-- A homomorphism. -/
structure Hmo (n : Nat) (f : Nat → Nat → Nat) (N : Nat) (g : Nat → Nat → Nat) (φ : Nat → Nat) : Prop where
  lt : ∀ a, a < n → φ a < N
  mul : ∀ a b, a < n → b < n → φ (f a b) = g (φ a) (φ b)

/-- It takes some things where it is told. -/
def Ext (n : Nat) (f : Nat → Nat → Nat) (N : Nat) (g : Nat → Nat → Nat) (F T : List Nat) (φ : Nat → Nat) : Prop := Hmo n f N g φ ∧ ∀ i, i < F.length → φ (F.getD i 0) = T.getD i 0

/-- What is reached: a thing, and what must stand for it. -/
inductive Rch (f : Nat → Nat → Nat) (e : Nat) (g : Nat → Nat → Nat) (d : Nat) (F T : List Nat) : Nat → Nat → Prop
  | one : Rch f e g d F T e d
  | step {a y : Nat} (i : Nat) (hi : i < F.length) (h : Rch f e g d F T a y) : Rch f e g d F T (f a (F.getD i 0)) (g y (T.getD i 0))

/-- A map as a row: -1 where nothing stands yet. -/
def prow (n : Nat) (S : Nat → Bool) (ψ : Nat → Nat) : List Int := (List.range n).map fun a => if S a then ((ψ a : Nat) : Int) else -1
def tbm (n : Nat) (φ : Nat → Nat) : List Int := (List.range n).map fun a => ((φ a : Nat) : Int)
def upd1 (S : Nat → Bool) (b : Nat) : Nat → Bool := fun x => S x || decide (x = b)
def updF (ψ : Nat → Nat) (b y : Nat) : Nat → Nat := fun x => if x = b then y else ψ x

theorem prow_len (n : Nat) (S : Nat → Bool) (ψ : Nat → Nat) : (prow n S ψ).length = n := by simp [prow]
theorem tbm_len (n : Nat) (φ : Nat → Nat) : (tbm n φ).length = n := by simp [tbm]
theorem prow_get {n : Nat} {S : Nat → Bool} {ψ : Nat → Nat} {a : Nat} (ha : a < n) : (prow n S ψ).getD a 0 = if S a then ((ψ a : Nat) : Int) else -1 := by
  simp [prow, List.getD, ha]
theorem tbm_get {n : Nat} {φ : Nat → Nat} {a : Nat} (ha : a < n) : (tbm n φ).getD a 0 = ((φ a : Nat) : Int) := by
  simp [tbm, List.getD, ha]
theorem prow_set {n : Nat} {S : Nat → Bool} {ψ : Nat → Nat} {b y : Nat} (hb : b < n) (hS : S b = false) : (prow n S ψ).set b ((y : Nat) : Int) = prow n (upd1 S b) (updF ψ b y) := by
  refine List.ext_getElem (by simp [prow]) fun i h1 h2 => ?_
  rw [List.getElem_set]
  by_cases e : b = i
  · subst e
    simp [prow, upd1, updF]
  · rw [if_neg e]
    simp [prow, upd1, updF, Ne.symm e]
theorem prow_all {n : Nat} {S : Nat → Bool} {ψ φ : Nat → Nat} (h : ∀ a, a < n → S a = true ∧ ψ a = φ a) : prow n S ψ = tbm n φ := by
  refine List.map_congr_left fun a ha => ?_
  obtain ⟨h1, h2⟩ := h a (List.mem_range.1 ha)
  rw [h1, h2]; rfl
theorem upd1_true {S : Nat → Bool} {b x : Nat} : upd1 S b x = true ↔ S x = true ∨ x = b := by simp [upd1]
theorem updF_ne {ψ : Nat → Nat} {b y x : Nat} (h : x ≠ b) : updF ψ b y x = ψ x := by simp [updF, h]
theorem updF_eq {ψ : Nat → Nat} {b y : Nat} : updF ψ b y b = y := by simp [updF]

/-- How many stand out. -/
def outs (n : Nat) (S : Nat → Bool) : Nat := (mem n fun a => !S a).length
theorem outs_upd {n : Nat} {S : Nat → Bool} {b : Nat} (hb : b < n) (hS : S b = false) : outs n (upd1 S b) + 1 = outs n S := by
  unfold outs mem
  induction n with
  | zero => omega
  | succ n ih =>
    rw [List.range_succ, List.filter_append, List.filter_append, List.length_append, List.length_append]
    by_cases e : b = n
    · subst e
      have h0 : (List.range b).filter (fun a => !upd1 S b a) = (List.range b).filter (fun a => !S a) := List.filter_congr fun x hx => by
        have := List.mem_range.1 hx
        simp [upd1, show x ≠ b by omega]
      rw [h0]
      simp [upd1, hS]
    · have := ih (by omega)
      have h1 : upd1 S b n = S n := by simp [upd1, Ne.symm e]
      simp only [List.filter_cons, h1, List.filter_nil]
      omega

section
variable {n N e d : Nat} {f g : Nat → Nat → Nat} {F T : List Nat} {φ : Nat → Nat}
theorem Hmo.one (G : Grp n f e) (K : Grp N g d) (h : Hmo n f N g φ) : φ e = d := by
  have h1 := h.mul e e G.el G.el
  rw [G.one_l e G.el] at h1
  have h2 := h.lt e G.el
  have h3 := K.assoc (iv N g d (φ e)) (φ e) (φ e) (K.iv_lt h2) h2 h2
  rw [K.iv_mul h2, ← h1, K.iv_mul h2, K.one_l _ h2] at h3
  exact h3
theorem Rch.fun_ (G : Grp n f e) (K : Grp N g d) (hF : ∀ i, i < F.length → F.getD i 0 < n) (h : Ext n f N g F T φ) {a y : Nat} (hr : Rch f e g d F T a y) : a < n ∧ φ a = y := by
  induction hr with
  | one => exact ⟨G.el, h.1.one G K⟩
  | step i hi _ ih =>
    obtain ⟨h1, h2⟩ := ih
    exact ⟨G.cl _ _ h1 (hF i hi), by rw [h.1.mul _ _ h1 (hF i hi), h2, h.2 i hi]⟩

/-- Where the spreading stands. -/
structure Sprd (n : Nat) (f : Nat → Nat → Nat) (e N : Nat) (g : Nat → Nat → Nat) (d : Nat) (F T : List Nat) (S : Nat → Bool) (ψ : Nat → Nat) (W : List Nat) : Prop where
  one : S e = true ∧ ψ e = d
  lt : ∀ a, a < n → S a = true → ψ a < N
  rch : ∀ a, a < n → S a = true → Rch f e g d F T a (ψ a)
  wt : ∀ a ∈ W, a < n ∧ S a = true
  cl : ∀ a, a < n → S a = true → a ∉ W → ∀ i, i < F.length → S (f a (F.getD i 0)) = true ∧ ψ (f a (F.getD i 0)) = g (ψ a) (T.getD i 0)

/-- Within a round. -/
structure Sprd2 (n : Nat) (f : Nat → Nat → Nat) (e N : Nat) (g : Nat → Nat → Nat) (d : Nat) (F T : List Nat) (a0 i0 : Nat) (S : Nat → Bool) (ψ : Nat → Nat) (W : List Nat) : Prop where
  one : S e = true ∧ ψ e = d
  lt : ∀ a, a < n → S a = true → ψ a < N
  rch : ∀ a, a < n → S a = true → Rch f e g d F T a (ψ a)
  wt : ∀ a ∈ W, a < n ∧ S a = true
  ha : a0 < n ∧ S a0 = true
  cl : ∀ a, a < n → S a = true → a ∉ W → ∀ i, i < F.length → (a = a0 → i < i0) → S (f a (F.getD i 0)) = true ∧ ψ (f a (F.getD i 0)) = g (ψ a) (T.getD i 0)

theorem Sprd.begin (G : Grp n f e) (K : Grp N g d) : Sprd n f e N g d F T (upd1 (fun _ => false) e) (updF (fun _ => 0) e d) [e] where
  one := ⟨by simp [upd1], updF_eq⟩
  lt a ha h := by
    have : a = e := by simpa [upd1] using h
    rw [this, updF_eq]; exact K.el
  rch a ha h := by
    have : a = e := by simpa [upd1] using h
    rw [this, updF_eq]; exact .one
  wt a ha := by
    have : a = e := by simpa using ha
    rw [this]; exact ⟨G.el, by simp [upd1]⟩
  cl a ha h hw := by
    have : a = e := by simpa [upd1] using h
    exact absurd (by simp [this]) hw
theorem Sprd.pop {S : Nat → Bool} {ψ : Nat → Nat} {a : Nat} {W : List Nat} (h : Sprd n f e N g d F T S ψ (a :: W)) : Sprd2 n f e N g d F T a 0 S ψ W where
  one := h.one
  lt := h.lt
  rch := h.rch
  wt x hx := h.wt x (by simp [hx])
  ha := h.wt a (by simp)
  cl x hx hS hW i hi hai := by
    by_cases e : x = a
    · have := hai e; omega
    · exact h.cl x hx hS (by simp [e, hW]) i hi
theorem Sprd2.done {S : Nat → Bool} {ψ : Nat → Nat} {a : Nat} {W : List Nat} (h : Sprd2 n f e N g d F T a F.length S ψ W) : Sprd n f e N g d F T S ψ W where
  one := h.one
  lt := h.lt
  rch := h.rch
  wt := h.wt
  cl x hx hS hW i hi := h.cl x hx hS hW i hi fun _ => hi
theorem Sprd2.push (G : Grp n f e) (K : Grp N g d) (hF : ∀ i, i < F.length → F.getD i 0 < n) (hT : ∀ i, i < F.length → T.getD i 0 < N) {S : Nat → Bool} {ψ : Nat → Nat} {a i : Nat} {W : List Nat} (h : Sprd2 n f e N g d F T a i S ψ W) (hi : i < F.length) (hb : S (f a (F.getD i 0)) = false) :
    Sprd2 n f e N g d F T a (i + 1) (upd1 S (f a (F.getD i 0))) (updF ψ (f a (F.getD i 0)) (g (ψ a) (T.getD i 0))) (W ++ [f a (F.getD i 0)]) := by
  have hbn := G.cl _ _ h.ha.1 (hF i hi)
  have hne : ∀ x, S x = true → x ≠ f a (F.getD i 0) := fun x hx e => by rw [e, hb] at hx; cases hx
  refine ⟨⟨upd1_true.2 (.inl h.one.1), by rw [updF_ne (hne _ h.one.1)]; exact h.one.2⟩, fun x hx hS => ?_, fun x hx hS => ?_, fun x hx => ?_, ⟨h.ha.1, upd1_true.2 (.inl h.ha.2)⟩, fun x hx hS hW j hj hji => ?_⟩
  · rcases upd1_true.1 hS with h1 | rfl
    · rw [updF_ne (hne _ h1)]; exact h.lt x hx h1
    · rw [updF_eq]; exact K.cl _ _ (h.lt a h.ha.1 h.ha.2) (hT i hi)
  · rcases upd1_true.1 hS with h1 | rfl
    · rw [updF_ne (hne _ h1)]; exact h.rch x hx h1
    · rw [updF_eq]; exact .step i hi (h.rch a h.ha.1 h.ha.2)
  · rcases List.mem_append.1 hx with hx | hx
    · obtain ⟨h1, h2⟩ := h.wt x hx
      exact ⟨h1, upd1_true.2 (.inl h2)⟩
    · have : x = f a (F.getD i 0) := by simpa using hx
      rw [this]; exact ⟨hbn, upd1_true.2 (.inr rfl)⟩
  · have hW1 : x ∉ W := fun hh => hW (by simp [hh])
    have hxb : x ≠ f a (F.getD i 0) := fun hh => hW (by simp [hh])
    have hSx : S x = true := (upd1_true.1 hS).resolve_right hxb
    rw [updF_ne hxb]
    by_cases e : x = a ∧ j = i
    · obtain ⟨rfl, rfl⟩ := e
      exact ⟨upd1_true.2 (.inr rfl), updF_eq⟩
    · obtain ⟨k1, k2⟩ := h.cl x hx hSx hW1 j hj fun ea => by
        have := hji ea
        have : j ≠ i := fun ej => e ⟨ea, ej⟩
        omega
      exact ⟨upd1_true.2 (.inl k1), by rw [updF_ne (hne _ k1)]; exact k2⟩
theorem Sprd2.keep {S : Nat → Bool} {ψ : Nat → Nat} {a i : Nat} {W : List Nat} (h : Sprd2 n f e N g d F T a i S ψ W) (hb : S (f a (F.getD i 0)) = true) (hv : ψ (f a (F.getD i 0)) = g (ψ a) (T.getD i 0)) :
    Sprd2 n f e N g d F T a (i + 1) S ψ W :=
  ⟨h.one, h.lt, h.rch, h.wt, h.ha, fun x hx hS hW j hj hji => by
    by_cases e : x = a ∧ j = i
    · obtain ⟨rfl, rfl⟩ := e
      exact ⟨hb, hv⟩
    · exact h.cl x hx hS hW j hj fun ea => by
        have := hji ea
        have : j ≠ i := fun ej => e ⟨ea, ej⟩
        omega⟩

/-- At the end all is reached, and it is a homomorphism. -/
theorem Sprd.fin (G : Grp n f e) (K : Grp N g d) (hF : ∀ i, i < F.length → F.getD i 0 < n) (hT : ∀ i, i < F.length → T.getD i 0 < N) (hgen : ∀ a, a < n → Gen n f e (fun x => decide (x ∈ F)) a) {S : Nat → Bool} {ψ : Nat → Nat} (h : Sprd n f e N g d F T S ψ []) :
    (∀ a, a < n → S a = true) ∧ Ext n f N g F T ψ := by
  have hall : ∀ a, a < n → S a = true := fun a ha => Gen.least (H := fun a => S a = true) h.one.1 (fun a b hga hb hp hSa => by
    have hp : b ∈ F := by simpa using hp
    obtain ⟨i, hi, rfl⟩ := List.getElem_of_mem hp
    have e1 : F[i] = F.getD i 0 := by simp [List.getD, List.getElem?_eq_getElem hi]
    rw [e1]
    exact (h.cl a (hga.lt G) hSa (by simp) i hi).1) (hgen a ha)
  have hmul : ∀ a, a < n → ∀ b, b < n → ψ (f a b) = g (ψ a) (ψ b) := fun a ha b hb => by
    refine Gen.least (H := fun b => ψ (f a b) = g (ψ a) (ψ b)) ?_ (fun c x hgc hx hp ih => ?_) (hgen b hb)
    · rw [G.one_r a ha, h.one.2, K.one_r _ (h.lt a ha (hall a ha))]
    · have hp : x ∈ F := by simpa using hp
      obtain ⟨i, hi, rfl⟩ := List.getElem_of_mem hp
      have e1 : F[i] = F.getD i 0 := by simp [List.getD, List.getElem?_eq_getElem hi]
      rw [e1]
      have hc := hgc.lt G
      have hac := G.cl a c ha hc
      rw [← G.assoc a c _ ha hc (hF i hi), (h.cl _ hac (hall _ hac) (by simp) i hi).2, (h.cl c hc (hall c hc) (by simp) i hi).2, ih, K.assoc _ _ _ (h.lt a ha (hall a ha)) (h.lt c hc (hall c hc)) (hT i hi)]
  refine ⟨hall, ⟨fun a ha => h.lt a ha (hall a ha), fun a b ha hb => hmul a ha b hb⟩, fun i hi => ?_⟩
  have h1 := (h.cl e G.el h.one.1 (by simp) i hi).2
  rw [G.one_l _ (hF i hi), h.one.2, K.one_l _ (hT i hi)] at h1
  exact h1
end
end Go.Proofs.YtboadfahlflmhaaDoor

/-
  Walks: maps of groups: the fault of a map. Conditions: none.
-/
set_option linter.all false
namespace Go.Proofs.YtboadfahlflmhaaDoor
open Go.Pv

/-- The fault of two groups. -/
def tg (N : Int) (m : List Int) (N' : Int) (m' : List Int) : Int × Int := if (gf N m).1 = 0 then gf N' m' else gf N m

theorem tg_zero {N N' : Int} {m m' : List Int} (h : (tg N m N' m').1 = 0) : (gf N m).1 = 0 ∧ (gf N' m').1 = 0 := by
  unfold tg at h
  by_cases h1 : (gf N m).1 = 0
  · rw [if_pos h1] at h; exact ⟨h1, h⟩
  · rw [if_neg h1] at h; exact absurd h h1

theorem homBoth_c (N : Int) (m : List Int) (N' : Int) (m' : List Int) (hm : m.length ≤ 1000000000000000) (hm' : m'.length ≤ 1000000000000000) : FnC Tryd.prog 92 [gp N m, gp N' m'] (fl (tg N m N' m')) := by
  refine fnc_of tab_ok Tryd.func92 rfl (by kernel_rfl) (by rw [Tryd.ntmps92]; exact Nat.le_add_left 2 _) ?_; rw [Tryd.ntmps92]
  refine qm ?_
  refine hk_region fun K hK => runs_eval tab_ok ?_
  simp only [ev0, evA, evB, evP, fl, gp, tab, simprocAttr, reduceCtorEq, reduceIte]
  refine fin_run ?_ (hK _ ?_) <;> clear hK <;> clear K
  · (first | exact trivial | omega | (simp only [In64] at *; omega) | (simp [In64] at *; omega) | (simp_all; done) | skip)
  refine qa (qm (qm ?_))
  refine hk_region fun K hK => runs_eval tab_ok ?_
  simp only [ev0, evA, evB, evP, fl, gp, tab, simprocAttr, reduceCtorEq, reduceIte]
  refine fin_stop trivial (runs_call (check_c N m hm) rfl rfl rfl (by simp only [dstOk, Nat.reduceLT]) (by repeat (first | exact trivial | constructor)) (runs_eval tab_ok ?_))
  simp only [ev0, evA, evB, evP, fl, gp, tab, simprocAttr, reduceCtorEq, reduceIte]
  refine fin_run ?_ (hK _ ?_) <;> clear hK <;> clear K
  · (first | exact trivial | omega | (simp only [In64] at *; omega) | (simp [In64] at *; omega) | (simp_all; done) | skip)
  refine qa (qm ?_)
  refine hk_region fun K hK => runs_eval tab_ok ?_
  simp only [ev0, evA, evB, evP, fl, gp, tab, simprocAttr, reduceCtorEq, reduceIte]
  refine fin_run ?_ (hK _ ?_) <;> clear hK <;> clear K
  · (first | exact trivial | omega | (simp only [In64] at *; omega) | (simp [In64] at *; omega) | (simp_all; done) | skip)
  refine qa ?_
  refine hk_cond rfl (fun hC1 => ?_) (fun hC1 => ?_)
  · (try simp only [nhs] at hC1)
    refine qm ?_
    refine hk_region fun K hK => runs_eval tab_ok ?_
    simp only [ev0, evA, evB, evP, fl, gp, tab, simprocAttr, reduceCtorEq, reduceIte]
    refine fin_run ?_ (hK _ ?_) <;> clear hK <;> clear K
    · (first | exact trivial | omega | (simp only [In64] at *; omega) | (simp [In64] at *; omega) | (simp_all; done) | skip)
    refine qa (qk (qb ?_))
    simp only [Tryd.results92, enA, ev0, evA, evB, evP, fl, gp, tab, simprocAttr, reduceCtorEq, reduceIte]
    all_goals (unfold tg; rw [if_neg hC1]; simp)
  · (try simp only [nhs] at hC1)
    refine qh (qa (qm ?_))
    refine hk_region fun K hK => runs_eval tab_ok ?_
    simp only [ev0, evA, evB, evP, fl, gp, tab, simprocAttr, reduceCtorEq, reduceIte]
    refine fin_stop trivial (runs_call (check_c N' m' hm') rfl rfl rfl (by simp only [dstOk, Nat.reduceLT]) (by repeat (first | exact trivial | constructor)) (runs_eval tab_ok ?_))
    simp only [ev0, evA, evB, evP, fl, gp, tab, simprocAttr, reduceCtorEq, reduceIte]
    refine fin_run ?_ (hK _ ?_) <;> clear hK <;> clear K
    · (first | exact trivial | omega | (simp only [In64] at *; omega) | (simp [In64] at *; omega) | (simp_all; done) | skip)
    refine qa (qk ?_)
    simp only [Tryd.results92, enA, ev0, evA, evB, evP, fl, gp, tab, simprocAttr, reduceCtorEq, reduceIte]
    all_goals (unfold tg; rw [if_pos hC1]; simp)

theorem homFlt_c (c a : Int) : FnC Tryd.prog 77 [.int .i64 c, .int .i64 a] (fl (c, a)) := by
  refine fnc_of tab_ok Tryd.func77 rfl (by kernel_rfl) (by rw [Tryd.ntmps77]; exact Nat.le_add_left 2 _) ?_; rw [Tryd.ntmps77]
  refine qm ?_
  refine hk_region fun K hK => runs_eval tab_ok ?_
  simp only [ev0, evA, evB, evP, fl, gp, tab, simprocAttr, reduceCtorEq, reduceIte]
  refine fin_run ?_ (hK _ ?_) <;> clear hK <;> clear K
  · (first | exact trivial | omega | (simp only [In64] at *; omega) | (simp [In64] at *; omega) | (simp_all; done) | skip)
  refine qa (qm ?_)
  refine hk_region fun K hK => runs_eval tab_ok ?_
  simp only [ev0, evA, evB, evP, fl, gp, tab, simprocAttr, reduceCtorEq, reduceIte]
  refine fin_run ?_ (hK _ ?_) <;> clear hK <;> clear K
  · (first | exact trivial | omega | (simp only [In64] at *; omega) | (simp [In64] at *; omega) | (simp_all; done) | skip)
  refine qa (qk ?_)
  simp only [Tryd.results77, enA, ev0, evA, evB, evP, fl, gp, tab, simprocAttr, reduceCtorEq, reduceIte]
  all_goals (rfl)

/-- The value of a map. -/
def hv (l : List Int) (a : Nat) : Nat := (l.getD a 0).toNat
def hgood (m m' l : List Int) (n n' a : Nat) : Prop := ∀ b, b < n → op m' n' (hv l a) (hv l b) = hv l (op m n a b)
instance (m m' l : List Int) (n n' a : Nat) : Decidable (hgood m m' l n n' a) := by unfold hgood; infer_instance
def homf2 (m m' l : List Int) (n n' : Nat) : Int × Int :=
  match fst' (fun a => decide (¬ hgood m m' l n n' a)) n with
  | some a => (7, (a : Int))
  | none => (0, 0)
/-- THE FAULT of a map of groups. -/
def homf (N : Int) (m : List Int) (N' : Int) (m' l : List Int) : Int × Int :=
  if ¬ (tg N m N' m').1 = 0 then tg N m N' m'
  else if ¬ (l.length : Int) = N then (8, 0)
  else match fst' (bad N' l) l.length with
    | some i => (3, (i : Int))
    | none => homf2 m m' l N.toNat N'.toNat

theorem homf_tg {N N' : Int} {m m' l : List Int} (h : ¬ (tg N m N' m').1 = 0) : homf N m N' m' l = tg N m N' m' := by unfold homf; rw [if_pos h]
theorem homf_8 {N N' : Int} {m m' l : List Int} (h : (tg N m N' m').1 = 0) (h2 : ¬ (l.length : Int) = N) : homf N m N' m' l = (8, 0) := by unfold homf; rw [if_neg (by simpa using h), if_pos h2]
theorem homf_3 {N N' : Int} {m m' l : List Int} (h : (tg N m N' m').1 = 0) (h2 : (l.length : Int) = N) {i : Nat} (hi : i < l.length) (hb : bad N' l i = true) (hj : ∀ j, j < i → bad N' l j = false) : homf N m N' m' l = (3, (i : Int)) := by
  unfold homf; rw [if_neg (by simpa using h), if_neg (by simpa using h2), fst_some hi hb hj]
theorem homf_2 {n n' : Nat} {m m' l : List Int} (h : (tg n m n' m').1 = 0) (h2 : (l.length : Int) = n) (hj : ∀ j, j < l.length → bad n' l j = false) : homf n m n' m' l = homf2 m m' l n n' := by
  unfold homf; rw [if_neg (by simpa using h), if_neg (by simpa using h2), fst_none hj]
  rfl
theorem homf2_7 {n n' : Nat} {m m' l : List Int} {a : Nat} (ha : a < n) (hn : ¬ hgood m m' l n n' a) (hj : ∀ j, j < a → hgood m m' l n n' j) : homf2 m m' l n n' = (7, (a : Int)) := by
  have : fst' (fun a => decide (¬ hgood m m' l n n' a)) n = some a := fst_some ha (decide_eq_true hn) fun j h => decide_eq_false fun h' => h' (hj j h)
  unfold homf2; rw [this]
theorem homf2_0 {n n' : Nat} {m m' l : List Int} (hj : ∀ j, j < n → hgood m m' l n n' j) : homf2 m m' l n n' = (0, 0) := by
  have : fst' (fun a => decide (¬ hgood m m' l n n' a)) n = none := fst_none fun j h => decide_eq_false fun h' => h' (hj j h)
  unfold homf2; rw [this]
theorem hv_at {n' : Nat} {l : List Int} {a : Nat} (h : bad n' l a = false) : l.getD a 0 = ((hv l a : Nat) : Int) ∧ hv l a < n' := by
  have := of_decide_eq_false h
  unfold hv
  omega

/-- A map of groups. -/
def Hom (m m' l : List Int) (n n' : Nat) : Prop := l.length = n ∧ (∀ a, a < n → l.getD a 0 = ((hv l a : Nat) : Int) ∧ hv l a < n') ∧ ∀ a, a < n → hgood m m' l n n' a
theorem homf_ok {N N' : Int} {m m' l : List Int} (h : (homf N m N' m' l).1 = 0) : ∃ n e n' e' : Nat, GT N m n e ∧ GT N' m' n' e' ∧ Hom m m' l n n' ∧ homf N m N' m' l = (0, 0) := by
  by_cases h1 : (tg N m N' m').1 = 0
  · obtain ⟨z1, z2⟩ := tg_zero h1
    obtain ⟨n, e, g, _⟩ := gf_ok z1
    obtain ⟨n', e', g', _⟩ := gf_ok z2
    obtain rfl := g.1
    obtain rfl := g'.1
    by_cases h2 : (l.length : Int) = n
    · cases h3 : fst' (bad n' l) l.length with
      | some i =>
        obtain ⟨s1, s2, s3⟩ := fst_spec h3
        rw [homf_3 h1 h2 s1 s2 s3] at h
        simp at h
      | none =>
        have hb := fst_spec0 h3
        rw [homf_2 h1 h2 hb] at h ⊢
        cases h4 : fst' (fun a => decide (¬ hgood m m' l n n' a)) n with
        | some a =>
          unfold homf2 at h
          rw [h4] at h
          simp at h
        | none =>
          have hg : ∀ a, a < n → hgood m m' l n n' a := fun a ha => Classical.not_not.1 (of_decide_eq_false (fst_spec0 h4 a ha))
          exact ⟨n, e, n', e', g, g', ⟨by omega, fun a ha => hv_at (hb a (by omega)), hg⟩, homf2_0 hg⟩
    · rw [homf_8 h1 h2] at h; simp at h
  · rw [homf_tg h1] at h; exact absurd h h1

set_option maxHeartbeats 2000000 in
theorem homCheck_c (N : Int) (m : List Int) (N' : Int) (m' l : List Int) (hm : m.length ≤ 1000000000000000) (hm' : m'.length ≤ 1000000000000000) : FnC Tryd.prog 101 [gp N m, gp N' m', .list (il l)] (fl (homf N m N' m' l)) := by
  refine fnc_of tab_ok Tryd.func101 rfl (by kernel_rfl) (by rw [Tryd.ntmps101]; exact Nat.le_add_left 3 _) ?_; rw [Tryd.ntmps101]
  refine qm ?_
  refine hk_region fun K hK => runs_eval tab_ok ?_
  simp only [ev0, evA, evB, evP, fl, gp, tab, simprocAttr, reduceCtorEq, reduceIte]
  refine fin_run ?_ (hK _ ?_) <;> clear hK <;> clear K
  · (first | exact trivial | omega | (simp only [In64] at *; omega) | (simp [In64] at *; omega) | (simp_all; done) | skip)
  refine qa (qm (qm ?_))
  refine hk_region fun K hK => runs_eval tab_ok ?_
  simp only [ev0, evA, evB, evP, fl, gp, tab, simprocAttr, reduceCtorEq, reduceIte]
  refine fin_stop trivial (runs_call (homBoth_c N m N' m' hm hm') rfl rfl rfl (by simp only [dstOk, Nat.reduceLT]) (by repeat (first | exact trivial | constructor)) (runs_eval tab_ok ?_))
  simp only [ev0, evA, evB, evP, fl, gp, tab, simprocAttr, reduceCtorEq, reduceIte]
  refine fin_run ?_ (hK _ ?_) <;> clear hK <;> clear K
  · (first | exact trivial | omega | (simp only [In64] at *; omega) | (simp [In64] at *; omega) | (simp_all; done) | skip)
  refine qa (qm ?_)
  refine hk_region fun K hK => runs_eval tab_ok ?_
  simp only [ev0, evA, evB, evP, fl, gp, tab, simprocAttr, reduceCtorEq, reduceIte]
  refine fin_run ?_ (hK _ ?_) <;> clear hK <;> clear K
  · (first | exact trivial | omega | (simp only [In64] at *; omega) | (simp [In64] at *; omega) | (simp_all; done) | skip)
  refine qa ?_
  refine hk_cond rfl (fun hC1 => ?_) (fun hC1 => ?_)
  · (try simp only [nhs] at hC1)
    refine qm ?_
    refine hk_region fun K hK => runs_eval tab_ok ?_
    simp only [ev0, evA, evB, evP, fl, gp, tab, simprocAttr, reduceCtorEq, reduceIte]
    refine fin_run ?_ (hK _ ?_) <;> clear hK <;> clear K
    · (first | exact trivial | omega | (simp only [In64] at *; omega) | (simp [In64] at *; omega) | (simp_all; done) | skip)
    refine qa (qk (qb ?_))
    simp only [Tryd.results101, enA, ev0, evA, evB, evP, fl, gp, tab, simprocAttr, reduceCtorEq, reduceIte]
    all_goals (rw [homf_tg hC1]; simp)
  · (try simp only [nhs] at hC1)
    obtain ⟨z1, z2⟩ := tg_zero hC1
    obtain ⟨n, e, g, _⟩ := gf_ok z1
    obtain ⟨n', e', g', _⟩ := gf_ok z2
    obtain rfl := g.1
    obtain rfl := g'.1
    have T := g.2.1
    have T' := g'.2.1
    have hb := T.big
    refine qh (qa (qm (qm ?_)))
    refine hk_region fun K hK => runs_eval tab_ok ?_
    simp only [ev0, evA, evB, evP, fl, gp, tab, simprocAttr, reduceCtorEq, reduceIte]
    refine fin_run ?_ (hK _ ?_) <;> clear hK <;> clear K
    · (first | exact trivial | omega | (simp only [In64] at *; omega) | (simp [In64] at *; omega) | (simp_all; done) | skip)
    refine qa ?_
    refine hk_cond rfl (fun hC2 => ?_) (fun hC2 => ?_)
    · (try simp only [nhs] at hC2)
      refine qm ?_
      refine hk_region fun K hK => runs_eval tab_ok ?_
      simp only [ev0, evA, evB, evP, fl, gp, tab, simprocAttr, reduceCtorEq, reduceIte]
      refine fin_stop trivial (runs_call (homFlt_c 8 0) rfl rfl rfl (by simp only [dstOk, Nat.reduceLT]) (by repeat (first | exact trivial | constructor)) (runs_eval tab_ok ?_))
      simp only [ev0, evA, evB, evP, fl, gp, tab, simprocAttr, reduceCtorEq, reduceIte]
      refine fin_run ?_ (hK _ ?_) <;> clear hK <;> clear K
      · (first | exact trivial | omega | (simp only [In64] at *; omega) | (simp [In64] at *; omega) | (simp_all; done) | skip)
      refine qa (qk (qb ?_))
      simp only [Tryd.results101, enA, ev0, evA, evB, evP, fl, gp, tab, simprocAttr, reduceCtorEq, reduceIte]
      all_goals (rw [homf_8 hC1 hC2]; simp)
    · (try simp only [nhs] at hC2)
      refine qh (qa (qm (qm ?_)))
      refine hk_region fun K hK => runs_eval tab_ok ?_
      simp only [ev0, evA, evB, evP, fl, gp, tab, simprocAttr, reduceCtorEq, reduceIte]
      refine fin_run trivial (hK _ ?_) <;> clear hK <;> clear K
      refine qa (ql ?_)
      refine hk_loop (ι := Nat) (fun i => ⟨76, [(2, .p (.list (il l))), (3, .ptr 0 0), (4, .ptr 1 0), (6, .ptr 2 0), (25, .p (.list (il l))), (26, .p (.int .i64 l.length)), (27, .p (.int .i64 i))], [.own [.p (.int .i64 n), .p (.list (il m))], .own [.p (.int .i64 n'), .p (.list (il m'))], .own [.p (.int .i64 0), .p (.int .i64 0)]]⟩) (fun i => i ≤ l.length ∧ ∀ j, j < i → bad n' l j = false) (fun i => l.length - i) 0 ⟨Nat.zero_le _, fun j hj => by omega⟩ [0, 1, 2] (by simp only [leq, leA, ev0, evA, evB, evP, fl, gp, tab, simprocAttr, reduceCtorEq, reduceIte] <;> trivial) fun i hi => ?_
      obtain ⟨hi1, hi2⟩ := hi
      refine qm ?_
      refine hk_region fun K hK => runs_eval tab_ok ?_
      simp only [ev0, evA, evB, evP, fl, gp, tab, simprocAttr, reduceCtorEq, reduceIte]
      refine fin_run trivial (hK _ ?_) <;> clear hK <;> clear K
      refine qa (qm ?_)
      refine hk_cond rfl (fun hC3 => ?_) (fun hC3 => ?_)
      · (try simp only [nhs] at hC3)
        have hlt : i < l.length := by omega
        refine qh (qa (qm (ql (qm ?_))))
        refine hk_region fun K hK => runs_eval tab_ok ?_
        simp only [ev0, evA, evB, evP, fl, gp, tab, simprocAttr, reduceCtorEq, reduceIte, il_get hlt]
        refine fin_run ?_ (hK _ ?_) <;> clear hK <;> clear K
        · (first | exact trivial | omega | (simp only [In64] at *; omega) | (simp [In64] at *; omega) | (simp_all; done) | skip)
        refine qa (qm ?_)
        by_cases g9a : l.getD i 0 < 0
        · refine hk_region fun K hK => runs_eval tab_ok ?_
          simp only [ev0, evA, evB, evP, fl, gp, tab, simprocAttr, reduceCtorEq, reduceIte, decide_eq_true g9a]
          refine fin_run trivial (hK _ ?_) <;> clear hK <;> clear K
          refine qa ?_
          refine hk_cond rfl (fun hC4 => ?_) (fun hC4 => ?_)
          · refine qm ?_
            refine hk_region fun K hK => runs_eval tab_ok ?_
            simp only [ev0, evA, evB, evP, fl, gp, tab, simprocAttr, reduceCtorEq, reduceIte]
            refine fin_stop trivial (runs_call (homFlt_c 3 i) rfl rfl rfl (by simp only [dstOk, Nat.reduceLT]) (by repeat (first | exact trivial | constructor)) (runs_eval tab_ok ?_))
            simp only [ev0, evA, evB, evP, fl, gp, tab, simprocAttr, reduceCtorEq, reduceIte]
            refine fin_run ?_ (hK _ ?_) <;> clear hK <;> clear K
            · (first | exact trivial | omega | (simp only [In64] at *; omega) | (simp [In64] at *; omega) | (simp_all; done) | skip)
            refine qa (qk (qe (qb (qb (qe (qb ?_))))))
            simp only [Tryd.results101, enA, ev0, evA, evB, evP, fl, gp, tab, simprocAttr, reduceCtorEq, reduceIte]
            all_goals (rw [homf_3 hC1 hC2 hlt (decide_eq_true (.inl g9a)) hi2]; simp)
          · cases hC4
        · refine hk_region fun K hK => runs_eval tab_ok ?_
          simp only [ev0, evA, evB, evP, fl, gp, tab, simprocAttr, reduceCtorEq, reduceIte, decide_eq_false g9a]
          refine fin_run ?_ (hK _ ?_) <;> clear hK <;> clear K
          · (first | exact trivial | omega | (simp only [In64] at *; omega) | (simp [In64] at *; omega) | (simp_all; done) | skip)
          refine qa ?_
          refine hk_cond rfl (fun hC4 => ?_) (fun hC4 => ?_)
          · (try simp only [nhs] at hC4)
            refine qm ?_
            refine hk_region fun K hK => runs_eval tab_ok ?_
            simp only [ev0, evA, evB, evP, fl, gp, tab, simprocAttr, reduceCtorEq, reduceIte]
            refine fin_stop trivial (runs_call (homFlt_c 3 i) rfl rfl rfl (by simp only [dstOk, Nat.reduceLT]) (by repeat (first | exact trivial | constructor)) (runs_eval tab_ok ?_))
            simp only [ev0, evA, evB, evP, fl, gp, tab, simprocAttr, reduceCtorEq, reduceIte]
            refine fin_run ?_ (hK _ ?_) <;> clear hK <;> clear K
            · (first | exact trivial | omega | (simp only [In64] at *; omega) | (simp [In64] at *; omega) | (simp_all; done) | skip)
            refine qa (qk (qe (qb (qb (qe (qb ?_))))))
            simp only [Tryd.results101, enA, ev0, evA, evB, evP, fl, gp, tab, simprocAttr, reduceCtorEq, reduceIte]
            all_goals (rw [homf_3 hC1 hC2 hlt (decide_eq_true (.inr hC4)) hi2]; simp)
          · (try simp only [nhs] at hC4)
            refine qh (qd (qa ?_))
            refine hk_region fun K hK => runs_eval tab_ok ?_
            simp only [ev0, evA, evB, evP, fl, gp, tab, simprocAttr, reduceCtorEq, reduceIte]
            refine fin_run ?_ (hK _ ?_) <;> clear hK <;> clear K
            · (first | exact trivial | omega | (simp only [In64] at *; omega) | (simp [In64] at *; omega) | (simp_all; done) | skip)
            refine qa ?_
            refine ⟨i + 1, [0, 1, 2], ⟨by omega, fun j hj => ?_⟩, by omega, ?_⟩
            · by_cases hj : j = i
              · subst hj; exact decide_eq_false (by omega)
              · exact hi2 j (by omega)
            · simp only [leq, leA, ev0, evA, evB, evP, fl, gp, tab, simprocAttr, reduceCtorEq, reduceIte] <;> omega
      · (try simp only [nhs] at hC3)
        have hall : ∀ j, j < l.length → bad n' l j = false := fun j hj => hi2 j (by omega)
        have hvv : ∀ a, a < n → l.getD a 0 = ((hv l a : Nat) : Int) ∧ hv l a < n' := fun a ha => hv_at (hall a (by omega))
        refine qj (qc (qc (qf (qa (qm (qm ?_))))))
        refine hk_region fun K hK => runs_eval tab_ok ?_
        simp only [ev0, evA, evB, evP, fl, gp, tab, simprocAttr, reduceCtorEq, reduceIte]
        refine fin_run ?_ (hK _ ?_) <;> clear hK <;> clear K
        · (first | exact trivial | omega | (simp only [In64] at *; omega) | (simp [In64] at *; omega) | (simp_all; done) | skip)
        refine qa (ql ?_)
        refine hk_loop (ι := Nat) (fun a => ⟨76, [(2, .p (.list (il l))), (3, .ptr 0 0), (4, .ptr 1 0), (6, .ptr 2 0), (44, .p (.int .i64 n)), (45, .p (.int .i64 a))], [.own [.p (.int .i64 n), .p (.list (il m))], .own [.p (.int .i64 n'), .p (.list (il m'))], .own [.p (.int .i64 0), .p (.int .i64 0)]]⟩) (fun a => a ≤ n ∧ ∀ j, j < a → hgood m m' l n n' j) (fun a => n - a) 0 ⟨Nat.zero_le _, fun j hj => by omega⟩ [0, 1, 2] (by simp only [leq, leA, ev0, evA, evB, evP, fl, gp, tab, simprocAttr, reduceCtorEq, reduceIte] <;> trivial) fun a ha => ?_
        obtain ⟨ha1, ha2⟩ := ha
        refine qm ?_
        refine hk_region fun K hK => runs_eval tab_ok ?_
        simp only [ev0, evA, evB, evP, fl, gp, tab, simprocAttr, reduceCtorEq, reduceIte]
        refine fin_run trivial (hK _ ?_) <;> clear hK <;> clear K
        refine qa (qm ?_)
        refine hk_cond rfl (fun hC5 => ?_) (fun hC5 => ?_)
        · (try simp only [nhs] at hC5)
          have hal : a < n := by omega
          refine qh (qa (qm (ql (qm ?_))))
          refine hk_region fun K hK => runs_eval tab_ok ?_
          simp only [ev0, evA, evB, evP, fl, gp, tab, simprocAttr, reduceCtorEq, reduceIte]
          refine fin_run trivial (hK _ ?_) <;> clear hK <;> clear K
          refine qa (qm ?_)
          refine hk_region fun K hK => runs_eval tab_ok ?_
          simp only [ev0, evA, evB, evP, fl, gp, tab, simprocAttr, reduceCtorEq, reduceIte]
          refine fin_run ?_ (hK _ ?_) <;> clear hK <;> clear K
          · (first | exact trivial | omega | (simp only [In64] at *; omega) | (simp [In64] at *; omega) | (simp_all; done) | skip)
          refine qa (ql ?_)
          refine hk_loop (ι := Nat) (fun b => ⟨76, [(2, .p (.list (il l))), (3, .ptr 0 0), (4, .ptr 1 0), (6, .ptr 2 0), (10, .p (.int .i64 a)), (44, .p (.int .i64 n)), (45, .p (.int .i64 a)), (49, .p (.int .i64 n)), (50, .p (.int .i64 b))], [.own [.p (.int .i64 n), .p (.list (il m))], .own [.p (.int .i64 n'), .p (.list (il m'))], .own [.p (.int .i64 0), .p (.int .i64 0)]]⟩) (fun b => b ≤ n ∧ ∀ j, j < b → op m' n' (hv l a) (hv l j) = hv l (op m n a j)) (fun b => n - b) 0 ⟨Nat.zero_le _, fun j hj => by omega⟩ [0, 1, 2] (by simp only [leq, leA, ev0, evA, evB, evP, fl, gp, tab, simprocAttr, reduceCtorEq, reduceIte] <;> trivial) fun b hb => ?_
          obtain ⟨hb1, hb2⟩ := hb
          refine qm ?_
          refine hk_region fun K hK => runs_eval tab_ok ?_
          simp only [ev0, evA, evB, evP, fl, gp, tab, simprocAttr, reduceCtorEq, reduceIte]
          refine fin_run trivial (hK _ ?_) <;> clear hK <;> clear K
          refine qa (qm ?_)
          refine hk_cond rfl (fun hC6 => ?_) (fun hC6 => ?_)
          · (try simp only [nhs] at hC6)
            have hbl : b < n := by omega
            have hab := T.lt hal hbl
            obtain ⟨ea, la⟩ := hvv a hal
            obtain ⟨eb, lb⟩ := hvv b hbl
            obtain ⟨ec, lc⟩ := hvv _ hab
            refine qh (qa (qm (ql (qm ?_))))
            refine hk_region fun K hK => runs_eval tab_ok ?_
            simp only [ev0, evA, evB, evP, fl, gp, tab, simprocAttr, reduceCtorEq, reduceIte]
            refine fin_run trivial (hK _ ?_) <;> clear hK <;> clear K
            refine qa (qm ?_)
            refine hk_draw mixed (by kernel_rfl) fun K hK => runs_eval tab_ok ?_
            simp only [ev0, evA, evB, evP, fl, gp, tab, simprocAttr, reduceCtorEq, reduceIte, il_get (show a < l.length by omega), il_get (show b < l.length by omega), il_get (show op m n a b < l.length by omega), ea, eb, ec]
            refine fin_stop trivial (runs_call (of_c T hal hbl) rfl rfl rfl (by simp only [dstOk, Nat.reduceLT]) (by repeat (first | exact trivial | constructor)) (runs_eval tab_ok ?_))
            simp only [ev0, evA, evB, evP, fl, gp, tab, simprocAttr, reduceCtorEq, reduceIte, il_get (show a < l.length by omega), il_get (show b < l.length by omega), il_get (show op m n a b < l.length by omega), ea, eb, ec]
            refine fin_stop ?_ (runs_call (of_c T' la lb) rfl rfl rfl (by simp only [dstOk, Nat.reduceLT]) (by repeat (first | exact trivial | constructor)) (runs_eval tab_ok ?_))
            · (first | exact trivial | omega | (simp only [In64] at *; omega) | (simp [In64] at *; omega) | (simp_all; done) | skip)
            simp only [ev0, evA, evB, evP, fl, gp, tab, simprocAttr, reduceCtorEq, reduceIte, il_get (show a < l.length by omega), il_get (show b < l.length by omega), il_get (show op m n a b < l.length by omega), ea, eb, ec]
            refine fin_run ?_ (hK _ ?_) <;> clear hK <;> clear K
            · (first | exact trivial | omega | (simp only [In64] at *; omega) | (simp [In64] at *; omega) | (simp_all; done) | skip)
            refine qa ?_
            refine hk_cond rfl (fun hC7 => ?_) (fun hC7 => ?_)
            · (try simp only [nhs] at hC7)
              refine qm ?_
              refine hk_region fun K hK => runs_eval tab_ok ?_
              simp only [ev0, evA, evB, evP, fl, gp, tab, simprocAttr, reduceCtorEq, reduceIte]
              refine fin_stop trivial (runs_call (homFlt_c 7 a) rfl rfl rfl (by simp only [dstOk, Nat.reduceLT]) (by repeat (first | exact trivial | constructor)) (runs_eval tab_ok ?_))
              simp only [ev0, evA, evB, evP, fl, gp, tab, simprocAttr, reduceCtorEq, reduceIte]
              refine fin_run ?_ (hK _ ?_) <;> clear hK <;> clear K
              · (first | exact trivial | omega | (simp only [In64] at *; omega) | (simp [In64] at *; omega) | (simp_all; done) | skip)
              refine qa (qk (qe (qb (qb (qe (qe (qb (qb (qe (qb ?_))))))))))
              simp only [Tryd.results101, enA, ev0, evA, evB, evP, fl, gp, tab, simprocAttr, reduceCtorEq, reduceIte]
              all_goals (rw [homf_2 hC1 hC2 hall, homf2_7 hal (fun h => hC7 (by rw [h b hbl])) ha2]; simp)
            · (try simp only [nhs] at hC7)
              refine qh (qd (qa ?_))
              refine hk_region fun K hK => runs_eval tab_ok ?_
              simp only [ev0, evA, evB, evP, fl, gp, tab, simprocAttr, reduceCtorEq, reduceIte]
              refine fin_run ?_ (hK _ ?_) <;> clear hK <;> clear K
              · (first | exact trivial | omega | (simp only [In64] at *; omega) | (simp [In64] at *; omega) | (simp_all; done) | skip)
              refine qa ?_
              refine ⟨b + 1, [0, 1, 2], ⟨by omega, fun j hj => ?_⟩, by omega, ?_⟩
              · by_cases hj : j = b
                · subst hj; omega
                · exact hb2 j (by omega)
              · simp only [leq, leA, ev0, evA, evB, evP, fl, gp, tab, simprocAttr, reduceCtorEq, reduceIte] <;> omega
          · (try simp only [nhs] at hC6)
            refine qj (qc (qc (qf (qd (qa ?_)))))
            refine hk_region fun K hK => runs_eval tab_ok ?_
            simp only [ev0, evA, evB, evP, fl, gp, tab, simprocAttr, reduceCtorEq, reduceIte]
            refine fin_run ?_ (hK _ ?_) <;> clear hK <;> clear K
            · (first | exact trivial | omega | (simp only [In64] at *; omega) | (simp [In64] at *; omega) | (simp_all; done) | skip)
            refine qa ?_
            refine ⟨a + 1, [0, 1, 2], ⟨by omega, fun j hj => ?_⟩, by omega, ?_⟩
            · by_cases hj : j = a
              · subst hj; exact fun c' hc' => hb2 c' (by omega)
              · exact ha2 j (by omega)
            · simp only [leq, leA, ev0, evA, evB, evP, fl, gp, tab, simprocAttr, reduceCtorEq, reduceIte] <;> omega
        · (try simp only [nhs] at hC5)
          refine qj (qc (qc (qf (qa (qm ?_)))))
          refine hk_region fun K hK => runs_eval tab_ok ?_
          simp only [ev0, evA, evB, evP, fl, gp, tab, simprocAttr, reduceCtorEq, reduceIte]
          refine fin_run ?_ (hK _ ?_) <;> clear hK <;> clear K
          · (first | exact trivial | omega | (simp only [In64] at *; omega) | (simp [In64] at *; omega) | (simp_all; done) | skip)
          refine qa (qk ?_)
          simp only [Tryd.results101, enA, ev0, evA, evB, evP, fl, gp, tab, simprocAttr, reduceCtorEq, reduceIte]
          all_goals (rw [homf_2 hC1 hC2 hall, homf2_0 (fun j hj => ha2 j (by omega))]; simp)
end Go.Proofs.YtboadfahlflmhaaDoor

/-
  Walks: what makes a group, one by one; a map of some things, spread to all. Conditions: none.
-/
set_option linter.all false
namespace Go.Proofs.YtboadfahlflmhaaDoor
open Go.Pv

def nl (L : List Nat) : List Int := L.map fun x => ((x : Nat) : Int)
theorem nl_len (L : List Nat) : (nl L).length = L.length := by simp [nl]
theorem nl_get {L : List Nat} {i : Nat} (hi : i < L.length) : (nl L).getD i 0 = ((L.getD i 0 : Nat) : Int) := by
  simp [nl, List.getD, List.getElem?_eq_getElem hi]
theorem nl_snoc (L : List Nat) (x : Nat) : nl (L ++ [x]) = nl L ++ [((x : Nat) : Int)] := by simp [nl]
section
variable (n : Nat) (f : Nat → Nat → Nat) (e : Nat)
/-- The least things that make a group, one by one. -/
noncomputable def gl : Nat → List Nat
  | 0 => []
  | a + 1 => if gn n f e (fun x => decide (x ∈ gl a)) a then gl a else gl a ++ [a]
theorem gl_lt : ∀ (a : Nat), ∀ x ∈ gl n f e a, x < a
  | 0, x, h => by simp [gl] at h
  | a + 1, x, h => by
    unfold gl at h
    split at h
    · have := gl_lt a x h; omega
    · rcases List.mem_append.1 h with h | h
      · have := gl_lt a x h; omega
      · have : x = a := by simpa using h
        omega
theorem gl_len : ∀ a, (gl n f e a).length ≤ a
  | 0 => by simp [gl]
  | a + 1 => by
    have := gl_len a
    unfold gl
    split
    · omega
    · simp; omega
theorem gl_mono {a b : Nat} (h : a ≤ b) : ∀ x ∈ gl n f e a, x ∈ gl n f e b := by
  induction b with
  | zero => obtain rfl : a = 0 := by omega
            exact fun x h => h
  | succ b ih =>
    by_cases hab : a = b + 1
    · subst hab; exact fun x h => h
    · intro x hx
      have := ih (by omega) x hx
      unfold gl
      split
      · exact this
      · exact List.mem_append.2 (.inl this)
theorem gl_gen (G : Grp n f e) (a : Nat) (ha : a < n) : Gen n f e (fun x => decide (x ∈ gl n f e n)) a := by
  by_cases h : gn n f e (fun x => decide (x ∈ gl n f e a)) a = true
  · exact Gen.mono (fun b _ hb => by simp only [decide_eq_true_eq] at hb ⊢; exact gl_mono n f e (Nat.le_of_lt ha) b hb) ((gn_iff _ a ha).1 h)
  · have h1 : a ∈ gl n f e (a + 1) := by
      unfold gl
      rw [if_neg h]; simp
    have h2 := gl_mono n f e (show a + 1 ≤ n from ha) a h1
    exact Gen.mem G ha (by simpa using h2)
end

section
variable {n e : Nat} {m : List Int}
theorem gens_c (h : GT n m n e) : FnC Tryd.prog 128 [gp n m] (.list (il (nl (gl n (op m n) e n)))) := by
  have G := h.2.2
  have hb := h.2.1.big
  have hbt : ∀ p, bo n p < 2 ^ 64 := fun p => bo_lt64 hb p
  have hgen0 : ∀ a, a < n → (gn n (op m n) e (fun x => decide (x ∈ gl n (op m n) e 0)) a = true ↔ Gen n (op m n) e (Nat.testBit 0) a) := fun a ha => by
    rw [gn_iff _ a ha]
    exact ⟨Gen.mono fun b _ hb => by simp [gl] at hb, Gen.mono fun b _ hb => by simp at hb⟩
  refine fnc_of tab_ok Tryd.func128 rfl (by kernel_rfl) (by rw [Tryd.ntmps128]; exact Nat.le_add_left 1 _) ?_; rw [Tryd.ntmps128]
  refine qm ?_
  refine hk_region fun K hK => runs_eval tab_ok ?_
  simp only [ev0, evA, evB, evP, fl, gp, tab, simprocAttr, reduceCtorEq, reduceIte]
  refine fin_run ?_ (hK _ ?_) <;> clear hK <;> clear K
  · (first | exact trivial | omega | (simp only [In64] at *; omega) | (simp [In64] at *; omega) | (simp_all; done) | skip)
  refine qa (qm ?_)
  refine hk_region fun K hK => runs_eval tab_ok ?_
  simp only [ev0, evA, evB, evP, fl, gp, tab, simprocAttr, reduceCtorEq, reduceIte]
  refine fin_run trivial (hK _ ?_) <;> clear hK <;> clear K
  refine qa (qm ?_)
  refine hk_own0 3 rfl ?_
  refine hk_region fun K hK => runs_eval tab_ok ?_
  simp only [ev0, evA, evB, evP, fl, gp, tab, simprocAttr, reduceCtorEq, reduceIte]
  refine fin_stop trivial (runs_call (grow_c h 0 (Nat.pow_pos (by omega)) _ hgen0) rfl rfl rfl (by simp only [dstOk, Nat.reduceLT]) (by repeat (first | exact trivial | constructor)) (runs_eval tab_ok ?_))
  simp only [ev0, evA, evB, evP, fl, gp, tab, simprocAttr, reduceCtorEq, reduceIte]
  refine fin_run ?_ (hK _ ?_) <;> clear hK <;> clear K
  · (first | exact trivial | omega | (simp only [In64] at *; omega) | (simp [In64] at *; omega) | (simp_all; done) | skip)
  refine qa (qm (qm ?_))
  refine hk_region fun K hK => runs_eval tab_ok ?_
  simp only [ev0, evA, evB, evP, fl, gp, tab, simprocAttr, reduceCtorEq, reduceIte]
  refine fin_run ?_ (hK _ ?_) <;> clear hK <;> clear K
  · (first | exact trivial | omega | (simp only [In64] at *; omega) | (simp [In64] at *; omega) | (simp_all; done) | skip)
  refine qa (ql ?_)
  refine hk_loop (ι := Nat) (fun a => ⟨29, [(1, .ptr 0 0), (3, .sl 1 0 (nl (gl n (op m n) e a)).length), (4, .p (.int .u64 (bo n (gn n (op m n) e (fun x => decide (x ∈ gl n (op m n) e a)))))), (9, .p (.int .i64 n)), (10, .p (.int .i64 a))], [.own [.p (.int .i64 n), .p (.list (il m))], .own (ol (nl (gl n (op m n) e a)))]⟩) (fun a => a ≤ n) (fun a => n - a) 0 (Nat.zero_le _) [0, 1] (by simp only [leq, leA, ev0, evA, evB, evP, fl, gp, tab, simprocAttr, reduceCtorEq, reduceIte] <;> first | trivial | exact ⟨rfl, rfl⟩ | rfl) fun a ha => ?_
  refine qm ?_
  refine hk_region fun K hK => runs_eval tab_ok ?_
  simp only [ev0, evA, evB, evP, fl, gp, tab, simprocAttr, reduceCtorEq, reduceIte]
  refine fin_run trivial (hK _ ?_) <;> clear hK <;> clear K
  refine qa (qm ?_)
  refine hk_cond rfl (fun hC1 => ?_) (fun hC1 => ?_)
  · (try simp only [nhs] at hC1)
    have hal : a < n := by omega
    have hl := gl_len n (op m n) e a
    have hnl := nl_len (gl n (op m n) e a)
    have htk : List.take (nl (gl n (op m n) e a)).length (nl (gl n (op m n) e a)) = nl (gl n (op m n) e a) := List.take_length
    have hs : gl n (op m n) e (a + 1) = if gn n (op m n) e (fun x => decide (x ∈ gl n (op m n) e a)) a then gl n (op m n) e a else gl n (op m n) e a ++ [a] := rfl
    have hpw := pow_lt64 (b := a) (by omega)
    have hbb := bo_bit n (gn n (op m n) e (fun x => decide (x ∈ gl n (op m n) e a))) a
    rw [show decide (a < n) = true by simpa using hal, Bool.true_and] at hbb
    refine qh (qa (qm (ql (qm ?_))))
    refine hk_region fun K hK => runs_eval tab_ok ?_
    simp only [ev0, evA, evB, evP, fl, gp, tab, simprocAttr, reduceCtorEq, reduceIte]
    refine fin_run trivial (hK _ ?_) <;> clear hK <;> clear K
    refine qa (qm ?_)
    refine hk_region fun K hK => runs_eval tab_ok ?_
    simp only [ev0, evA, evB, evP, fl, gp, tab, simprocAttr, reduceCtorEq, reduceIte]
    refine fin_stop trivial (runs_call (has_s _ a (hbt _) (by omega)) rfl rfl rfl (by simp only [dstOk, Nat.reduceLT]) (by repeat (first | exact trivial | constructor)) (runs_eval tab_ok ?_))
    simp only [ev0, evA, evB, evP, fl, gp, tab, simprocAttr, reduceCtorEq, reduceIte, hbb]
    refine fin_run trivial (hK _ ?_) <;> clear hK <;> clear K
    refine qa ?_
    refine hk_cond rfl (fun hC2 => ?_) (fun hC2 => ?_)
    · (try simp only [nhs] at hC2)
      have hC2f : gn n (op m n) e (fun x => decide (x ∈ gl n (op m n) e a)) a = false := by simpa using hC2
      rw [if_neg (by simp [hC2f])] at hs
      have hst : ∀ y, y < n → (gn n (op m n) e (fun x => decide (x ∈ gl n (op m n) e (a + 1))) y = true ↔ Gen n (op m n) e (bo n (gn n (op m n) e (fun x => decide (x ∈ gl n (op m n) e a))) ||| 2 ^ a).testBit y) := fun y hy => by
        rw [gn_iff _ y hy, hs]
        constructor
        · intro hg
          refine Gen.least (H := fun y => Gen n (op m n) e (bo n (gn n (op m n) e (fun x => decide (x ∈ gl n (op m n) e a))) ||| 2 ^ a).testBit y) .one (fun c b hc hb1 hb2 ih => ?_) hg
          refine .step _ _ ih hb1 ?_
          rw [or_bit, Bool.or_eq_true, decide_eq_true_eq, bo_bit, Bool.and_eq_true, decide_eq_true_eq]
          rcases List.mem_append.1 (show b ∈ gl n (op m n) e a ++ [a] by simpa using hb2) with hb2 | hb2
          · exact .inl ⟨hb1, (gn_iff _ b hb1).2 (Gen.mem G hb1 (by simpa using hb2))⟩
          · exact .inr (by have : b = a := by simpa using hb2
                           omega)
        · intro hg
          refine Gen.least (H := fun y => Gen n (op m n) e (fun x => decide (x ∈ gl n (op m n) e a ++ [a])) y) .one (fun c b hc hb1 hb2 ih => ?_) hg
          refine Gen.mul G ih ?_
          rw [or_bit, Bool.or_eq_true, decide_eq_true_eq, bo_bit, Bool.and_eq_true, decide_eq_true_eq] at hb2
          rcases hb2 with hb2 | hb2
          · exact Gen.mono (fun x _ hx => by simp at hx ⊢; exact .inl hx) ((gn_iff _ b hb1).1 hb2.2)
          · exact Gen.mem G hb1 (by simp [hb2])
      refine qm ?_
      refine hk_region fun K hK => runs_eval tab_ok ?_
      simp only [ev0, evA, evB, evP, fl, gp, tab, simprocAttr, reduceCtorEq, reduceIte]
      refine fin_run ?_ (hK _ ?_) <;> clear hK <;> clear K
      · (first | exact trivial | omega | (simp only [In64] at *; omega) | (simp [In64] at *; omega) | (simp_all; done) | skip)
      refine qa ?_
      refine hk_draw mixed (by kernel_rfl) fun K hK => runs_eval tab_ok ?_
      simp only [ev0, evA, evB, evP, fl, gp, tab, simprocAttr, reduceCtorEq, reduceIte, shl_one (show a < 64 by omega), bv_or (hbt _) hpw]
      refine fin_stop ?_ (runs_call (grow_c h _ (Nat.or_lt_two_pow (bo_lt n _) (Nat.pow_lt_pow_right (by omega) hal)) _ hst) rfl rfl rfl (by simp only [dstOk, Nat.reduceLT]) (by repeat (first | exact trivial | constructor)) (runs_eval tab_ok ?_))
      · (first | exact trivial | omega | (simp only [In64] at *; omega) | (simp [In64] at *; omega) | (simp_all; done) | skip)
      simp only [ev0, evA, evB, evP, fl, gp, tab, simprocAttr, reduceCtorEq, reduceIte, shl_one (show a < 64 by omega), bv_or (hbt _) hpw]
      refine fin_run ?_ (hK _ ?_) <;> clear hK <;> clear K
      · (first | exact trivial | omega | (simp only [In64] at *; omega) | (simp [In64] at *; omega) | (simp_all; done) | skip)
      refine qd (qa ?_)
      refine hk_region fun K hK => runs_eval tab_ok ?_
      simp only [ev0, evA, evB, evP, fl, gp, tab, simprocAttr, reduceCtorEq, reduceIte]
      refine fin_run ?_ (hK _ ?_) <;> clear hK <;> clear K
      · (first | exact trivial | omega | (simp only [In64] at *; omega) | (simp [In64] at *; omega) | (simp_all; done) | skip)
      refine qa ?_
      refine ⟨a + 1, [0, 2], by omega, by omega, ?_⟩
      rw [hs, nl_snoc]
      simp only [leq, leA, ev0, evA, evB, evP, fl, gp, tab, simprocAttr, reduceCtorEq, reduceIte] <;> first | trivial | omega | (simp; done) | trace_state
    · (try simp only [nhs] at hC2)
      have hC2t : gn n (op m n) e (fun x => decide (x ∈ gl n (op m n) e a)) a = true := by simpa using hC2
      rw [if_pos hC2t] at hs
      refine qh (qd (qa ?_))
      refine hk_region fun K hK => runs_eval tab_ok ?_
      simp only [ev0, evA, evB, evP, fl, gp, tab, simprocAttr, reduceCtorEq, reduceIte]
      refine fin_run ?_ (hK _ ?_) <;> clear hK <;> clear K
      · (first | exact trivial | omega | (simp only [In64] at *; omega) | (simp [In64] at *; omega) | (simp_all; done) | skip)
      refine qa ?_
      refine ⟨a + 1, [0, 1], by omega, by omega, ?_⟩
      rw [hs]
      simp only [leq, leA, ev0, evA, evB, evP, fl, gp, tab, simprocAttr, reduceCtorEq, reduceIte] <;> first | trivial | omega
  · (try simp only [nhs] at hC1)
    obtain rfl : a = n := by omega
    refine qj (qc (qc (qf (qa (qm ?_)))))
    refine hk_seal 3 1 rfl rfl ?_
    refine hk_region fun K hK => runs_eval tab_ok ?_
    simp only [ev0, evA, evB, evP, fl, gp, tab, simprocAttr, reduceCtorEq, reduceIte]
    refine fin_run trivial (hK _ ?_) <;> clear hK <;> clear K
    refine qa (qk ?_)
    simp only [Tryd.results128, enA, ev0, evA, evB, evP, fl, gp, tab, simprocAttr, reduceCtorEq, reduceIte]
    all_goals ((first | exact rfl | exact ⟨rfl, rfl⟩ | exact ⟨rfl, rfl, rfl⟩ | exact ⟨trivial, rfl⟩ | exact ⟨Nat.le_refl _, rfl⟩ | trivial | (simp; done)))
end
end Go.Proofs.YtboadfahlflmhaaDoor

/-
  Loops over a function: rounds as values, the statement, who calls yield. Conditions: none; a library text.
-/
set_option linter.all false
namespace Go.Pv
open Go.RowKit

section
variable {P : Program} {T : TypeId → Option TI} {C : Ctx} {m : Map} {s : St} {tmps : Array Value} {w : World}

/-- A block that is none of cells turns. -/
theorem Rel.setRaw (R : Rel C m s tmps w) {g : Nat} {o' : Obj} {H' : Heap} (hB : C.B g) (hnc : ∀ cur e sh, w.heap[g]? ≠ some (.cells cur e sh)) (hlen : H'.length = s.H.length)
    (hmut : ∀ (k : Nat) (c : List AV), H'[k]? = some (.own c) → s.H[k]? = some (.own c)) (hfro : ∀ (k : Nat) (c : List PV), H'[k]? = some (.fro c) → s.H[k]? = some (.fro c))
    (hmp : ∀ (k : Nat) (kk : IntKind) (d : Int → Bool) (v : Int → PV), H'[k]? = some (Blk.mp kk d v) → s.H[k]? = some (Blk.mp kk d v) ∧ ∀ l, m k = some l → l.g ≠ g)
    (hanc : ∀ (k i j : Nat), H'[k]? = some (Blk.anc i j) → s.H[k]? = some (Blk.anc i j)) (hlp : LpAll C.B (w.putObj g o') m H') : Rel C m { s with H := H' } tmps (w.putObj g o') := by
  have hh : ∀ b, b ≠ g → (w.putObj g o').heap[b]? = w.heap[b]? := fun b hb => World.putObj_heap_other hb
  have hsz : (w.putObj g o').heap.size = w.heap.size := World.putObj_size
  have hcell : ∀ (b o : Nat) (x : Value), w.cell? ⟨b, o, none⟩ = some x → (w.putObj g o').cell? ⟨b, o, none⟩ = some x := fun b o x h => by
    by_cases eb : b = g
    · subst eb
      exfalso
      unfold World.cell? at h
      split at h
      · rename_i hh; exact hnc _ _ _ hh
      · cases h
    · rw [World.cell?_of_block (w := w) (hh b eb)]; exact h
  have hok : ∀ b, OK C m s.H w b → OK C m H' (w.putObj g o') b := fun b h => ⟨h.1, by rw [hsz]; exact h.2.1, fun k c l hk hl => h.2.2 k c l (hmut k c hk) hl⟩
  have rdx : ∀ p x, Reads (OK C m s.H w) w p x → Reads (OK C m H' (w.putObj g o')) (w.putObj g o') p x := fun p x h => h.extc hok fun b o y _ hc => hcell b o y hc
  have hle : s.H.length ≤ H'.length := by omega
  refine ⟨R.laid.ext rdx, R.below.trans ⟨rfl, rfl, rfl, by rw [hsz]; exact Nat.le_refl _, fun b hb => hh b (fun e => hb (by rw [e]; exact hB)), Nat.le_refl _⟩, by rw [hsz]; exact R.base, R.size,
    fun k k' c c' l l' h1 h2 => R.inj k k' c c' l l' (hmut k c h1) (hmut k' c' h2), fun k c h => ?_, fun k c h => ?_, fun t => (R.slot t).ext rdx hle fun _ _ => rfl, fun k kk d v h => ?_,
    fun k k' kk d v kk' d' v' l l' h1 h2 => R.mp.2.1 k k' kk d v kk' d' v' l l' (hmp _ _ _ _ h1).1 (hmp _ _ _ _ h2).1, fun k i j h => ?_, hlp⟩
  · have hb := R.blk k c (hmut k c h)
    refine hb.ext rdx hle (fun _ _ => rfl) rfl fun l hl => hh _ fun e => ?_
    rcases hb with ⟨_, hn⟩ | ⟨l2, cur, ee, a1, a2, a3, _⟩
    · rw [hl] at hn; cases hn
    · rw [hl] at a1; cases a1
      rw [e] at a3
      exact hnc _ _ _ a3
  · rcases R.fro k c (hfro k c h) with h' | ⟨l2, vs2, b1, b2, b3, b4⟩
    · exact .inl h'
    · exact .inr ⟨l2, vs2, b1, hok _ b2, b3, fun i hi => ⟨hcell _ _ _ (b4 i hi).1, rdx _ _ (b4 i hi).2⟩⟩
  · obtain ⟨h1, h2⟩ := hmp k kk d v h
    obtain ⟨l, ar, clk, vs, a1, a2, a3, a4, a5, a6, a7⟩ := R.mp.1 k kk d v h1
    exact ⟨l, ar, clk, vs, a1, a2, (hh _ (h2 l a1)).trans a3, a4, a5, a6, fun z hz => rdx _ _ (a7 z hz)⟩
  · obtain ⟨a1, a2⟩ := R.mp.2.2.1 k i j (hanc k i j h)
    exact ⟨by rw [hlen]; exact a1, a2⟩

/-- A block for deferred calls turns. -/
theorem Rel.setDef (R : Rel C m s tmps w) {g : Nat} {o o' : Option (List Deferred)} (hB : C.B g) (ho : w.heap[g]? = some (.deferred o)) : Rel C m s tmps (w.putObj g (.deferred o')) := by
  refine R.setRaw (H' := s.H) hB (fun _ _ _ h => by rw [ho] at h; cases h) rfl (fun _ _ h => h) (fun _ _ h => h) (fun k kk d v h => ⟨h, fun l hl e => ?_⟩) (fun _ _ _ h => h) ?_
  · obtain ⟨l2, ar, clk, vs, a1, a2, a3, _⟩ := R.mp.1 k kk d v h
    rw [hl] at a1; cases a1
    rw [e, ho] at a3; cases a3
  · refine R.mp.2.2.2.ext id (fun _ _ h => ⟨h, rfl⟩) (fun _ _ _ _ _ _ h => h) (fun k r l h hl h3 => World.putObj_heap_other fun e => ?_) fun _ _ _ _ _ h => h
    rw [e, ho] at h3; cases h3

/-- A loop's record turns. -/
theorem Rel.setLp (R : Rel C m s tmps w) {κ : Nat} {r r' : Loop} (hκ : s.H[κ]? = some (.lp r)) {l : Loc} (hl : m κ = some l) : Rel C m { s with H := hset s.H κ (.lp r') } tmps (w.putObj l.g (.loop r')) := by
  obtain ⟨l', a1, a2, a3⟩ := R.mp.2.2.2.1 κ r hκ
  rw [hl] at a1; cases a1
  have hkl : κ < s.H.length := (List.getElem?_eq_some_iff.1 hκ).1
  have hlt : l.g < w.heap.size := (Array.getElem?_eq_some_iff.1 a3).1
  have hget : ∀ (j : Nat) (b : Blk), (hset s.H κ (.lp r'))[j]? = some b → (j = κ ∧ b = .lp r') ∨ (j ≠ κ ∧ s.H[j]? = some b) := by
    intro j b h
    rw [hset_get] at h
    by_cases e : j = κ
    · rw [if_pos ⟨e, hkl⟩] at h; exact .inl ⟨e, (Option.some.inj h).symm⟩
    · rw [if_neg (by simp [e])] at h; exact .inr ⟨e, h⟩
  refine R.setRaw (H' := hset s.H κ (.lp r')) a2 (fun _ _ _ h => by rw [a3] at h; cases h) (hset_length _ _ _) (fun k c h => ?_) (fun k c h => ?_) (fun k kk d v h => ?_) (fun k i j h => ?_) ⟨fun k rr h => ?_, fun k k' r1 r2 l1 l2 h1 h2 h3 h4 h5 => ?_⟩
  · rcases hget k _ h with ⟨_, e⟩ | ⟨_, h⟩
    · cases e
    · exact h
  · rcases hget k _ h with ⟨_, e⟩ | ⟨_, h⟩
    · cases e
    · exact h
  · rcases hget k _ h with ⟨_, e⟩ | ⟨_, h⟩
    · cases e
    · refine ⟨h, fun l2 hl2 e => ?_⟩
      obtain ⟨l3, ar, clk, vs, b1, b2, b3, _⟩ := R.mp.1 k kk d v h
      rw [hl2] at b1; cases b1
      rw [e, a3] at b3; cases b3
  · rcases hget k _ h with ⟨_, e⟩ | ⟨_, h⟩
    · cases e
    · exact h
  · rcases hget k _ h with ⟨rfl, e⟩ | ⟨hne, h⟩
    · cases e
      exact ⟨l, hl, a2, World.putObj_heap_same hlt⟩
    · obtain ⟨l2, b1, b2, b3⟩ := R.mp.2.2.2.1 k rr h
      refine ⟨l2, b1, b2, (World.putObj_heap_other fun e => hne ?_).trans b3⟩
      exact R.mp.2.2.2.2 _ _ _ _ _ _ h hκ b1 hl e
  · have g : ∀ (j : Nat) (rr : Loop), (hset s.H κ (.lp r'))[j]? = some (Blk.lp rr) → ∃ r0, s.H[j]? = some (Blk.lp r0) := by
      intro j rr h
      rcases hget j _ h with ⟨rfl, _⟩ | ⟨_, h⟩
      · exact ⟨_, hκ⟩
      · exact ⟨_, h⟩
    obtain ⟨_, c1⟩ := g _ _ h1
    obtain ⟨_, c2⟩ := g _ _ h2
    exact R.mp.2.2.2.2 _ _ _ _ _ _ c1 c2 h3 h4 h5

/-- A loop's record is laid: it is a block of the state's. -/
theorem Rel.addLp (R : Rel C m s tmps w) {g : Nat} {r : Loop} (hB : C.B g) (hg : w.heap[g]? = some (.loop r)) (hfr : ∀ (k : Nat) (rr : Loop) (l : Loc), s.H[k]? = some (.lp rr) → m k = some l → l.g ≠ g) :
    Rel C (mput m s.H.length (some ⟨g, 0, 0⟩)) { s with H := s.H ++ [.lp r] } tmps w := by
  have hm : ∀ k, k < s.H.length → mput m s.H.length (some ⟨g, 0, 0⟩) k = m k := fun k hk => by simp [mput, show k ≠ s.H.length by omega]
  have hmn : mput m s.H.length (some ⟨g, 0, 0⟩) s.H.length = some ⟨g, 0, 0⟩ := by simp [mput]
  have own : ∀ (k : Nat) (b : Blk), (s.H ++ [Blk.lp r])[k]? = some b → (k < s.H.length ∧ s.H[k]? = some b) ∨ (k = s.H.length ∧ Blk.lp r = b) := fun k b h => getElem?_snoc_cases h
  have old : ∀ (k : Nat) (b : Blk), (∀ rr, b ≠ .lp rr) → (s.H ++ [Blk.lp r])[k]? = some b → k < s.H.length ∧ s.H[k]? = some b := fun k b hb h => by
    rcases own k b h with h | ⟨_, e⟩
    · exact h
    · exact absurd e.symm (hb r)
  have hok : ∀ b, OK C m s.H w b → OK C (mput m s.H.length (some ⟨g, 0, 0⟩)) (s.H ++ [Blk.lp r]) w b := fun b h => ⟨h.1, h.2.1, fun k c l hk hl => by
    obtain ⟨h1, h2⟩ := old k _ (fun _ h => by cases h) hk
    rw [hm k h1] at hl
    exact h.2.2 k c l h2 hl⟩
  have rd : ∀ p x, Reads (OK C m s.H w) w p x → Reads (OK C (mput m s.H.length (some ⟨g, 0, 0⟩)) (s.H ++ [Blk.lp r]) w) w p x := fun p x h => h.mono hok
  have hlen : s.H.length ≤ (s.H ++ [Blk.lp r]).length := by simp
  refine ⟨R.laid.ext rd, R.below, R.base, R.size, fun k k' c c' l l' h1 h2 h3 h4 h5 => ?_, fun k c h => ?_, fun k c h => ?_, fun t => (R.slot t).ext rd hlen hm, fun k kk d v h => ?_, fun k k' kk d v kk' d' v' l l' h1 h2 h3 h4 h5 => ?_, fun k i j h => ?_, fun k rr h => ?_, fun k k' r1 r2 l1 l2 h1 h2 h3 h4 h5 => ?_⟩
  · obtain ⟨a1, a2⟩ := old k _ (fun _ h => by cases h) h1
    obtain ⟨b1, b2⟩ := old k' _ (fun _ h => by cases h) h2
    rw [hm k a1] at h3; rw [hm k' b1] at h4
    exact R.inj k k' c c' l l' a2 b2 h3 h4 h5
  · obtain ⟨a1, a2⟩ := old k _ (fun _ h => by cases h) h
    exact (R.blk k c a2).ext rd hlen hm (hm k a1) fun _ _ => rfl
  · obtain ⟨a1, a2⟩ := old k _ (fun _ h => by cases h) h
    exact (R.fro k c a2).ext hok (fun _ _ => rfl) (hm k a1)
  · obtain ⟨a1, a2⟩ := old k _ (fun _ h => by cases h) h
    exact (R.mp.1 k kk d v a2).ext hok (fun _ _ => rfl) (hm k a1) fun _ _ => rfl
  · obtain ⟨a1, a2⟩ := old k _ (fun _ h => by cases h) h1
    obtain ⟨b1, b2⟩ := old k' _ (fun _ h => by cases h) h2
    rw [hm k a1] at h3; rw [hm k' b1] at h4
    exact R.mp.2.1 _ _ _ _ _ _ _ _ _ _ a2 b2 h3 h4 h5
  · obtain ⟨a1, a2⟩ := old k _ (fun _ h => by cases h) h
    obtain ⟨c1, c2⟩ := R.mp.2.2.1 k i j a2
    exact ⟨by simp; omega, by rw [hm j c1]; exact c2⟩
  · rcases own k _ h with ⟨hk, h⟩ | ⟨rfl, e⟩
    · obtain ⟨l, b1, b2, b3⟩ := R.mp.2.2.2.1 k rr h
      exact ⟨l, (hm k hk).trans b1, b2, b3⟩
    · cases e
      exact ⟨_, hmn, hB, hg⟩
  · rcases own k _ h1 with ⟨hk, h1⟩ | ⟨rfl, e⟩ <;> rcases own k' _ h2 with ⟨hk', h2⟩ | ⟨rfl, e'⟩
    · rw [hm _ hk] at h3; rw [hm _ hk'] at h4
      exact R.mp.2.2.2.2 _ _ _ _ _ _ h1 h2 h3 h4 h5
    · rw [hm _ hk] at h3; rw [hmn] at h4; cases h4
      exact absurd h5 (hfr k r1 l1 h1 h3)
    · rw [hm _ hk'] at h4; rw [hmn] at h3; cases h3
      exact absurd h5.symm (hfr k' r2 l2 h2 h4)
    · rfl

/-! ### Contracts where the first q blocks stay -/

def FnQ (P : Program) (q : Nat) (f : FuncId) (args : List AV) (H0 : Heap) (r : AV) (H1 : Heap) : Prop :=
  Fun P f ∧ ∀ (C : Ctx) (m : Map) (w : World) (vals : Array Value), Rel C m ⟨args.length, entA 0 args, H0 ++ ancs 0 q⟩ vals w →
    Calls P f vals w fun e w' => ∃ v m', e = .returned v ∧ Rel C m' ⟨1, [(0, r)], H1 ++ ancs 0 q⟩ #[v] w'

theorem fnq_of (hT : ∀ t ti, T t = some ti → tiOf P t = some ti) {q : Nat} {f : FuncId} {fn : Func} {c : Code} {args : List AV} {av : AV} {H0 H1 : Heap} (hf : P.funcs[f]? = some fn) (hb : fn.body = some c) (hnm : (fn.name == "runtime.NumGoroutine") = false) (hn : args.length ≤ fn.ntmps)
    (h : Holds P c (PostG T fn.results.toList av (H1 ++ ancs 0 q)) ⟨fn.ntmps, entA 0 args, H0 ++ ancs 0 q⟩) : FnQ P q f args H0 av H1 := by
  refine ⟨⟨fn, hf, hnm, by rw [hb]; rfl⟩, fun C m w vals R0 => calls_of_wp hf hb (wpR_none.1 ?_)⟩
  have hsz : vals.size = args.length := R0.size
  have R : Rel C m ⟨fn.ntmps, entA 0 args, H0 ++ ancs 0 q⟩ (vals ++ Array.replicate (fn.ntmps - vals.size) undef) w := by
    refine ⟨R0.laid, R0.below, R0.base, by simp; omega, R0.inj, R0.blk, R0.fro, fun t => ?_, R0.mp⟩
    have hs := R0.slot t
    by_cases ht : t < vals.size
    · rw [Array.getD_eq_getD_getElem?, Array.getElem?_append_left ht, ← Array.getD_eq_getD_getElem?]
      exact hs
    · have e : lk (entA 0 args) t = .dead := by
        rw [entA_lk, if_pos (Nat.zero_le _), List.getD_eq_getElem?_getD, List.getElem?_eq_none (by omega)]; rfl
      unfold St.get
      simp only
      rw [e]
      exact .dead _
  refine wpR_mono (h none [] _ _ { tmps := vals ++ Array.replicate (fn.ntmps - vals.size) undef, defers := [] } w R rfl) fun e a' w' ⟨s', m', h1, h2, h3⟩ => ?_
  have fini : endG T fn.results.toList av (H1 ++ ancs 0 q) s' → a'.defers = [] ∧ ∃ v, (results fn a'.tmps).run P w' = .ok v w' ∧ ∃ v_1 m'', Ending.returned v = .returned v_1 ∧ Rel C m'' ⟨1, [(0, av)], H1 ++ ancs 0 q⟩ #[v_1] w' := by
    intro he
    unfold endG at he
    split at he
    · rename_i p l hl
      obtain ⟨hp, π, hav, hsc, hle⟩ := he
      obtain ⟨vs, e1, e2, e3⟩ := rvsA_run hT h2 fn.results.toList hl hp
      have hv := mkTup_val (w := w') e2 e3
      have R' := h2.weaken hle
      rw [hav] at hv
      have hlen : (H1 ++ ancs 0 q).length = π.length := (hle.2.2.1.get).1.symm
      have ho := OK.weaken (C := C) (m := m') (w := w') hle.2.2.1
      have hv2 := hv.unren (fun p v h => h.mono ho) hlen hsc
      refine ⟨h3, (if h : vs.toArray.size = 1 then vs.toArray[0] else .tuple vs.toArray), ?_, _, _, rfl, R'.laid, R'.below, R'.base, rfl, R'.inj, R'.blk, R'.fro, fun t => ?_, R'.mp⟩
      · rw [results_eq, Array.mapM_eq_mapM_toList]
        simp only [Sem.run_bind, Sem.run_map]
        rw [e1]
        simp only [Result.andThen_ok]
        rfl
      · cases t with
        | zero => exact hv2
        | succ t => exact .dead _
    · exact he.elim
  cases e with
  | normal => exact fini h1
  | ret => exact fini h1
  | _ => exact h1.elim

/-- Who is called: with what it has captured. -/
def clA : AV → Option (FuncId × List AV)
  | .cl g l => some (g, l)
  | .p (.fn g l) => some (g, l.map .p)
  | _ => none

theorem clA_val {a : Act} (R : Rel C m s a.tmps w) {fo : Operand} {g : FuncId} {cap : List AV} (h : clA (s.ev fo) = some (g, cap)) :
    ∃ vs : Array Value, a.eval fo = .func (.func g) #[] vs ∧ vs.size = cap.length ∧ ∀ c (h : c < cap.length), AVal (Reads (OK C m s.H w) w) m s.H cap[c] (vs.getD c undef) := by
  have hv := R.ev fo
  generalize a.eval fo = v at hv
  unfold clA at h
  split at h
  · rename_i g' l e
    simp only [Option.some.injEq, Prod.mk.injEq] at h
    obtain ⟨rfl, rfl⟩ := h
    rw [e] at hv
    cases hv with
    | cl _ _ vs hl hr => exact ⟨vs, rfl, hl, hr⟩
  · rename_i g' l e
    simp only [Option.some.injEq, Prod.mk.injEq] at h
    obtain ⟨rfl, rfl⟩ := h
    rw [e] at hv
    have hv := hv.p_inv
    cases hv with
    | fn _ _ vs hl hr =>
      refine ⟨vs, rfl, by simpa using hl, fun c hc => ?_⟩
      rw [List.getElem_map]
      exact .p _ _ (hr c (by simpa using hc))
  · cases h

/-- The state of who is lent blocks. -/
theorem Rel.lend (R : Rel C m s tmps w) {q : Nat} {ks : List Nat} {avs : List AV} {H0 : Heap} {vals : Array Value} (hle : LeH ks s.H ks H0) (hnd : ks.Nodup) (hq : q ≤ H0.length) (hna : H0.all notAnc = true) (hsz : vals.size = avs.length)
    (hv : ∀ t (h : t < avs.length), AVal (Reads (OK (subC C m s.H ks H0 w) (mren m ks) H0 w) w) (mren m ks) H0 avs[t] (vals.getD t undef)) : Rel (subC C m s.H ks H0 w) (mren m ks) ⟨avs.length, entA 0 avs, H0 ++ ancs 0 q⟩ vals w := by
  obtain ⟨g1, g2⟩ := hle.get
  have ho1 : ∀ b, OK C m s.H w b → OK (subC C m s.H ks H0 w) (mren m ks) H0 w b := by
    refine fun b h => ⟨.inl h, h.2.1, fun k c l hk hl => ?_⟩
    obtain ⟨k', d, a1, a2, _⟩ := LeH.own g2 k c hk
    simp only [mren, a1, Option.bind_some] at hl
    exact h.2.2 k' _ l a2 hl
  have R0 : Rel (subC C m s.H ks H0 w) (mren m ks) ⟨avs.length, entA 0 avs, H0⟩ vals w := by
    refine R.weakenC (s1 := ⟨avs.length, entA 0 avs, H0⟩) hsz hnd hle ho1 (BelowP.refl _ _) (fun b h => .inl h) (fun k b l h hw hl _ => .inr ⟨k, b, l, h, hw, hl, rfl⟩) (fun k i j h => ?_) fun t => ?_
    · exact absurd rfl (notAnc_spec ((List.all_eq_true.1 hna) _ (List.mem_of_getElem? h)) i j)
    · unfold St.get
      simp only
      rw [entA_lk, if_pos (Nat.zero_le _), Nat.sub_zero]
      by_cases ht : t < avs.length
      · have := hv t ht
        simpa [List.getD, List.getElem?_eq_getElem ht] using this
      · rw [List.getD_eq_getElem?_getD, List.getElem?_eq_none (by omega)]
        exact .dead _
  exact R0.addAnc (n := q) hq fun i _ => rfl

theorem lend_ok {ks : List Nat} {H0 : Heap} (hle : LeH ks s.H ks H0) : ∀ b, OK C m s.H w b → OK (subC C m s.H ks H0 w) (mren m ks) H0 w b := by
  obtain ⟨g1, g2⟩ := hle.get
  refine fun b h => ⟨.inl h, h.2.1, fun k c l hk hl => ?_⟩
  obtain ⟨k', d, a1, a2, _⟩ := LeH.own g2 k c hk
  simp only [mren, a1, Option.bind_some] at hl
  exact h.2.2 k' _ l a2 hl

theorem scQ_parts {q : Nat} {r : AV} {H0 H1 : Heap} (h : scQ q r H0 H1 = true) : q ≤ H1.length ∧ q ≤ H0.length ∧ H0.all notAnc = true := by
  unfold scQ at h
  rw [Bool.and_eq_true, Bool.and_eq_true, Bool.and_eq_true, Bool.and_eq_true, Bool.and_eq_true, Bool.and_eq_true, decide_eq_true_eq, decide_eq_true_eq] at h
  exact ⟨h.1.1.1.1.2, h.1.1.1.2, h.2⟩

theorem call_doesQ {o : Oper} {fo : Operand} {args : Array Operand} {ts : Array TypeId} (ho : o.op = .call { callee := .value fo, args := args, argTypes := ts }) {g : FuncId} {cap : List AV} (hfo : clA (s.ev fo) = some (g, cap)) {q : Nat} {ks : List Nat} {avs : List AV} {H0 H1 : Heap} {r : AV}
    (hc : FnQ P q g avs H0 r H1) (hargs : argsM s.H ks (args.toList.map s.ev ++ cap) avs) (hle : LeH ks s.H ks H0) (hnd : ks.Nodup) (hks : ks.all (fun k => decide (k < s.H.length)) = true) (hsc : scQ q r H0 H1 = true) :
    DoesW P o s (Go.Pv.ren (ks.take q ++ List.range' s.H.length (H1.length - q)) r) (putM (kills s.H (ks.drop q)) (ks.take q) (H1.map (Blk.ren (ks.take q ++ List.range' s.H.length (H1.length - q))))) := by
  intro C m a w K Q R hK
  have hks' : ∀ k ∈ ks, k < s.H.length := fun k hk => by simpa using (List.all_eq_true.1 hks) k hk
  obtain ⟨vs, hfe, hcl, hcr⟩ := clA_val R hfo
  obtain ⟨⟨fn, hfn, hnm, hbd⟩, hcalls⟩ := hc
  obtain ⟨_, hq, hna⟩ := scQ_parts hsc
  have hrun : (execOp a.eval o).run P w = .ok (.enter g (args.map a.eval ++ vs)) w := by
    have hnm' : ¬ fn.name = "runtime.NumGoroutine" := by simpa using hnm
    have hbd' : ¬ fn.body = none := by intro e; rw [e] at hbd; simp at hbd
    simp [execOp, ho, resolve, hfe, Deferred.ofValue, invoke, callFunc, hfn, hnm', hbd']
  refine opR_of_wp (by rw [ho]; rfl) ?_
  unfold Oper.wp
  rw [hrun]
  simp only [Oper.upon]
  have g1 := (hle.get).1
  obtain ⟨e1, e2⟩ := argsM_val R (rd' := Reads (OK (subC C m s.H ks H0 w) (mren m ks) H0 w) w) (H0 := H0) (fun p v h => h.mono (lend_ok hle)) g1.symm _ avs (fun i => (args.map a.eval ++ vs).getD i undef) hargs fun i hi => by
    simp only [List.length_append, List.length_map, Array.length_toList] at hi
    by_cases hip : i < args.size
    · rw [List.getElem_append_left (by simpa using hip)]
      simp only [Array.getD_eq_getD_getElem?]
      rw [Array.getElem?_append_left (by simpa using hip)]
      have := R.ev args[i]
      simpa [Array.getElem?_eq_getElem hip] using this
    · rw [List.getElem_append_right (by simp; omega)]
      simp only [Array.getD_eq_getD_getElem?]
      rw [Array.getElem?_append_right (by simp; omega)]
      simp only [List.length_map, Array.length_toList, Array.size_map]
      have := hcr (i - args.size) (by omega)
      rw [Array.getD_eq_getD_getElem?] at this
      exact this
  have hsz : (args.map a.eval ++ vs).size = avs.length := by
    rw [e1]; simp; omega
  have R0' := R.lend (q := q) hle hnd hq hna hsz e2
  refine (hcalls _ _ w _ R0').mono fun e w' ⟨v, m', he, R1⟩ => ?_
  subst he
  obtain ⟨m2, R2, hv, _⟩ := R.joinQ hle hks' R1 hsc
  exact hK v m2 w' R2 hv

/-- THE WORD OF THE WALK: a call that is lent blocks; the first q stay in their places. -/
theorem runs_callQ {all : Array Oper} {rest : List Oper} {K : St → Prop} {dst : Option Tmp} {ty : TypeId} {pos : String} {aft : Array Edge} {gd : Option (Nat × Bool)} {fo : Operand} {args : Array Operand} {ts : Array TypeId} {g : FuncId} {avs : List AV} {H0 H1 : Heap} {r : AV} {q : Nat} (ks : List Nat)
    (hc : FnQ P q g avs H0 r H1) {cap : List AV} (hfo : clA (s.ev fo) = some (g, cap)) (hg : guardA all s { dst := dst, op := .call { callee := .value fo, args := args, argTypes := ts }, type := ty, pos := pos, after := aft, guard := gd } = some true)
    (hargs : argsM s.H ks (args.toList.map s.ev ++ cap) avs) (hle : LeH ks s.H ks H0) (hnd : ks.Nodup) (hks : ks.all (fun k => decide (k < s.H.length)) = true) (hsc : scQ q r H0 H1 = true) (hd : dstOk s dst)
    (h : Runs P false all rest K (({ s with H := putM (kills s.H (ks.drop q)) (ks.take q) (H1.map (Blk.ren (ks.take q ++ List.range' s.H.length (H1.length - q)))) } : St).put dst (Go.Pv.ren (ks.take q ++ List.range' s.H.length (H1.length - q)) r))) :
    Runs P false all ({ dst := dst, op := .call { callee := .value fo, args := args, argTypes := ts }, type := ty, pos := pos, after := aft, guard := gd } :: rest) K s := by
  obtain ⟨s', hr, hK⟩ := h
  exact ⟨s', .cons (.op s _ _ hg (dstOk_spec hd) (call_doesQ rfl hfo hc hargs hle hnd hks hsc) fun h => by cases h) hr, hK⟩

/-! ### Who calls yield -/

/-- THE CONTRACT OF A ROUND. -/
def YldQ (P : Program) (q κ : Nat) (rec : Loop) (l : List AV) (x : PV) (H0 : Heap) (r : AV) (H1 : Heap) : Prop :=
  ∀ (C : Ctx) (m : Map) (w : World) (fv v : Value) (g : Nat), Rel C m ⟨2, [(0, .yv κ l rec.tmps), (1, .p x)], H0 ++ ancs 0 q⟩ #[fv, v] w → fv = .func (.yield g) #[] #[] → w.heap[g]? = some (.loop rec) →
    RoundIn Fence.wide 0 P g rec.fn ((rec.params.zip #[v]).foldl (fun tmps (t, a) => tmps.setIfInBounds t a) rec.tmps) rec.assign rec.body w fun e w' => ∃ v' m', e = .returned v' ∧ Rel C m' ⟨1, [(0, r)], H1 ++ ancs 0 q⟩ #[v'] w'

theorem yield_doesQ {o : Oper} {fo x : Operand} {ts : Array TypeId} (ho : o.op = .call { callee := .value fo, args := #[x], argTypes := ts }) {κ0 : Nat} {l0 : List AV} {q κ : Nat} {rec : Loop} {l : List AV} {xv : PV} {ks : List Nat} {H0 H1 : Heap} {r : AV} (hfo : s.ev fo = .yv κ0 l0 rec.tmps)
    (hp : rec.params.size = 1) (hlp : hget s.H κ0 = .lp rec) (hc : YldQ P q κ rec l xv H0 r H1) (hargs : argsM s.H ks [s.ev fo, s.ev x] [.yv κ l rec.tmps, .p xv]) (hle : LeH ks s.H ks H0) (hnd : ks.Nodup) (hks : ks.all (fun k => decide (k < s.H.length)) = true) (hsc : scQ q r H0 H1 = true) :
    DoesW P o s (Go.Pv.ren (ks.take q ++ List.range' s.H.length (H1.length - q)) r) (putM (kills s.H (ks.drop q)) (ks.take q) (H1.map (Blk.ren (ks.take q ++ List.range' s.H.length (H1.length - q))))) := by
  intro C m a w K Q R hK
  have hks' : ∀ k ∈ ks, k < s.H.length := fun k hk => by simpa using (List.all_eq_true.1 hks) k hk
  obtain ⟨_, hq, hna⟩ := scQ_parts hsc
  have hfv := R.ev fo
  have hxv := R.ev x
  have hf2 := hfv
  rw [hfo] at hf2
  obtain ⟨lc, hm, hfe⟩ : ∃ lc, m κ0 = some lc ∧ a.eval fo = .func (.yield lc.g) #[] #[] := by
    generalize a.eval fo = v at hf2
    cases hf2 with
    | yv _ _ _ _ hk h hl hr => exact h
  obtain ⟨lc2, b1, b2, b3⟩ := R.mp.2.2.2.1 κ0 rec (hget_some hlp (by simp))
  rw [hm] at b1; cases b1
  have hrun : (execOp a.eval o).run P w = .ok (.round lc.g rec.fn ((rec.params.zip #[a.eval x]).foldl (fun tmps (t, a) => tmps.setIfInBounds t a) rec.tmps) rec.assign rec.body) w := by
    have hy := run_yield (P := P) (args := #[a.eval x]) b3 (by rw [hp]; rfl)
    simp only [execOp, ho, resolve, hfe, Deferred.ofValue, invoke, Sem.run_bind, Sem.run_pure, Result.andThen_ok, List.map_toArray, List.map_cons, List.map_nil, Array.append_empty]
    first | exact hy | simpa using hy
  refine ⟨by rw [ho]; rfl, ?_⟩
  rw [hrun]
  have g1 := (hle.get).1
  obtain ⟨e1, e2⟩ := argsM_val R (rd' := Reads (OK (subC C m s.H ks H0 w) (mren m ks) H0 w) w) (H0 := H0) (fun p v h => h.mono (lend_ok hle)) g1.symm _ _ (fun i => (#[a.eval fo, a.eval x] : Array Value).getD i undef) hargs fun i hi => by
    match i, hi with
    | 0, _ => exact hfv
    | 1, _ => exact hxv
  have R0' := R.lend (q := q) (vals := #[a.eval fo, a.eval x]) hle hnd hq hna rfl e2
  have := hc _ _ w _ _ lc.g R0' hfe b3
  refine RoundIn.mono this fun e w' ⟨v, m', he, R1⟩ => ?_
  subst he
  obtain ⟨m2, R2, hv, _⟩ := R.joinQ hle hks' R1 hsc
  exact hK v m2 w' R2 hv

/-- THE WORD OF THE WALK: a call of yield. -/
theorem runs_yield {all : Array Oper} {rest : List Oper} {K : St → Prop} {dst : Option Tmp} {ty : TypeId} {pos : String} {aft : Array Edge} {gd : Option (Nat × Bool)} {fo x : Operand} {ts : Array TypeId} {κ0 : Nat} {l0 : List AV} {q κ : Nat} {rec : Loop} {l : List AV} {xv : PV} {H0 H1 : Heap} {r : AV} (ks : List Nat)
    (hc : YldQ P q κ rec l xv H0 r H1) (hp : rec.params.size = 1) (hfo : s.ev fo = .yv κ0 l0 rec.tmps) (hlp : hget s.H κ0 = .lp rec) (hg : guardA all s { dst := dst, op := .call { callee := .value fo, args := #[x], argTypes := ts }, type := ty, pos := pos, after := aft, guard := gd } = some true)
    (hargs : argsM s.H ks [s.ev fo, s.ev x] [.yv κ l rec.tmps, .p xv]) (hle : LeH ks s.H ks H0) (hnd : ks.Nodup) (hks : ks.all (fun k => decide (k < s.H.length)) = true) (hsc : scQ q r H0 H1 = true) (hd : dstOk s dst)
    (h : Runs P false all rest K (({ s with H := putM (kills s.H (ks.drop q)) (ks.take q) (H1.map (Blk.ren (ks.take q ++ List.range' s.H.length (H1.length - q)))) } : St).put dst (Go.Pv.ren (ks.take q ++ List.range' s.H.length (H1.length - q)) r))) :
    Runs P false all ({ dst := dst, op := .call { callee := .value fo, args := #[x], argTypes := ts }, type := ty, pos := pos, after := aft, guard := gd } :: rest) K s := by
  obtain ⟨s', hr, hK⟩ := h
  exact ⟨s', .cons (.op s _ _ hg (dstOk_spec hd) (yield_doesQ rfl hfo hp hlp hc hargs hle hnd hks hsc) fun h => by cases h) hr, hK⟩

end
end Go.Pv
