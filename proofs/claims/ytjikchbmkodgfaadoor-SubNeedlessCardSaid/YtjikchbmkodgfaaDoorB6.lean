/-
  Texts of this proof, one behind the other: what each says stands at its head. Conditions: none.
-/
import Derived.Test.YtjikchbmkodgfaaDoorB5
import Derived.Test.YtjikchbmkodgfaaDoorB3
import Derived.Shelf.SlSortCmp.Whole1

/-
  Subgroups, conjugated: Moved, Normaliser, Normal, Core, Closure, and what the document has. Conditions: none.
-/
set_option linter.all false
namespace Go.Proofs.YtjikchbmkodgfaaDoor
open Go.Pv

/-- The fault of a set that is, or is not, a subgroup. -/
def ufb (b : Bool) : Int × Int := bif b then (0, 0) else (7, 0)

/-- A group and a subgroup; a group and a set; a fault. -/
theorem sub3 (N : Int) (m l : List Int) : (∃ n e p, GT N m n e ∧ N = (n : Nat) ∧ l = thl n p ∧ Sub n (op m n) e p) ∨ (∃ n e p, GT N m n e ∧ N = (n : Nat) ∧ l = thl n p ∧ ¬ Sub n (op m n) e p) ∨ ¬ (sf N m l).1 = 0 := by
  by_cases hf : (sf N m l).1 = 0
  · obtain ⟨n, e, h, rfl, hl2, hs⟩ := sf_ok hf
    by_cases hsub : Sub n (op m n) e (tst l)
    · exact .inl ⟨n, e, tst l, h, rfl, hl2, hsub⟩
    · exact .inr (.inl ⟨n, e, tst l, h, rfl, hl2, hsub⟩)
  · exact .inr (.inr hf)

theorem group_ok {n e : Nat} {m : List Int} (h : GT n m n e) (p : Nat → Bool) (b : Bool) (hbs : b = true ↔ Sub n (op m n) e p) : FnC Tryd.prog 95 [gp n m, .list (il (thl n p))] (fl (ufb b)) := by
  refine fnc_of tab_ok Tryd.func95 rfl (by kernel_rfl) (by rw [Tryd.ntmps95]; exact Nat.le_add_left 2 _) ?_; rw [Tryd.ntmps95]
  refine qm ?_
  refine hk_region fun K hK => runs_eval tab_ok ?_
  simp only [ev0, evA, evB, evP, fl, gp, tab, simprocAttr, reduceCtorEq, reduceIte]
  refine fin_run ?_ (hK _ ?_) <;> clear hK <;> clear K
  · (first | exact trivial | omega | (simp only [In64] at *; omega) | (simp [In64] at *; omega) | (simp_all; done) | skip)
  refine qa (qm ?_)
  refine hk_region fun K hK => runs_eval tab_ok ?_
  simp only [ev0, evA, evB, evP, fl, gp, tab, simprocAttr, reduceCtorEq, reduceIte]
  refine fin_stop trivial (runs_call (is_ok h p b hbs) rfl rfl rfl (by simp only [dstOk, Nat.reduceLT]) (by repeat (first | exact trivial | constructor)) (runs_eval tab_ok ?_))
  simp only [ev0, evA, evB, evP, fl, gp, tab, simprocAttr, reduceCtorEq, reduceIte]
  refine fin_run ?_ (hK _ ?_) <;> clear hK <;> clear K
  · (first | exact trivial | omega | (simp only [In64] at *; omega) | (simp [In64] at *; omega) | (simp_all; done) | skip)
  refine qa (qm (qm ?_))
  refine hk_region fun K hK => runs_eval tab_ok ?_
  simp only [ev0, evA, evB, evP, fl, gp, tab, simprocAttr, reduceCtorEq, reduceIte]
  refine fin_run ?_ (hK _ ?_) <;> clear hK <;> clear K
  · (first | exact trivial | omega | (simp only [In64] at *; omega) | (simp [In64] at *; omega) | (simp_all; done) | skip)
  refine qa ?_
  refine hk_cond rfl (fun hC1 => ?_) (fun hC1 => ?_)
  · (try simp only [nhs] at hC1)
    have hbf : b = false := by simpa using hC1
    refine qm ?_
    refine hk_region fun K hK => runs_eval tab_ok ?_
    simp only [ev0, evA, evB, evP, fl, gp, tab, simprocAttr, reduceCtorEq, reduceIte]
    refine fin_stop trivial (runs_call (sfault_c 7 0) rfl rfl rfl (by simp only [dstOk, Nat.reduceLT]) (by repeat (first | exact trivial | constructor)) (runs_eval tab_ok ?_))
    simp only [ev0, evA, evB, evP, fl, gp, tab, simprocAttr, reduceCtorEq, reduceIte]
    refine fin_run ?_ (hK _ ?_) <;> clear hK <;> clear K
    · (first | exact trivial | omega | (simp only [In64] at *; omega) | (simp [In64] at *; omega) | (simp_all; done) | skip)
    refine qa (qk (qb ?_))
    simp only [Tryd.results95, enA, ev0, evA, evB, evP, fl, gp, tab, simprocAttr, reduceCtorEq, reduceIte]
    all_goals (rw [hbf]; exact ⟨rfl, rfl⟩)
  · (try simp only [nhs] at hC1)
    have hbt : b = true := by simpa using hC1
    refine qh (qa (qm ?_))
    refine hk_region fun K hK => runs_eval tab_ok ?_
    simp only [ev0, evA, evB, evP, fl, gp, tab, simprocAttr, reduceCtorEq, reduceIte]
    refine fin_run ?_ (hK _ ?_) <;> clear hK <;> clear K
    · (first | exact trivial | omega | (simp only [In64] at *; omega) | (simp [In64] at *; omega) | (simp_all; done) | skip)
    refine qa (qk ?_)
    simp only [Tryd.results95, enA, ev0, evA, evB, evP, fl, gp, tab, simprocAttr, reduceCtorEq, reduceIte]
    all_goals (rw [hbt]; exact ⟨rfl, rfl⟩)
theorem group_no (N : Int) (m l : List Int) (hm : m.length ≤ 1000000000000000) (hl : l.length ≤ 1000000000000000) (hf : ¬ (sf N m l).1 = 0) : FnC Tryd.prog 95 [gp N m, .list (il l)] (fl (sf N m l)) := by
  refine fnc_of tab_ok Tryd.func95 rfl (by kernel_rfl) (by rw [Tryd.ntmps95]; exact Nat.le_add_left 2 _) ?_; rw [Tryd.ntmps95]
  refine qm ?_
  refine hk_region fun K hK => runs_eval tab_ok ?_
  simp only [ev0, evA, evB, evP, fl, gp, tab, simprocAttr, reduceCtorEq, reduceIte]
  refine fin_run ?_ (hK _ ?_) <;> clear hK <;> clear K
  · (first | exact trivial | omega | (simp only [In64] at *; omega) | (simp [In64] at *; omega) | (simp_all; done) | skip)
  refine qa (qm ?_)
  refine hk_region fun K hK => runs_eval tab_ok ?_
  simp only [ev0, evA, evB, evP, fl, gp, tab, simprocAttr, reduceCtorEq, reduceIte]
  refine fin_stop trivial (runs_call (is_no N m l hm hl hf) rfl rfl rfl (by simp only [dstOk, Nat.reduceLT]) (by repeat (first | exact trivial | constructor)) (runs_eval tab_ok ?_))
  simp only [ev0, evA, evB, evP, fl, gp, tab, simprocAttr, reduceCtorEq, reduceIte]
  refine fin_run ?_ (hK _ ?_) <;> clear hK <;> clear K
  · (first | exact trivial | omega | (simp only [In64] at *; omega) | (simp [In64] at *; omega) | (simp_all; done) | skip)
  refine qa (qm (qm ?_))
  refine hk_region fun K hK => runs_eval tab_ok ?_
  simp only [ev0, evA, evB, evP, fl, gp, tab, simprocAttr, reduceCtorEq, reduceIte, decide_eq_false hf]
  refine fin_run ?_ (hK _ ?_) <;> clear hK <;> clear K
  · (first | exact trivial | omega | (simp only [In64] at *; omega) | (simp [In64] at *; omega) | (simp_all; done) | skip)
  refine qa ?_
  refine hk_cond rfl (fun hC1 => ?_) (fun hC1 => ?_)
  · cases hC1
  · refine qh (qa (qm ?_))
    refine hk_region fun K hK => runs_eval tab_ok ?_
    simp only [ev0, evA, evB, evP, fl, gp, tab, simprocAttr, reduceCtorEq, reduceIte]
    refine fin_run ?_ (hK _ ?_) <;> clear hK <;> clear K
    · (first | exact trivial | omega | (simp only [In64] at *; omega) | (simp [In64] at *; omega) | (simp_all; done) | skip)
    refine qa (qk ?_)
    simp only [Tryd.results95, enA, ev0, evA, evB, evP, fl, gp, tab, simprocAttr, reduceCtorEq, reduceIte]
    all_goals (rfl)
theorem subFault_ok {n e : Nat} {m : List Int} (h : GT n m n e) (p : Nat → Bool) (b : Bool) (hbs : b = true ↔ Sub n (op m n) e p) : FnC Tryd.prog 82 [gp n m, .list (il (thl n p))] (fl (ufb b)) := by
  have hb := h.2.1.big
  have hl := thl_le n p
  have hml := h.2.1.len
  have hsq := sq_le hb
  refine fnc_of tab_ok Tryd.func82 rfl (by kernel_rfl) (by rw [Tryd.ntmps82]; exact Nat.le_add_left 2 _) ?_; rw [Tryd.ntmps82]
  refine qm ?_
  refine hk_region fun K hK => runs_eval tab_ok ?_
  simp only [ev0, evA, evB, evP, fl, gp, tab, simprocAttr, reduceCtorEq, reduceIte]
  refine fin_run ?_ (hK _ ?_) <;> clear hK <;> clear K
  · (first | exact trivial | omega | (simp only [In64] at *; omega) | (simp [In64] at *; omega) | (simp_all; done) | skip)
  refine qa (qm ?_)
  refine hk_region fun K hK => runs_eval tab_ok ?_
  simp only [ev0, evA, evB, evP, fl, gp, tab, simprocAttr, reduceCtorEq, reduceIte, sf_thl h]
  refine fin_stop trivial (runs_call (setFault_c n m (thl n p) (by omega) (by omega)) rfl rfl rfl (by simp only [dstOk, Nat.reduceLT]) (by repeat (first | exact trivial | constructor)) (runs_eval tab_ok ?_))
  simp only [ev0, evA, evB, evP, fl, gp, tab, simprocAttr, reduceCtorEq, reduceIte, sf_thl h]
  refine fin_run ?_ (hK _ ?_) <;> clear hK <;> clear K
  · (first | exact trivial | omega | (simp only [In64] at *; omega) | (simp [In64] at *; omega) | (simp_all; done) | skip)
  refine qa (qm (qm ?_))
  refine hk_region fun K hK => runs_eval tab_ok ?_
  simp only [ev0, evA, evB, evP, fl, gp, tab, simprocAttr, reduceCtorEq, reduceIte]
  refine fin_stop trivial (runs_call (closed_c h p b hbs) rfl rfl rfl (by simp only [dstOk, Nat.reduceLT]) (by repeat (first | exact trivial | constructor)) (runs_eval tab_ok ?_))
  simp only [ev0, evA, evB, evP, fl, gp, tab, simprocAttr, reduceCtorEq, reduceIte]
  refine fin_run ?_ (hK _ ?_) <;> clear hK <;> clear K
  · (first | exact trivial | omega | (simp only [In64] at *; omega) | (simp [In64] at *; omega) | (simp_all; done) | skip)
  refine qa ?_
  refine hk_cond rfl (fun hC1 => ?_) (fun hC1 => ?_)
  · (try simp only [nhs] at hC1)
    have hbf : b = false := by simpa using hC1
    refine hk_region fun K hK => runs_eval tab_ok ?_
    simp only [ev0, evA, evB, evP, fl, gp, tab, simprocAttr, reduceCtorEq, reduceIte]
    refine fin_stop trivial (runs_call (f_c 7 0) rfl rfl rfl (by simp only [dstOk, Nat.reduceLT]) (by repeat (first | exact trivial | constructor)) (runs_eval tab_ok ?_))
    simp only [ev0, evA, evB, evP, fl, gp, tab, simprocAttr, reduceCtorEq, reduceIte]
    refine fin_run ?_ (hK _ ?_) <;> clear hK <;> clear K
    · (first | exact trivial | omega | (simp only [In64] at *; omega) | (simp [In64] at *; omega) | (simp_all; done) | skip)
    refine qa (qm ?_)
    refine hk_region fun K hK => runs_eval tab_ok ?_
    simp only [ev0, evA, evB, evP, fl, gp, tab, simprocAttr, reduceCtorEq, reduceIte]
    refine fin_run ?_ (hK _ ?_) <;> clear hK <;> clear K
    · (first | exact trivial | omega | (simp only [In64] at *; omega) | (simp [In64] at *; omega) | (simp_all; done) | skip)
    refine qa (qk ?_)
    simp only [Tryd.results82, enA, ev0, evA, evB, evP, fl, gp, tab, simprocAttr, reduceCtorEq, reduceIte]
    all_goals (rw [hbf]; exact ⟨rfl, rfl⟩)
  · (try simp only [nhs] at hC1)
    have hbt : b = true := by simpa using hC1
    refine qh (qa (qm ?_))
    refine hk_region fun K hK => runs_eval tab_ok ?_
    simp only [ev0, evA, evB, evP, fl, gp, tab, simprocAttr, reduceCtorEq, reduceIte]
    refine fin_run ?_ (hK _ ?_) <;> clear hK <;> clear K
    · (first | exact trivial | omega | (simp only [In64] at *; omega) | (simp [In64] at *; omega) | (simp_all; done) | skip)
    refine qa (qk ?_)
    simp only [Tryd.results82, enA, ev0, evA, evB, evP, fl, gp, tab, simprocAttr, reduceCtorEq, reduceIte]
    all_goals (rw [hbt]; exact ⟨rfl, rfl⟩)
theorem subFault_no (N : Int) (m l : List Int) (hm : m.length ≤ 1000000000000000) (hl : l.length ≤ 1000000000000000) (hf : ¬ (sf N m l).1 = 0) : FnC Tryd.prog 82 [gp N m, .list (il l)] (fl (sf N m l)) := by
  refine fnc_of tab_ok Tryd.func82 rfl (by kernel_rfl) (by rw [Tryd.ntmps82]; exact Nat.le_add_left 2 _) ?_; rw [Tryd.ntmps82]
  refine qm ?_
  refine hk_region fun K hK => runs_eval tab_ok ?_
  simp only [ev0, evA, evB, evP, fl, gp, tab, simprocAttr, reduceCtorEq, reduceIte]
  refine fin_run ?_ (hK _ ?_) <;> clear hK <;> clear K
  · (first | exact trivial | omega | (simp only [In64] at *; omega) | (simp [In64] at *; omega) | (simp_all; done) | skip)
  refine qa (qm ?_)
  refine hk_region fun K hK => runs_eval tab_ok ?_
  simp only [ev0, evA, evB, evP, fl, gp, tab, simprocAttr, reduceCtorEq, reduceIte]
  refine fin_stop trivial (runs_call (setFault_c N m l hm hl) rfl rfl rfl (by simp only [dstOk, Nat.reduceLT]) (by repeat (first | exact trivial | constructor)) (runs_eval tab_ok ?_))
  simp only [ev0, evA, evB, evP, fl, gp, tab, simprocAttr, reduceCtorEq, reduceIte]
  refine fin_run ?_ (hK _ ?_) <;> clear hK <;> clear K
  · (first | exact trivial | omega | (simp only [In64] at *; omega) | (simp [In64] at *; omega) | (simp_all; done) | skip)
  refine qa (qm (qm ?_))
  refine hk_region fun K hK => runs_eval tab_ok ?_
  simp only [ev0, evA, evB, evP, fl, gp, tab, simprocAttr, reduceCtorEq, reduceIte, decide_eq_false hf]
  refine fin_run ?_ (hK _ ?_) <;> clear hK <;> clear K
  · (first | exact trivial | omega | (simp only [In64] at *; omega) | (simp [In64] at *; omega) | (simp_all; done) | skip)
  refine qa ?_
  refine hk_cond rfl (fun hC1 => ?_) (fun hC1 => ?_)
  · cases hC1
  · refine qh (qa (qm ?_))
    refine hk_region fun K hK => runs_eval tab_ok ?_
    simp only [ev0, evA, evB, evP, fl, gp, tab, simprocAttr, reduceCtorEq, reduceIte]
    refine fin_run ?_ (hK _ ?_) <;> clear hK <;> clear K
    · (first | exact trivial | omega | (simp only [In64] at *; omega) | (simp [In64] at *; omega) | (simp_all; done) | skip)
    refine qa (qk ?_)
    simp only [Tryd.results82, enA, ev0, evA, evB, evP, fl, gp, tab, simprocAttr, reduceCtorEq, reduceIte]
    all_goals (rfl)

/-! ### A set, conjugated -/

def cjl (n : Nat) (f : Nat → Nat → Nat) (e a : Nat) (l : List Int) : List Int := l.map fun x => ((cjr n f e x.toNat a : Nat) : Int)
theorem cjl_succ (n : Nat) (f : Nat → Nat → Nat) (e a : Nat) {l : List Int} {i : Nat} (hi : i < l.length) : cjl n f e a (l.take (i + 1)) = cjl n f e a (l.take i) ++ [((cjr n f e (l.getD i 0).toNat a : Nat) : Int)] := by
  unfold cjl
  rw [List.take_succ_eq_append_getElem hi, List.map_append]
  have : l[i] = l.getD i 0 := by simp [List.getD, List.getElem?_eq_getElem hi]
  rw [this]; rfl
theorem mem_cjl {n e a : Nat} {f : Nat → Nat → Nat} {p : Nat → Bool} {x : Int} : x ∈ cjl n f e a (thl n p) ↔ ∃ y, y < n ∧ p y = true ∧ x = ((cjr n f e y a : Nat) : Int) := by
  unfold cjl
  rw [List.mem_map]
  constructor
  · rintro ⟨z, hz, rfl⟩
    obtain ⟨y, y1, y2, rfl⟩ := mem_thl.1 hz
    exact ⟨y, y1, y2, by simp⟩
  · rintro ⟨y, y1, y2, rfl⟩
    exact ⟨_, (mem_thl_n y1).2 y2, by simp⟩
theorem msk_cjl {n e a : Nat} {f : Nat → Nat → Nat} (G : Grp n f e) (p : Nat → Bool) (ha : a < n) : msk (cjl n f e a (thl n p)) = bo n (shf n f e p a) := by
  refine Nat.eq_of_testBit_eq fun i => ?_
  rw [msk_bit, bo_bit, Bool.eq_iff_iff, decide_eq_true_eq, Bool.and_eq_true, decide_eq_true_eq, shf_iff]
  constructor
  · rintro ⟨x, hx, rfl⟩
    obtain ⟨y, y1, y2, rfl⟩ := mem_cjl.1 hx
    exact ⟨by simpa using G.cjr_lt y1 ha, y, y1, y2, by simp⟩
  · rintro ⟨_, y, y1, y2, rfl⟩
    exact ⟨_, mem_cjl.2 ⟨y, y1, y2, rfl⟩, by simp⟩

theorem moved_s {n e : Nat} {m : List Int} (h : GT n m n e) (p : Nat → Bool) {a : Nat} (ha : a < n) : FnC Tryd.prog 90 [gp n m, .int .u64 (bo n p), .int .i64 a] (.int .u64 (bo n (shf n (op m n) e p a))) := by
  have G := h.2.2
  have hb := h.2.1.big
  have hlp := thl_le n p
  refine fnc_of tab_ok Tryd.func90 rfl (by kernel_rfl) (by rw [Tryd.ntmps90]; exact Nat.le_add_left 3 _) ?_; rw [Tryd.ntmps90]
  refine qm ?_
  refine hk_region fun K hK => runs_eval tab_ok ?_
  simp only [ev0, evA, evB, evP, fl, gp, tab, simprocAttr, reduceCtorEq, reduceIte]
  refine fin_run ?_ (hK _ ?_) <;> clear hK <;> clear K
  · (first | exact trivial | omega | (simp only [In64] at *; omega) | (simp [In64] at *; omega) | (simp_all; done) | skip)
  refine qa (qm ?_)
  refine hk_region fun K hK => runs_eval tab_ok ?_
  simp only [ev0, evA, evB, evP, fl, gp, tab, simprocAttr, reduceCtorEq, reduceIte]
  refine fin_run trivial (hK _ ?_) <;> clear hK <;> clear K
  refine qa (qm (qm ?_))
  refine hk_region fun K hK => runs_eval tab_ok ?_
  simp only [ev0, evA, evB, evP, fl, gp, tab, simprocAttr, reduceCtorEq, reduceIte]
  refine fin_stop trivial (runs_call (list_s (bo n p) (bo_lt64 hb p)) rfl rfl rfl (by simp only [dstOk, Nat.reduceLT]) (by repeat (first | exact trivial | constructor)) (runs_eval tab_ok ?_))
  simp only [ev0, evA, evB, evP, fl, gp, tab, simprocAttr, reduceCtorEq, reduceIte, stl_bo hb, il_length]
  refine fin_run trivial (hK _ ?_) <;> clear hK <;> clear K
  refine qa (ql ?_)
  refine hk_loop (ι := Nat) (fun i => ⟨26, [(2, .p (.int .i64 a)), (3, .ptr 0 0), (7, .p (.int .u64 (msk (cjl n (op m n) e a ((thl n p).take i))))), (11, .p (.list (il (thl n p)))), (12, .p (.int .i64 (thl n p).length)), (13, .p (.int .i64 i))], [.own [.p (.int .i64 n), .p (.list (il m))]]⟩) (fun i => i ≤ (thl n p).length) (fun i => (thl n p).length - i) 0 (Nat.zero_le _) [0] (by simp only [leq, leA, ev0, evA, evB, evP, fl, gp, tab, simprocAttr, reduceCtorEq, reduceIte] <;> first | trivial | simp [cjl, msk]) fun i hi => ?_
  refine qm ?_
  refine hk_region fun K hK => runs_eval tab_ok ?_
  simp only [ev0, evA, evB, evP, fl, gp, tab, simprocAttr, reduceCtorEq, reduceIte]
  refine fin_run trivial (hK _ ?_) <;> clear hK <;> clear K
  refine qa (qm ?_)
  refine hk_cond rfl (fun hC1 => ?_) (fun hC1 => ?_)
  · (try simp only [nhs] at hC1)
    have hlt : i < (thl n p).length := by omega
    obtain ⟨x, x1, x2, x3⟩ := thl_get hlt
    have hc := G.cjr_lt x1 ha
    have hp := pow_lt64 (b := cjr n (op m n) e x a) (by omega)
    have hall : ∀ z ∈ cjl n (op m n) e a ((thl n p).take i), z.toNat < n := fun z hz => by
      obtain ⟨w, hw, rfl⟩ := List.mem_map.1 hz
      obtain ⟨w', w1, w2⟩ := thl_rng2 w (List.mem_of_mem_take hw)
      subst w2
      exact G.cjr_lt w1 ha
    have hm := lt64 hb (msk_lt hall)
    refine qh (qa (qm (ql (qm ?_))))
    refine hk_region fun K hK => runs_eval tab_ok ?_
    simp only [ev0, evA, evB, evP, fl, gp, tab, simprocAttr, reduceCtorEq, reduceIte, il_get hlt, x3]
    refine fin_run ?_ (hK _ ?_) <;> clear hK <;> clear K
    · (first | exact trivial | omega | (simp only [In64] at *; omega) | (simp [In64] at *; omega) | (simp_all; done) | skip)
    refine qa ?_
    refine hk_region fun K hK => runs_eval tab_ok ?_
    simp only [ev0, evA, evB, evP, fl, gp, tab, simprocAttr, reduceCtorEq, reduceIte]
    refine fin_stop trivial (runs_call (conj_s h x1 ha) rfl rfl rfl (by simp only [dstOk, Nat.reduceLT]) (by repeat (first | exact trivial | constructor)) (runs_eval tab_ok ?_))
    simp only [ev0, evA, evB, evP, fl, gp, tab, simprocAttr, reduceCtorEq, reduceIte, shl_one (show cjr n (op m n) e x a < 64 by omega), bv_or hm hp]
    refine fin_run ?_ (hK _ ?_) <;> clear hK <;> clear K
    · (first | exact trivial | omega | (simp only [In64] at *; omega) | (simp [In64] at *; omega) | (simp_all; done) | skip)
    refine qd (qa ?_)
    refine hk_region fun K hK => runs_eval tab_ok ?_
    simp only [ev0, evA, evB, evP, fl, gp, tab, simprocAttr, reduceCtorEq, reduceIte]
    refine fin_run ?_ (hK _ ?_) <;> clear hK <;> clear K
    · (first | exact trivial | omega | (simp only [In64] at *; omega) | (simp [In64] at *; omega) | (simp_all; done) | skip)
    refine qa ?_
    refine ⟨i + 1, [0], by omega, by omega, ?_⟩
    rw [cjl_succ n (op m n) e a hlt, msk_snoc, x3]
    simp only [leq, leA, ev0, evA, evB, evP, fl, gp, tab, simprocAttr, reduceCtorEq, reduceIte] <;> first | trivial | omega
  · (try simp only [nhs] at hC1)
    have hin : i = (thl n p).length := by omega
    rw [hin, List.take_length, msk_cjl G p ha]
    refine qj (qc (qc (qf (qa (qm ?_)))))
    refine hk_region fun K hK => runs_eval tab_ok ?_
    simp only [ev0, evA, evB, evP, fl, gp, tab, simprocAttr, reduceCtorEq, reduceIte]
    refine fin_run trivial (hK _ ?_) <;> clear hK <;> clear K
    refine qa (qk ?_)
    simp only [Tryd.results90, enA, ev0, evA, evB, evP, fl, gp, tab, simprocAttr, reduceCtorEq, reduceIte]
    all_goals (rfl)

theorem normaliser1_c {n e : Nat} {m : List Int} (h : GT n m n e) (p : Nat → Bool) {a : Nat} (ha : a < n) : FnC Tryd.prog 97 [.int .i64 a, .ptr [.int .i64 n, .list (il m)], .ptr [.list (il (thl n p))]] (.bool (nzr n (op m n) e p a)) := by
  have hb := h.2.1.big
  have hlp := thl_le n p
  have hz : decide ((bo n (shf n (op m n) e p a) : Int) = (bo n p : Int)) = nzr n (op m n) e p a := by
    rw [Bool.eq_iff_iff, decide_eq_true_eq, nzr_iff]
    exact ⟨fun he y hy => bo_inj (by omega) hy, fun he => by rw [bo_congr he]⟩
  refine fnc_of tab_ok Tryd.func97 rfl (by kernel_rfl) (by rw [Tryd.ntmps97]; exact Nat.le_add_left 3 _) ?_; rw [Tryd.ntmps97]
  refine qm ?_
  refine hk_region fun K hK => runs_eval tab_ok ?_
  simp only [ev0, evA, evB, evP, fl, gp, tab, simprocAttr, reduceCtorEq, reduceIte]
  refine fin_run trivial (hK _ ?_) <;> clear hK <;> clear K
  refine qa (qm ?_)
  refine hk_draw mixed (by kernel_rfl) fun K hK => runs_eval tab_ok ?_
  simp only [ev0, evA, evB, evP, fl, gp, tab, simprocAttr, reduceCtorEq, reduceIte]
  refine fin_stop trivial (runs_call (of_s (thl n p) (by omega) (thl_rng hb p)) rfl rfl rfl (by simp only [dstOk, Nat.reduceLT]) (by repeat (first | exact trivial | constructor)) (runs_eval tab_ok ?_))
  simp only [ev0, evA, evB, evP, fl, gp, tab, simprocAttr, reduceCtorEq, reduceIte, msk_thl]
  refine fin_stop trivial (runs_call (moved_s h p ha) rfl rfl rfl (by simp only [dstOk, Nat.reduceLT]) (by repeat (first | exact trivial | constructor)) (runs_eval tab_ok ?_))
  simp only [ev0, evA, evB, evP, fl, gp, tab, simprocAttr, reduceCtorEq, reduceIte]
  refine fin_stop trivial (runs_call (of_s (thl n p) (by omega) (thl_rng hb p)) rfl rfl rfl (by simp only [dstOk, Nat.reduceLT]) (by repeat (first | exact trivial | constructor)) (runs_eval tab_ok ?_))
  simp only [ev0, evA, evB, evP, fl, gp, tab, simprocAttr, reduceCtorEq, reduceIte]
  refine fin_run ?_ (hK _ ?_) <;> clear hK <;> clear K
  · (first | exact trivial | omega | (simp only [In64] at *; omega) | (simp [In64] at *; omega) | (simp_all; done) | skip)
  refine qa (qk ?_)
  simp only [Tryd.results97, enA, ev0, evA, evB, evP, fl, gp, tab, simprocAttr, reduceCtorEq, reduceIte]
  all_goals (exact hz)
theorem normaliser_w (N : Int) (m l : List Int) (w : Int × Int) (hG : FnC Tryd.prog 95 [gp N m, .list (il l)] (fl w)) (hw : ¬ w.1 = 0) : FnC Tryd.prog 53 [gp N m, .list (il l)] (.tup [.list [], fl w]) := by
  refine fnc_of tab_ok Tryd.func53 rfl (by kernel_rfl) (by rw [Tryd.ntmps53]; exact Nat.le_add_left 2 _) ?_; rw [Tryd.ntmps53]
  refine qm ?_
  refine hk_region fun K hK => runs_eval tab_ok ?_
  simp only [ev0, evA, evB, evP, fl, gp, tab, simprocAttr, reduceCtorEq, reduceIte]
  refine fin_run ?_ (hK _ ?_) <;> clear hK <;> clear K
  · (first | exact trivial | omega | (simp only [In64] at *; omega) | (simp [In64] at *; omega) | (simp_all; done) | skip)
  refine qa (qm (qm ?_))
  refine hk_region fun K hK => runs_eval tab_ok ?_
  simp only [ev0, evA, evB, evP, fl, gp, tab, simprocAttr, reduceCtorEq, reduceIte]
  refine fin_stop trivial (runs_call (hG) rfl rfl rfl (by simp only [dstOk, Nat.reduceLT]) (by repeat (first | exact trivial | constructor)) (runs_eval tab_ok ?_))
  simp only [ev0, evA, evB, evP, fl, gp, tab, simprocAttr, reduceCtorEq, reduceIte]
  refine fin_run ?_ (hK _ ?_) <;> clear hK <;> clear K
  · (first | exact trivial | omega | (simp only [In64] at *; omega) | (simp [In64] at *; omega) | (simp_all; done) | skip)
  refine qa (qm ?_)
  refine hk_region fun K hK => runs_eval tab_ok ?_
  simp only [ev0, evA, evB, evP, fl, gp, tab, simprocAttr, reduceCtorEq, reduceIte]
  refine fin_run ?_ (hK _ ?_) <;> clear hK <;> clear K
  · (first | exact trivial | omega | (simp only [In64] at *; omega) | (simp [In64] at *; omega) | (simp_all; done) | skip)
  refine qa ?_
  refine hk_cond rfl (fun hC1 => ?_) (fun hC1 => ?_)
  · (try simp only [nhs] at hC1)
    refine qm ?_
    refine hk_draw mixed (by kernel_rfl) fun K hK => runs_eval tab_ok ?_
    simp only [ev0, evA, evB, evP, fl, gp, tab, simprocAttr, reduceCtorEq, reduceIte]
    refine fin_run ?_ (hK _ ?_) <;> clear hK <;> clear K
    · (first | exact trivial | omega | (simp only [In64] at *; omega) | (simp [In64] at *; omega) | (simp_all; done) | skip)
    refine qa (qk (qb ?_))
    simp only [Tryd.results53, enA, ev0, evA, evB, evP, fl, gp, tab, simprocAttr, reduceCtorEq, reduceIte]
    all_goals ((first | exact rfl | exact ⟨rfl, rfl⟩ | exact ⟨rfl, rfl, rfl⟩ | exact ⟨trivial, rfl⟩ | exact ⟨Nat.le_refl _, rfl⟩ | trivial | (simp; done)))
  · (try simp only [nhs] at hC1)
    exact absurd hC1 hw
theorem normaliser_ok {n e : Nat} {m : List Int} (h : GT n m n e) (p : Nat → Bool) (hs : Sub n (op m n) e p) : FnC Tryd.prog 53 [gp n m, .list (il (thl n p))] (.tup [.list (il (thl n (nzr n (op m n) e p))), fl (0, 0)]) := by
  have hb := h.2.1.big
  refine fnc_of tab_ok Tryd.func53 rfl (by kernel_rfl) (by rw [Tryd.ntmps53]; exact Nat.le_add_left 2 _) ?_; rw [Tryd.ntmps53]
  refine qm ?_
  refine hk_region fun K hK => runs_eval tab_ok ?_
  simp only [ev0, evA, evB, evP, fl, gp, tab, simprocAttr, reduceCtorEq, reduceIte]
  refine fin_run ?_ (hK _ ?_) <;> clear hK <;> clear K
  · (first | exact trivial | omega | (simp only [In64] at *; omega) | (simp [In64] at *; omega) | (simp_all; done) | skip)
  refine qa (qm (qm ?_))
  refine hk_region fun K hK => runs_eval tab_ok ?_
  simp only [ev0, evA, evB, evP, fl, gp, tab, simprocAttr, reduceCtorEq, reduceIte]
  refine fin_stop trivial (runs_call (group_ok h p true (by simp [hs])) rfl rfl rfl (by simp only [dstOk, Nat.reduceLT]) (by repeat (first | exact trivial | constructor)) (runs_eval tab_ok ?_))
  simp only [ev0, evA, evB, evP, fl, gp, tab, simprocAttr, reduceCtorEq, reduceIte, ufb]
  refine fin_run ?_ (hK _ ?_) <;> clear hK <;> clear K
  · (first | exact trivial | omega | (simp only [In64] at *; omega) | (simp [In64] at *; omega) | (simp_all; done) | skip)
  refine qa (qm ?_)
  refine hk_region fun K hK => runs_eval tab_ok ?_
  simp only [ev0, evA, evB, evP, fl, gp, tab, simprocAttr, reduceCtorEq, reduceIte]
  refine fin_run ?_ (hK _ ?_) <;> clear hK <;> clear K
  · (first | exact trivial | omega | (simp only [In64] at *; omega) | (simp [In64] at *; omega) | (simp_all; done) | skip)
  refine qa ?_
  refine hk_cond rfl (fun hC1 => ?_) (fun hC1 => ?_)
  · cases hC1
  · (try simp only [nhs] at hC1)
    refine qh (qa (qm ?_))
    refine hk_freeze 0 rfl rfl ?_
    refine hk_freeze 1 rfl rfl ?_
    simp only [hset]
    refine hk_region fun K hK => runs_eval tab_ok ?_
    simp only [ev0, evA, evB, evP, fl, gp, tab, simprocAttr, reduceCtorEq, reduceIte]
    refine fin_stop trivial (runs_call (choose_c n m _ _ (nzr n (op m n) e p) (by omega) (fun a ha => normaliser1_c h p ha)) rfl rfl rfl (by simp only [dstOk, Nat.reduceLT]) (by repeat (first | exact trivial | constructor)) (runs_eval tab_ok ?_))
    simp only [ev0, evA, evB, evP, fl, gp, tab, simprocAttr, reduceCtorEq, reduceIte]
    refine fin_run ?_ (hK _ ?_) <;> clear hK <;> clear K
    · (first | exact trivial | omega | (simp only [In64] at *; omega) | (simp [In64] at *; omega) | (simp_all; done) | skip)
    refine qa (qk ?_)
    simp only [Tryd.results53, enA, ev0, evA, evB, evP, fl, gp, tab, simprocAttr, reduceCtorEq, reduceIte]
    all_goals ((first | exact rfl | exact ⟨rfl, rfl⟩ | exact ⟨rfl, rfl, rfl⟩ | exact ⟨trivial, rfl⟩ | exact ⟨Nat.le_refl _, rfl⟩ | trivial | (simp; done)))
theorem normal_w (N : Int) (m l : List Int) (w : Int × Int) (hG : FnC Tryd.prog 95 [gp N m, .list (il l)] (fl w)) (hw : ¬ w.1 = 0) : FnC Tryd.prog 55 [gp N m, .list (il l)] (.tup [.bool false, fl w]) := by
  refine fnc_of tab_ok Tryd.func55 rfl (by kernel_rfl) (by rw [Tryd.ntmps55]; exact Nat.le_add_left 2 _) ?_; rw [Tryd.ntmps55]
  refine qm ?_
  refine hk_region fun K hK => runs_eval tab_ok ?_
  simp only [ev0, evA, evB, evP, fl, gp, tab, simprocAttr, reduceCtorEq, reduceIte]
  refine fin_run ?_ (hK _ ?_) <;> clear hK <;> clear K
  · (first | exact trivial | omega | (simp only [In64] at *; omega) | (simp [In64] at *; omega) | (simp_all; done) | skip)
  refine qa (qm ?_)
  refine hk_region fun K hK => runs_eval tab_ok ?_
  simp only [ev0, evA, evB, evP, fl, gp, tab, simprocAttr, reduceCtorEq, reduceIte]
  refine fin_stop trivial (runs_call (normaliser_w N m l w hG hw) rfl rfl rfl (by simp only [dstOk, Nat.reduceLT]) (by repeat (first | exact trivial | constructor)) (runs_eval tab_ok ?_))
  simp only [ev0, evA, evB, evP, fl, gp, tab, simprocAttr, reduceCtorEq, reduceIte]
  refine fin_run ?_ (hK _ ?_) <;> clear hK <;> clear K
  · (first | exact trivial | omega | (simp only [In64] at *; omega) | (simp [In64] at *; omega) | (simp_all; done) | skip)
  refine qa (qm ?_)
  refine hk_draw mixed (by kernel_rfl) fun K hK => runs_eval tab_ok ?_
  simp only [ev0, evA, evB, evP, fl, gp, tab, simprocAttr, reduceCtorEq, reduceIte, decide_eq_false hw]
  refine fin_run ?_ (hK _ ?_) <;> clear hK <;> clear K
  · (first | exact trivial | omega | (simp only [In64] at *; omega) | (simp [In64] at *; omega) | (simp_all; done) | skip)
  refine qa (qk ?_)
  simp only [Tryd.results55, enA, ev0, evA, evB, evP, fl, gp, tab, simprocAttr, reduceCtorEq, reduceIte]
  all_goals ((first | exact rfl | exact ⟨rfl, rfl⟩ | exact ⟨rfl, rfl, rfl⟩ | exact ⟨trivial, rfl⟩ | exact ⟨Nat.le_refl _, rfl⟩ | trivial | (simp; done)))
theorem normal_ok {n e : Nat} {m : List Int} (h : GT n m n e) (p : Nat → Bool) (hs : Sub n (op m n) e p) (b : Bool) (hb' : b = true ↔ Nml n (op m n) e p) : FnC Tryd.prog 55 [gp n m, .list (il (thl n p))] (.tup [.bool b, fl (0, 0)]) := by
  have hb := h.2.1.big
  have hl := thl_le n (nzr n (op m n) e p)
  have hz : decide (((thl n (nzr n (op m n) e p)).length : Int) = (n : Int)) = b := by
    rw [Bool.eq_iff_iff, decide_eq_true_eq, hb', h.2.2.nml_iff, ← mem_all]
    have : (thl n (nzr n (op m n) e p)).length = (mem n (nzr n (op m n) e p)).length := thl_len _ _
    omega
  refine fnc_of tab_ok Tryd.func55 rfl (by kernel_rfl) (by rw [Tryd.ntmps55]; exact Nat.le_add_left 2 _) ?_; rw [Tryd.ntmps55]
  refine qm ?_
  refine hk_region fun K hK => runs_eval tab_ok ?_
  simp only [ev0, evA, evB, evP, fl, gp, tab, simprocAttr, reduceCtorEq, reduceIte]
  refine fin_run ?_ (hK _ ?_) <;> clear hK <;> clear K
  · (first | exact trivial | omega | (simp only [In64] at *; omega) | (simp [In64] at *; omega) | (simp_all; done) | skip)
  refine qa (qm ?_)
  refine hk_region fun K hK => runs_eval tab_ok ?_
  simp only [ev0, evA, evB, evP, fl, gp, tab, simprocAttr, reduceCtorEq, reduceIte]
  refine fin_stop trivial (runs_call (normaliser_ok h p hs) rfl rfl rfl (by simp only [dstOk, Nat.reduceLT]) (by repeat (first | exact trivial | constructor)) (runs_eval tab_ok ?_))
  simp only [ev0, evA, evB, evP, fl, gp, tab, simprocAttr, reduceCtorEq, reduceIte]
  refine fin_run ?_ (hK _ ?_) <;> clear hK <;> clear K
  · (first | exact trivial | omega | (simp only [In64] at *; omega) | (simp [In64] at *; omega) | (simp_all; done) | skip)
  refine qa (qm ?_)
  refine hk_draw mixed (by kernel_rfl) fun K hK => runs_eval tab_ok ?_
  simp only [ev0, evA, evB, evP, fl, gp, tab, simprocAttr, reduceCtorEq, reduceIte, il_length]
  refine fin_run ?_ (hK _ ?_) <;> clear hK <;> clear K
  · (first | exact trivial | omega | (simp only [In64] at *; omega) | (simp [In64] at *; omega) | (simp_all; done) | skip)
  refine qa (qk ?_)
  simp only [Tryd.results55, enA, ev0, evA, evB, evP, fl, gp, tab, simprocAttr, reduceCtorEq, reduceIte]
  all_goals (rw [hz])

/-- What is in a set, and in it conjugated by things below a. -/
def crs (n : Nat) (f : Nat → Nat → Nat) (e : Nat) (p : Nat → Bool) (a y : Nat) : Bool := p y && decide (∀ b, b < a → shf n f e p b y = true)
theorem crs_succ (n : Nat) (f : Nat → Nat → Nat) (e : Nat) (p : Nat → Bool) (a y : Nat) : crs n f e p (a + 1) y = (crs n f e p a y && shf n f e p a y) := by
  unfold crs
  rw [Bool.and_assoc]
  congr 1
  rw [Bool.eq_iff_iff, Bool.and_eq_true, decide_eq_true_eq, decide_eq_true_eq]
  constructor
  · exact fun h => ⟨fun b hb => h b (by omega), h a (by omega)⟩
  · rintro ⟨h1, h2⟩ b hb
    by_cases hba : b = a
    · rw [hba]; exact h2
    · exact h1 b (by omega)
theorem bo_and (n : Nat) (p q : Nat → Bool) : bo n p &&& bo n q = bo n fun a => p a && q a := by
  refine Nat.eq_of_testBit_eq fun i => ?_
  rw [Nat.testBit_and, bo_bit, bo_bit, bo_bit]
  cases decide (i < n) <;> simp
theorem closure_no (N : Int) (m l : List Int) (hm : m.length ≤ 1000000000000000) (hl : l.length ≤ 1000000000000000) (hf : ¬ (sf N m l).1 = 0) : FnC Tryd.prog 56 [gp N m, .list (il l)] (.tup [.list [], fl (sf N m l)]) := by
  refine fnc_of tab_ok Tryd.func56 rfl (by kernel_rfl) (by rw [Tryd.ntmps56]; exact Nat.le_add_left 2 _) ?_; rw [Tryd.ntmps56]
  refine qm ?_
  refine hk_region fun K hK => runs_eval tab_ok ?_
  simp only [ev0, evA, evB, evP, fl, gp, tab, simprocAttr, reduceCtorEq, reduceIte]
  refine fin_run ?_ (hK _ ?_) <;> clear hK <;> clear K
  · (first | exact trivial | omega | (simp only [In64] at *; omega) | (simp [In64] at *; omega) | (simp_all; done) | skip)
  refine qa (qm (qm ?_))
  refine hk_region fun K hK => runs_eval tab_ok ?_
  simp only [ev0, evA, evB, evP, fl, gp, tab, simprocAttr, reduceCtorEq, reduceIte]
  refine fin_stop trivial (runs_call (look_c N m l hm hl) rfl rfl rfl (by simp only [dstOk, Nat.reduceLT]) (by repeat (first | exact trivial | constructor)) (runs_eval tab_ok ?_))
  simp only [ev0, evA, evB, evP, fl, gp, tab, simprocAttr, reduceCtorEq, reduceIte]
  refine fin_run ?_ (hK _ ?_) <;> clear hK <;> clear K
  · (first | exact trivial | omega | (simp only [In64] at *; omega) | (simp [In64] at *; omega) | (simp_all; done) | skip)
  refine qa (qm ?_)
  refine hk_region fun K hK => runs_eval tab_ok ?_
  simp only [ev0, evA, evB, evP, fl, gp, tab, simprocAttr, reduceCtorEq, reduceIte]
  refine fin_run ?_ (hK _ ?_) <;> clear hK <;> clear K
  · (first | exact trivial | omega | (simp only [In64] at *; omega) | (simp [In64] at *; omega) | (simp_all; done) | skip)
  refine qa ?_
  refine hk_cond rfl (fun hC1 => ?_) (fun hC1 => ?_)
  · (try simp only [nhs] at hC1)
    refine qm ?_
    refine hk_draw mixed (by kernel_rfl) fun K hK => runs_eval tab_ok ?_
    simp only [ev0, evA, evB, evP, fl, gp, tab, simprocAttr, reduceCtorEq, reduceIte]
    refine fin_run ?_ (hK _ ?_) <;> clear hK <;> clear K
    · (first | exact trivial | omega | (simp only [In64] at *; omega) | (simp [In64] at *; omega) | (simp_all; done) | skip)
    refine qa (qk (qb ?_))
    simp only [Tryd.results56, enA, ev0, evA, evB, evP, fl, gp, tab, simprocAttr, reduceCtorEq, reduceIte]
    all_goals ((first | exact rfl | exact ⟨rfl, rfl⟩ | exact ⟨rfl, rfl, rfl⟩ | exact ⟨trivial, rfl⟩ | exact ⟨Nat.le_refl _, rfl⟩ | trivial | (simp; done)))
  · (try simp only [nhs] at hC1)
    exact absurd hC1 hf
/-- What is in a set conjugated by things below a. -/
def cus (n : Nat) (f : Nat → Nat → Nat) (e : Nat) (p : Nat → Bool) (a y : Nat) : Bool := decide (∃ b, b < a ∧ shf n f e p b y = true)
theorem cus_succ (n : Nat) (f : Nat → Nat → Nat) (e : Nat) (p : Nat → Bool) (a y : Nat) : cus n f e p (a + 1) y = (cus n f e p a y || shf n f e p a y) := by
  unfold cus
  rw [Bool.eq_iff_iff, Bool.or_eq_true, decide_eq_true_eq, decide_eq_true_eq]
  constructor
  · rintro ⟨b, hb, h⟩
    by_cases hba : b = a
    · subst hba; exact .inr h
    · exact .inl ⟨b, by omega, h⟩
  · rintro (⟨b, hb, h⟩ | h)
    · exact ⟨b, by omega, h⟩
    · exact ⟨a, by omega, h⟩
theorem bo_orb (n : Nat) (p q : Nat → Bool) : bo n p ||| bo n q = bo n fun a => p a || q a := by
  refine Nat.eq_of_testBit_eq fun i => ?_
  rw [Nat.testBit_or, bo_bit, bo_bit, bo_bit]
  cases decide (i < n) <;> simp
theorem cus_all {n e : Nat} {f : Nat → Nat → Nat} (p : Nat → Bool) (y : Nat) : cus n f e p n y = cup n f e p y := by
  rw [Bool.eq_iff_iff, cup_iff]
  unfold cus
  rw [decide_eq_true_eq]
  constructor
  · rintro ⟨b, hb, h⟩
    obtain ⟨x, x1, x2, x3⟩ := shf_iff.1 h
    exact ⟨x, b, x1, hb, x2, x3⟩
  · rintro ⟨x, b, x1, hb, x2, x3⟩
    exact ⟨b, hb, shf_iff.2 ⟨x, x1, x2, x3⟩⟩
theorem closure_ok {n e : Nat} {m : List Int} (h : GT n m n e) (p q : Nat → Bool) (hq : ∀ a, a < n → (q a = true ↔ Gen n (op m n) e (cup n (op m n) e p) a)) : FnC Tryd.prog 56 [gp n m, .list (il (thl n p))] (.tup [.list (il (thl n q)), fl (0, 0)]) := by
  have G := h.2.2
  have hb := h.2.1.big
  have hlp := thl_le n p
  have hml := h.2.1.len
  have hsq := sq_le hb
  have h0 : bo n (cus n (op m n) e p 0) = 0 := Nat.eq_of_testBit_eq fun i => by rw [bo_bit]; simp [cus]
  refine fnc_of tab_ok Tryd.func56 rfl (by kernel_rfl) (by rw [Tryd.ntmps56]; exact Nat.le_add_left 2 _) ?_; rw [Tryd.ntmps56]
  refine qm ?_
  refine hk_region fun K hK => runs_eval tab_ok ?_
  simp only [ev0, evA, evB, evP, fl, gp, tab, simprocAttr, reduceCtorEq, reduceIte]
  refine fin_run ?_ (hK _ ?_) <;> clear hK <;> clear K
  · (first | exact trivial | omega | (simp only [In64] at *; omega) | (simp [In64] at *; omega) | (simp_all; done) | skip)
  refine qa (qm (qm ?_))
  refine hk_region fun K hK => runs_eval tab_ok ?_
  simp only [ev0, evA, evB, evP, fl, gp, tab, simprocAttr, reduceCtorEq, reduceIte]
  refine fin_stop trivial (runs_call (look_c n m (thl n p) (by omega) (by omega)) rfl rfl rfl (by simp only [dstOk, Nat.reduceLT]) (by repeat (first | exact trivial | constructor)) (runs_eval tab_ok ?_))
  simp only [ev0, evA, evB, evP, fl, gp, tab, simprocAttr, reduceCtorEq, reduceIte, sf_thl h]
  refine fin_run ?_ (hK _ ?_) <;> clear hK <;> clear K
  · (first | exact trivial | omega | (simp only [In64] at *; omega) | (simp [In64] at *; omega) | (simp_all; done) | skip)
  refine qa (qm ?_)
  refine hk_region fun K hK => runs_eval tab_ok ?_
  simp only [ev0, evA, evB, evP, fl, gp, tab, simprocAttr, reduceCtorEq, reduceIte]
  refine fin_run ?_ (hK _ ?_) <;> clear hK <;> clear K
  · (first | exact trivial | omega | (simp only [In64] at *; omega) | (simp [In64] at *; omega) | (simp_all; done) | skip)
  refine qa ?_
  refine hk_cond rfl (fun hC1 => ?_) (fun hC1 => ?_)
  · cases hC1
  · (try simp only [nhs] at hC1)
    refine qh (qa (qm ?_))
    refine hk_region fun K hK => runs_eval tab_ok ?_
    simp only [ev0, evA, evB, evP, fl, gp, tab, simprocAttr, reduceCtorEq, reduceIte]
    refine fin_run trivial (hK _ ?_) <;> clear hK <;> clear K
    refine qa (qm (qm ?_))
    refine hk_region fun K hK => runs_eval tab_ok ?_
    simp only [ev0, evA, evB, evP, fl, gp, tab, simprocAttr, reduceCtorEq, reduceIte]
    refine fin_run ?_ (hK _ ?_) <;> clear hK <;> clear K
    · (first | exact trivial | omega | (simp only [In64] at *; omega) | (simp [In64] at *; omega) | (simp_all; done) | skip)
    refine qa (ql ?_)
    refine hk_loop (ι := Nat) (fun a => ⟨34, [(1, .p (.list (il (thl n p)))), (2, .ptr 0 0), (5, .ptr 1 0), (7, .p (.int .u64 (bo n (cus n (op m n) e p a)))), (17, .p (.int .i64 n)), (18, .p (.int .i64 a))], [.own [.p (.int .i64 n), .p (.list (il m))], .own [.p (.int .i64 0), .p (.int .i64 0)]]⟩) (fun a => a ≤ n) (fun a => n - a) 0 (Nat.zero_le _) [0, 1] (by rw [h0]; simp only [leq, leA, ev0, evA, evB, evP, fl, gp, tab, simprocAttr, reduceCtorEq, reduceIte] <;> trivial) fun a ha => ?_
    refine qm ?_
    refine hk_region fun K hK => runs_eval tab_ok ?_
    simp only [ev0, evA, evB, evP, fl, gp, tab, simprocAttr, reduceCtorEq, reduceIte]
    refine fin_run trivial (hK _ ?_) <;> clear hK <;> clear K
    refine qa (qm ?_)
    refine hk_cond rfl (fun hC2 => ?_) (fun hC2 => ?_)
    · (try simp only [nhs] at hC2)
      have hlt : a < n := by omega
      have hb1 := bo_lt64 hb (cus n (op m n) e p a)
      have hb2 := bo_lt64 hb (shf n (op m n) e p a)
      have hs1 : bo n (cus n (op m n) e p (a + 1)) = bo n fun y => cus n (op m n) e p a y || shf n (op m n) e p a y := bo_congr fun y _ => cus_succ n (op m n) e p a y
      refine qh (qa (qm (ql (qm ?_))))
      refine hk_region fun K hK => runs_eval tab_ok ?_
      simp only [ev0, evA, evB, evP, fl, gp, tab, simprocAttr, reduceCtorEq, reduceIte]
      refine fin_run trivial (hK _ ?_) <;> clear hK <;> clear K
      refine qa ?_
      refine hk_draw mixed (by kernel_rfl) fun K hK => runs_eval tab_ok ?_
      simp only [ev0, evA, evB, evP, fl, gp, tab, simprocAttr, reduceCtorEq, reduceIte]
      refine fin_stop trivial (runs_call (of_s (thl n p) (by omega) (thl_rng hb p)) rfl rfl rfl (by simp only [dstOk, Nat.reduceLT]) (by repeat (first | exact trivial | constructor)) (runs_eval tab_ok ?_))
      simp only [ev0, evA, evB, evP, fl, gp, tab, simprocAttr, reduceCtorEq, reduceIte, msk_thl]
      refine fin_stop trivial (runs_call (moved_s h p hlt) rfl rfl rfl (by simp only [dstOk, Nat.reduceLT]) (by repeat (first | exact trivial | constructor)) (runs_eval tab_ok ?_))
      simp only [ev0, evA, evB, evP, fl, gp, tab, simprocAttr, reduceCtorEq, reduceIte, bv_or hb1 hb2, bo_orb]
      refine fin_run ?_ (hK _ ?_) <;> clear hK <;> clear K
      · (first | exact trivial | omega | (simp only [In64] at *; omega) | (simp [In64] at *; omega) | (simp_all; done) | skip)
      refine qd (qa ?_)
      refine hk_region fun K hK => runs_eval tab_ok ?_
      simp only [ev0, evA, evB, evP, fl, gp, tab, simprocAttr, reduceCtorEq, reduceIte]
      refine fin_run ?_ (hK _ ?_) <;> clear hK <;> clear K
      · (first | exact trivial | omega | (simp only [In64] at *; omega) | (simp [In64] at *; omega) | (simp_all; done) | skip)
      refine qa ?_
      refine ⟨a + 1, [0, 1], by omega, by omega, ?_⟩
      rw [hs1]
      simp only [leq, leA, ev0, evA, evB, evP, fl, gp, tab, simprocAttr, reduceCtorEq, reduceIte] <;> first | trivial | omega
    · (try simp only [nhs] at hC2)
      have han : a = n := by omega
      have hfin : bo n (cus n (op m n) e p a) = bo n (cup n (op m n) e p) := bo_congr fun y hy => by rw [han, cus_all]
      rw [hfin]
      refine qj (qc (qc (qf (qa (qm ?_)))))
      refine hk_region fun K hK => runs_eval tab_ok ?_
      simp only [ev0, evA, evB, evP, fl, gp, tab, simprocAttr, reduceCtorEq, reduceIte]
      refine fin_stop trivial (runs_call (grow_c h (bo n (cup n (op m n) e p)) (bo_lt n _) q (fun a ha => by rw [gen_bo]; exact hq a ha)) rfl rfl rfl (by simp only [dstOk, Nat.reduceLT]) (by repeat (first | exact trivial | constructor)) (runs_eval tab_ok ?_))
      simp only [ev0, evA, evB, evP, fl, gp, tab, simprocAttr, reduceCtorEq, reduceIte]
      refine fin_stop trivial (runs_call (list_s (bo n q) (bo_lt64 hb q)) rfl rfl rfl (by simp only [dstOk, Nat.reduceLT]) (by repeat (first | exact trivial | constructor)) (runs_eval tab_ok ?_))
      simp only [ev0, evA, evB, evP, fl, gp, tab, simprocAttr, reduceCtorEq, reduceIte, stl_bo hb]
      refine fin_run ?_ (hK _ ?_) <;> clear hK <;> clear K
      · (first | exact trivial | omega | (simp only [In64] at *; omega) | (simp [In64] at *; omega) | (simp_all; done) | skip)
      refine qa (qk ?_)
      simp only [Tryd.results56, enA, ev0, evA, evB, evP, fl, gp, tab, simprocAttr, reduceCtorEq, reduceIte]
      all_goals ((first | exact rfl | exact ⟨rfl, rfl⟩ | exact ⟨rfl, rfl, rfl⟩ | exact ⟨trivial, rfl⟩ | exact ⟨Nat.le_refl _, rfl⟩ | trivial | (simp; done)))

/-! ### As the document has them -/

theorem shf1_c {n e : Nat} {m : List Int} (h : GT n m n e) (p : Nat → Bool) {a y : Nat} (ha : a < n) (hy : y < n) : FnC Tryd.prog 93 [.int .i64 y, .ptr [.list (il (thl n p))], .ptr [.int .i64 n, .list (il m)], .ptr [.int .i64 a]] (.bool (shf n (op m n) e p a y)) := by
  have hb := h.2.1.big
  have hlp := thl_le n p
  refine fnc_of tab_ok Tryd.func93 rfl (by kernel_rfl) (by rw [Tryd.ntmps93]; exact Nat.le_add_left 4 _) ?_; rw [Tryd.ntmps93]
  refine qm ?_
  refine hk_region fun K hK => runs_eval tab_ok ?_
  simp only [ev0, evA, evB, evP, fl, gp, tab, simprocAttr, reduceCtorEq, reduceIte]
  refine fin_run trivial (hK _ ?_) <;> clear hK <;> clear K
  refine qa (qm (qm ?_))
  refine hk_region fun K hK => runs_eval tab_ok ?_
  simp only [ev0, evA, evB, evP, fl, gp, tab, simprocAttr, reduceCtorEq, reduceIte]
  refine fin_run trivial (hK _ ?_) <;> clear hK <;> clear K
  refine qa (ql ?_)
  refine hk_loop (ι := Nat) (fun i => ⟨22, [(0, .p (.int .i64 y)), (1, .p (.ptr [.list (il (thl n p))])), (2, .p (.ptr [.int .i64 n, .list (il m)])), (3, .p (.ptr [.int .i64 a])), (6, .p (.int .i64 i))], []⟩) (fun i => i ≤ (thl n p).length ∧ ∀ j, j < i → ¬ cjr n (op m n) e ((thl n p).getD j 0).toNat a = y) (fun i => (thl n p).length - i) 0 ⟨Nat.zero_le _, fun j hj => by omega⟩ [] (by simp only [leq, leA, ev0, evA, evB, evP, fl, gp, tab, simprocAttr, reduceCtorEq, reduceIte] <;> trivial) fun i hi => ?_
  obtain ⟨hi1, hi2⟩ := hi
  refine qm (qm ?_)
  refine hk_region fun K hK => runs_eval tab_ok ?_
  simp only [ev0, evA, evB, evP, fl, gp, tab, simprocAttr, reduceCtorEq, reduceIte]
  refine fin_run ?_ (hK _ ?_) <;> clear hK <;> clear K
  · (first | exact trivial | omega | (simp only [In64] at *; omega) | (simp [In64] at *; omega) | (simp_all; done) | skip)
  refine qa ?_
  refine hk_cond rfl (fun hC1 => ?_) (fun hC1 => ?_)
  · (try simp only [nhs] at hC1)
    have hlt : i < (thl n p).length := by omega
    obtain ⟨x, x1, x2, x3⟩ := thl_get hlt
    refine qh (qa (qm (ql (qm ?_))))
    refine hk_draw mixed (by kernel_rfl) fun K hK => runs_eval tab_ok ?_
    simp only [ev0, evA, evB, evP, fl, gp, tab, simprocAttr, reduceCtorEq, reduceIte, il_get hlt, x3]
    refine fin_stop ?_ (runs_call (c_r h x1 ha) rfl rfl rfl (by simp only [dstOk, Nat.reduceLT]) (by repeat (first | exact trivial | constructor)) (runs_eval tab_ok ?_))
    · (first | exact trivial | omega | (simp only [In64] at *; omega) | (simp [In64] at *; omega) | (simp_all; done) | skip)
    simp only [ev0, evA, evB, evP, fl, gp, tab, simprocAttr, reduceCtorEq, reduceIte, il_get hlt, x3]
    refine fin_run ?_ (hK _ ?_) <;> clear hK <;> clear K
    · (first | exact trivial | omega | (simp only [In64] at *; omega) | (simp [In64] at *; omega) | (simp_all; done) | skip)
    refine qa ?_
    refine hk_cond rfl (fun hC2 => ?_) (fun hC2 => ?_)
    · (try simp only [nhs] at hC2)
      refine qm ?_
      refine hk_region fun K hK => runs_eval tab_ok ?_
      simp only [ev0, evA, evB, evP, fl, gp, tab, simprocAttr, reduceCtorEq, reduceIte]
      refine fin_run trivial (hK _ ?_) <;> clear hK <;> clear K
      refine qa (qk (qe (qb (qb (qe (qb ?_))))))
      simp only [Tryd.results93, enA, ev0, evA, evB, evP, fl, gp, tab, simprocAttr, reduceCtorEq, reduceIte]
      all_goals (rw [eq_comm, shf_iff]; exact ⟨x, x1, x2, (show cjr n (op m n) e x a = y by omega)⟩)
    · (try simp only [nhs] at hC2)
      refine qh (qd (qa ?_))
      refine hk_region fun K hK => runs_eval tab_ok ?_
      simp only [ev0, evA, evB, evP, fl, gp, tab, simprocAttr, reduceCtorEq, reduceIte]
      refine fin_run ?_ (hK _ ?_) <;> clear hK <;> clear K
      · (first | exact trivial | omega | (simp only [In64] at *; omega) | (simp [In64] at *; omega) | (simp_all; done) | skip)
      refine qa ?_
      refine ⟨i + 1, [], ⟨by omega, fun j hj => ?_⟩, by omega, ?_⟩
      · by_cases hj2 : j = i
        · subst hj2; rw [x3, Int.toNat_natCast]; omega
        · exact hi2 j (by omega)
      · simp only [leq, leA, ev0, evA, evB, evP, fl, gp, tab, simprocAttr, reduceCtorEq, reduceIte] <;> omega
  · (try simp only [nhs] at hC1)
    refine qj (qc (qc (qf (qa (qm ?_)))))
    refine hk_region fun K hK => runs_eval tab_ok ?_
    simp only [ev0, evA, evB, evP, fl, gp, tab, simprocAttr, reduceCtorEq, reduceIte]
    refine fin_run trivial (hK _ ?_) <;> clear hK <;> clear K
    refine qa (qk ?_)
    simp only [Tryd.results93, enA, ev0, evA, evB, evP, fl, gp, tab, simprocAttr, reduceCtorEq, reduceIte]
    rw [eq_comm]
    cases hv : shf n (op m n) e p a y with
    | false => rfl
    | true =>
      obtain ⟨x, x1, x2, x3⟩ := shf_iff.1 hv
      obtain ⟨j, j1, j2⟩ := thl_at x1 x2
      exact absurd (by rw [j2, Int.toNat_natCast]; exact x3) (hi2 j (by omega))
theorem shifted_r {n e : Nat} {m : List Int} (h : GT n m n e) (p : Nat → Bool) {a : Nat} (ha : a < n) : FnC Tryd.prog 51 [gp n m, .list (il (thl n p)), .int .i64 a] (.list (il (thl n (shf n (op m n) e p a)))) := by
  have hb := h.2.1.big
  refine fnc_of tab_ok Tryd.func51 rfl (by kernel_rfl) (by rw [Tryd.ntmps51]; exact Nat.le_add_left 3 _) ?_; rw [Tryd.ntmps51]
  refine qm ?_
  refine hk_region fun K hK => runs_eval tab_ok ?_
  simp only [ev0, evA, evB, evP, fl, gp, tab, simprocAttr, reduceCtorEq, reduceIte]
  refine fin_run ?_ (hK _ ?_) <;> clear hK <;> clear K
  · (first | exact trivial | omega | (simp only [In64] at *; omega) | (simp [In64] at *; omega) | (simp_all; done) | skip)
  refine qa (qm ?_)
  refine hk_freeze 0 rfl rfl ?_
  refine hk_freeze 1 rfl rfl ?_
  refine hk_freeze 2 rfl rfl ?_
  simp only [hset]
  refine hk_region fun K hK => runs_eval tab_ok ?_
  simp only [ev0, evA, evB, evP, fl, gp, tab, simprocAttr, reduceCtorEq, reduceIte]
  refine fin_stop trivial (runs_call (those_c n m _ _ (shf n (op m n) e p a) (by omega) (fun y hy => shf1_c h p ha hy)) rfl rfl rfl (by simp only [dstOk, Nat.reduceLT]) (by repeat (first | exact trivial | constructor)) (runs_eval tab_ok ?_))
  simp only [ev0, evA, evB, evP, fl, gp, tab, simprocAttr, reduceCtorEq, reduceIte]
  refine fin_run ?_ (hK _ ?_) <;> clear hK <;> clear K
  · (first | exact trivial | omega | (simp only [In64] at *; omega) | (simp [In64] at *; omega) | (simp_all; done) | skip)
  refine qa (qk ?_)
  simp only [Tryd.results51, enA, ev0, evA, evB, evP, fl, gp, tab, simprocAttr, reduceCtorEq, reduceIte]
  all_goals (rfl)
theorem isNormal_r {n e : Nat} {m : List Int} (h : GT n m n e) (p : Nat → Bool) (b : Bool) (hbn : b = true ↔ Nml n (op m n) e p) : FnC Tryd.prog 83 [gp n m, .list (il (thl n p))] (.bool b) := by
  have G := h.2.2
  have hb := h.2.1.big
  have hlp := thl_le n p
  refine fnc_of tab_ok Tryd.func83 rfl (by kernel_rfl) (by rw [Tryd.ntmps83]; exact Nat.le_add_left 2 _) ?_; rw [Tryd.ntmps83]
  refine qm ?_
  refine hk_region fun K hK => runs_eval tab_ok ?_
  simp only [ev0, evA, evB, evP, fl, gp, tab, simprocAttr, reduceCtorEq, reduceIte]
  refine fin_run ?_ (hK _ ?_) <;> clear hK <;> clear K
  · (first | exact trivial | omega | (simp only [In64] at *; omega) | (simp [In64] at *; omega) | (simp_all; done) | skip)
  refine qa (qm (qm ?_))
  refine hk_region fun K hK => runs_eval tab_ok ?_
  simp only [ev0, evA, evB, evP, fl, gp, tab, simprocAttr, reduceCtorEq, reduceIte]
  refine fin_run trivial (hK _ ?_) <;> clear hK <;> clear K
  refine qa (ql ?_)
  refine hk_loop (ι := Nat) (fun a => ⟨29, [(1, .p (.list (il (thl n p)))), (2, .ptr 0 0), (5, .p (.int .i64 a))], [.own [.p (.int .i64 n), .p (.list (il m))]]⟩) (fun a => a ≤ n ∧ ∀ c, c < a → ∀ x, x < n → p x = true → p (cjr n (op m n) e x c) = true) (fun a => n - a) 0 ⟨Nat.zero_le _, fun j hj => by omega⟩ [0] (by simp only [leq, leA, ev0, evA, evB, evP, fl, gp, tab, simprocAttr, reduceCtorEq, reduceIte] <;> trivial) fun a ha => ?_
  obtain ⟨ha1, ha2⟩ := ha
  refine qm (qm ?_)
  refine hk_region fun K hK => runs_eval tab_ok ?_
  simp only [ev0, evA, evB, evP, fl, gp, tab, simprocAttr, reduceCtorEq, reduceIte]
  refine fin_run ?_ (hK _ ?_) <;> clear hK <;> clear K
  · (first | exact trivial | omega | (simp only [In64] at *; omega) | (simp [In64] at *; omega) | (simp_all; done) | skip)
  refine qa ?_
  refine hk_cond rfl (fun hC1 => ?_) (fun hC1 => ?_)
  · (try simp only [nhs] at hC1)
    have hal : a < n := by omega
    refine qh (qa (qm (ql (qm ?_))))
    refine hk_region fun K hK => runs_eval tab_ok ?_
    simp only [ev0, evA, evB, evP, fl, gp, tab, simprocAttr, reduceCtorEq, reduceIte]
    refine fin_run trivial (hK _ ?_) <;> clear hK <;> clear K
    refine qa (ql ?_)
    refine hk_loop (ι := Nat) (fun i => ⟨29, [(1, .p (.list (il (thl n p)))), (2, .ptr 0 0), (5, .p (.int .i64 a)), (6, .p (.int .i64 i))], [.own [.p (.int .i64 n), .p (.list (il m))]]⟩) (fun i => i ≤ (thl n p).length ∧ ∀ j, j < i → p (cjr n (op m n) e ((thl n p).getD j 0).toNat a) = true) (fun i => (thl n p).length - i) 0 ⟨Nat.zero_le _, fun j hj => by omega⟩ [0] (by simp only [leq, leA, ev0, evA, evB, evP, fl, gp, tab, simprocAttr, reduceCtorEq, reduceIte] <;> trivial) fun i hi => ?_
    obtain ⟨hi1, hi2⟩ := hi
    refine qm (qm ?_)
    refine hk_region fun K hK => runs_eval tab_ok ?_
    simp only [ev0, evA, evB, evP, fl, gp, tab, simprocAttr, reduceCtorEq, reduceIte]
    refine fin_run trivial (hK _ ?_) <;> clear hK <;> clear K
    refine qa ?_
    refine hk_cond rfl (fun hC2 => ?_) (fun hC2 => ?_)
    · (try simp only [nhs] at hC2)
      have hlt : i < (thl n p).length := by omega
      obtain ⟨x, x1, x2, x3⟩ := thl_get hlt
      have hcl := G.cjr_lt x1 hal
      refine qh (qa (qm (ql (qm ?_))))
      refine hk_draw mixed (by kernel_rfl) fun K hK => runs_eval tab_ok ?_
      simp only [ev0, evA, evB, evP, fl, gp, tab, simprocAttr, reduceCtorEq, reduceIte, il_get hlt, x3]
      refine fin_stop ?_ (runs_call (c_r h x1 hal) rfl rfl rfl (by simp only [dstOk, Nat.reduceLT]) (by repeat (first | exact trivial | constructor)) (runs_eval tab_ok ?_))
      · (first | exact trivial | omega | (simp only [In64] at *; omega) | (simp [In64] at *; omega) | (simp_all; done) | skip)
      simp only [ev0, evA, evB, evP, fl, gp, tab, simprocAttr, reduceCtorEq, reduceIte, il_get hlt, x3]
      refine fin_stop trivial (runs_call (has_r (thl n p) (cjr n (op m n) e x a : Nat) (by omega)) rfl rfl rfl (by simp only [dstOk, Nat.reduceLT]) (by repeat (first | exact trivial | constructor)) (runs_eval tab_ok ?_))
      simp only [ev0, evA, evB, evP, fl, gp, tab, simprocAttr, reduceCtorEq, reduceIte, il_get hlt, x3]
      refine fin_run ?_ (hK _ ?_) <;> clear hK <;> clear K
      · (first | exact trivial | omega | (simp only [In64] at *; omega) | (simp [In64] at *; omega) | (simp_all; done) | skip)
      refine qa ?_
      refine hk_cond rfl (fun hC3 => ?_) (fun hC3 => ?_)
      · (try simp only [nhs] at hC3)
        refine qm ?_
        refine hk_region fun K hK => runs_eval tab_ok ?_
        simp only [ev0, evA, evB, evP, fl, gp, tab, simprocAttr, reduceCtorEq, reduceIte]
        refine fin_run trivial (hK _ ?_) <;> clear hK <;> clear K
        refine qa (qk (qe (qb (qb (qe (qe (qb (qb (qe (qb ?_))))))))))
        simp only [Tryd.results83, enA, ev0, evA, evB, evP, fl, gp, tab, simprocAttr, reduceCtorEq, reduceIte]
        cases b with
        | false => rfl
        | true => exact absurd ((mem_thl_n hcl).2 (hbn.1 rfl a hal x x1 x2)) (by simpa using hC3)
      · (try simp only [nhs] at hC3)
        have hx : p (cjr n (op m n) e x a) = true := (mem_thl_n hcl).1 hC3
        refine qh (qd (qa ?_))
        refine hk_region fun K hK => runs_eval tab_ok ?_
        simp only [ev0, evA, evB, evP, fl, gp, tab, simprocAttr, reduceCtorEq, reduceIte]
        refine fin_run ?_ (hK _ ?_) <;> clear hK <;> clear K
        · (first | exact trivial | omega | (simp only [In64] at *; omega) | (simp [In64] at *; omega) | (simp_all; done) | skip)
        refine qa ?_
        refine ⟨i + 1, [0], ⟨by omega, fun j hj => ?_⟩, by omega, ?_⟩
        · by_cases hj2 : j = i
          · subst hj2; rw [x3, Int.toNat_natCast]; exact hx
          · exact hi2 j (by omega)
        · simp only [leq, leA, ev0, evA, evB, evP, fl, gp, tab, simprocAttr, reduceCtorEq, reduceIte] <;> omega
    · (try simp only [nhs] at hC2)
      refine qj (qc (qc (qf (qd (qa ?_)))))
      refine hk_region fun K hK => runs_eval tab_ok ?_
      simp only [ev0, evA, evB, evP, fl, gp, tab, simprocAttr, reduceCtorEq, reduceIte]
      refine fin_run ?_ (hK _ ?_) <;> clear hK <;> clear K
      · (first | exact trivial | omega | (simp only [In64] at *; omega) | (simp [In64] at *; omega) | (simp_all; done) | skip)
      refine qa ?_
      refine ⟨a + 1, [0], ⟨by omega, fun c hc x x1 x2 => ?_⟩, by omega, ?_⟩
      · by_cases hca : c = a
        · subst hca
          obtain ⟨j, j1, j2⟩ := thl_at x1 x2
          have := hi2 j (by omega)
          rwa [j2, Int.toNat_natCast] at this
        · exact ha2 c (by omega) x x1 x2
      · simp only [leq, leA, ev0, evA, evB, evP, fl, gp, tab, simprocAttr, reduceCtorEq, reduceIte] <;> omega
  · (try simp only [nhs] at hC1)
    refine qj (qc (qc (qf (qa (qm ?_)))))
    refine hk_region fun K hK => runs_eval tab_ok ?_
    simp only [ev0, evA, evB, evP, fl, gp, tab, simprocAttr, reduceCtorEq, reduceIte]
    refine fin_run trivial (hK _ ?_) <;> clear hK <;> clear K
    refine qa (qk ?_)
    simp only [Tryd.results83, enA, ev0, evA, evB, evP, fl, gp, tab, simprocAttr, reduceCtorEq, reduceIte]
    rw [eq_comm, hbn]
    exact fun c hc x x1 x2 => ha2 c (by omega) x x1 x2
end Go.Proofs.YtjikchbmkodgfaaDoor

/-
  Tables by a rule. Conditions: none.
-/
set_option linter.all false
namespace Go.Proofs.YtjikchbmkodgfaaDoor
open Go.Pv

theorem Grp.cong' {n : Nat} {f f' : Nat → Nat → Nat} {e : Nat} (G : Grp n f e) (h : ∀ a b, a < n → b < n → f' a b = f a b) : Grp n f' e := by
  refine ⟨G.pos, fun a b ha hb => by rw [h a b ha hb]; exact G.cl a b ha hb, G.el, fun a ha => by rw [h e a G.el ha]; exact G.one_l a ha, fun a ha => by rw [h a e ha G.el]; exact G.one_r a ha, fun a b c ha hb hc => ?_, fun a ha => ?_⟩
  · rw [h a b ha hb, h _ c (G.cl a b ha hb) hc, h b c hb hc, h a _ ha (G.cl b c hb hc)]
    exact G.assoc a b c ha hb hc
  · obtain ⟨b, hb, h1, h2⟩ := G.inv a ha
    exact ⟨b, hb, by rw [h a b ha hb]; exact h1, by rw [h b a hb ha]; exact h2⟩
theorem tbl_op' (g : Nat → Nat → Nat) {n a b : Nat} (ha : a < n) (hb : b < n) : op (tbl (fun a b => (g a b : Nat)) n) n a b = g a b := by
  unfold op
  rw [tbl_get _ ha hb]; rfl
theorem tbl_Tab {n : Nat} {g : Nat → Nat → Nat} (h1 : 1 ≤ n) (hn : n ≤ 60) (hg : ∀ a b, a < n → b < n → g a b < n) : Tab n (tbl (fun a b => (g a b : Nat)) n) := by
  refine ⟨h1, hn, tbl_len _ _, fun i hi => ?_⟩
  have h1 : i / n < n := Nat.div_lt_of_lt_mul hi
  have h2 : i % n < n := Nat.mod_lt _ (by omega)
  have h3 : i / n * n + i % n = i := by rw [Nat.mul_comm]; exact Nat.div_add_mod i n
  have := tbl_get (fun a b => ((g a b : Nat) : Int)) h1 h2
  rw [h3] at this
  rw [this]
  have := hg _ _ h1 h2
  omega
theorem tbl_GT' {n e : Nat} {g : Nat → Nat → Nat} (hn : n ≤ 60) (G : Grp n g e) : GT n (tbl (fun a b => (g a b : Nat)) n) n e :=
  ⟨rfl, tbl_Tab G.pos hn G.cl, G.cong' fun a b ha hb => tbl_op' g ha hb⟩

end Go.Proofs.YtjikchbmkodgfaaDoor

/-
  Operations that are the same on a group's things: inverses, conjugates, what is made. Conditions: none.
-/
set_option linter.all false
namespace Go.Proofs.YtjikchbmkodgfaaDoor
open Go.Pv

section
variable {n e : Nat} {f g : Nat → Nat → Nat} {p : Nat → Bool}

theorem iv_cong (G : Grp n f e) (h : ∀ a b, a < n → b < n → g a b = f a b) {a : Nat} (ha : a < n) : iv n g e a = iv n f e a := by
  have G' := G.cong' h
  refine (G'.iv_unique ha (G.iv_lt ha) (.inl ?_)).symm
  rw [h _ _ ha (G.iv_lt ha), G.mul_iv ha]
theorem cjr_cong (G : Grp n f e) (h : ∀ a b, a < n → b < n → g a b = f a b) {x a : Nat} (hx : x < n) (ha : a < n) : cjr n g e x a = cjr n f e x a := by
  unfold cjr
  rw [iv_cong G h ha, h _ _ (G.iv_lt ha) hx, h _ _ (G.cl _ _ (G.iv_lt ha) hx) ha]
theorem cup_cong (G : Grp n f e) (h : ∀ a b, a < n → b < n → g a b = f a b) (y : Nat) : cup n g e p y = cup n f e p y := by
  rw [Bool.eq_iff_iff, cup_iff, cup_iff]
  constructor
  · rintro ⟨x, a, hx, ha, h1, h2⟩
    exact ⟨x, a, hx, ha, h1, by rw [← cjr_cong G h hx ha]; exact h2⟩
  · rintro ⟨x, a, hx, ha, h1, h2⟩
    exact ⟨x, a, hx, ha, h1, by rw [cjr_cong G h hx ha]; exact h2⟩
theorem shf_cong (G : Grp n f e) (h : ∀ a b, a < n → b < n → g a b = f a b) {a : Nat} (ha : a < n) (y : Nat) : shf n g e p a y = shf n f e p a y := by
  rw [Bool.eq_iff_iff, shf_iff, shf_iff]
  constructor
  · rintro ⟨x, hx, h1, h2⟩
    exact ⟨x, hx, h1, by rw [← cjr_cong G h hx ha]; exact h2⟩
  · rintro ⟨x, hx, h1, h2⟩
    exact ⟨x, hx, h1, by rw [cjr_cong G h hx ha]; exact h2⟩
theorem Gen.cong_op (G : Grp n f e) (h : ∀ a b, a < n → b < n → g a b = f a b) {a : Nat} (hg : Gen n g e p a) : Gen n f e p a := by
  have G' := G.cong' h
  induction hg with
  | one => exact .one
  | step a b ha hb hp ih => rw [h a b (ih.lt G) hb]; exact .step a b ih hb hp
theorem Sub.cong_op (G : Grp n f e) (h : ∀ a b, a < n → b < n → g a b = f a b) (hs : Sub n g e p) : Sub n f e p :=
  sub_of G hs.one fun a b ha hb h1 h2 => by rw [← h a b ha hb]; exact hs.mul a b ha hb h1 h2
theorem Nml.cong_op (G : Grp n f e) (h : ∀ a b, a < n → b < n → g a b = f a b) (hs : Nml n g e p) : Nml n f e p := fun a ha x hx hp => by
  rw [← cjr_cong G h hx ha]; exact hs a ha x hx hp
theorem cong_symm {n : Nat} {f g : Nat → Nat → Nat} (h : ∀ a b, a < n → b < n → g a b = f a b) : ∀ a b, a < n → b < n → f a b = g a b := fun a b ha hb => (h a b ha hb).symm
end
end Go.Proofs.YtjikchbmkodgfaaDoor

/-
  Cosets: right, left and double; how many, how great. Conditions: none.
-/
set_option linter.all false
namespace Go.Proofs.YtjikchbmkodgfaaDoor
open Go.Pv

/-- The one alone. -/
def onp (e x : Nat) : Bool := decide (x = e)
/-- Is b = x a y for some x of p, y of q? -/
def dco (n : Nat) (f : Nat → Nat → Nat) (p q : Nat → Bool) (a b : Nat) : Bool := decide (∃ x, x < n ∧ p x = true ∧ ∃ y, y < n ∧ q y = true ∧ f (f x a) y = b)

theorem mem_bij {n : Nat} {P Q : Nat → Bool} (g : Nat → Nat) (h1 : ∀ x, x < n → P x = true → g x < n ∧ Q (g x) = true) (hi : ∀ x y, x < n → y < n → P x = true → P y = true → g x = g y → x = y) (h2 : ∀ y, y < n → Q y = true → ∃ x, x < n ∧ P x = true ∧ g x = y) : (mem n P).length = (mem n Q).length := by
  rw [← List.length_map (f := g) («as» := mem n P)]
  refine same_len (nodup_map (List.nodup_range.filter _) fun x hx y hy he => hi x y (mem_mem.1 hx).1 (mem_mem.1 hy).1 (mem_mem.1 hx).2 (mem_mem.1 hy).2 he) (List.nodup_range.filter _) fun y => ?_
  rw [List.mem_map, mem_mem]
  constructor
  · rintro ⟨x, hx, rfl⟩
    exact h1 x (mem_mem.1 hx).1 (mem_mem.1 hx).2
  · rintro ⟨y1, y2⟩
    obtain ⟨x, x1, x2, x3⟩ := h2 y y1 y2
    exact ⟨x, mem_mem.2 ⟨x1, x2⟩, x3⟩
theorem mem_congr {n : Nat} {P Q : Nat → Bool} (h : ∀ a, a < n → P a = Q a) : mem n P = mem n Q := List.filter_congr fun a ha => h a (List.mem_range.1 ha)

section
variable {n : Nat} {f : Nat → Nat → Nat} {e : Nat} {p q : Nat → Bool}
theorem dco_iff {a b : Nat} : dco n f p q a b = true ↔ ∃ x y, x < n ∧ y < n ∧ p x = true ∧ q y = true ∧ f (f x a) y = b := by
  unfold dco; rw [decide_eq_true_iff]
  exact ⟨fun ⟨x, h1, h2, y, h3, h4, h5⟩ => ⟨x, y, h1, h3, h2, h4, h5⟩, fun ⟨x, y, h1, h3, h2, h4, h5⟩ => ⟨x, h1, h2, y, h3, h4, h5⟩⟩
theorem onp_iff {x : Nat} : onp e x = true ↔ x = e := by unfold onp; exact decide_eq_true_iff
theorem Grp.onp_sub (G : Grp n f e) : Sub n f e (onp e) :=
  sub_of G (onp_iff.2 rfl) fun a b ha hb h1 h2 => by
    rw [onp_iff] at *; subst h1; subst h2; exact G.one_l _ ha

/-- x (y z) w -/
theorem Grp.four (G : Grp n f e) {x y z w : Nat} (hx : x < n) (hy : y < n) (hz : z < n) (hw : w < n) : f (f x (f (f y z) w)) e = f (f (f x y) z) w := by
  have h1 := G.cl _ _ hy hz
  rw [G.one_r _ (G.cl _ _ hx (G.cl _ _ h1 hw)), ← G.assoc _ _ _ hx h1 hw, ← G.assoc _ _ _ hx hy hz]
theorem Grp.dco_eqv (G : Grp n f e) (hp : Sub n f e p) (hq : Sub n f e q) : Eqv n (dco n f p q) where
  refl a ha := dco_iff.2 ⟨e, e, G.el, G.el, hp.one, hq.one, by rw [G.one_l a ha, G.one_r a ha]⟩
  symm a b ha hb h := by
    obtain ⟨x, y, x1, y1, x2, y2, rfl⟩ := dco_iff.1 h
    have ix := G.iv_lt x1
    have iy := G.iv_lt y1
    have hxa := G.cl _ _ x1 ha
    refine dco_iff.2 ⟨iv n f e x, iv n f e y, ix, iy, hp.inv x x1 x2, hq.inv y y1 y2, ?_⟩
    rw [← G.assoc _ _ y ix hxa y1, ← G.assoc _ x a ix x1 ha, G.iv_mul x1, G.one_l a ha, G.assoc a y _ ha y1 iy, G.mul_iv y1, G.one_r a ha]
  trans a b c ha hb hc h1 h2 := by
    obtain ⟨x, y, x1, y1, x2, y2, rfl⟩ := dco_iff.1 h1
    obtain ⟨u, v, u1, v1, u2, v2, rfl⟩ := dco_iff.1 h2
    have hxa := G.cl _ _ x1 ha
    refine dco_iff.2 ⟨f u x, f y v, G.cl _ _ u1 x1, G.cl _ _ y1 v1, hp.mul _ _ u1 x1 u2 x2, hq.mul _ _ y1 v1 y2 v2, ?_⟩
    rw [G.assoc u x a u1 x1 ha, ← G.assoc _ y v (G.cl _ _ u1 hxa) y1 v1, G.assoc u (f x a) y u1 hxa y1]
/-- Right and left ones. -/
theorem Grp.rco_iff (G : Grp n f e) {a b : Nat} (ha : a < n) (hb : b < n) : dco n f p (onp e) a b = p (f b (iv n f e a)) := by
  rw [Bool.eq_iff_iff, dco_iff]
  constructor
  · rintro ⟨x, y, x1, y1, x2, y2, rfl⟩
    rw [onp_iff.1 y2, G.one_r _ (G.cl _ _ x1 ha), G.assoc x a _ x1 ha (G.iv_lt ha), G.mul_iv ha, G.one_r x x1]; exact x2
  · intro h
    refine ⟨f b (iv n f e a), e, G.cl _ _ hb (G.iv_lt ha), G.el, h, onp_iff.2 rfl, ?_⟩
    rw [G.assoc b _ a hb (G.iv_lt ha) ha, G.iv_mul ha, G.one_r b hb, G.one_r b hb]
theorem Grp.lco_iff (G : Grp n f e) {a b : Nat} (ha : a < n) (hb : b < n) : dco n f (onp e) q a b = q (f (iv n f e a) b) := by
  rw [Bool.eq_iff_iff, dco_iff]
  constructor
  · rintro ⟨x, y, x1, y1, x2, y2, rfl⟩
    rw [onp_iff.1 x2, G.one_l a ha, ← G.assoc _ a y (G.iv_lt ha) ha y1, G.iv_mul ha, G.one_l y y1]; exact y2
  · intro h
    refine ⟨e, f (iv n f e a) b, G.el, G.cl _ _ (G.iv_lt ha) hb, onp_iff.2 rfl, h, ?_⟩
    rw [G.one_l a ha, ← G.assoc a _ b ha (G.iv_lt ha) hb, G.mul_iv ha, G.one_l b hb]
/-- Double ones, as the document has them. -/
theorem Grp.dco_ref (G : Grp n f e) {a b : Nat} (ha : a < n) (hb : b < n) : dco n f p q a b = true ↔ ∃ x, x < n ∧ p x = true ∧ q (f (iv n f e (f x a)) b) = true := by
  rw [dco_iff]
  constructor
  · rintro ⟨x, y, x1, y1, x2, y2, rfl⟩
    have h := G.cl _ _ x1 ha
    exact ⟨x, x1, x2, by rw [← G.assoc _ _ y (G.iv_lt h) h y1, G.iv_mul h, G.one_l y y1]; exact y2⟩
  · rintro ⟨x, x1, x2, h⟩
    have h1 := G.cl _ _ x1 ha
    exact ⟨x, _, x1, G.cl _ _ (G.iv_lt h1) hb, x2, h, by rw [← G.assoc _ _ b h1 (G.iv_lt h1) hb, G.mul_iv h1, G.one_l b hb]⟩

/-- As many things in each. -/
theorem Grp.rco_len (G : Grp n f e) {a : Nat} (ha : a < n) : (mem n (dco n f p (onp e) a)).length = (mem n p).length := by
  refine (mem_bij (fun x => f x a) (fun x hx h => ⟨G.cl _ _ hx ha, dco_iff.2 ⟨x, e, hx, G.el, h, onp_iff.2 rfl, G.one_r _ (G.cl _ _ hx ha)⟩⟩) (fun x y hx hy _ _ h => G.cancel_r ha hx hy h) fun y hy h => ?_).symm
  obtain ⟨x, z, x1, z1, x2, z2, rfl⟩ := dco_iff.1 h
  exact ⟨x, x1, x2, by rw [onp_iff.1 z2, G.one_r _ (G.cl _ _ x1 ha)]⟩
theorem Grp.lco_len (G : Grp n f e) {a : Nat} (ha : a < n) : (mem n (dco n f (onp e) q a)).length = (mem n q).length := by
  refine (mem_bij (fun x => f a x) (fun x hx h => ⟨G.cl _ _ ha hx, dco_iff.2 ⟨e, x, G.el, hx, onp_iff.2 rfl, h, by rw [G.one_l a ha]⟩⟩) (fun x y hx hy _ _ h => G.cancel_l ha hx hy h) fun y hy h => ?_).symm
  obtain ⟨x, z, x1, z1, x2, z2, rfl⟩ := dco_iff.1 h
  exact ⟨z, z1, z2, by rw [onp_iff.1 x2, G.one_l a ha]⟩
theorem sum_same {α : Type} {g : α → Nat} {k : Nat} : ∀ {l : List α}, (∀ x ∈ l, g x = k) → (l.map g).sum = l.length * k
  | [], _ => by simp
  | a :: l, h => by
    rw [List.map_cons, List.sum_cons, sum_same (l := l) fun x hx => h x (by simp [hx]), h a (by simp), List.length_cons, Nat.add_mul, Nat.one_mul, Nat.add_comm]
theorem Grp.rco_num (G : Grp n f e) (hp : Sub n f e p) : (mem n (lead (dco n f p (onp e)))).length * (mem n p).length = n := by
  have h := (G.dco_eqv hp G.onp_sub).sum
  rwa [sum_same fun x hx => G.rco_len (mem_mem.1 hx).1] at h
theorem Grp.lco_num (G : Grp n f e) (hp : Sub n f e p) : (mem n (lead (dco n f (onp e) p))).length * (mem n p).length = n := by
  have h := (G.dco_eqv G.onp_sub hp).sum
  rwa [sum_same fun x hx => G.lco_len (mem_mem.1 hx).1] at h
theorem Sub.pos (hp : Sub n f e p) (he : e < n) : 0 < (mem n p).length := List.length_pos_of_mem (mem_mem.2 ⟨he, hp.one⟩)
theorem Grp.rl_num (G : Grp n f e) (hp : Sub n f e p) : (mem n (lead (dco n f p (onp e)))).length = (mem n (lead (dco n f (onp e) p))).length := by
  have h1 := G.rco_num hp
  have h2 := G.lco_num hp
  exact Nat.eq_of_mul_eq_mul_right (hp.pos G.el) (h1.trans h2.symm)

/-- A subgroup, conjugated. -/
theorem Grp.shf_sub (G : Grp n f e) (hp : Sub n f e p) {a : Nat} (ha : a < n) : Sub n f e (shf n f e p a) :=
  sub_of G (shf_iff.2 ⟨e, G.el, hp.one, G.cjr_one ha⟩) fun x y hx hy h1 h2 => by
    obtain ⟨u, u1, u2, rfl⟩ := shf_iff.1 h1
    obtain ⟨v, v1, v2, rfl⟩ := shf_iff.1 h2
    exact shf_iff.2 ⟨f u v, G.cl _ _ u1 v1, hp.mul _ _ u1 v1 u2 v2, G.cjr_hom u1 v1 ha⟩
theorem Grp.shf_len (G : Grp n f e) {a : Nat} (ha : a < n) : (mem n (shf n f e p a)).length = (mem n p).length := by
  refine (mem_bij (fun x => cjr n f e x a) (fun x hx h => ⟨G.cjr_lt hx ha, shf_iff.2 ⟨x, hx, h, rfl⟩⟩) (fun x y hx hy _ _ h => ?_) fun y hy h => ?_).symm
  · have := congrArg (fun z => cjr n f e z (iv n f e a)) h
    simp only [G.cjr_iv hx ha, G.cjr_iv hy ha] at this
    exact this
  · obtain ⟨x, x1, x2, x3⟩ := shf_iff.1 h
    exact ⟨x, x1, x2, x3⟩
/-- FROBENIUS: how many things a double coset has. -/
theorem Grp.dco_count (G : Grp n f e) (hp : Sub n f e p) (hq : Sub n f e q) {a : Nat} (ha : a < n) : (mem n (dco n f p q a)).length * (mem n fun x => shf n f e p a x && q x).length = (mem n p).length * (mem n q).length := by
  have h := G.prod_count (G.shf_sub hp ha) hq
  rw [G.shf_len ha] at h
  rw [← h]
  congr 1
  have ia := G.iv_lt ha
  refine mem_bij (fun x => f (iv n f e a) x) (fun x hx h => ⟨G.cl _ _ ia hx, ?_⟩) (fun x y hx hy _ _ h => G.cancel_l ia hx hy h) fun y hy h => ?_
  · obtain ⟨u, v, u1, v1, u2, v2, rfl⟩ := dco_iff.1 h
    have hua := G.cl _ _ u1 ha
    have hc := G.cjr_lt u1 ha
    refine pr2_iff.2 ⟨cjr n f e u a, hc, shf_iff.2 ⟨u, u1, u2, rfl⟩, ?_⟩
    have : f (iv n f e a) (f (f u a) v) = f (cjr n f e u a) v := by
      unfold cjr
      rw [← G.assoc _ (f u a) v ia hua v1, ← G.assoc _ u a ia u1 ha]
    rw [this, ← G.assoc _ _ v (G.iv_lt hc) hc v1, G.iv_mul hc, G.one_l v v1]; exact v2
  · obtain ⟨i, i1, i2, i3⟩ := pr2_iff.1 h
    obtain ⟨u, u1, u2, rfl⟩ := shf_iff.1 i2
    refine ⟨f a y, G.cl _ _ ha hy, dco_iff.2 ⟨u, _, u1, G.cl _ _ (G.iv_lt i1) hy, u2, i3, ?_⟩, ?_⟩
    · have hua := G.cl _ _ u1 ha
      have : f u a = f a (cjr n f e u a) := by
        unfold cjr
        rw [← G.assoc a _ a ha (G.cl _ _ ia u1) ha, ← G.assoc a _ u ha ia u1, G.mul_iv ha, G.one_l u u1]
      rw [this, G.assoc a _ _ ha i1 (G.cl _ _ (G.iv_lt i1) hy), ← G.assoc _ _ y i1 (G.iv_lt i1) hy, G.mul_iv i1, G.one_l y hy]
    · show f (iv n f e a) (f a y) = y
      rw [← G.assoc _ a y ia ha hy, G.iv_mul ha, G.one_l y hy]

/-! ### Towers -/

/-- Classes in a set that has whole classes. -/
theorem Eqv.part {r : Nat → Nat → Bool} (h : Eqv n r) {K : Nat → Bool} (hK : ∀ x y, x < n → y < n → r x y = true → K x = true → K y = true) : ((mem n fun x => lead r x && K x).map fun x => (mem n (r x)).length).sum = (mem n K).length := by
  have h1 := sum_filter (fun x y => r x y) (mem n fun x => lead r x && K x) (List.range n)
  have h2 : ∀ y, y ∈ List.range n → ((mem n fun x => lead r x && K x).filter fun x => r x y).length = if K y = true then 1 else 0 := fun y hy => by
    have y1 := List.mem_range.1 hy
    by_cases hk : K y = true
    · rw [if_pos hk, ← h.one y1]
      congr 1
      unfold mem
      rw [List.filter_filter, List.filter_filter]
      refine List.filter_congr fun x hx => ?_
      have x1 := List.mem_range.1 hx
      cases hr : r x y with
      | false => simp
      | true => rw [hK y x y1 x1 (h.symm x y x1 y1 hr) hk]; simp
    · rw [if_neg hk, List.length_eq_zero_iff, List.filter_eq_nil_iff]
      intro x hx hr
      obtain ⟨x1, x2⟩ := mem_mem.1 hx
      rw [Bool.and_eq_true] at x2
      exact hk (hK x y x1 y1 hr x2.2)
  have h3 : ((List.range n).map fun y => ((mem n fun x => lead r x && K x).filter fun x => r x y).length).sum = (mem n K).length := by
    rw [List.map_congr_left h2]
    unfold mem
    generalize List.range n = L
    induction L with
    | nil => rfl
    | cons a L ih => rw [List.map_cons, List.sum_cons, ih, List.filter_cons]; by_cases hk : K a = true <;> simp [hk, Nat.add_comm]
  exact h1.trans h3
theorem Grp.rco_in (G : Grp n f e) (hq : Sub n f e q) (hpq : ∀ x, x < n → p x = true → q x = true) {x y : Nat} (hx : x < n) (hy : y < n) (h : dco n f p (onp e) x y = true) (hk : q x = true) : q y = true := by
  obtain ⟨u, v, u1, v1, u2, v2, rfl⟩ := dco_iff.1 h
  rw [onp_iff.1 v2, G.one_r _ (G.cl _ _ u1 hx)]
  exact hq.mul _ _ u1 hx (hpq u u1 u2) hk
/-- Of a subgroup in a subgroup the numbers of cosets multiply. -/
theorem Grp.tower (G : Grp n f e) (hp : Sub n f e p) (hq : Sub n f e q) (hpq : ∀ x, x < n → p x = true → q x = true) : (mem n fun x => lead (dco n f p (onp e)) x && q x).length * (mem n (lead (dco n f q (onp e)))).length = (mem n (lead (dco n f p (onp e)))).length := by
  have h1 := (G.dco_eqv hp G.onp_sub).part (K := q) fun x y hx hy h hk => G.rco_in hq hpq hx hy h hk
  rw [sum_same (k := (mem n p).length) fun x hx => G.rco_len (mem_mem.1 hx).1] at h1
  have h2 := G.rco_num hq
  have h3 := G.rco_num hp
  refine Nat.eq_of_mul_eq_mul_right (hp.pos G.el) ?_
  rw [h3, Nat.mul_right_comm, h1, Nat.mul_comm, h2]

/-! ### Sides -/

/-- Inverses of a right coset's things are a left one. -/
theorem Grp.inv_side (G : Grp n f e) (hp : Sub n f e p) {a x : Nat} (ha : a < n) (hx : x < n) : dco n f p (onp e) a (iv n f e x) = dco n f (onp e) p (iv n f e a) x := by
  have ia := G.iv_lt ha
  have ix := G.iv_lt hx
  rw [G.rco_iff ha ix, G.lco_iff ia hx, G.iv_iv ha, ← G.iv_prod ha hx, Bool.eq_iff_iff]
  have h := G.cl _ _ ha hx
  refine ⟨fun h1 => ?_, fun h1 => hp.inv _ h h1⟩
  have := hp.inv _ (G.iv_lt h) h1
  rwa [G.iv_iv h] at this
theorem Grp.nml_sides (G : Grp n f e) : Nml n f e p ↔ ∀ a b, a < n → b < n → dco n f p (onp e) a b = dco n f (onp e) p a b := by
  constructor
  · intro h a b ha hb
    have ia := G.iv_lt ha
    rw [G.rco_iff ha hb, G.lco_iff ha hb, Bool.eq_iff_iff]
    constructor
    · intro h1
      have := h a ha _ (G.cl _ _ hb ia) h1
      unfold cjr at this
      rwa [← G.assoc _ b _ ia hb ia, G.assoc _ _ a (G.cl _ _ ia hb) ia ha, G.iv_mul ha, G.one_r _ (G.cl _ _ ia hb)] at this
    · intro h1
      have := h _ ia _ (G.cl _ _ ia hb) h1
      unfold cjr at this
      rwa [G.iv_iv ha, ← G.assoc a _ b ha ia hb, G.mul_iv ha, G.one_l b hb] at this
  · intro h a ha x hx hpx
    have hxa := G.cl _ _ hx ha
    have h1 := h a (f x a) ha hxa
    rw [G.rco_iff ha hxa, G.lco_iff ha hxa, G.assoc x a _ hx ha (G.iv_lt ha), G.mul_iv ha, G.one_r x hx, hpx, ← G.assoc _ x a (G.iv_lt ha) hx ha] at h1
    exact h1.symm
/-- One of two cosets alone is normal. -/
theorem Grp.two_nml (G : Grp n f e) (hp : Sub n f e p) (h2 : (mem n (lead (dco n f p (onp e)))).length = 2) : Nml n f e p := by
  have E := G.dco_eqv hp G.onp_sub
  have key : ∀ u v, u < n → v < n → p u = false → p v = false → p (f v (iv n f e u)) = true := by
    intro u v hu hv h3 h4
    cases huv : p (f v (iv n f e u)) with
    | true => rfl
    | false =>
      exfalso
      obtain ⟨a, a1, a2, a3⟩ := E.least G.el
      obtain ⟨b, b1, b2, b3⟩ := E.least hu
      obtain ⟨c, c1, c2, c3⟩ := E.least hv
      have r1 : ∀ {s t z : Nat}, s < n → t < n → z < n → dco n f p (onp e) z s = true → dco n f p (onp e) z t = true → dco n f p (onp e) s t = true := fun hs ht hz k1 k2 => E.trans _ _ _ hs hz ht (E.symm _ _ hz hs k1) k2
      have pe : ∀ {s : Nat}, s < n → dco n f p (onp e) e s = p s := fun hs => by rw [G.rco_iff G.el hs, G.iv_one, G.one_r _ hs]
      have hab : a ≠ b := fun he => by subst he; have := r1 G.el hu a1 a3 b3; rw [pe hu, h3] at this; cases this
      have hac : a ≠ c := fun he => by subst he; have := r1 G.el hv a1 a3 c3; rw [pe hv, h4] at this; cases this
      have hbc : b ≠ c := fun he => by subst he; have := r1 hu hv b1 b3 c3; rw [G.rco_iff hu hv, huv] at this; cases this
      have hnd : [a, b, c].Nodup := by simp [hab, hac, hbc]
      have := List.Nodup.length_le_of_subset hnd (l₂ := mem n (lead (dco n f p (onp e)))) fun z hz => by
        simp only [List.mem_cons, List.not_mem_nil, or_false] at hz
        rcases hz with rfl | rfl | rfl
        · exact mem_mem.2 ⟨a1, a2⟩
        · exact mem_mem.2 ⟨b1, b2⟩
        · exact mem_mem.2 ⟨c1, c2⟩
      rw [h2] at this
      simp at this
  intro a ha x hx hpx
  have ia := G.iv_lt ha
  have hc := G.cjr_lt hx ha
  cases hpa : p a with
  | true => exact hp.mul _ _ (G.cl _ _ ia hx) ha (hp.mul _ _ ia hx (hp.inv a ha hpa) hpx) hpa
  | false =>
    cases hy : p (cjr n f e x a) with
    | true => rfl
    | false =>
      exfalso
      have hiy : p (iv n f e (cjr n f e x a)) = false := by
        cases h' : p (iv n f e (cjr n f e x a)) with
        | false => rfl
        | true => have := hp.inv _ (G.iv_lt hc) h'; rw [G.iv_iv hc, hy] at this; cases this
      have h1 := key _ _ (G.iv_lt hc) ha hiy hpa
      rw [G.iv_iv hc] at h1
      have h3 : f a (cjr n f e x a) = f x a := by
        unfold cjr
        rw [← G.assoc a _ a ha (G.cl _ _ ia hx) ha, ← G.assoc a _ x ha ia hx, G.mul_iv ha, G.one_l x hx]
      rw [h3] at h1
      have h4 := hp.mul _ _ (G.iv_lt hx) (G.cl _ _ hx ha) (hp.inv x hx hpx) h1
      rw [← G.assoc _ x a (G.iv_lt hx) hx ha, G.iv_mul hx, G.one_l a ha, hpa] at h4
      cases h4
end
end Go.Proofs.YtjikchbmkodgfaaDoor

/-
  Series of subgroups: commutators of commutators, from all on; what commutes up to the last one, from the one on. Conditions: none.
-/
set_option linter.all false
namespace Go.Proofs.YtjikchbmkodgfaaDoor
open Go.Pv

/-- Commutators of two sets. -/
def dnp (n : Nat) (f : Nat → Nat → Nat) (e : Nat) (p q : Nat → Bool) (x : Nat) : Bool := decide (∃ a, a < n ∧ p a = true ∧ ∃ b, b < n ∧ q b = true ∧ cmt n f e a b = x)
/-- What commutes with all, up to a set. -/
def unx (n : Nat) (f : Nat → Nat → Nat) (e : Nat) (p : Nat → Bool) (a : Nat) : Bool := decide (∀ b, b < n → p (cmt n f e a b) = true)
def itr (nx : (Nat → Bool) → Nat → Bool) (p : Nat → Bool) : Nat → Nat → Bool
  | 0 => p
  | k + 1 => nx (itr nx p k)
/-- A series comes to its end at K. -/
structure Stp (n : Nat) (T : Nat → Nat → Bool) (K : Nat) : Prop where
  eq : ∀ a, a < n → T (K + 1) a = T K a
  ne : ∀ j, j < K → ¬ ∀ a, a < n → T (j + 1) a = T j a

theorem mem_lt {n : Nat} {p q : Nat → Bool} (h : ∀ a, a < n → q a = true → p a = true) (hne : ¬ ∀ a, a < n → q a = p a) : (mem n q).length < (mem n p).length := by
  have h1 : mem n q = (mem n p).filter q := by
    unfold mem
    rw [List.filter_filter]
    refine List.filter_congr fun a ha => ?_
    have := h a (List.mem_range.1 ha)
    cases hq : q a with
    | false => simp
    | true => simp [this hq]
  have h2 : (mem n q).Sublist (mem n p) := by rw [h1]; exact List.filter_sublist
  rcases Nat.lt_or_eq_of_le h2.length_le with h3 | h3
  · exact h3
  · exfalso
    have h4 := h2.eq_of_length h3
    refine hne fun a ha => ?_
    rw [Bool.eq_iff_iff]
    have : a ∈ mem n q ↔ a ∈ mem n p := by rw [h4]
    rw [mem_mem, mem_mem] at this
    exact ⟨fun h => (this.1 ⟨ha, h⟩).2, fun h => (this.2 ⟨ha, h⟩).2⟩

theorem stop_ex {n : Nat} {T : Nat → Nat → Bool} (c : Nat → Nat) (hc : ∀ k, (¬ ∀ a, a < n → T (k + 1) a = T k a) → c (k + 1) < c k) : ∃ K, K ≤ c 0 ∧ Stp n T K := by
  cases hf : fst' (fun k => decide (∀ a, a < n → T (k + 1) a = T k a)) (c 0 + 1) with
  | some K =>
    obtain ⟨h1, h2, h3⟩ := fst_spec hf
    exact ⟨K, by omega, ⟨of_decide_eq_true h2, fun j hj => of_decide_eq_false (h3 j hj)⟩⟩
  | none =>
    exfalso
    have h := fst_spec0 hf
    have key : ∀ k, k ≤ c 0 + 1 → c k + k ≤ c 0 := by
      intro k
      induction k with
      | zero => intro _; omega
      | succ k ih =>
        intro hk
        have h1 := hc k (of_decide_eq_false (h k (by omega)))
        have h2 := ih (by omega)
        omega
    have := key (c 0 + 1) (by omega)
    omega

theorem Stp.after {n : Nat} {nx : (Nat → Bool) → Nat → Bool} {p : Nat → Bool} {K : Nat} (hx : ∀ p q : Nat → Bool, (∀ a, a < n → p a = q a) → ∀ a, a < n → nx p a = nx q a) (h : Stp n (itr nx p) K) : ∀ j a, a < n → itr nx p (K + j) a = itr nx p K a
  | 0, a, ha => rfl
  | j + 1, a, ha => by
    have h1 := hx _ _ (fun b hb => Stp.after hx h j b hb) a ha
    exact h1.trans (h.eq a ha)

section
variable {n : Nat} {f : Nat → Nat → Nat} {e : Nat}
theorem dnp_iff {p q : Nat → Bool} {x : Nat} : dnp n f e p q x = true ↔ ∃ a b, a < n ∧ b < n ∧ p a = true ∧ q b = true ∧ cmt n f e a b = x := by
  unfold dnp; rw [decide_eq_true_iff]
  exact ⟨fun ⟨a, h1, h2, b, h3, h4, h5⟩ => ⟨a, b, h1, h3, h2, h4, h5⟩, fun ⟨a, b, h1, h3, h2, h4, h5⟩ => ⟨a, h1, h2, b, h3, h4, h5⟩⟩
theorem unx_iff {p : Nat → Bool} {a : Nat} : unx n f e p a = true ↔ ∀ b, b < n → p (cmt n f e a b) = true := by unfold unx; exact decide_eq_true_iff
theorem nx_ex (n : Nat) (f : Nat → Nat → Nat) (e : Nat) (P : (Nat → Bool) → Nat → Bool) : ∃ nx : (Nat → Bool) → Nat → Bool, ∀ p a, a < n → (nx p a = true ↔ Gen n f e (P p) a) :=
  ⟨fun p => Classical.choose (gen_ex n f e (P p)), fun p => Classical.choose_spec (gen_ex n f e (P p))⟩
theorem Gen.congr {p q : Nat → Bool} (h : ∀ a, a < n → p a = q a) {a : Nat} : Gen n f e p a ↔ Gen n f e q a :=
  ⟨Gen.mono fun b hb h1 => by rw [← h b hb]; exact h1, Gen.mono fun b hb h1 => by rw [h b hb]; exact h1⟩
theorem nx_congr {P : (Nat → Bool) → Nat → Bool} {nx : (Nat → Bool) → Nat → Bool} (hnx : ∀ p a, a < n → (nx p a = true ↔ Gen n f e (P p) a)) (hP : ∀ p q : Nat → Bool, (∀ a, a < n → p a = q a) → ∀ a, a < n → P p a = P q a) : ∀ p q : Nat → Bool, (∀ a, a < n → p a = q a) → ∀ a, a < n → nx p a = nx q a := fun p q h a ha => by
  rw [Bool.eq_iff_iff, hnx p a ha, hnx q a ha]
  exact Gen.congr (hP p q h)
theorem Grp.all_sub (G : Grp n f e) : Sub n f e fun _ => true := sub_of G rfl fun _ _ _ _ _ _ => rfl
theorem Grp.one_nml (G : Grp n f e) : Nml n f e (onp e) := fun a ha x hx h => by
  rw [onp_iff] at *
  rw [h, G.cjr_one ha]
theorem Grp.dnp_nml (G : Grp n f e) {p q : Nat → Bool} (hp : Nml n f e p) (hq : Nml n f e q) : Nml n f e (dnp n f e p q) := fun c hc x hx h => by
  obtain ⟨a, b, a1, b1, a2, b2, rfl⟩ := dnp_iff.1 h
  rw [G.cjr_cmt a1 b1 hc]
  exact dnp_iff.2 ⟨_, _, G.cjr_lt a1 hc, G.cjr_lt b1 hc, hp c hc a a1 a2, hq c hc b b1 b2, rfl⟩
theorem Grp.cmt_in (G : Grp n f e) {p : Nat → Bool} (hs : Sub n f e p) (hn : Nml n f e p) {x b : Nat} (hx : x < n) (hb : b < n) (h : p x = true) : p (cmt n f e x b) = true := by
  rw [G.cmt_cjr hx hb]
  exact hs.mul _ _ (G.iv_lt hx) (G.cjr_lt hx hb) (hs.inv x hx h) (hn b hb x hx h)

/-! ### Falling -/

section
variable {nx : (Nat → Bool) → Nat → Bool}
theorem Grp.fall (G : Grp n f e) {P : (Nat → Bool) → Nat → Bool} (hnx : ∀ p a, a < n → (nx p a = true ↔ Gen n f e (P p) a)) (hP : ∀ p, Nml n f e p → Nml n f e (P p)) : ∀ k, Sub n f e (itr nx (fun _ => true) k) ∧ Nml n f e (itr nx (fun _ => true) k)
  | 0 => ⟨G.all_sub, fun _ _ _ _ _ => rfl⟩
  | k + 1 => ⟨gen_sub G (hnx _), G.gen_nml (hP _ (G.fall hnx hP k).2) (hnx _)⟩
theorem Grp.fall_le (G : Grp n f e) {P : (Nat → Bool) → Nat → Bool} (hnx : ∀ p a, a < n → (nx p a = true ↔ Gen n f e (P p) a)) (hP : ∀ p, Nml n f e p → Nml n f e (P p)) (hle : ∀ p, Sub n f e p → Nml n f e p → ∀ x, x < n → P p x = true → p x = true) (k : Nat) {a : Nat} (ha : a < n) (h : itr nx (fun _ => true) (k + 1) a = true) : itr nx (fun _ => true) k a = true := by
  obtain ⟨h1, h2⟩ := G.fall hnx hP k
  exact ((hnx _ a ha).1 h).sub G h1 fun b hb hc => hle _ h1 h2 b hb hc
theorem Grp.fall_stop (G : Grp n f e) {P : (Nat → Bool) → Nat → Bool} (hnx : ∀ p a, a < n → (nx p a = true ↔ Gen n f e (P p) a)) (hP : ∀ p, Nml n f e p → Nml n f e (P p)) (hle : ∀ p, Sub n f e p → Nml n f e p → ∀ x, x < n → P p x = true → p x = true) : ∃ K, K ≤ n ∧ Stp n (itr nx fun _ => true) K := by
  obtain ⟨K, h1, h2⟩ := stop_ex (n := n) (T := itr nx fun _ => true) (fun k => (mem n (itr nx (fun _ => true) k)).length) fun k hk => mem_lt (fun a ha h => G.fall_le hnx hP hle k ha h) hk
  refine ⟨K, Nat.le_trans h1 ?_, h2⟩
  exact Nat.le_trans (List.length_filter_le _ _) (Nat.le_of_eq List.length_range)
end
theorem Grp.dd_nml (G : Grp n f e) (p : Nat → Bool) (hp : Nml n f e p) : Nml n f e (dnp n f e p p) := G.dnp_nml hp hp
theorem Grp.da_nml (G : Grp n f e) (p : Nat → Bool) (hp : Nml n f e p) : Nml n f e (dnp n f e p fun _ => true) := G.dnp_nml hp fun _ _ _ _ _ => rfl
theorem Grp.dd_le (G : Grp n f e) (p : Nat → Bool) (hs : Sub n f e p) (hp : Nml n f e p) (x : Nat) (hx : x < n) (h : dnp n f e p p x = true) : p x = true := by
  obtain ⟨a, b, a1, b1, a2, b2, rfl⟩ := dnp_iff.1 h
  exact G.cmt_in hs hp a1 b1 a2
theorem Grp.da_le (G : Grp n f e) (p : Nat → Bool) (hs : Sub n f e p) (hp : Nml n f e p) (x : Nat) (hx : x < n) (h : dnp n f e p (fun _ => true) x = true) : p x = true := by
  obtain ⟨a, b, a1, b1, a2, b2, rfl⟩ := dnp_iff.1 h
  exact G.cmt_in hs hp a1 b1 a2
theorem dd_congr (p q : Nat → Bool) (h : ∀ a, a < n → p a = q a) (x : Nat) (_ : x < n) : dnp n f e p p x = dnp n f e q q x := by
  rw [Bool.eq_iff_iff, dnp_iff, dnp_iff]
  exact ⟨fun ⟨a, b, a1, b1, a2, b2, h3⟩ => ⟨a, b, a1, b1, by rw [← h a a1]; exact a2, by rw [← h b b1]; exact b2, h3⟩, fun ⟨a, b, a1, b1, a2, b2, h3⟩ => ⟨a, b, a1, b1, by rw [h a a1]; exact a2, by rw [h b b1]; exact b2, h3⟩⟩
theorem da_congr (p q : Nat → Bool) (h : ∀ a, a < n → p a = q a) (x : Nat) (_ : x < n) : dnp n f e p (fun _ => true) x = dnp n f e q (fun _ => true) x := by
  rw [Bool.eq_iff_iff, dnp_iff, dnp_iff]
  exact ⟨fun ⟨a, b, a1, b1, a2, b2, h3⟩ => ⟨a, b, a1, b1, by rw [← h a a1]; exact a2, b2, h3⟩, fun ⟨a, b, a1, b1, a2, b2, h3⟩ => ⟨a, b, a1, b1, by rw [h a a1]; exact a2, b2, h3⟩⟩
/-- Each Derived one is in the Lower one at its place. -/
theorem Grp.der_low (G : Grp n f e) {nd nl : (Nat → Bool) → Nat → Bool} (hd : ∀ p a, a < n → (nd p a = true ↔ Gen n f e (dnp n f e p p) a)) (hl : ∀ p a, a < n → (nl p a = true ↔ Gen n f e (dnp n f e p fun _ => true) a)) : ∀ k a, a < n → itr nd (fun _ => true) k a = true → itr nl (fun _ => true) k a = true
  | 0, _, _, _ => rfl
  | k + 1, a, ha, h => (hl _ a ha).2 (((hd _ a ha).1 h).mono fun b hb hc => by
      obtain ⟨x, y, x1, y1, x2, y2, h3⟩ := dnp_iff.1 hc
      exact dnp_iff.2 ⟨x, y, x1, y1, G.der_low hd hl k x x1 x2, rfl, h3⟩)

/-! ### Rising -/

theorem Grp.unx_in (G : Grp n f e) {p : Nat → Bool} (hs : Sub n f e p) (hn : Nml n f e p) {x : Nat} (hx : x < n) (h : p x = true) : unx n f e p x = true := unx_iff.2 fun b hb => G.cmt_in hs hn hx hb h
theorem Grp.unx_sub (G : Grp n f e) {p : Nat → Bool} (hs : Sub n f e p) (hn : Nml n f e p) : Sub n f e (unx n f e p) := by
  refine sub_of G (G.unx_in hs hn G.el hs.one) fun x y hx hy h1 h2 => unx_iff.2 fun b hb => ?_
  have ix := G.iv_lt hx
  have iy := G.iv_lt hy
  have hxb := G.cjr_lt hx hb
  have hyb := G.cjr_lt hy hb
  have hcx := G.cmt_lt hx hb
  have h3 := hs.mul _ _ (G.cjr_lt hcx hy) (G.cmt_lt hy hb) (hn y hy _ hcx (unx_iff.1 h1 b hb)) (unx_iff.1 h2 b hb)
  have : cmt n f e (f x y) b = f (cjr n f e (cmt n f e x b) y) (cmt n f e y b) := by
    have e1 : cjr n f e (cmt n f e x b) y = f (f (iv n f e y) (cmt n f e x b)) y := rfl
    rw [G.cmt_cjr (G.cl _ _ hx hy) hb, G.iv_prod hx hy, G.cjr_hom hx hy hb, e1, G.cmt_cjr hy hb, G.assoc (f (iv n f e y) (cmt n f e x b)) y _ (G.cl _ _ iy hcx) hy (G.cl _ _ iy hyb), ← G.assoc y (iv n f e y) _ hy iy hyb, G.mul_iv hy, G.one_l _ hyb, G.cmt_cjr hx hb, G.assoc (iv n f e y) (iv n f e x) _ iy ix (G.cl _ _ hxb hyb), ← G.assoc (iv n f e x) _ _ ix hxb hyb, ← G.assoc (iv n f e y) _ _ iy (G.cl _ _ ix hxb) hyb]
  rw [this]; exact h3
theorem Grp.unx_nml (G : Grp n f e) {p : Nat → Bool} (hn : Nml n f e p) : Nml n f e (unx n f e p) := fun c hc x hx h => unx_iff.2 fun b hb => by
  have ic := G.iv_lt hc
  have hbc := G.cjr_lt hb ic
  have h1 := hn c hc _ (G.cmt_lt hx hbc) (unx_iff.1 h _ hbc)
  rwa [G.cjr_cmt hx hbc hc, G.cjr_vi hb hc] at h1
theorem Grp.rise (G : Grp n f e) : ∀ k, Sub n f e (itr (unx n f e) (onp e) k) ∧ Nml n f e (itr (unx n f e) (onp e) k)
  | 0 => ⟨G.onp_sub, G.one_nml⟩
  | k + 1 => ⟨G.unx_sub (G.rise k).1 (G.rise k).2, G.unx_nml (G.rise k).2⟩
theorem Grp.rise_stop (G : Grp n f e) : ∃ K, K ≤ n ∧ Stp n (itr (unx n f e) (onp e)) K := by
  have hle : ∀ p : Nat → Bool, (mem n p).length ≤ n := fun p => Nat.le_trans (List.length_filter_le _ _) (Nat.le_of_eq List.length_range)
  obtain ⟨K, h1, h2⟩ := stop_ex (n := n) (T := itr (unx n f e) (onp e)) (fun k => n - (mem n (itr (unx n f e) (onp e) k)).length) fun k hk => by
    have h1 := mem_lt (n := n) (p := itr (unx n f e) (onp e) (k + 1)) (q := itr (unx n f e) (onp e) k) (fun a ha h => G.unx_in (G.rise k).1 (G.rise k).2 ha h) (fun h => hk fun a ha => (h a ha).symm)
    have h2 := hle (itr (unx n f e) (onp e) (k + 1))
    have h3 := hle (itr (unx n f e) (onp e) k)
    show n - _ < n - _
    omega
  exact ⟨K, Nat.le_trans h1 (Nat.sub_le _ _), h2⟩
end
end Go.Proofs.YtjikchbmkodgfaaDoor

/-
  All subgroups of a group, in their order. Conditions: none.
-/
set_option linter.all false
namespace Go.Proofs.YtjikchbmkodgfaaDoor
open Go.Pv

def wta (p : Nat → Bool) (a x : Nat) : Bool := p x || decide (x = a)
theorem bo_wta {n a : Nat} (p : Nat → Bool) (ha : a < n) : bo n p ||| 2 ^ a = bo n (wta p a) := by
  refine Nat.eq_of_testBit_eq fun i => ?_
  rw [Nat.testBit_or, bo_bit, bo_bit, Nat.testBit_two_pow]
  unfold wta
  by_cases hi : i < n
  · simp [hi, eq_comm]
  · have : ¬ a = i := by omega
    simp [hi, this]
theorem bo_self {n x : Nat} (hx : x < 2 ^ n) : bo n x.testBit = x := by
  refine Nat.eq_of_testBit_eq fun i => ?_
  rw [bo_bit]
  by_cases hi : i < n
  · simp [hi]
  · have := Nat.testBit_lt_two_pow (Nat.lt_of_lt_of_le hx (Nat.pow_le_pow_right (by omega) (Nat.le_of_not_lt hi)))
    simp [hi, this]
theorem onp_gen {n e : Nat} {f : Nat → Nat → Nat} : ∀ a, a < n → (onp e a = true ↔ Gen n f e (Nat.testBit 0) a) := fun a ha => by
  rw [onp_iff]
  constructor
  · rintro rfl; exact .one
  · intro hg
    exact Gen.least (H := fun a => a = e) rfl (fun a b _ _ hb _ => by simp at hb) hg

section
variable {n e : Nat} {f : Nat → Nat → Nat}

/-- With one thing more, what is made is there. -/
def Dn (n : Nat) (f : Nat → Nat → Nat) (e x a : Nat) (L : List Nat) : Prop := ∀ q : Nat → Bool, (∀ y, y < n → (q y = true ↔ Gen n f e (wta x.testBit a) y)) → bo n q ∈ L
theorem Dn.mono {x a : Nat} {L L' : List Nat} (h : Dn n f e x a L) (hs : ∀ y ∈ L, y ∈ L') : Dn n f e x a L' := fun q hq => hs _ (h q hq)

/-- All subgroups; each once. -/
structure AllI (n : Nat) (f : Nat → Nat → Nat) (e : Nat) (L : List Nat) : Prop where
  nodup : L.Nodup
  subs : ∀ x ∈ L, ∃ p, Sub n f e p ∧ x = bo n p
  one : bo n (onp e) ∈ L
theorem AllI.lt {L : List Nat} (h : AllI n f e L) : ∀ x ∈ L, x < 2 ^ n := fun x hx => by
  obtain ⟨p, _, rfl⟩ := h.subs x hx
  exact bo_lt n p
theorem AllI.len {L : List Nat} (h : AllI n f e L) : L.length ≤ 2 ^ n := nodup_lt h.nodup h.lt
theorem AllI.all {L : List Nat} (G : Grp n f e) (h : AllI n f e L) (hd : ∀ x ∈ L, ∀ a, a < n → Dn n f e x a L) : ∀ p, Sub n f e p → bo n p ∈ L := by
  intro q hq
  -- from what is there, inside q, up
  have go : ∀ c (p : Nat → Bool), Sub n f e p → bo n p ∈ L → (∀ y, y < n → p y = true → q y = true) → (mem n q).length - (mem n p).length ≤ c → bo n q ∈ L := by
    intro c
    induction c with
    | zero =>
      intro p hp hL hle hc
      have hall : ∀ y, y < n → q y = p y := by
        refine Classical.byContradiction fun hh => ?_
        have := mem_lt (p := q) (q := p) hle (fun h2 => hh fun y hy => (h2 y hy).symm)
        omega
      rw [bo_congr hall]; exact hL
    | succ c ih =>
      intro p hp hL hle hc
      by_cases hall : ∀ y, y < n → q y = p y
      · rw [bo_congr hall]; exact hL
      · have hex : ∃ a, a < n ∧ q a = true ∧ p a = false := by
          refine Classical.byContradiction fun hh => hall fun y hy => ?_
          cases hpy : p y with
          | true => exact hle y hy hpy
          | false =>
            cases hqy : q y with
            | false => rfl
            | true => exact absurd ⟨y, hy, hqy, hpy⟩ hh
        obtain ⟨a, ha, qa, pa⟩ := hex
        obtain ⟨r, hr⟩ := gen_ex n f e (wta (bo n p).testBit a)
        have hrL := hd _ hL a ha r hr
        have hin : ∀ b, b < n → wta (bo n p).testBit a b = true → q b = true := fun b hb hw => by
          unfold wta at hw
          rw [bo_bit, Bool.or_eq_true, Bool.and_eq_true, decide_eq_true_eq, decide_eq_true_eq] at hw
          rcases hw with hw | hw
          · exact hle b hb hw.2
          · rw [hw]; exact qa
        have hrq : ∀ y, y < n → r y = true → q y = true := fun y hy h1 => ((hr y hy).1 h1).sub G hq hin
        have hpr : ∀ y, y < n → p y = true → r y = true := fun y hy h1 => (hr y hy).2 (Gen.mem G hy (by unfold wta; rw [bo_bit]; simp [hy, h1]))
        have hra : r a = true := (hr a ha).2 (Gen.mem G ha (by unfold wta; simp))
        have hlt := mem_lt (p := r) (q := p) hpr (fun h2 => by have := h2 a ha; rw [pa, hra] at this; cases this)
        exact ih r (gen_sub G hr) hrL hrq (by omega)
  exact go _ (onp e) G.onp_sub h.one (fun y hy h1 => by rw [onp_iff] at h1; rw [h1]; exact hq.one) (Nat.le_refl _)

/-- .. in their order. -/
structure AllS (n : Nat) (f : Nat → Nat → Nat) (e : Nat) (L : List Nat) : Prop where
  subs : ∀ x ∈ L, ∃ p, Sub n f e p ∧ x = bo n p
  all : ∀ p, Sub n f e p → bo n p ∈ L
  rise : L.Pairwise fun x y => cmpS (stl x) (stl y) < 0
theorem AllS.nodup {L : List Nat} (h : AllS n f e L) : L.Nodup := h.rise.imp fun {x y} hxy he => by
  subst he; exact cmpS_self _ hxy
theorem AllS.perm {L M : List Nat} (G : Grp n f e) (h : AllS n f e L) (hi : AllI n f e M) (hd : ∀ x ∈ M, ∀ a, a < n → Dn n f e x a M) : M.Perm L := by
  refine (List.perm_ext_iff_of_nodup hi.nodup h.nodup).2 fun x => ⟨fun hx => ?_, fun hx => ?_⟩
  · obtain ⟨p, hp, rfl⟩ := hi.subs x hx; exact h.all p hp
  · obtain ⟨p, hp, rfl⟩ := h.subs x hx; exact hi.all G hd p hp
theorem stl_inj {x y : Nat} (hx : x < 2 ^ 64) (hy : y < 2 ^ 64) (h : stl x = stl y) : x = y := by
  refine Nat.eq_of_testBit_eq fun i => ?_
  by_cases hi : i < 64
  · exact thl_inj h hi
  · have h1 := Nat.testBit_lt_two_pow (Nat.lt_of_lt_of_le hx (Nat.pow_le_pow_right (by omega) (Nat.le_of_not_lt hi)))
    have h2 := Nat.testBit_lt_two_pow (Nat.lt_of_lt_of_le hy (Nat.pow_le_pow_right (by omega) (Nat.le_of_not_lt hi)))
    rw [h1, h2]
/-- Put into a list that rises. -/
def insS (x : Nat) : List Nat → List Nat
  | [] => [x]
  | y :: r => if cmpS (stl x) (stl y) < 0 then x :: y :: r else y :: insS x r
theorem mem_insS {x z : Nat} : ∀ {L : List Nat}, z ∈ insS x L ↔ z = x ∨ z ∈ L
  | [] => by simp [insS]
  | y :: r => by
    unfold insS
    by_cases h : cmpS (stl x) (stl y) < 0
    · rw [if_pos h]; simp
    · rw [if_neg h, List.mem_cons, mem_insS, List.mem_cons]
      constructor
      · rintro (h | h | h)
        · exact .inr (.inl h)
        · exact .inl h
        · exact .inr (.inr h)
      · rintro (h | h | h)
        · exact .inr (.inl h)
        · exact .inl h
        · exact .inr (.inr h)
theorem rise_insS {x : Nat} : ∀ {L : List Nat}, L.Pairwise (fun x y => cmpS (stl x) (stl y) < 0) → (∀ y ∈ L, stl x ≠ stl y) → (insS x L).Pairwise fun x y => cmpS (stl x) (stl y) < 0
  | [], _, _ => by simp [insS]
  | y :: r, h, hne => by
    obtain ⟨h1, h2⟩ := List.pairwise_cons.1 h
    unfold insS
    by_cases hc : cmpS (stl x) (stl y) < 0
    · rw [if_pos hc]
      refine List.pairwise_cons.2 ⟨fun z hz => ?_, h⟩
      rcases List.mem_cons.1 hz with rfl | hz
      · exact hc
      · exact cmpS_trans _ _ _ hc (h1 z hz)
    · rw [if_neg hc]
      refine List.pairwise_cons.2 ⟨fun z hz => ?_, rise_insS h2 fun z hz => hne z (by simp [hz])⟩
      rcases mem_insS.1 hz with rfl | hz
      · refine Classical.byContradiction fun hh => ?_
        exact hne y (by simp) (cmpS_tot _ _ hc hh)
      · exact h1 z hz
theorem alls_ex (G : Grp n f e) (hn : n ≤ 60) : ∃ L, AllS n f e L := by
  have hd : ∀ M : List Nat, M.Nodup → (∀ x ∈ M, x < 2 ^ n) → ∃ L : List Nat, (∀ x, x ∈ L ↔ x ∈ M) ∧ L.Pairwise fun x y => cmpS (stl x) (stl y) < 0 := by
    intro M
    induction M with
    | nil => exact fun _ _ => ⟨[], by simp, by simp⟩
    | cons x r ih =>
      intro hnd hlt
      obtain ⟨h1, h2⟩ := List.nodup_cons.1 hnd
      obtain ⟨L, l1, l2⟩ := ih h2 fun y hy => hlt y (by simp [hy])
      have hp : 2 ^ n ≤ 2 ^ 64 := Nat.pow_le_pow_right (by omega) (by omega)
      refine ⟨insS x L, fun z => by rw [mem_insS, l1]; simp, rise_insS l2 fun y hy hxy => ?_⟩
      have hyr := (l1 y).1 hy
      have h3 := hlt x (by simp)
      have h4 := hlt y (by simp [hyr])
      have := stl_inj (by omega) (by omega) hxy
      rw [this] at h1; exact h1 hyr
  have hf : ∃ M : List Nat, M.Nodup ∧ ∀ x, x ∈ M ↔ x < 2 ^ n ∧ Sub n f e x.testBit := by
    have : ∀ N, ∃ M : List Nat, M.Nodup ∧ ∀ x, x ∈ M ↔ x < N ∧ Sub n f e x.testBit := by
      intro N
      induction N with
      | zero => exact ⟨[], List.nodup_nil, by simp⟩
      | succ N ih =>
        obtain ⟨M, m1, m2⟩ := ih
        by_cases hN : Sub n f e N.testBit
        · refine ⟨N :: M, List.nodup_cons.2 ⟨fun h => by have := ((m2 N).1 h).1; omega, m1⟩, fun x => ?_⟩
          rw [List.mem_cons, m2]
          constructor
          · rintro (rfl | h)
            · exact ⟨by omega, hN⟩
            · exact ⟨by omega, h.2⟩
          · rintro ⟨h1, h2⟩
            by_cases hx : x = N
            · exact .inl hx
            · exact .inr ⟨by omega, h2⟩
        · refine ⟨M, m1, fun x => ?_⟩
          rw [m2]
          constructor
          · exact fun h => ⟨by omega, h.2⟩
          · rintro ⟨h1, h2⟩
            refine ⟨?_, h2⟩
            by_cases hx : x = N
            · rw [hx] at h2; exact absurd h2 hN
            · omega
    exact this _
  obtain ⟨M, m1, m2⟩ := hf
  obtain ⟨L, l1, l2⟩ := hd M m1 fun x hx => ((m2 x).1 hx).1
  refine ⟨L, fun x hx => ?_, fun p hp => ?_, l2⟩
  · obtain ⟨h1, h2⟩ := (m2 x).1 ((l1 x).1 hx)
    exact ⟨x.testBit, h2, (bo_self h1).symm⟩
  · refine (l1 _).2 ((m2 _).2 ⟨bo_lt n p, ?_⟩)
    have : ∀ a, a < n → (bo n p).testBit a = p a := fun a ha => by rw [bo_bit]; simp [ha]
    refine sub_of G (by rw [this e G.el]; exact hp.one) fun a b ha hb h1 h2 => ?_
    rw [this a ha] at h1
    rw [this b hb] at h2
    rw [this _ (G.cl a b ha hb)]
    exact hp.mul a b ha hb h1 h2
end
end Go.Proofs.YtjikchbmkodgfaaDoor

/-
  What reads as one value reads as another. Conditions: none.
-/
set_option linter.all false
namespace Go.Proofs.YtjikchbmkodgfaaDoor
open Go.Pv

/-! ### What reads as one reads as another -/

def Rle (a b : PV) : Prop := ∀ (ok : Nat → Prop) (w : World) (v : Value), Reads ok w a v → Reads ok w b v
theorem Rle.rfl {a : PV} : Rle a a := fun _ _ _ h => h
theorem Rle.nn {l : List PV} : Rle (.nn l) (.list l) := fun _ _ _ h => h.nn_list
theorem Rle.agg2 {a b a' b' : PV} (h1 : Rle a a') (h2 : Rle b b') : Rle (.agg [a, b]) (.agg [a', b']) := fun ok w v h => by
  cases h with
  | agg _ vs hl hr =>
    refine .agg _ vs hl fun c hc => ?_
    match c, hc with
    | 0, _ => exact h1 _ _ _ (hr 0 (by simp))
    | 1, _ => exact h2 _ _ _ (hr 1 (by simp))
def Rles : List PV → List PV → Prop
  | [], [] => True
  | a :: r, b :: s => Rle a b ∧ Rles r s
  | _, _ => False
theorem Rles.len : ∀ {l r : List PV}, Rles l r → l.length = r.length
  | [], [], _ => by rfl
  | a :: l, b :: r, h => by simp [Rles.len h.2]
  | [], _ :: _, h => h.elim
  | _ :: _, [], h => h.elim
theorem Rles.get : ∀ {l r : List PV}, Rles l r → ∀ (i : Nat) (h : i < l.length) (h' : i < r.length), Rle l[i] r[i]
  | a :: l, b :: r, h, 0, _, _ => h.1
  | a :: l, b :: r, h, i + 1, h1, h2 => by simpa using Rles.get h.2 i (by simpa using h1) (by simpa using h2)
  | [], [], _, i, h, _ => by simp at h
  | [], _ :: _, h, _, _, _ => h.elim
  | _ :: _, [], h, _, _, _ => h.elim
theorem FnC.weak {P : Program} {f : FuncId} {args args' : List PV} {r : PV} (h : FnC P f args r) (hs : Rles args' args) : FnC P f args' r := by
  refine ⟨h.1, fun okA w vals h1 h2 h3 => h.2 okA w vals h1 (h2.trans hs.len) fun i hi => ?_⟩
  have := hs.len
  exact hs.get i (by omega) hi _ _ _ (h3 i (by omega))

theorem Rle.nn2 {a b : List PV} : Rle (.nn [.nn a, .nn b]) (.list [.list a, .list b]) := fun ok w v h => by
  cases h with
  | nn _ k off sz vs hb hsz hc hr =>
    refine .list [.list a, .list b] k off 2 1 vs hb (by simp [PV.cells]) (by simp) (fun c hc' => hc c (by simpa [flat, PV.cells] using hc')) fun c hcl => ?_
    have h0 := hr 0 (by simp [flat, PV.cells])
    have h1 := hr 1 (by simp [flat, PV.cells])
    match c, hcl with
    | 0, _ => exact Reads.nn_list h0
    | 1, _ => exact Reads.nn_list h1
end Go.Proofs.YtjikchbmkodgfaaDoor

/-
  Classes: by what is alike; of conjugate things. Conditions: none.
-/
set_option linter.all false
namespace Go.Proofs.YtjikchbmkodgfaaDoor
open Go.Pv

/-- The classes whose least things are below a. -/
def cstp (n : Nat) (r : Nat → Nat → Bool) (a : Nat) : List (List Int) := ((List.range a).filter (lead r)).map fun x => thl n (r x)
def cst (n : Nat) (r : Nat → Nat → Bool) : List (List Int) := cstp n r n
theorem cstp_succ (n : Nat) (r : Nat → Nat → Bool) (a : Nat) : cstp n r (a + 1) = cstp n r a ++ if lead r a = true then [thl n (r a)] else [] := by
  unfold cstp
  rw [List.range_succ, List.filter_append, List.map_append]
  congr 1
  cases h : lead r a <;> simp [h]
theorem cstp_len (n : Nat) (r : Nat → Nat → Bool) (a : Nat) : (cstp n r a).length ≤ a := by
  unfold cstp
  rw [List.length_map]
  have := List.length_filter_le (lead r) (List.range a)
  rwa [List.length_range] at this
theorem cst_congr {n : Nat} {r r' : Nat → Nat → Bool} (h : ∀ a b, a < n → b < n → r a b = r' a b) : cst n r = cst n r' := by
  unfold cst cstp
  have hl : (List.range n).filter (lead r) = (List.range n).filter (lead r') := List.filter_congr fun a ha => by
    have a1 := List.mem_range.1 ha
    rw [Bool.eq_iff_iff, lead_iff, lead_iff, h a a a1 a1]
    exact ⟨fun ⟨h1, h2⟩ => ⟨h1, fun b hb => by rw [← h a b a1 (by omega)]; exact h2 b hb⟩, fun ⟨h1, h2⟩ => ⟨h1, fun b hb => by rw [h a b a1 (by omega)]; exact h2 b hb⟩⟩
  rw [hl]
  refine List.map_congr_left fun x hx => thl_congr fun b hb => h x b ?_ hb
  exact List.mem_range.1 (List.mem_filter.1 hx).1
/-- The class at a place: its least thing. -/
theorem cst_get {n : Nat} {r : Nat → Nat → Bool} {i : Nat} (hi : i < (cst n r).length) : ∃ x, x < n ∧ lead r x = true ∧ (cst n r).getD i [] = thl n (r x) ∧ (mem n (lead r)).getD i 0 = x := by
  unfold cst cstp at hi ⊢
  rw [List.length_map] at hi
  have hm := List.getElem_mem hi
  obtain ⟨h1, h2⟩ := List.mem_filter.1 hm
  refine ⟨_, List.mem_range.1 h1, h2, ?_, ?_⟩
  · simp [List.getD, List.getElem?_eq_getElem hi]
  · unfold mem
    simp [List.getD, List.getElem?_eq_getElem hi]
/-- The first of a list of things. -/
theorem thl_head {n : Nat} {p : Nat → Bool} {a : Nat} (ha : a < n) (h1 : p a = true) (h2 : ∀ b, b < a → p b = false) : 0 < (thl n p).length ∧ (thl n p).getD 0 0 = (a : Int) := by
  have : thl n p = (a : Int) :: (thn' n fun i => p i && !decide (i = a)).map (fun (a : Nat) => (a : Int)) := by
    unfold thl
    rw [thn_first ha h1 h2]; rfl
  rw [this]
  exact ⟨by simp, rfl⟩
theorem head_thl {n : Nat} {p : Nat → Bool} {a : Nat} (ha : a < n) (h0 : 0 < (thl n p).length) (h : (thl n p).getD 0 0 = (a : Int)) : p a = true ∧ ∀ b, b < a → p b = false := by
  obtain ⟨x, x1, x2, x3⟩ := thl_get h0
  have : x = a := by omega
  subst this
  refine ⟨x2, fun b hb => ?_⟩
  cases hpb : p b with
  | false => rfl
  | true =>
    exfalso
    obtain ⟨i, i1, i2⟩ := thl_at (n := n) (p := p) (show b < n by omega) hpb
    rcases Nat.eq_zero_or_pos i with h' | h'
    · subst h'; omega
    · have := thl_get_asc (n := n) (p := p) h' i1
      omega
theorem lead_head {n : Nat} {r : Nat → Nat → Bool} {a : Nat} (ha : a < n) : lead r a = true ↔ 0 < (thl n (r a)).length ∧ (thl n (r a)).getD 0 0 = (a : Int) := by
  rw [lead_iff]
  exact ⟨fun h => thl_head ha h.1 h.2, fun h => head_thl ha h.1 h.2⟩

theorem ll_takeL (ls : List (List Int)) : (ll ls).take ls.length = ll ls := List.take_of_length_le (by rw [ll_length]; exact Nat.le_refl _)

theorem ll_takeS (ls : List (List Int)) (x : List Int) : (ll (ls ++ [x])).take (ls.length + 1) = ll (ls ++ [x]) := List.take_of_length_le (by rw [ll_length]; simp)

theorem lead3 {n : Nat} {r : Nat → Nat → Bool} {a : Nat} (ha : a < n) : lead r a = true ∨ (lead r a = false ∧ (thl n (r a)).length = 0) ∨ (lead r a = false ∧ 0 < (thl n (r a)).length ∧ ¬ (thl n (r a)).getD 0 0 = (a : Int)) := by
  cases h : lead r a with
  | true => exact .inl rfl
  | false =>
    right
    rcases Nat.eq_zero_or_pos (thl n (r a)).length with h0 | h0
    · exact .inl ⟨rfl, h0⟩
    · refine .inr ⟨rfl, h0, fun he => ?_⟩
      have := (lead_head ha).2 ⟨h0, he⟩
      rw [h] at this; cases this

theorem thl_one {n x : Nat} (hx : x < n) : thl n (fun y => decide (y = x)) = [(x : Int)] := by
  refine asc_ext (thl_asc _ _) (by simp) fun z => ?_
  rw [mem_thl, List.mem_singleton]
  constructor
  · rintro ⟨a, _, h2, rfl⟩
    rw [decide_eq_true_eq] at h2
    rw [h2]
  · rintro rfl
    exact ⟨x, hx, by simp, rfl⟩
/-! ### Rows of rows, compared -/

theorem lists_r (a b : List (List Int)) (ha : a.length ≤ 1000000) (hx : ∀ x ∈ a, x.length ≤ 1000000) : FnC Tryd.prog 21 [.list (ll a), .list (ll b)] (.bool (decide (a = b))) := by
  refine fnc_of tab_ok Tryd.func21 rfl (by kernel_rfl) (by rw [Tryd.ntmps21]; exact Nat.le_add_left 2 _) ?_; rw [Tryd.ntmps21]
  refine qm ?_
  refine hk_region fun K hK => runs_eval tab_ok ?_
  simp only [ev0, evA, evB, evP, fl, gp, tab, simprocAttr, reduceCtorEq, reduceIte]
  refine fin_run trivial (hK _ ?_) <;> clear hK <;> clear K
  refine qa (qm (qm ?_))
  refine hk_region fun K hK => runs_eval tab_ok ?_
  simp only [ev0, evA, evB, evP, fl, gp, tab, simprocAttr, reduceCtorEq, reduceIte, ll_length]
  refine fin_run trivial (hK _ ?_) <;> clear hK <;> clear K
  refine qa ?_
  refine hk_cond rfl (fun hC1 => ?_) (fun hC1 => ?_)
  · (try simp only [nhs] at hC1)
    refine qm ?_
    refine hk_region fun K hK => runs_eval tab_ok ?_
    simp only [ev0, evA, evB, evP, fl, gp, tab, simprocAttr, reduceCtorEq, reduceIte]
    refine fin_run trivial (hK _ ?_) <;> clear hK <;> clear K
    refine qa (qk (qb ?_))
    simp only [Tryd.results21, enA, ev0, evA, evB, evP, fl, gp, tab, simprocAttr, reduceCtorEq, reduceIte]
    have : a ≠ b := by intro h; subst h; simp at hC1
    simp [this]
  · (try simp only [nhs] at hC1)
    have hn : a.length = b.length := by omega
    refine qh (qa (qm (qm ?_)))
    refine hk_region fun K hK => runs_eval tab_ok ?_
    simp only [ev0, evA, evB, evP, fl, gp, tab, simprocAttr, reduceCtorEq, reduceIte]
    refine fin_run trivial (hK _ ?_) <;> clear hK <;> clear K
    refine qa (ql ?_)
    refine hk_loop (ι := Nat) (fun i => ⟨27, [(0, .p (.list (ll a))), (1, .p (.list (ll b))), (5, .p (.int .i64 i))], []⟩) (fun i => i ≤ a.length ∧ a.take i = b.take i) (fun i => a.length - i) 0 ⟨Nat.zero_le _, rfl⟩ [] (by simp only [leq, leA, ev0, evA, evB, evP, fl, gp, tab, simprocAttr, reduceCtorEq, reduceIte] <;> trivial) fun i hi => ?_
    obtain ⟨hi1, hi2⟩ := hi
    refine qm (qm ?_)
    refine hk_region fun K hK => runs_eval tab_ok ?_
    simp only [ev0, evA, evB, evP, fl, gp, tab, simprocAttr, reduceCtorEq, reduceIte, ll_length]
    refine fin_run trivial (hK _ ?_) <;> clear hK <;> clear K
    refine qa ?_
    refine hk_cond rfl (fun hC2 => ?_) (fun hC2 => ?_)
    · (try simp only [nhs] at hC2)
      have hlt : i < a.length := by omega
      have hma : (a.getD i []).length ≤ 1000000 := hx _ (by simp [List.getD, List.getElem?_eq_getElem hlt])
      refine qh (qa (qm (ql (qm ?_))))
      refine hk_draw mixed (by kernel_rfl) fun K hK => runs_eval tab_ok ?_
      simp only [ev0, evA, evB, evP, fl, gp, tab, simprocAttr, reduceCtorEq, reduceIte, ll_length, ll_get hlt, ll_get (show i < b.length by omega)]
      refine fin_stop ?_ (runs_call (ints_c (a.getD i []) (b.getD i []) (by omega)) rfl rfl rfl (by simp only [dstOk, Nat.reduceLT]) (by repeat (first | exact trivial | constructor)) (runs_eval tab_ok ?_))
      · (first | exact trivial | omega | (simp only [In64] at *; omega) | (simp [In64] at *; omega) | (simp_all; done) | skip)
      simp only [ev0, evA, evB, evP, fl, gp, tab, simprocAttr, reduceCtorEq, reduceIte, ll_length, ll_get hlt, ll_get (show i < b.length by omega)]
      refine fin_run ?_ (hK _ ?_) <;> clear hK <;> clear K
      · (first | exact trivial | omega | (simp only [In64] at *; omega) | (simp [In64] at *; omega) | (simp_all; done) | skip)
      refine qa ?_
      refine hk_cond rfl (fun hC3 => ?_) (fun hC3 => ?_)
      · (try simp only [nhs] at hC3)
        refine qm ?_
        refine hk_region fun K hK => runs_eval tab_ok ?_
        simp only [ev0, evA, evB, evP, fl, gp, tab, simprocAttr, reduceCtorEq, reduceIte]
        refine fin_run trivial (hK _ ?_) <;> clear hK <;> clear K
        refine qa (qk (qe (qb (qb (qe (qb ?_))))))
        simp only [Tryd.results21, enA, ev0, evA, evB, evP, fl, gp, tab, simprocAttr, reduceCtorEq, reduceIte]
        have : a ≠ b := by intro h; subst h; simp at hC3
        simp [this]
      · (try simp only [nhs] at hC3)
        refine qh (qd (qa ?_))
        refine hk_region fun K hK => runs_eval tab_ok ?_
        simp only [ev0, evA, evB, evP, fl, gp, tab, simprocAttr, reduceCtorEq, reduceIte]
        refine fin_run ?_ (hK _ ?_) <;> clear hK <;> clear K
        · (first | exact trivial | omega | (simp only [In64] at *; omega) | (simp [In64] at *; omega) | (simp_all; done) | skip)
        refine qa ?_
        refine ⟨i + 1, [], ⟨by omega, ?_⟩, by omega, ?_⟩
        · rw [List.take_succ_eq_append_getElem hlt, List.take_succ_eq_append_getElem (show i < b.length by omega), hi2]
          simp [List.getD, List.getElem?_eq_getElem hlt, List.getElem?_eq_getElem (show i < b.length by omega)] at hC3
          rw [hC3]
        · simp only [leq, leA, ev0, evA, evB, evP, fl, gp, tab, simprocAttr, reduceCtorEq, reduceIte] <;> first | trivial | omega
    · (try simp only [nhs] at hC2)
      refine qj (qc (qc (qf (qa (qm ?_)))))
      refine hk_region fun K hK => runs_eval tab_ok ?_
      simp only [ev0, evA, evB, evP, fl, gp, tab, simprocAttr, reduceCtorEq, reduceIte]
      refine fin_run trivial (hK _ ?_) <;> clear hK <;> clear K
      refine qa (qk ?_)
      simp only [Tryd.results21, enA, ev0, evA, evB, evP, fl, gp, tab, simprocAttr, reduceCtorEq, reduceIte]
      have : i = a.length := by omega
      subst this
      rw [List.take_length, List.take_of_length_le (by omega)] at hi2
      simp [hi2]

/-- Rows of rows, typed. -/
def lln (ls : List (List Int)) : List PV := ls.map fun w => .nn (il w)
theorem lln_length (ls : List (List Int)) : (lln ls).length = ls.length := by simp [lln]
theorem lln_get {ls : List (List Int)} {i : Nat} (h : i < ls.length) : (lln ls).getD i default = .nn (il (ls.getD i [])) := by
  simp [lln, List.getD, List.getElem?_map, List.getElem?_eq_getElem h]
theorem lists_n (a : List (List Int)) (ha : a.length ≤ 1000000) (hx : ∀ x ∈ a, x.length ≤ 1000000) : FnC Tryd.prog 21 [.list (ll a), .nn (lln a)] (.bool true) := by
  refine fnc_of tab_ok Tryd.func21 rfl (by kernel_rfl) (by rw [Tryd.ntmps21]; exact Nat.le_add_left 2 _) ?_; rw [Tryd.ntmps21]
  refine qm ?_
  refine hk_region fun K hK => runs_eval tab_ok ?_
  simp only [ev0, evA, evB, evP, fl, gp, tab, simprocAttr, reduceCtorEq, reduceIte]
  refine fin_run trivial (hK _ ?_) <;> clear hK <;> clear K
  refine qa (qm (qm ?_))
  refine hk_region fun K hK => runs_eval tab_ok ?_
  simp only [ev0, evA, evB, evP, fl, gp, tab, simprocAttr, reduceCtorEq, reduceIte, ll_length, lln_length]
  refine fin_run trivial (hK _ ?_) <;> clear hK <;> clear K
  refine qa ?_
  refine hk_cond rfl (fun hC1 => ?_) (fun hC1 => ?_)
  · cases hC1
  · (try simp only [nhs] at hC1)
    refine qh (qa (qm (qm ?_)))
    refine hk_region fun K hK => runs_eval tab_ok ?_
    simp only [ev0, evA, evB, evP, fl, gp, tab, simprocAttr, reduceCtorEq, reduceIte]
    refine fin_run trivial (hK _ ?_) <;> clear hK <;> clear K
    refine qa (ql ?_)
    refine hk_loop (ι := Nat) (fun i => ⟨27, [(0, .p (.list (ll a))), (1, .p (.nn (lln a))), (5, .p (.int .i64 i))], []⟩) (fun i => i ≤ a.length) (fun i => a.length - i) 0 (Nat.zero_le _) [] (by simp only [leq, leA, ev0, evA, evB, evP, fl, gp, tab, simprocAttr, reduceCtorEq, reduceIte] <;> trivial) fun i hi => ?_
    refine qm (qm ?_)
    refine hk_region fun K hK => runs_eval tab_ok ?_
    simp only [ev0, evA, evB, evP, fl, gp, tab, simprocAttr, reduceCtorEq, reduceIte, ll_length]
    refine fin_run trivial (hK _ ?_) <;> clear hK <;> clear K
    refine qa ?_
    refine hk_cond rfl (fun hC2 => ?_) (fun hC2 => ?_)
    · (try simp only [nhs] at hC2)
      have hlt : i < a.length := by omega
      have hma : (a.getD i []).length ≤ 1000000 := hx _ (by simp [List.getD, List.getElem?_eq_getElem hlt])
      refine qh (qa (qm (ql (qm ?_))))
      refine hk_draw mixed (by kernel_rfl) fun K hK => runs_eval tab_ok ?_
      simp only [ev0, evA, evB, evP, fl, gp, tab, simprocAttr, reduceCtorEq, reduceIte, ll_length, lln_length, ll_get hlt, lln_get hlt, decide_eq_true (show a.getD i [] = a.getD i [] from rfl)]
      refine fin_stop ?_ (runs_call (FnC.sub (args' := [.list (il (a.getD i [])), .nn (il (a.getD i []))]) (ints_c (a.getD i []) (a.getD i []) (by omega)) (And.intro (.same _) (And.intro (.nn _) trivial))) rfl rfl rfl (by simp only [dstOk, Nat.reduceLT]) (by repeat (first | exact trivial | constructor)) (runs_eval tab_ok ?_))
      · (first | exact trivial | omega | (simp only [In64] at *; omega) | (simp [In64] at *; omega) | (simp_all; done) | skip)
      simp only [ev0, evA, evB, evP, fl, gp, tab, simprocAttr, reduceCtorEq, reduceIte, ll_length, lln_length, ll_get hlt, lln_get hlt, decide_eq_true (show a.getD i [] = a.getD i [] from rfl)]
      refine fin_run ?_ (hK _ ?_) <;> clear hK <;> clear K
      · (first | exact trivial | omega | (simp only [In64] at *; omega) | (simp [In64] at *; omega) | (simp_all; done) | skip)
      refine qa ?_
      refine hk_cond rfl (fun hC3 => ?_) (fun hC3 => ?_)
      · cases hC3
      · (try simp only [nhs] at hC3)
        refine qh (qd (qa ?_))
        refine hk_region fun K hK => runs_eval tab_ok ?_
        simp only [ev0, evA, evB, evP, fl, gp, tab, simprocAttr, reduceCtorEq, reduceIte]
        refine fin_run ?_ (hK _ ?_) <;> clear hK <;> clear K
        · (first | exact trivial | omega | (simp only [In64] at *; omega) | (simp [In64] at *; omega) | (simp_all; done) | skip)
        refine qa ?_
        refine ⟨i + 1, [], by omega, by omega, ?_⟩
        simp only [leq, leA, ev0, evA, evB, evP, fl, gp, tab, simprocAttr, reduceCtorEq, reduceIte, ll_takeL, ll_snoc, ll_takeS] <;> first | trivial | omega
    · (try simp only [nhs] at hC2)
      refine qj (qc (qc (qf (qa (qm ?_)))))
      refine hk_region fun K hK => runs_eval tab_ok ?_
      simp only [ev0, evA, evB, evP, fl, gp, tab, simprocAttr, reduceCtorEq, reduceIte]
      refine fin_run trivial (hK _ ?_) <;> clear hK <;> clear K
      refine qa (qk ?_)
      simp only [Tryd.results21, enA, ev0, evA, evB, evP, fl, gp, tab, simprocAttr, reduceCtorEq, reduceIte]
      all_goals (rfl)

theorem listsAs_c (l : List (List Int)) (w : Int × Int) (F : FuncId) (caps : List PV) (hl : l.length ≤ 1000000) (hx : ∀ x ∈ l, x.length ≤ 1000000) (h0 : ¬ w.1 = 0 → l = []) (h1 : w.1 = 0 → FnC Tryd.prog F caps (.list (ll l))) : FnC Tryd.prog 35 [.list (ll l), fl w, fl w, .fn F caps] (.bool true) := by
  refine fnc_of tab_ok Tryd.func35 rfl (by kernel_rfl) (by rw [Tryd.ntmps35]; exact Nat.le_add_left 4 _) ?_; rw [Tryd.ntmps35]
  refine qm ?_
  refine hk_region fun K hK => runs_eval tab_ok ?_
  simp only [ev0, evA, evB, evP, fl, gp, tab, simprocAttr, reduceCtorEq, reduceIte]
  refine fin_run ?_ (hK _ ?_) <;> clear hK <;> clear K
  · (first | exact trivial | omega | (simp only [In64] at *; omega) | (simp [In64] at *; omega) | (simp_all; done) | skip)
  refine qa (qm (qm ?_))
  refine hk_region fun K hK => runs_eval tab_ok ?_
  simp only [ev0, evA, evB, evP, fl, gp, tab, simprocAttr, reduceCtorEq, reduceIte]
  refine fin_run ?_ (hK _ ?_) <;> clear hK <;> clear K
  · (first | exact trivial | omega | (simp only [In64] at *; omega) | (simp [In64] at *; omega) | (simp_all; done) | skip)
  refine qa ?_
  refine hk_cond rfl (fun hC1 => ?_) (fun hC1 => ?_)
  · cases hC1
  · (try simp only [nhs] at hC1)
    refine qh (qa (qm (qm ?_)))
    refine hk_region fun K hK => runs_eval tab_ok ?_
    simp only [ev0, evA, evB, evP, fl, gp, tab, simprocAttr, reduceCtorEq, reduceIte]
    refine fin_run ?_ (hK _ ?_) <;> clear hK <;> clear K
    · (first | exact trivial | omega | (simp only [In64] at *; omega) | (simp [In64] at *; omega) | (simp_all; done) | skip)
    refine qa ?_
    refine hk_cond rfl (fun hC2 => ?_) (fun hC2 => ?_)
    · (try simp only [nhs] at hC2)
      refine qm ?_
      refine hk_region fun K hK => runs_eval tab_ok ?_
      simp only [ev0, evA, evB, evP, fl, gp, tab, simprocAttr, reduceCtorEq, reduceIte, ll_length]
      refine fin_run trivial (hK _ ?_) <;> clear hK <;> clear K
      refine qa (qk (qb ?_))
      simp only [Tryd.results35, enA, ev0, evA, evB, evP, fl, gp, tab, simprocAttr, reduceCtorEq, reduceIte]
      all_goals (simp [h0 hC2])
    · (try simp only [nhs] at hC2)
      refine qh (qa (qm ?_))
      refine hk_region fun K hK => runs_eval tab_ok ?_
      simp only [ev0, evA, evB, evP, fl, gp, tab, simprocAttr, reduceCtorEq, reduceIte]
      refine fin_stop trivial (runs_call (h1 hC2) rfl rfl rfl (by simp only [dstOk, Nat.reduceLT]) (by repeat (first | exact trivial | constructor)) (runs_eval tab_ok ?_))
      simp only [ev0, evA, evB, evP, fl, gp, tab, simprocAttr, reduceCtorEq, reduceIte]
      refine fin_stop trivial (runs_call (lists_r l l hl hx) rfl rfl rfl (by simp only [dstOk, Nat.reduceLT]) (by repeat (first | exact trivial | constructor)) (runs_eval tab_ok ?_))
      simp only [ev0, evA, evB, evP, fl, gp, tab, simprocAttr, reduceCtorEq, reduceIte]
      refine fin_run trivial (hK _ ?_) <;> clear hK <;> clear K
      refine qa (qk ?_)
      simp only [Tryd.results35, enA, ev0, evA, evB, evP, fl, gp, tab, simprocAttr, reduceCtorEq, reduceIte]
      all_goals (simp)

/-! ### Classes of conjugate things -/

theorem bo_or (n : Nat) (p q : Nat → Bool) : bo n p ||| bo n q = bo n fun a => p a || q a := by
  refine Nat.eq_of_testBit_eq fun i => ?_
  rw [Nat.testBit_or, bo_bit, bo_bit, bo_bit]
  cases decide (i < n) <;> simp
theorem bo_upd {n : Nat} {p : Nat → Bool} {c : Nat} (hc : c < n) : bo n p ||| 2 ^ c = bo n (upd p c) := by
  refine Nat.eq_of_testBit_eq fun i => ?_
  rw [or_bit, bo_bit, bo_bit]
  unfold upd
  by_cases hi : i = c
  · subst hi; simp [hc]
  · have h1 : decide (c = i) = false := by simp; omega
    have h2 : decide (i = c) = false := by simpa using hi
    rw [h1, h2]; simp

/-- What is in a class of an earlier thing. -/
def hadp (r : Nat → Nat → Bool) (x y : Nat) : Bool := decide (∃ z, z < x ∧ r z y = true)
/-- What is x, conjugated by an earlier thing. -/
def sp (n : Nat) (f : Nat → Nat → Nat) (e x a y : Nat) : Bool := decide (∃ b, b < a ∧ cjr n f e x b = y)
theorem sp_succ (n : Nat) (f : Nat → Nat → Nat) (e x a : Nat) : sp n f e x (a + 1) = upd (sp n f e x a) (cjr n f e x a) := by
  funext y
  unfold sp upd
  rw [← Bool.decide_or]
  refine decide_eq_decide.2 ⟨?_, ?_⟩
  · rintro ⟨b, hb, rfl⟩
    by_cases h : b = a
    · subst h; exact .inr rfl
    · exact .inl ⟨b, by omega, rfl⟩
  · rintro (⟨b, hb, rfl⟩ | rfl)
    · exact ⟨b, by omega, rfl⟩
    · exact ⟨a, by omega, rfl⟩
theorem bo_zero (n : Nat) : bo n (fun _ => false) = 0 := by
  refine Nat.eq_of_testBit_eq fun i => ?_
  rw [bo_bit]; simp

theorem sq8_e : GT (8 : Nat) sq8 8 0 := by
  obtain ⟨e, h⟩ := sq8_gt
  have h1 := h.eI
  have h2 : eI sq8 8 = 0 := by decide +kernel
  have : e = 0 := by omega
  subst this
  exact h

end Go.Proofs.YtjikchbmkodgfaaDoor

/-
  Classes: where things stand; powers of classes; pairs that commute. Conditions: none.
-/
set_option linter.all false
namespace Go.Proofs.YtjikchbmkodgfaaDoor
open Go.Pv

theorem cst_row {n : Nat} {r : Nat → Nat → Bool} : ∀ w ∈ cst n r, w.length ≤ n := fun w hw => by
  unfold cst cstp at hw
  obtain ⟨x, _, rfl⟩ := List.mem_map.1 hw
  exact thl_le _ _
theorem cst_len (n : Nat) (r : Nat → Nat → Bool) : (cst n r).length = (mem n (lead r)).length := by
  unfold cst cstp mem
  rw [List.length_map]

/-- The place of the first list that has a thing; -1: none has. -/
def wch (l : List (List Int)) (x : Int) : Int := match fst' (fun i => decide (x ∈ l.getD i [])) l.length with | some i => (i : Int) | none => -1

/-- A row by a rule. -/
def rgz (n : Nat) (g : Nat → Int) : List Int := (List.range n).map g
theorem rgz_len (n : Nat) (g : Nat → Int) : (rgz n g).length = n := by simp [rgz]
theorem rgz_get {n : Nat} {g : Nat → Int} {a : Nat} (ha : a < n) : (rgz n g).getD a 0 = g a := by
  simp [rgz, List.getD, List.getElem?_map, List.getElem?_range ha]
theorem rgz_congr {n : Nat} {g g' : Nat → Int} (h : ∀ a, a < n → g a = g' a) : rgz n g = rgz n g' := List.map_congr_left fun a ha => h a (List.mem_range.1 ha)
theorem rgz_set (n : Nat) (g : Nat → Int) (c : Nat) (x : Int) : (rgz n g).set c x = rgz n fun a => if a = c then x else g a := by
  refine List.ext_getElem (by simp [rgz]) fun i h1 h2 => ?_
  rw [List.getElem_set]
  by_cases e : c = i
  · subst e; simp [rgz]
  · rw [if_neg e]
    simp [rgz, Ne.symm e]
theorem rgz_new (n : Nat) : List.replicate n (AV.p (.int .i64 0)) = ol (rgz n fun _ => 0) := by
  refine List.ext_getElem (by simp [ol, il, rgz]) fun i h1 h2 => ?_
  simp [ol, il, rgz]

/-- Where each thing's class stands. -/
def whl (n : Nat) (r : Nat → Nat → Bool) : List Int := rgz n fun a => wch (cst n r) a

theorem cst_apart {n : Nat} {r : Nat → Nat → Bool} (h : Eqv n r) {i j a : Nat} (hi : i < (cst n r).length) (hj : j < (cst n r).length) (ha : a < n) (h1 : ((a : Nat) : Int) ∈ (cst n r).getD i []) (h2 : ((a : Nat) : Int) ∈ (cst n r).getD j []) : i = j := by
  obtain ⟨x, x1, x2, x3, x4⟩ := cst_get hi
  obtain ⟨y, y1, y2, y3, y4⟩ := cst_get hj
  rw [x3, mem_thl_n ha] at h1
  rw [y3, mem_thl_n ha] at h2
  have hxy : x = y := h.lead_eq x1 y1 x2 y2 (h.trans x a y x1 ha y1 h1 (h.symm y a y1 ha h2))
  subst hxy
  have hn : (mem n (lead r)).Nodup := List.nodup_range.filter _
  have hl := cst_len n r
  exact at_inj hn (by omega) (by omega) (x4.trans y4.symm)
theorem cst_in {n : Nat} {r : Nat → Nat → Bool} (h : Eqv n r) {a : Nat} (ha : a < n) : ∃ i, i < (cst n r).length ∧ ((a : Nat) : Int) ∈ (cst n r).getD i [] := by
  obtain ⟨x, x1, x2, x3⟩ := h.least ha
  obtain ⟨i, hi, e⟩ := List.getElem_of_mem (mem_mem.2 ⟨x1, x2⟩ : x ∈ mem n (lead r))
  have hl := cst_len n r
  refine ⟨i, by omega, ?_⟩
  obtain ⟨y, y1, y2, y3, y4⟩ := cst_get (n := n) (r := r) (i := i) (by omega)
  rw [y3, mem_thl_n ha]
  have : y = x := by rw [← y4]; simp [List.getD, List.getElem?_eq_getElem hi, e]
  rw [this]; exact x3
theorem wch_at {n : Nat} {r : Nat → Nat → Bool} (h : Eqv n r) {i a : Nat} (hi : i < (cst n r).length) (ha : a < n) (h1 : ((a : Nat) : Int) ∈ (cst n r).getD i []) : wch (cst n r) a = (i : Int) := by
  have e : fst' (fun k => decide (((a : Nat) : Int) ∈ (cst n r).getD k [])) (cst n r).length = some i := fst_some hi (decide_eq_true h1) fun j hj => decide_eq_false fun h2 => by
    have := cst_apart h hi (by omega) ha h1 h2
    omega
  simp only [wch, e]

end Go.Proofs.YtjikchbmkodgfaaDoor

/-
  Cosets: right, left and double, of the program and of the document. Conditions: none.
-/
set_option linter.all false
namespace Go.Proofs.YtjikchbmkodgfaaDoor
open Go.Pv

/-! ### Gathered -/

/-! ### Products of a set, a thing and a set -/

def pdr (f : Nat → Nat → Nat) (x a : Nat) (lm : List Int) : List Int := lm.map fun y => ((f (f x a) y.toNat : Nat) : Int)
def pdl (f : Nat → Nat → Nat) (a : Nat) (l lm : List Int) : List Int := l.flatMap fun x => pdr f x.toNat a lm
theorem pdl_succ (f : Nat → Nat → Nat) (a : Nat) {l : List Int} (lm : List Int) {i : Nat} (hi : i < l.length) : pdl f a (l.take (i + 1)) lm = pdl f a (l.take i) lm ++ pdr f (l.getD i 0).toNat a lm := by
  unfold pdl
  rw [List.take_succ_eq_append_getElem hi, List.flatMap_append]
  congr 1
  have : l[i] = l.getD i 0 := by simp [List.getD, List.getElem?_eq_getElem hi]
  rw [this]; simp
theorem pdr_succ (f : Nat → Nat → Nat) (x a : Nat) {lm : List Int} {j : Nat} (hj : j < lm.length) : pdr f x a (lm.take (j + 1)) = pdr f x a (lm.take j) ++ [((f (f x a) (lm.getD j 0).toNat : Nat) : Int)] := by
  unfold pdr
  rw [List.take_succ_eq_append_getElem hj, List.map_append]
  have : lm[j] = lm.getD j 0 := by simp [List.getD, List.getElem?_eq_getElem hj]
  rw [this]; rfl
theorem mem_pdl {n a : Nat} {f : Nat → Nat → Nat} {p q : Nat → Bool} {z : Int} : z ∈ pdl f a (thl n p) (thl n q) ↔ ∃ x y, x < n ∧ y < n ∧ p x = true ∧ q y = true ∧ z = ((f (f x a) y : Nat) : Int) := by
  unfold pdl pdr
  rw [List.mem_flatMap]
  constructor
  · rintro ⟨u, hu, hz⟩
    obtain ⟨v, hv, rfl⟩ := List.mem_map.1 hz
    obtain ⟨x, x1, x2, rfl⟩ := mem_thl.1 hu
    obtain ⟨y, y1, y2, rfl⟩ := mem_thl.1 hv
    exact ⟨x, y, x1, y1, x2, y2, by simp⟩
  · rintro ⟨x, y, x1, y1, x2, y2, rfl⟩
    exact ⟨_, (mem_thl_n x1).2 x2, List.mem_map.2 ⟨_, (mem_thl_n y1).2 y2, by simp⟩⟩
theorem msk_pdl {n e a : Nat} {f : Nat → Nat → Nat} (G : Grp n f e) (p q : Nat → Bool) (ha : a < n) : msk (pdl f a (thl n p) (thl n q)) = bo n (dco n f p q a) := by
  refine Nat.eq_of_testBit_eq fun i => ?_
  rw [msk_bit, bo_bit, Bool.eq_iff_iff, decide_eq_true_eq, Bool.and_eq_true, decide_eq_true_eq, dco_iff]
  constructor
  · rintro ⟨z, hz, rfl⟩
    obtain ⟨x, y, x1, y1, x2, y2, rfl⟩ := mem_pdl.1 hz
    exact ⟨by simpa using G.cl _ _ (G.cl _ _ x1 ha) y1, x, y, x1, y1, x2, y2, by simp⟩
  · rintro ⟨_, x, y, x1, y1, x2, y2, rfl⟩
    exact ⟨_, mem_pdl.2 ⟨x, y, x1, y1, x2, y2, rfl⟩, by simp⟩

/-! ### As the document has them -/

/-! ### An example of the document -/

def cy4 : List Int := [0, 1, 2, 3, 1, 2, 3, 0, 2, 3, 0, 1, 3, 0, 1, 2]
theorem cy4_gt : GT (4 : Nat) cy4 4 0 := by
  have hg : (gf 4 cy4).1 = 0 := by decide +kernel
  obtain ⟨n, e, h, _⟩ := gf_ok hg
  obtain rfl : n = 4 := by have := h.1; omega
  have h1 := h.eI
  have h2 : eI cy4 4 = 0 := by decide +kernel
  have : e = 0 := by omega
  subst this
  exact h
def ev4 (x : Nat) : Bool := x == 0 || x == 2
theorem ev4_thl : thl 4 ev4 = [0, 2] := by decide +kernel
theorem ev4_sub : Sub 4 (op cy4 4) 0 ev4 := by
  refine sub_of cy4_gt.2.2 (by decide) fun a b ha hb h1 h2 => ?_
  have key : ∀ a, a < 4 → ∀ b, b < 4 → ev4 a = true → ev4 b = true → ev4 (op cy4 4 a b) = true := by decide +kernel
  exact key a ha b hb h1 h2
end Go.Proofs.YtjikchbmkodgfaaDoor

/-
  The quotient of a group by a congruence; by a normal subgroup. Conditions: none.
-/
set_option linter.all false
namespace Go.Proofs.YtjikchbmkodgfaaDoor
open Go.Pv

/-- Places for classes: of each thing its place; of each place a thing. -/
structure Qm (n : Nat) (f : Nat → Nat → Nat) (k : Nat) (cl rep : Nat → Nat) : Prop where
  lt : ∀ a, a < n → cl a < k
  rlt : ∀ i, i < k → rep i < n
  at_ : ∀ i, i < k → cl (rep i) = i
  cong : ∀ a b c d, a < n → b < n → c < n → d < n → cl a = cl b → cl c = cl d → cl (f a c) = cl (f b d)

section
variable {n : Nat} {f : Nat → Nat → Nat} {e : Nat} {p : Nat → Bool}
def qop (f : Nat → Nat → Nat) (cl rep : Nat → Nat) (i j : Nat) : Nat := cl (f (rep i) (rep j))
theorem Qm.op {k : Nat} {cl rep : Nat → Nat} (Q : Qm n f k cl rep) {a b : Nat} (ha : a < n) (hb : b < n) : qop f cl rep (cl a) (cl b) = cl (f a b) :=
  Q.cong _ _ _ _ (Q.rlt _ (Q.lt a ha)) ha (Q.rlt _ (Q.lt b hb)) hb (Q.at_ _ (Q.lt a ha)) (Q.at_ _ (Q.lt b hb))
theorem Qm.grp {k : Nat} {cl rep : Nat → Nat} (Q : Qm n f k cl rep) (G : Grp n f e) : Grp k (qop f cl rep) (cl e) where
  pos := Nat.lt_of_le_of_lt (Nat.zero_le _) (Q.lt e G.el)
  cl i j hi hj := Q.lt _ (G.cl _ _ (Q.rlt i hi) (Q.rlt j hj))
  el := Q.lt e G.el
  one_l i hi := by
    have h1 := Q.rlt i hi
    have h2 := Q.op G.el h1
    rw [Q.at_ i hi, G.one_l _ h1, Q.at_ i hi] at h2; exact h2
  one_r i hi := by
    have h1 := Q.rlt i hi
    have h2 := Q.op h1 G.el
    rw [Q.at_ i hi, G.one_r _ h1, Q.at_ i hi] at h2; exact h2
  assoc i j l hi hj hl := by
    have h1 := Q.rlt i hi
    have h2 := Q.rlt j hj
    have h3 := Q.rlt l hl
    have e1 := Q.op (G.cl _ _ h1 h2) h3
    have e2 := Q.op h1 (G.cl _ _ h2 h3)
    rw [Q.at_ l hl] at e1
    rw [Q.at_ i hi] at e2
    have e3 : qop f cl rep i j = cl (f (rep i) (rep j)) := rfl
    have e4 : qop f cl rep j l = cl (f (rep j) (rep l)) := rfl
    rw [e3, e4, e1, e2, G.assoc _ _ _ h1 h2 h3]
  inv i hi := by
    have h1 := Q.rlt i hi
    have h2 := G.iv_lt h1
    have e1 := Q.op h1 h2
    have e2 := Q.op h2 h1
    rw [Q.at_ i hi] at e1 e2
    exact ⟨_, Q.lt _ h2, by rw [e1, G.mul_iv h1], by rw [e2, G.iv_mul h1]⟩

/-- Of a normal subgroup: alike things have alike products. -/
theorem Grp.rco_cong (G : Grp n f e) (hp : Sub n f e p) (hn : Nml n f e p) {a b c d : Nat} (ha : a < n) (hb : b < n) (hc : c < n) (hd : d < n) (h1 : dco n f p (onp e) a b = true) (h2 : dco n f p (onp e) c d = true) : dco n f p (onp e) (f a c) (f b d) = true := by
  have ia := G.iv_lt ha
  have ic := G.iv_lt hc
  have h3 := G.cl _ _ hb ia
  have h4 := G.cl _ _ hd ic
  rw [G.rco_iff ha hb] at h1
  rw [G.rco_iff hc hd] at h2
  rw [G.rco_iff (G.cl _ _ ha hc) (G.cl _ _ hb hd), G.iv_prod ha hc]
  -- b d c' a' = (b a') (a (d c') a')
  have h5 := hn _ ia _ h4 h2
  unfold cjr at h5
  rw [G.iv_iv ha] at h5
  have h6 := hp.mul _ _ h3 (G.cl _ _ (G.cl _ _ ha h4) ia) h1 h5
  have e1 : f (f b (iv n f e a)) (f (f a (f d (iv n f e c))) (iv n f e a)) = f (f b d) (f (iv n f e c) (iv n f e a)) := by
    rw [G.assoc b _ _ hb ia (G.cl _ _ (G.cl _ _ ha h4) ia), G.assoc a _ _ ha h4 ia, ← G.assoc _ a _ ia ha (G.cl _ _ h4 ia), G.iv_mul ha, G.one_l _ (G.cl _ _ h4 ia), G.assoc d _ _ hd ic ia, ← G.assoc b d _ hb hd (G.cl _ _ ic ia)]
  rw [← e1]; exact h6
end
end Go.Proofs.YtjikchbmkodgfaaDoor

/-
  Quotients, of the program and of the document. Conditions: none.
-/
set_option linter.all false
namespace Go.Proofs.YtjikchbmkodgfaaDoor
open Go.Pv

/-- The fault of a subgroup that is, or is not, normal. -/
def nfb (b : Bool) : Int × Int := bif b then (0, 0) else (4, 0)
theorem nfb_t : nfb true = (0, 0) := rfl
theorem nfb_f : nfb false = (4, 0) := rfl
theorem ufb_f : ufb false = (7, 0) := rfl
theorem ufb_t : ufb true = (0, 0) := rfl
theorem normalFault_w (N : Int) (m l : List Int) (w : Int × Int) (hG : FnC Tryd.prog 82 [gp N m, .list (il l)] (fl w)) (hw : ¬ w.1 = 0) : FnC Tryd.prog 33 [gp N m, .list (il l)] (fl w) := by
  refine fnc_of tab_ok Tryd.func33 rfl (by kernel_rfl) (by rw [Tryd.ntmps33]; exact Nat.le_add_left 2 _) ?_; rw [Tryd.ntmps33]
  refine qm ?_
  refine hk_region fun K hK => runs_eval tab_ok ?_
  simp only [ev0, evA, evB, evP, fl, gp, tab, simprocAttr, reduceCtorEq, reduceIte]
  refine fin_run ?_ (hK _ ?_) <;> clear hK <;> clear K
  · (first | exact trivial | omega | (simp only [In64] at *; omega) | (simp [In64] at *; omega) | (simp_all; done) | skip)
  refine qa (qm ?_)
  refine hk_region fun K hK => runs_eval tab_ok ?_
  simp only [ev0, evA, evB, evP, fl, gp, tab, simprocAttr, reduceCtorEq, reduceIte]
  refine fin_stop trivial (runs_call (hG) rfl rfl rfl (by simp only [dstOk, Nat.reduceLT]) (by repeat (first | exact trivial | constructor)) (runs_eval tab_ok ?_))
  simp only [ev0, evA, evB, evP, fl, gp, tab, simprocAttr, reduceCtorEq, reduceIte]
  refine fin_run ?_ (hK _ ?_) <;> clear hK <;> clear K
  · (first | exact trivial | omega | (simp only [In64] at *; omega) | (simp [In64] at *; omega) | (simp_all; done) | skip)
  refine qa (qm (qm ?_))
  refine hk_region fun K hK => runs_eval tab_ok ?_
  simp only [ev0, evA, evB, evP, fl, gp, tab, simprocAttr, reduceCtorEq, reduceIte, decide_eq_false hw]
  refine fin_run ?_ (hK _ ?_) <;> clear hK <;> clear K
  · (first | exact trivial | omega | (simp only [In64] at *; omega) | (simp [In64] at *; omega) | (simp_all; done) | skip)
  refine qa ?_
  refine hk_cond rfl (fun hC1 => ?_) (fun hC1 => ?_)
  · cases hC1
  · refine qh (qa (qm ?_))
    refine hk_region fun K hK => runs_eval tab_ok ?_
    simp only [ev0, evA, evB, evP, fl, gp, tab, simprocAttr, reduceCtorEq, reduceIte]
    refine fin_run ?_ (hK _ ?_) <;> clear hK <;> clear K
    · (first | exact trivial | omega | (simp only [In64] at *; omega) | (simp [In64] at *; omega) | (simp_all; done) | skip)
    refine qa (qk ?_)
    simp only [Tryd.results33, enA, ev0, evA, evB, evP, fl, gp, tab, simprocAttr, reduceCtorEq, reduceIte]
    all_goals (rfl)
theorem normalFault_ok {n e : Nat} {m : List Int} (h : GT n m n e) (p : Nat → Bool) (hs : Sub n (op m n) e p) (b : Bool) (hb' : b = true ↔ Nml n (op m n) e p) : FnC Tryd.prog 33 [gp n m, .list (il (thl n p))] (fl (nfb b)) := by
  refine fnc_of tab_ok Tryd.func33 rfl (by kernel_rfl) (by rw [Tryd.ntmps33]; exact Nat.le_add_left 2 _) ?_; rw [Tryd.ntmps33]
  refine qm ?_
  refine hk_region fun K hK => runs_eval tab_ok ?_
  simp only [ev0, evA, evB, evP, fl, gp, tab, simprocAttr, reduceCtorEq, reduceIte]
  refine fin_run ?_ (hK _ ?_) <;> clear hK <;> clear K
  · (first | exact trivial | omega | (simp only [In64] at *; omega) | (simp [In64] at *; omega) | (simp_all; done) | skip)
  refine qa (qm ?_)
  refine hk_region fun K hK => runs_eval tab_ok ?_
  simp only [ev0, evA, evB, evP, fl, gp, tab, simprocAttr, reduceCtorEq, reduceIte, ufb_t]
  refine fin_stop trivial (runs_call (subFault_ok h p true (by simp [hs])) rfl rfl rfl (by simp only [dstOk, Nat.reduceLT]) (by repeat (first | exact trivial | constructor)) (runs_eval tab_ok ?_))
  simp only [ev0, evA, evB, evP, fl, gp, tab, simprocAttr, reduceCtorEq, reduceIte, ufb_t]
  refine fin_run ?_ (hK _ ?_) <;> clear hK <;> clear K
  · (first | exact trivial | omega | (simp only [In64] at *; omega) | (simp [In64] at *; omega) | (simp_all; done) | skip)
  refine qa (qm (qm ?_))
  refine hk_region fun K hK => runs_eval tab_ok ?_
  simp only [ev0, evA, evB, evP, fl, gp, tab, simprocAttr, reduceCtorEq, reduceIte]
  refine fin_stop trivial (runs_call (isNormal_r h p b hb') rfl rfl rfl (by simp only [dstOk, Nat.reduceLT]) (by repeat (first | exact trivial | constructor)) (runs_eval tab_ok ?_))
  simp only [ev0, evA, evB, evP, fl, gp, tab, simprocAttr, reduceCtorEq, reduceIte]
  refine fin_run ?_ (hK _ ?_) <;> clear hK <;> clear K
  · (first | exact trivial | omega | (simp only [In64] at *; omega) | (simp [In64] at *; omega) | (simp_all; done) | skip)
  refine qa ?_
  refine hk_cond rfl (fun hC1 => ?_) (fun hC1 => ?_)
  · (try simp only [nhs] at hC1)
    have hbf : b = false := by simpa using hC1
    refine hk_region fun K hK => runs_eval tab_ok ?_
    simp only [ev0, evA, evB, evP, fl, gp, tab, simprocAttr, reduceCtorEq, reduceIte]
    refine fin_stop trivial (runs_call (f_c 4 0) rfl rfl rfl (by simp only [dstOk, Nat.reduceLT]) (by repeat (first | exact trivial | constructor)) (runs_eval tab_ok ?_))
    simp only [ev0, evA, evB, evP, fl, gp, tab, simprocAttr, reduceCtorEq, reduceIte]
    refine fin_run ?_ (hK _ ?_) <;> clear hK <;> clear K
    · (first | exact trivial | omega | (simp only [In64] at *; omega) | (simp [In64] at *; omega) | (simp_all; done) | skip)
    refine qa (qm ?_)
    refine hk_region fun K hK => runs_eval tab_ok ?_
    simp only [ev0, evA, evB, evP, fl, gp, tab, simprocAttr, reduceCtorEq, reduceIte]
    refine fin_run ?_ (hK _ ?_) <;> clear hK <;> clear K
    · (first | exact trivial | omega | (simp only [In64] at *; omega) | (simp [In64] at *; omega) | (simp_all; done) | skip)
    refine qa (qk ?_)
    simp only [Tryd.results33, enA, ev0, evA, evB, evP, fl, gp, tab, simprocAttr, reduceCtorEq, reduceIte]
    all_goals (rw [hbf]; exact ⟨rfl, rfl⟩)
  · (try simp only [nhs] at hC1)
    have hbt : b = true := by simpa using hC1
    refine qh (qa (qm ?_))
    refine hk_region fun K hK => runs_eval tab_ok ?_
    simp only [ev0, evA, evB, evP, fl, gp, tab, simprocAttr, reduceCtorEq, reduceIte]
    refine fin_run ?_ (hK _ ?_) <;> clear hK <;> clear K
    · (first | exact trivial | omega | (simp only [In64] at *; omega) | (simp [In64] at *; omega) | (simp_all; done) | skip)
    refine qa (qk ?_)
    simp only [Tryd.results33, enA, ev0, evA, evB, evP, fl, gp, tab, simprocAttr, reduceCtorEq, reduceIte]
    all_goals (rw [hbt]; exact ⟨rfl, rfl⟩)

/-! ### Places of classes -/

def rpq (n : Nat) (r : Nat → Nat → Bool) (i : Nat) : Nat := (mem n (lead r)).getD i 0
def clq (n : Nat) (r : Nat → Nat → Bool) (a : Nat) : Nat := (wch (cst n r) a).toNat
section
variable {n : Nat} {r : Nat → Nat → Bool}
theorem clq_at (E : Eqv n r) {a : Nat} (ha : a < n) : clq n r a < (cst n r).length ∧ wch (cst n r) a = (clq n r a : Int) ∧ ((a : Nat) : Int) ∈ (cst n r).getD (clq n r a) [] := by
  obtain ⟨i, i1, i2⟩ := cst_in E ha
  have h1 := wch_at E i1 ha i2
  have h2 : clq n r a = i := by unfold clq; rw [h1]; rfl
  rw [h2]
  exact ⟨i1, h1, i2⟩
theorem clq_iff (E : Eqv n r) {a b : Nat} (ha : a < n) (hb : b < n) : clq n r a = clq n r b ↔ r a b = true := by
  obtain ⟨a1, a2, a3⟩ := clq_at E ha
  obtain ⟨b1, b2, b3⟩ := clq_at E hb
  obtain ⟨x, x1, x2, x3, x4⟩ := cst_get a1
  rw [x3, mem_thl_n ha] at a3
  constructor
  · intro he
    rw [← he, x3, mem_thl_n hb] at b3
    exact E.trans a x b ha x1 hb (E.symm x a x1 ha a3) b3
  · intro hr
    have : ((b : Nat) : Int) ∈ (cst n r).getD (clq n r a) [] := by rw [x3, mem_thl_n hb]; exact E.trans x a b x1 ha hb a3 hr
    exact cst_apart E a1 b1 hb this b3
theorem rpq_at (E : Eqv n r) {i : Nat} (hi : i < (cst n r).length) : rpq n r i < n ∧ clq n r (rpq n r i) = i ∧ (cst n r).getD i [] = thl n (r (rpq n r i)) ∧ lead r (rpq n r i) = true := by
  obtain ⟨x, x1, x2, x3, x4⟩ := cst_get hi
  have h1 : rpq n r i = x := x4
  rw [h1]
  have h2 : ((x : Nat) : Int) ∈ (cst n r).getD i [] := by rw [x3, mem_thl_n x1]; exact E.refl x x1
  have h3 := wch_at E hi x1 h2
  exact ⟨x1, by unfold clq; rw [h3]; rfl, x3, x2⟩
theorem whl_get (E : Eqv n r) {a : Nat} (ha : a < n) : (whl n r).getD a 0 = (clq n r a : Int) := by
  unfold whl; rw [rgz_get ha]; exact (clq_at E ha).2.1
theorem whl_len (n : Nat) (r : Nat → Nat → Bool) : (whl n r).length = n := rgz_len _ _
theorem cst_qm {f : Nat → Nat → Nat} {e : Nat} (G : Grp n f e) (E : Eqv n r) (hc : ∀ a b c d, a < n → b < n → c < n → d < n → r a b = true → r c d = true → r (f a c) (f b d) = true) : Qm n f (cst n r).length (clq n r) (rpq n r) where
  lt a ha := (clq_at E ha).1
  rlt i hi := (rpq_at E hi).1
  at_ i hi := (rpq_at E hi).2.1
  cong a b c d ha hb hc' hd h1 h2 := (clq_iff E (G.cl _ _ ha hc') (G.cl _ _ hb hd)).2 (hc a b c d ha hb hc' hd ((clq_iff E ha hb).1 h1) ((clq_iff E hc' hd).1 h2))
end
/-- The quotient's table. -/
def qtb (n : Nat) (f : Nat → Nat → Nat) (r : Nat → Nat → Bool) : List Int := tbl (fun i j => ((qop f (clq n r) (rpq n r) i j : Nat) : Int)) (cst n r).length

end Go.Proofs.YtjikchbmkodgfaaDoor

/-
  Parts of a group as groups; what a group does with cosets: by maps. Conditions: none.
-/
set_option linter.all false
namespace Go.Proofs.YtjikchbmkodgfaaDoor
open Go.Pv

/-! ### Parts -/

/-- Where a thing stands among those of which something is so. -/
def pix (p : Nat → Bool) (x : Nat) : Nat := (thl x p).length
theorem thl_split (n x : Nat) (p : Nat → Bool) (hx : x < n) (hp : p x = true) : ∃ r, thl n p = thl x p ++ (x : Int) :: r := by
  induction n with
  | zero => omega
  | succ n ih =>
    rw [thl_succ]
    by_cases h : x = n
    · subst h
      rw [if_pos hp]; exact ⟨[], rfl⟩
    · obtain ⟨r, hr⟩ := ih (by omega)
      rw [hr]
      exact ⟨r ++ (if p n = true then [(n : Int)] else []), by simp⟩
theorem pix_at {n x : Nat} {p : Nat → Bool} (hx : x < n) (hp : p x = true) : pix p x < (thl n p).length ∧ (thl n p).getD (pix p x) 0 = (x : Int) := by
  obtain ⟨r, hr⟩ := thl_split n x p hx hp
  unfold pix
  rw [hr]
  constructor
  · simp
  · simp [List.getD]
theorem pix_get {n i x : Nat} {p : Nat → Bool} (hi : i < (thl n p).length) (hx : x < n) (hp : p x = true) (h : (thl n p).getD i 0 = (x : Int)) : pix p x = i := by
  obtain ⟨h1, h2⟩ := pix_at hx hp
  rcases Nat.lt_trichotomy (pix p x) i with h3 | h3 | h3
  · have := thl_get_asc h3 hi; omega
  · exact h3
  · have := thl_get_asc h3 h1; omega
def lat (n : Nat) (p : Nat → Bool) (i : Nat) : Nat := ((thl n p).getD i 0).toNat
theorem lat_at {n i : Nat} {p : Nat → Bool} (hi : i < (thl n p).length) : lat n p i < n ∧ p (lat n p i) = true ∧ (thl n p).getD i 0 = (lat n p i : Int) ∧ pix p (lat n p i) = i := by
  obtain ⟨x, x1, x2, x3⟩ := thl_get hi
  have : lat n p i = x := by unfold lat; rw [x3]; rfl
  rw [this]
  exact ⟨x1, x2, x3, pix_get hi x1 x2 x3⟩
/-- The part's operation, by places. -/
def pop (n : Nat) (f : Nat → Nat → Nat) (p : Nat → Bool) (i j : Nat) : Nat := pix p (f (lat n p i) (lat n p j))
def ptb (n : Nat) (f : Nat → Nat → Nat) (p : Nat → Bool) : List Int := tbl (fun i j => ((pop n f p i j : Nat) : Int)) (thl n p).length
theorem pop_at {n e : Nat} {f : Nat → Nat → Nat} {p : Nat → Bool} (G : Grp n f e) (hs : Sub n f e p) {i j : Nat} (hi : i < (thl n p).length) (hj : j < (thl n p).length) : pop n f p i j < (thl n p).length ∧ lat n p (pop n f p i j) = f (lat n p i) (lat n p j) := by
  obtain ⟨x1, x2, _, _⟩ := lat_at hi
  obtain ⟨y1, y2, _, _⟩ := lat_at hj
  obtain ⟨h1, h2⟩ := pix_at (G.cl _ _ x1 y1) (hs.mul _ _ x1 y1 x2 y2)
  exact ⟨h1, by unfold pop lat at *; rw [h2]; rfl⟩
/-- A part is a group. -/
theorem ptb_grp {n e : Nat} {f : Nat → Nat → Nat} {p : Nat → Bool} (G : Grp n f e) (hs : Sub n f e p) : Grp (thl n p).length (pop n f p) (pix p e) := by
  have le := pix_at G.el hs.one
  have hat : ∀ {i}, i < (thl n p).length → pix p (lat n p i) = i := fun hi => (lat_at hi).2.2.2
  have hle : lat n p (pix p e) = e := by unfold lat; rw [le.2]; rfl
  refine ⟨by omega, fun i j hi hj => (pop_at G hs hi hj).1, le.1, fun i hi => ?_, fun i hi => ?_, fun i j k hi hj hk => ?_, fun i hi => ?_⟩
  · unfold pop; rw [hle, G.one_l _ (lat_at hi).1, hat hi]
  · unfold pop; rw [hle, G.one_r _ (lat_at hi).1, hat hi]
  · have h1 := pop_at G hs hi hj
    have h2 := pop_at G hs hj hk
    show pix p (f (lat n p (pop n f p i j)) (lat n p k)) = pix p (f (lat n p i) (lat n p (pop n f p j k)))
    rw [h1.2, h2.2, G.assoc _ _ _ (lat_at hi).1 (lat_at hj).1 (lat_at hk).1]
  · obtain ⟨x1, x2, _, _⟩ := lat_at hi
    have h1 := pix_at (G.iv_lt x1) (hs.inv _ x1 x2)
    have h2 : lat n p (pix p (iv n f e (lat n p i))) = iv n f e (lat n p i) := by
      show ((thl n p).getD (pix p (iv n f e (lat n p i))) 0).toNat = _
      rw [h1.2]; rfl
    refine ⟨_, h1.1, ?_, ?_⟩
    · show pix p (f (lat n p i) (lat n p (pix p (iv n f e (lat n p i))))) = _
      rw [h2, G.mul_iv x1]
    · show pix p (f (lat n p (pix p (iv n f e (lat n p i)))) (lat n p i)) = _
      rw [h2, G.iv_mul x1]

/-! ### Maps by lists of keys -/
def mpd (l : List Int) : Int → Bool := fun u => decide (u ∈ l)
def mpv (l : List Int) (g : Int → PV) : Int → PV := fun u => bif decide (u ∈ l) then g u else default
theorem mpd_nil : (fun _ : Int => false) = mpd [] := funext fun u => by simp [mpd]
theorem mpv_nil (g : Int → PV) : (fun _ : Int => (default : PV)) = mpv [] g := funext fun u => by simp [mpv]
theorem mpd_set (l : List Int) (x : Int) : (fun u => decide (u = x) || mpd l u) = mpd (l ++ [x]) := funext fun u => by
  unfold mpd
  rw [Bool.eq_iff_iff]
  simp only [Bool.or_eq_true, decide_eq_true_eq, List.mem_append, List.mem_singleton]
  exact Or.comm
theorem mpv_set (l : List Int) (x : Int) (g : Int → PV) : (fun u => bif decide (u = x) then g x else mpv l g u) = mpv (l ++ [x]) g := funext fun u => by
  unfold mpv
  by_cases hu : u = x
  · subst hu; simp
  · simp [hu]
theorem mpd_in {l : List Int} {x : Int} (h : x ∈ l) : mpd l x = true := decide_eq_true h
theorem mpv_in {l : List Int} {x : Int} (g : Int → PV) (h : x ∈ l) : mpv l g x = g x := by
  unfold mpv
  rw [decide_eq_true h]; rfl
theorem take_snoc {l : List Int} {i : Nat} (h : i < l.length) : l.take (i + 1) = l.take i ++ [l.getD i 0] := by
  rw [List.take_succ_eq_append_getElem h]
  simp [List.getD, List.getElem?_eq_getElem h]
/-- Where a part's thing stands, as a value. -/
def pxv (p : Nat → Bool) (u : Int) : PV := .int .i64 (pix p u.toNat)

theorem part_w (N : Int) (m l : List Int) (w : Int × Int) (hG : FnC Tryd.prog 95 [gp N m, .list (il l)] (fl w)) (hw : ¬ w.1 = 0) : FnC Tryd.prog 57 [gp N m, .list (il l)] (.tup [gp 0 [], fl w]) := by
  refine fnc_of tab_ok Tryd.func57 rfl (by kernel_rfl) (by rw [Tryd.ntmps57]; exact Nat.le_add_left 2 _) ?_; rw [Tryd.ntmps57]
  refine qm ?_
  refine hk_region fun K hK => runs_eval tab_ok ?_
  simp only [ev0, evA, evB, evP, fl, gp, tab, simprocAttr, reduceCtorEq, reduceIte]
  refine fin_run ?_ (hK _ ?_) <;> clear hK <;> clear K
  · (first | exact trivial | omega | (simp only [In64] at *; omega) | (simp [In64] at *; omega) | (simp_all; done) | skip)
  refine qa (qm (qm ?_))
  refine hk_region fun K hK => runs_eval tab_ok ?_
  simp only [ev0, evA, evB, evP, fl, gp, tab, simprocAttr, reduceCtorEq, reduceIte]
  refine fin_stop trivial (runs_call (hG) rfl rfl rfl (by simp only [dstOk, Nat.reduceLT]) (by repeat (first | exact trivial | constructor)) (runs_eval tab_ok ?_))
  simp only [ev0, evA, evB, evP, fl, gp, tab, simprocAttr, reduceCtorEq, reduceIte]
  refine fin_run ?_ (hK _ ?_) <;> clear hK <;> clear K
  · (first | exact trivial | omega | (simp only [In64] at *; omega) | (simp [In64] at *; omega) | (simp_all; done) | skip)
  refine qa (qm ?_)
  refine hk_region fun K hK => runs_eval tab_ok ?_
  simp only [ev0, evA, evB, evP, fl, gp, tab, simprocAttr, reduceCtorEq, reduceIte]
  refine fin_run ?_ (hK _ ?_) <;> clear hK <;> clear K
  · (first | exact trivial | omega | (simp only [In64] at *; omega) | (simp [In64] at *; omega) | (simp_all; done) | skip)
  refine qa ?_
  refine hk_cond rfl (fun hC1 => ?_) (fun hC1 => ?_)
  · (try simp only [nhs] at hC1)
    refine qm ?_
    refine hk_draw2 mixed fun K hK => runs2_eval tab_ok ?_
    simp only [evD, ev0, evA, evB, evP, fl, gp, tab, simprocAttr, reduceCtorEq, reduceIte]
    refine fin2_run ?_ (hK _ _ (by first | kernel_rfl | rfl) ?_) <;> clear hK <;> clear K
    · (first | exact trivial | omega | (simp only [In64] at *; omega) | (simp [In64] at *; omega) | (simp_all; done) | skip)
    refine qa (qk (qb ?_))
    simp only [Tryd.results57, enA, ev0, evA, evB, evP, fl, gp, tab, simprocAttr, reduceCtorEq, reduceIte]
    all_goals (simp [il])
  · (try simp only [nhs] at hC1)
    exact absurd hC1 hw

set_option maxHeartbeats 4000000 in
theorem part_ok {n e : Nat} {m : List Int} (h : GT n m n e) (p : Nat → Bool) (hs : Sub n (op m n) e p) : FnC Tryd.prog 57 [gp n m, .list (il (thl n p))] (.tup [gp (thl n p).length (ptb n (op m n) p), fl (0, 0)]) := by
  have G := h.2.2
  have hb := h.2.1.big
  have hlp := thl_le n p
  have hsq := sq_le (show (thl n p).length ≤ 60 by omega)
  have hlen := tbr_len (fun i j => ((pop n (op m n) p i j : Nat) : Int)) (thl n p).length
  refine fnc_of tab_ok Tryd.func57 rfl (by kernel_rfl) (by rw [Tryd.ntmps57]; exact Nat.le_add_left 2 _) ?_; rw [Tryd.ntmps57]
  refine qm ?_
  refine hk_region fun K hK => runs_eval tab_ok ?_
  simp only [ev0, evA, evB, evP, fl, gp, tab, simprocAttr, reduceCtorEq, reduceIte]
  refine fin_run ?_ (hK _ ?_) <;> clear hK <;> clear K
  · (first | exact trivial | omega | (simp only [In64] at *; omega) | (simp [In64] at *; omega) | (simp_all; done) | skip)
  refine qa (qm (qm ?_))
  refine hk_region fun K hK => runs_eval tab_ok ?_
  simp only [ev0, evA, evB, evP, fl, gp, tab, simprocAttr, reduceCtorEq, reduceIte]
  refine fin_stop trivial (runs_call (group_ok h p true (by simp [hs])) rfl rfl rfl (by simp only [dstOk, Nat.reduceLT]) (by repeat (first | exact trivial | constructor)) (runs_eval tab_ok ?_))
  simp only [ev0, evA, evB, evP, fl, gp, tab, simprocAttr, reduceCtorEq, reduceIte, ufb]
  refine fin_run ?_ (hK _ ?_) <;> clear hK <;> clear K
  · (first | exact trivial | omega | (simp only [In64] at *; omega) | (simp [In64] at *; omega) | (simp_all; done) | skip)
  refine qa (qm ?_)
  refine hk_region fun K hK => runs_eval tab_ok ?_
  simp only [ev0, evA, evB, evP, fl, gp, tab, simprocAttr, reduceCtorEq, reduceIte]
  refine fin_run ?_ (hK _ ?_) <;> clear hK <;> clear K
  · (first | exact trivial | omega | (simp only [In64] at *; omega) | (simp [In64] at *; omega) | (simp_all; done) | skip)
  refine qa ?_
  refine hk_cond rfl (fun hC1 => ?_) (fun hC1 => ?_)
  · cases hC1
  · (try simp only [nhs] at hC1)
    refine qh (qa (qm ?_))
    refine hk_region fun K hK => runs_eval tab_ok ?_
    simp only [ev0, evA, evB, evP, fl, gp, tab, simprocAttr, reduceCtorEq, reduceIte]
    refine fin_run ?_ (hK _ ?_) <;> clear hK <;> clear K
    · (first | exact trivial | omega | (simp only [In64] at *; omega) | (simp [In64] at *; omega) | (simp_all; done) | skip)
    refine qa (qm (qm ?_))
    refine hk_region fun K hK => runs_eval tab_ok ?_
    simp only [ev0, evA, evB, evP, fl, gp, tab, simprocAttr, reduceCtorEq, reduceIte, il_length]
    refine fin_run trivial (hK _ ?_) <;> clear hK <;> clear K
    refine qa (ql ?_)
    refine hk_loop (ι := Nat) (fun i => ⟨65, [(1, .p (.list (il (thl n p)))), (2, .ptr 0 0), (4, .ptr 1 0), (5, .ptr 2 0), (7, .mptr 3), (24, .p (.list (il (thl n p)))), (25, .p (.int .i64 (thl n p).length)), (26, .p (.int .i64 i))], [.own [.p (.int .i64 n), .p (.list (il m))], .own [.p (.int .i64 0), .p .nil], .own [.p (.int .i64 0), .p (.int .i64 0)], .mp .i64 (mpd ((thl n p).take i)) (mpv ((thl n p).take i) (pxv p))]⟩) (fun i => i ≤ (thl n p).length) (fun i => (thl n p).length - i) 0 (Nat.zero_le _) [0, 1, 2, 4] (by simp only [leq, leA, ev0, evA, evB, evP, fl, gp, tab, simprocAttr, reduceCtorEq, reduceIte] <;> first | trivial | (rw [mpd_nil, mpv_nil]; rfl)) fun i hi => ?_
    refine qm ?_
    refine hk_region fun K hK => runs_eval tab_ok ?_
    simp only [ev0, evA, evB, evP, fl, gp, tab, simprocAttr, reduceCtorEq, reduceIte]
    refine fin_run trivial (hK _ ?_) <;> clear hK <;> clear K
    refine qa (qm ?_)
    refine hk_cond rfl (fun hC2 => ?_) (fun hC2 => ?_)
    · (try simp only [nhs] at hC2)
      have hlt : i < (thl n p).length := by omega
      obtain ⟨x1, x2, x3, x4⟩ := lat_at hlt
      refine qh (qa (qm (ql (qm ?_))))
      refine hk_region fun K hK => runs_eval tab_ok ?_
      simp only [ev0, evA, evB, evP, fl, gp, tab, simprocAttr, reduceCtorEq, reduceIte, il_get hlt, x3]
      refine fin_run ?_ (hK _ ?_) <;> clear hK <;> clear K
      · (first | exact trivial | omega | (simp only [In64] at *; omega) | (simp [In64] at *; omega) | (simp_all; done) | skip)
      refine qa ?_
      refine hk_region fun K hK => runs_eval tab_ok ?_
      simp only [ev0, evA, evB, evP, fl, gp, tab, simprocAttr, reduceCtorEq, reduceIte]
      refine fin_run ?_ (hK _ ?_) <;> clear hK <;> clear K
      · (first | exact trivial | omega | (simp only [In64] at *; omega) | (simp [In64] at *; omega) | (simp_all; done) | skip)
      refine qd (qa ?_)
      refine hk_region fun K hK => runs_eval tab_ok ?_
      simp only [ev0, evA, evB, evP, fl, gp, tab, simprocAttr, reduceCtorEq, reduceIte]
      refine fin_run ?_ (hK _ ?_) <;> clear hK <;> clear K
      · (first | exact trivial | omega | (simp only [In64] at *; omega) | (simp [In64] at *; omega) | (simp_all; done) | skip)
      refine qa ?_
      refine ⟨i + 1, [0, 1, 2, 3], by omega, by omega, ?_⟩
      have hd := mpd_set ((thl n p).take i) (lat n p i : Int)
      have hv := mpv_set ((thl n p).take i) (lat n p i : Int) (pxv p)
      have hx : pxv p (lat n p i : Int) = .int .i64 (i : Int) := by unfold pxv; rw [Int.toNat_natCast, x4]
      rw [hx] at hv
      rw [take_snoc hlt, x3]
      simp only [leq, leA, ev0, evA, evB, evP, fl, gp, tab, simprocAttr, reduceCtorEq, reduceIte] <;> first | trivial | omega | (rw [hd, hv])
    · (try simp only [nhs] at hC2)
      have hin : i = (thl n p).length := by omega
      rw [hin, List.take_length]
      refine qj (qc (qc (qf (qa (qm ?_)))))
      refine hk_region fun K hK => runs_eval tab_ok ?_
      simp only [ev0, evA, evB, evP, fl, gp, tab, simprocAttr, reduceCtorEq, reduceIte, il_length]
      refine fin_run ?_ (hK _ ?_) <;> clear hK <;> clear K
      · (first | exact trivial | omega | (simp only [In64] at *; omega) | (simp [In64] at *; omega) | (simp_all; done) | skip)
      refine qa (qm (qm ?_))
      refine hk_own0c 4 1 rfl rfl ?_
      simp only [hset, List.cons_append, List.nil_append, List.set, List.length_cons, List.length_nil]
      refine hk_region fun K hK => runs_eval tab_ok ?_
      simp only [ev0, evA, evB, evP, fl, gp, tab, simprocAttr, reduceCtorEq, reduceIte, il_length]
      refine fin_run trivial (hK _ ?_) <;> clear hK <;> clear K
      refine qa (ql ?_)
      refine hk_loop (ι := Nat) (fun i => ⟨65, [(1, .p (.list (il (thl n p)))), (2, .ptr 0 0), (4, .ptr 1 0), (5, .ptr 2 0), (7, .mptr 3), (10, .ptr 4 0), (38, .p (.list (il (thl n p)))), (39, .p (.int .i64 (thl n p).length)), (40, .p (.int .i64 i))], [.own [.p (.int .i64 n), .p (.list (il m))], .own [.p (.int .i64 0), .p .nil], .own [.p (.int .i64 0), .p (.int .i64 0)], .mp .i64 (mpd (thl n p)) (mpv (thl n p) (pxv p)), .own [.p (.int .i64 (thl n p).length), .sl 5 0 (tbr (fun i j => ((pop n (op m n) p i j : Nat) : Int)) (thl n p).length (i * (thl n p).length)).length], .own (ol (tbr (fun i j => ((pop n (op m n) p i j : Nat) : Int)) (thl n p).length (i * (thl n p).length)))]⟩) (fun i => i ≤ (thl n p).length) (fun i => (thl n p).length - i) 0 (Nat.zero_le _) [0, 1, 2, 3, 4, 5] (by rw [Nat.zero_mul]; simp only [leq, leA, ev0, evA, evB, evP, fl, gp, tab, simprocAttr, reduceCtorEq, reduceIte] <;> first | trivial | simp [tbr, rg, ol_nil]) fun i hi => ?_
      refine qm ?_
      refine hk_region fun K hK => runs_eval tab_ok ?_
      simp only [ev0, evA, evB, evP, fl, gp, tab, simprocAttr, reduceCtorEq, reduceIte]
      refine fin_run trivial (hK _ ?_) <;> clear hK <;> clear K
      refine qa (qm ?_)
      refine hk_cond rfl (fun hC3 => ?_) (fun hC3 => ?_)
      · (try simp only [nhs] at hC3)
        have hlt : i < (thl n p).length := by omega
        obtain ⟨x1, x2, x3, x4⟩ := lat_at hlt
        refine qh (qa (qm (ql (qm ?_))))
        refine hk_region fun K hK => runs_eval tab_ok ?_
        simp only [ev0, evA, evB, evP, fl, gp, tab, simprocAttr, reduceCtorEq, reduceIte, il_get hlt, x3]
        refine fin_run ?_ (hK _ ?_) <;> clear hK <;> clear K
        · (first | exact trivial | omega | (simp only [In64] at *; omega) | (simp [In64] at *; omega) | (simp_all; done) | skip)
        refine qa (qm ?_)
        refine hk_region fun K hK => runs_eval tab_ok ?_
        simp only [ev0, evA, evB, evP, fl, gp, tab, simprocAttr, reduceCtorEq, reduceIte, il_length]
        refine fin_run trivial (hK _ ?_) <;> clear hK <;> clear K
        refine qa (ql ?_)
        refine hk_loop (ι := Nat) (fun j => ⟨65, [(1, .p (.list (il (thl n p)))), (2, .ptr 0 0), (4, .ptr 1 0), (5, .ptr 2 0), (7, .mptr 3), (10, .ptr 4 0), (12, .p (.int .i64 (lat n p i : Nat))), (38, .p (.list (il (thl n p)))), (39, .p (.int .i64 (thl n p).length)), (40, .p (.int .i64 i)), (44, .p (.list (il (thl n p)))), (45, .p (.int .i64 (thl n p).length)), (46, .p (.int .i64 j))], [.own [.p (.int .i64 n), .p (.list (il m))], .own [.p (.int .i64 0), .p .nil], .own [.p (.int .i64 0), .p (.int .i64 0)], .mp .i64 (mpd (thl n p)) (mpv (thl n p) (pxv p)), .own [.p (.int .i64 (thl n p).length), .sl 5 0 (tbr (fun i j => ((pop n (op m n) p i j : Nat) : Int)) (thl n p).length (i * (thl n p).length + j)).length], .own (ol (tbr (fun i j => ((pop n (op m n) p i j : Nat) : Int)) (thl n p).length (i * (thl n p).length + j)))]⟩) (fun j => j ≤ (thl n p).length) (fun j => (thl n p).length - j) 0 (Nat.zero_le _) [0, 1, 2, 3, 4, 5] (by rw [Nat.add_zero]; simp only [leq, leA, ev0, evA, evB, evP, fl, gp, tab, simprocAttr, reduceCtorEq, reduceIte] <;> trivial) fun j hj => ?_
        refine qm ?_
        refine hk_region fun K hK => runs_eval tab_ok ?_
        simp only [ev0, evA, evB, evP, fl, gp, tab, simprocAttr, reduceCtorEq, reduceIte]
        refine fin_run trivial (hK _ ?_) <;> clear hK <;> clear K
        refine qa (qm ?_)
        refine hk_cond rfl (fun hC4 => ?_) (fun hC4 => ?_)
        · (try simp only [nhs] at hC4)
          have hjl : j < (thl n p).length := by omega
          obtain ⟨y1, y2, y3, y4⟩ := lat_at hjl
          have hxy := G.cl _ _ x1 y1
          have hmem := (mem_thl_n hxy).2 (hs.mul _ _ x1 y1 x2 y2)
          have hin := mpd_in hmem
          have hvv := mpv_in (pxv p) hmem
          have hpx : pxv p ((op m n (lat n p i) (lat n p j) : Nat) : Int) = .int .i64 ((pop n (op m n) p i j : Nat) : Int) := by unfold pxv; rw [Int.toNat_natCast]; rfl
          have hat := at_lt hlt hjl
          have hl := hlen (i * (thl n p).length + j)
          refine qh (qa (qm (ql (qm ?_))))
          refine hk_region fun K hK => runs_eval tab_ok ?_
          simp only [ev0, evA, evB, evP, fl, gp, tab, simprocAttr, reduceCtorEq, reduceIte, il_get hjl, y3]
          refine fin_run ?_ (hK _ ?_) <;> clear hK <;> clear K
          · (first | exact trivial | omega | (simp only [In64] at *; omega) | (simp [In64] at *; omega) | (simp_all; done) | skip)
          refine qa ?_
          refine hk_draw2 mixed fun K hK => runs2_eval tab_ok ?_
          simp only [evD, ev0, evA, evB, evP, fl, gp, tab, simprocAttr, reduceCtorEq, reduceIte]
          refine fin2_stop trivial (runs2_call (of_c h.2.1 x1 y1) rfl rfl rfl rfl (by simp only [dstOk, Nat.reduceLT]) (by repeat (first | exact trivial | constructor)) (runs2_eval tab_ok ?_))
          simp only [evD, ev0, evA, evB, evP, fl, gp, tab, simprocAttr, reduceCtorEq, reduceIte, hin, cond_true, hvv, hpx]
          refine fin2_run ?_ (hK _ _ (by first | kernel_rfl | rfl) ?_) <;> clear hK <;> clear K
          · (first | exact trivial | omega | (simp only [In64] at *; omega) | (simp [In64] at *; omega) | (simp_all; done) | skip)
          refine qd (qa ?_)
          refine hk_region fun K hK => runs_eval tab_ok ?_
          simp only [ev0, evA, evB, evP, fl, gp, tab, simprocAttr, reduceCtorEq, reduceIte]
          refine fin_run ?_ (hK _ ?_) <;> clear hK <;> clear K
          · (first | exact trivial | omega | (simp only [In64] at *; omega) | (simp [In64] at *; omega) | (simp_all; done) | skip)
          refine qa ?_
          refine ⟨j + 1, [0, 1, 2, 3, 4, 6], by omega, by omega, ?_⟩
          rw [tbr_succ (fun i j => ((pop n (op m n) p i j : Nat) : Int)) hjl]
          simp only [leq, leA, ev0, evA, evB, evP, fl, gp, tab, simprocAttr, reduceCtorEq, reduceIte] <;> first | trivial | omega
        · (try simp only [nhs] at hC4)
          have hjn : j = (thl n p).length := by omega
          refine qj (qc (qc (qf (qd (qa ?_)))))
          refine hk_region fun K hK => runs_eval tab_ok ?_
          simp only [ev0, evA, evB, evP, fl, gp, tab, simprocAttr, reduceCtorEq, reduceIte]
          refine fin_run ?_ (hK _ ?_) <;> clear hK <;> clear K
          · (first | exact trivial | omega | (simp only [In64] at *; omega) | (simp [In64] at *; omega) | (simp_all; done) | skip)
          refine qa ?_
          refine ⟨i + 1, [0, 1, 2, 3, 4, 5], by omega, by omega, ?_⟩
          rw [hjn, show (i + 1) * (thl n p).length = i * (thl n p).length + (thl n p).length by rw [Nat.add_mul, Nat.one_mul]]
          simp only [leq, leA, ev0, evA, evB, evP, fl, gp, tab, simprocAttr, reduceCtorEq, reduceIte] <;> first | trivial | omega
      · (try simp only [nhs] at hC3)
        have hin : i = (thl n p).length := by omega
        refine qj (qc (qc (qf (qa (qm ?_)))))
        refine hk_region fun K hK => runs_eval tab_ok ?_
        simp only [ev0, evA, evB, evP, fl, gp, tab, simprocAttr, reduceCtorEq, reduceIte]
        refine fin_run ?_ (hK _ ?_) <;> clear hK <;> clear K
        · (first | exact trivial | omega | (simp only [In64] at *; omega) | (simp [In64] at *; omega) | (simp_all; done) | skip)
        refine qa (qk ?_)
        simp only [Tryd.results57, enA, ev0, evA, evB, evP, fl, gp, tab, simprocAttr, reduceCtorEq, reduceIte]
        all_goals (simp [hin, tbl, ptb])
end Go.Proofs.YtjikchbmkodgfaaDoor

/-
  Calls that write what is the caller's own: contracts over blocks. Conditions: none; a library text.
-/
set_option linter.all false
namespace Go.Pv
open Go.RowKit

def ancs : Nat → Nat → Heap
  | _, 0 => []
  | k, n + 1 => .anc k k :: ancs (k + 1) n

theorem ancs_get : ∀ (n k j : Nat) (b : Blk), (ancs k n)[j]? = some b → j < n ∧ b = .anc (k + j) (k + j)
  | 0, k, j, b, h => by simp [ancs] at h
  | n + 1, k, 0, b, h => by simp [ancs] at h; exact ⟨by omega, h.symm⟩
  | n + 1, k, j + 1, b, h => by
    have := ancs_get n (k + 1) j b (by simpa [ancs] using h)
    refine ⟨by omega, ?_⟩
    rw [this.2, show k + 1 + j = k + (j + 1) by omega]

theorem ancs_at : ∀ (n k j : Nat), j < n → (ancs k n)[j]? = some (.anc (k + j) (k + j))
  | n + 1, k, 0, _ => rfl
  | n + 1, k, j + 1, h => by
    rw [show ancs k (n + 1) = .anc k k :: ancs (k + 1) n from rfl, List.getElem?_cons_succ, ancs_at n (k + 1) j (by omega), show k + 1 + j = k + (j + 1) by omega]

theorem ancs_length : ∀ (n k : Nat), (ancs k n).length = n
  | 0, _ => rfl
  | n + 1, k => by simp [ancs, ancs_length n]

def entA : Nat → List AV → List (Nat × AV)
  | _, [] => []
  | k, a :: r => (k, a) :: entA (k + 1) r

theorem entA_lk : ∀ (l : List AV) (k t : Nat), lk (entA k l) t = if k ≤ t then l.getD (t - k) .dead else .dead
  | [], k, t => by simp [entA, lk]
  | a :: r, k, t => by
    simp only [entA, lk]
    by_cases h : k = t
    · subst h; simp
    · rw [show (k == t) = false by simpa using h]
      simp only [cond_false]
      rw [entA_lk r (k + 1) t]
      by_cases hk : k ≤ t
      · rw [if_pos (by omega), if_pos hk, show t - k = (t - (k + 1)) + 1 by omega]; rfl
      · rw [if_neg (by omega), if_neg hk]

theorem app_get {H X : Heap} {k : Nat} {b : Blk} (h : (H ++ X)[k]? = some b) : (k < H.length ∧ H[k]? = some b) ∨ X[k - H.length]? = some b := by
  by_cases hk : k < H.length
  · exact .inl ⟨hk, by rwa [List.getElem?_append_left hk] at h⟩
  · exact .inr (by rwa [List.getElem?_append_right (by omega)] at h)

section
variable {P : Program} {T : TypeId → Option TI} {C : Ctx} {m : Map} {s : St} {tmps : Array Value} {w : World}

theorem Rel.addAnc (R : Rel C m s tmps w) {n : Nat} (hn : n ≤ s.H.length) (ha : ∀ i, i < n → m i = C.anc i) : Rel C m { s with H := s.H ++ ancs 0 n } tmps w := by
  have gen : ∀ (k : Nat) (b : Blk), (∀ i j, b ≠ .anc i j) → (s.H ++ ancs 0 n)[k]? = some b → k < s.H.length ∧ s.H[k]? = some b := by
    intro k b hb h
    rcases app_get h with h | h
    · exact h
    · exact absurd (ancs_get _ _ _ _ h).2 (hb _ _)
  have own : ∀ (k : Nat) (c : List AV), (s.H ++ ancs 0 n)[k]? = some (.own c) → k < s.H.length ∧ s.H[k]? = some (.own c) := fun k c h => gen k _ (fun _ _ h => by cases h) h
  have mps : ∀ (k : Nat) (kk : IntKind) (d : Int → Bool) (v : Int → PV), (s.H ++ ancs 0 n)[k]? = some (Blk.mp kk d v) → k < s.H.length ∧ s.H[k]? = some (Blk.mp kk d v) := fun k _ _ _ h => gen k _ (fun _ _ h => by cases h) h
  have ho : ∀ b, OK C m s.H w b → OK C m (s.H ++ ancs 0 n) w b := fun b h => ⟨h.1, h.2.1, fun k c l hk hl => h.2.2 k c l (own k c hk).2 hl⟩
  have hlen : s.H.length ≤ (s.H ++ ancs 0 n).length := by simp
  have rd : ∀ p v, Reads (OK C m s.H w) w p v → Reads (OK C m (s.H ++ ancs 0 n) w) w p v := fun p v h => h.mono ho
  refine ⟨R.laid.ext rd, R.below, R.base, R.size, fun k k' c c' l l' h1 h2 => R.inj k k' c c' l l' (own k c h1).2 (own k' c' h2).2, fun k c h => (R.blk k c (own k c h).2).ext rd hlen (fun _ _ => rfl) rfl fun _ _ => rfl,
    fun k c h => (R.fro k c (gen k _ (fun _ _ h => by cases h) h).2).ext ho (fun _ _ => rfl) rfl, fun t => (R.slot t).ext rd hlen fun _ _ => rfl, fun k kk d v h => (R.mp.1 k kk d v (mps k kk d v h).2).ext ho (fun _ _ => rfl) rfl fun _ _ => rfl,
    fun k k' kk d v kk' d' v' l l' h1 h2 => R.mp.2.1 k k' kk d v kk' d' v' l l' (mps _ _ _ _ h1).2 (mps _ _ _ _ h2).2, fun k i j h => ?_⟩
  rcases app_get h with h | h
  · obtain ⟨a1, a2⟩ := R.mp.2.2 k i j h.2
    exact ⟨by simp; omega, a2⟩
  · obtain ⟨a1, a2⟩ := ancs_get _ _ _ _ h
    cases a2
    refine ⟨by simp; omega, ?_⟩
    rw [ha _ (by omega)]

/-! ### The contract -/

/-- A CONTRACT OVER BLOCKS: called with values that are so over such blocks of the caller's own, the function returns so, over those blocks as they are then, and new ones. -/
def FnM (P : Program) (f : FuncId) (args : List AV) (H0 : Heap) (r : AV) (H1 : Heap) : Prop :=
  Fun P f ∧ ∀ (C : Ctx) (m : Map) (w : World) (vals : Array Value), Rel C m ⟨args.length, entA 0 args, H0 ++ ancs 0 H0.length⟩ vals w →
    Calls P f vals w fun e w' => ∃ v m', e = .returned v ∧ Rel C m' ⟨1, [(0, r)], H1 ++ ancs 0 H0.length⟩ #[v] w'

theorem fnm_of (hT : ∀ t ti, T t = some ti → tiOf P t = some ti) {f : FuncId} {fn : Func} {c : Code} {args : List AV} {av : AV} {H0 H1 : Heap} (hf : P.funcs[f]? = some fn) (hb : fn.body = some c) (hnm : (fn.name == "runtime.NumGoroutine") = false) (hn : args.length ≤ fn.ntmps)
    (h : Holds P c (PostG T fn.results.toList av (H1 ++ ancs 0 H0.length)) ⟨fn.ntmps, entA 0 args, H0 ++ ancs 0 H0.length⟩) : FnM P f args H0 av H1 := by
  refine ⟨⟨fn, hf, hnm, by rw [hb]; rfl⟩, fun C m w vals R0 => calls_of_wp hf hb ?_⟩
  have hsz : vals.size = args.length := R0.size
  have R : Rel C m ⟨fn.ntmps, entA 0 args, H0 ++ ancs 0 H0.length⟩ (vals ++ Array.replicate (fn.ntmps - vals.size) undef) w := by
    refine ⟨R0.laid, R0.below, R0.base, by simp; omega, R0.inj, R0.blk, R0.fro, fun t => ?_, R0.mp⟩
    have hs := R0.slot t
    by_cases ht : t < vals.size
    · rw [Array.getD_eq_getD_getElem?, Array.getElem?_append_left ht, ← Array.getD_eq_getD_getElem?]
      exact hs
    · have e : lk (entA 0 args) t = .dead := by
        rw [entA_lk, if_pos (Nat.zero_le _), List.getD_eq_getElem?_getD, List.getElem?_eq_none (by omega)]; rfl
      unfold St.get
      simp only
      rw [e]
      exact .dead _
  refine wp_mono (h _ _ { tmps := vals ++ Array.replicate (fn.ntmps - vals.size) undef, defers := [] } w R rfl) fun e a' w' ⟨s', m', h1, h2, h3⟩ => ?_
  have fini : endG T fn.results.toList av (H1 ++ ancs 0 H0.length) s' → a'.defers = [] ∧ ∃ v, (results fn a'.tmps).run P w' = .ok v w' ∧ ∃ v_1 m'', Ending.returned v = .returned v_1 ∧ Rel C m'' ⟨1, [(0, av)], H1 ++ ancs 0 H0.length⟩ #[v_1] w' := by
    intro he
    unfold endG at he
    split at he
    · rename_i p l hl
      obtain ⟨hp, π, hav, hsc, hle⟩ := he
      obtain ⟨vs, e1, e2, e3⟩ := rvsA_run hT h2 fn.results.toList hl hp
      have hv := mkTup_val (w := w') e2 e3
      have R' := h2.weaken hle
      rw [hav] at hv
      have hlen : (H1 ++ ancs 0 H0.length).length = π.length := (hle.2.2.1.get).1.symm
      have ho := OK.weaken (C := C) (m := m') (w := w') hle.2.2.1
      have hv2 := hv.unren (fun p v h => h.mono ho) hlen hsc
      refine ⟨h3, (if h : vs.toArray.size = 1 then vs.toArray[0] else .tuple vs.toArray), ?_, _, _, rfl, R'.laid, R'.below, R'.base, rfl, R'.inj, R'.blk, R'.fro, fun t => ?_, R'.mp⟩
      · rw [results_eq, Array.mapM_eq_mapM_toList]
        simp only [Sem.run_bind, Sem.run_map]
        rw [e1]
        simp only [Result.andThen_ok]
        rfl
      · cases t with
        | zero => exact hv2
        | succ t => exact .dead _
    · exact he.elim
  cases e with
  | normal => exact fini h1
  | ret => exact fini h1
  | _ => exact h1.elim

/-! ### Who calls it -/

theorem AVal.sig {rd rd' : PV → Value → Prop} {m m2 : Map} {H H2 : Heap} {σ : List Nat} (h1 : ∀ p v, rd p v → rd' p v) (hs : ∀ k, k < σ.length → σ.getD k 0 < H2.length ∧ m2 (σ.getD k 0) = m k) {x : AV} {v : Value} (h : AVal rd m H x v)
    (hx : scA σ.length x = true) : AVal rd' m2 H2 (Go.Pv.ren σ x) v := by
  have one : ∀ {x : AV} {v : Value}, AVal rd m H x v → sc1 σ.length x = true → AVal rd' m2 H2 (ren1 σ x) v := by
    intro x v h hsc
    cases h with
    | dead v => exact .dead v
    | p pv v h => exact .p pv v (h1 _ _ h)
    | sl k lo len v hk h =>
      obtain ⟨g1, g2⟩ := hs k (by simpa [sc1] using hsc)
      refine .sl _ lo len v g1 ?_
      unfold SlOk at *
      rw [g2]; exact h
    | ptr k i v hk h =>
      obtain ⟨g1, g2⟩ := hs k (by simpa [sc1] using hsc)
      refine .ptr _ i v g1 ?_
      unfold PtrOk at *
      rw [g2]; exact h
    | agg l vs hl hr => simp [sc1] at hsc
    | tup l vs hl hr => simp [sc1] at hsc
    | cl f l vs hl hr => simp [sc1] at hsc
    | itv r => exact .itv r
    | mptr k v hk h =>
      obtain ⟨g1, g2⟩ := hs k (by simpa [sc1] using hsc)
      refine .mptr _ v g1 ?_
      unfold MptrOk at *
      rw [g2]; exact h
  cases x with
  | agg l =>
    cases h with
    | agg _ vs hl hr =>
      refine .agg _ vs (by simpa using hl) fun c hc => ?_
      rw [List.length_map] at hc
      rw [List.getElem_map]
      exact one (hr c hc) ((List.all_eq_true.1 hx) _ (List.getElem_mem hc))
  | tup l =>
    cases h with
    | tup _ vs hl hr =>
      refine .tup _ vs (by simpa using hl) fun c hc => ?_
      rw [List.length_map] at hc
      rw [List.getElem_map]
      exact one (hr c hc) ((List.all_eq_true.1 hx) _ (List.getElem_mem hc))
  | cl f l =>
    cases h with
    | cl _ _ vs hl hr =>
      refine .cl _ _ vs (by simpa using hl) fun c hc => ?_
      rw [List.length_map] at hc
      rw [List.getElem_map]
      exact one (hr c hc) ((List.all_eq_true.1 hx) _ (List.getElem_mem hc))
  | dead => exact one h hx
  | p pv => exact one h hx
  | sl k lo len => exact one h hx
  | ptr k i => exact one h hx
  | mptr k => exact one h hx
  | itv r => exact one h hx

/-- Blocks put back: those that were lent, in their places; new ones behind. -/
def putM : Heap → List Nat → Heap → Heap
  | H, [], bs => H ++ bs
  | H, _ :: _, [] => H
  | H, k :: ks, b :: bs => putM (hset H k b) ks bs

theorem putM_get : ∀ (ks : List Nat) (bs H : Heap) (k : Nat) (b : Blk), (∀ k ∈ ks, k < H.length) → ks.length ≤ bs.length → (putM H ks bs)[k]? = some b →
    (∃ j : Nat, bs[j]? = some b ∧ (ks ++ List.range' H.length (bs.length - ks.length))[j]? = some k) ∨ (k < H.length ∧ k ∉ ks ∧ H[k]? = some b)
  | [], bs, H, k, b, _, _, h => by
    simp only [putM] at h
    by_cases hk : k < H.length
    · exact .inr ⟨hk, by simp, by rwa [List.getElem?_append_left hk] at h⟩
    · rw [List.getElem?_append_right (by omega)] at h
      · refine .inl ⟨k - H.length, h, ?_⟩
        have := (List.getElem?_eq_some_iff.1 h).1
        simp only [List.nil_append, List.length_nil, Nat.sub_zero]
        rw [List.getElem?_range' this]
        simp; omega
  | k0 :: ks, [], H, k, b, _, hl, _ => by simp at hl
  | k0 :: ks, b0 :: bs, H, k, b, hk, hl, h => by
    simp only [putM] at h
    have h0 := hk k0 (by simp)
    rcases putM_get ks bs (hset H k0 b0) k b (fun k hk' => by rw [hset_length]; exact hk k (by simp [hk'])) (by simpa using hl) h with ⟨j, h1, h2⟩ | ⟨h1, h2, h3⟩
    · rw [hset_length] at h2
      exact .inl ⟨j + 1, by simpa using h1, by simpa using h2⟩
    · rw [hset_get] at h3
      rw [hset_length] at h1
      by_cases e : k = k0
      · subst e
        rw [if_pos ⟨rfl, h0⟩] at h3
        exact .inl ⟨0, by simpa using h3, by simp⟩
      · rw [if_neg (by simp [e])] at h3
        exact .inr ⟨h1, by simp [e, h2], h3⟩

theorem putM_length : ∀ (ks : List Nat) (bs H : Heap), ks.length ≤ bs.length → (putM H ks bs).length = H.length + (bs.length - ks.length)
  | [], bs, H, _ => by simp [putM]
  | k0 :: ks, [], H, hl => by simp at hl
  | k0 :: ks, b0 :: bs, H, hl => by
    simp only [putM]
    rw [putM_length ks bs _ (by simpa using hl), hset_length]; simp

/-- Maps stay maps. -/
def mpKeep : Heap → Heap → Bool
  | .mp _ _ _ :: r, .mp _ _ _ :: t => mpKeep r t
  | .mp _ _ _ :: _, _ => false
  | _ :: r, _ :: t => mpKeep r t
  | [], _ => true
  | _ :: _, [] => false

theorem mpKeep_get : ∀ {H0 H1 : Heap}, mpKeep H0 H1 = true → ∀ (j : Nat) (kk : IntKind) (d : Int → Bool) (v : Int → PV), H0[j]? = some (.mp kk d v) → ∃ kk' d' v', H1[j]? = some (.mp kk' d' v')
  | [], _, _, j, _, _, _, h => by simp at h
  | b :: r, [], hm, _, _, _, _, _ => by cases b <;> simp [mpKeep] at hm
  | b :: r, b' :: t, hm, 0, kk, d, v, h => by
    simp at h; subst h
    cases b' <;> simp [mpKeep] at hm
    exact ⟨_, _, _, rfl⟩
  | b :: r, b' :: t, hm, j + 1, kk, d, v, h => by
    have hm2 : mpKeep r t = true := by cases b <;> cases b' <;> simp [mpKeep] at hm <;> exact hm
    simpa using mpKeep_get hm2 j kk d v (by simpa using h)

def scM (av : AV) (H0 H1 : Heap) : Bool :=
  scA H1.length av && H1.all (fun | .own c => c.all (scA H1.length) | .anc _ _ => false | _ => true) && decide (H0.length ≤ H1.length) && mpKeep H0 H1 && H0.all notAnc

/-- The frame of who is called with blocks that are lent. -/
def subC (C : Ctx) (m : Map) (H : Heap) (ks : List Nat) (H0 : Heap) (w : World) : Ctx :=
  ⟨fun b => OK C m H w b, fun b => w.heap.size ≤ b ∨ ∃ (j : Nat) (b0 : Blk) (l : Loc), H0[j]? = some b0 ∧ b0.wr = true ∧ mren m ks j = some l ∧ l.g = b, w, mren m ks⟩

theorem Rel.wrLt (R : Rel C m s tmps w) {k : Nat} {b : Blk} (hb : s.H[k]? = some b) (hw : b.wr = true) {l : Loc} (hl : m k = some l) : C.B l.g ∧ l.g < w.heap.size := by
  cases b with
  | own c =>
    rcases R.blk k c hb with ⟨_, hn⟩ | ⟨l', cur, e, a1, a2, a3, _⟩
    · rw [hl] at hn; cases hn
    · rw [hl] at a1; cases a1
      exact ⟨a2, (Array.getElem?_eq_some_iff.1 a3).1⟩
  | mp kk d v =>
    obtain ⟨l', ar, clk, vs, a1, a2, a3, _⟩ := R.mp.1 k kk d v hb
    rw [hl] at a1; cases a1
    exact ⟨a2, (Array.getElem?_eq_some_iff.1 a3).1⟩
  | _ => cases hw

theorem Rel.inj2 (R : Rel C m s tmps w) {k k' : Nat} {b b' : Blk} (hb : s.H[k]? = some b) (hw : b.wr = true) (hb' : s.H[k']? = some b') (hw' : b'.wr = true) {l l' : Loc} (hl : m k = some l) (hl' : m k' = some l') (e : l.g = l'.g) : k = k' := by
  cases b with
  | own c =>
    cases b' with
    | own c' => exact R.inj k k' c c' l l' hb hb' hl hl' e
    | mp kk d v => exact absurd e ((R.mpOK hb' hl').2.2 k c l hb hl)
    | _ => cases hw'
  | mp kk d v =>
    cases b' with
    | own c' => exact absurd e.symm ((R.mpOK hb hl).2.2 k' c' l' hb' hl')
    | mp kk' d' v' => exact R.mp.2.1 _ _ _ _ _ _ _ _ _ _ hb hb' hl hl' e
    | _ => cases hw'
  | _ => cases hw

theorem LeH.wr {π : List Nat} {H H1 : Heap} (h3 : LeH π H π H1) {j : Nat} {b0 : Blk} (h : H1[j]? = some b0) (hw : b0.wr = true) : ∃ k' b, π[j]? = some k' ∧ H[k']? = some b ∧ b.wr = true ∧ ((∃ c, b0 = .own c) → ∃ c, b = .own c) ∧ ((∃ kk d v, b0 = .mp kk d v) → ∃ kk d v, b = .mp kk d v) := by
  obtain ⟨g1, g2⟩ := h3.get
  cases b0 with
  | own c =>
    obtain ⟨k', d, a1, a2, _⟩ := LeH.own g2 j c h
    exact ⟨k', _, a1, a2, rfl, (fun _ => ⟨_, rfl⟩), fun ⟨_, _, _, h⟩ => by cases h⟩
  | mp kk d v =>
    obtain ⟨k', a, b⟩ := g2 j _ h
    exact ⟨k', _, a, hget_some b (by simp), rfl, (fun ⟨_, h⟩ => by cases h), fun _ => ⟨_, _, _, rfl⟩⟩
  | _ => cases hw

theorem Rel.joinM (R : Rel C m s tmps w) {ks : List Nat} {H0 H1 : Heap} {r : AV} {w' : World} {v : Value} {m' : Map} (hle : LeH ks s.H ks H0) (hks : ∀ k ∈ ks, k < s.H.length) (R1 : Rel (subC C m s.H ks H0 w) m' ⟨1, [(0, r)], H1 ++ ancs 0 H0.length⟩ #[v] w') (hsc : scM r H0 H1 = true) :
    ∃ m2, Rel C m2 { s with H := putM s.H ks (H1.map (Blk.ren (ks ++ List.range' s.H.length (H1.length - ks.length)))) } tmps w' ∧
      AVal (Reads (OK C m2 (putM s.H ks (H1.map (Blk.ren (ks ++ List.range' s.H.length (H1.length - ks.length))))) w') w') m2 (putM s.H ks (H1.map (Blk.ren (ks ++ List.range' s.H.length (H1.length - ks.length))))) (Go.Pv.ren (ks ++ List.range' s.H.length (H1.length - ks.length)) r) v := by
  obtain ⟨g1, g2⟩ := hle.get
  unfold scM at hsc
  rw [Bool.and_eq_true, Bool.and_eq_true, Bool.and_eq_true, Bool.and_eq_true, decide_eq_true_eq] at hsc
  obtain ⟨⟨⟨⟨s1, s2⟩, s3⟩, s4⟩, s5⟩ := hsc
  have hn : ks.length ≤ H1.length := by omega
  generalize hσe : ks ++ List.range' s.H.length (H1.length - ks.length) = σ
  have hσlen : σ.length = H1.length := by rw [← hσe]; simp; omega
  generalize hH2 : putM s.H ks (H1.map (Blk.ren σ)) = H2
  have hlen2 : H2.length = s.H.length + (H1.length - ks.length) := by rw [← hH2, putM_length _ _ _ (by simpa using hn)]; simp
  -- where the callee's blocks lie
  have hm1 : ∀ j, j < H0.length → m' j = mren m ks j := fun j hj => by
    have h : (H1 ++ ancs 0 H0.length)[H1.length + j]? = some (.anc j j) := by
      rw [List.getElem?_append_right (by omega), Nat.add_sub_cancel_left, ancs_at _ _ _ hj, Nat.zero_add]
    exact (R1.mp.2.2 _ _ _ h).2
  obtain ⟨m2, hm2⟩ : ∃ m2 : Map, m2 = fun k => if k < s.H.length then m k else m' (ks.length + (k - s.H.length)) := ⟨_, rfl⟩
  have hmo : ∀ k, k < s.H.length → m2 k = m k := fun k h => by rw [hm2]; simp [h]
  have hσ : ∀ (j k : Nat), σ[j]? = some k → k < H2.length ∧ m2 k = m' j := by
    intro j k h
    rw [← hσe] at h
    by_cases hj : j < ks.length
    · rw [List.getElem?_append_left hj] at h
      have hk := hks k (List.mem_of_getElem? h)
      refine ⟨by omega, ?_⟩
      rw [hmo k hk, hm1 j (by omega)]
      simp only [mren, h, Option.bind_some]
    · rw [List.getElem?_append_right (by omega)] at h
      have hj2 : j - ks.length < H1.length - ks.length := by
        have := (List.getElem?_eq_some_iff.1 h).1
        simpa using this
      rw [List.getElem?_range' hj2] at h
      simp only [Option.some.injEq, Nat.one_mul] at h
      subst h
      refine ⟨by omega, ?_⟩
      rw [hm2]
      simp only
      rw [if_neg (by omega)]
      congr 1
      omega
  have hσ2 : ∀ k, k < σ.length → σ.getD k 0 < H2.length ∧ m2 (σ.getD k 0) = m' k := fun k hk => by
    have : σ[k]? = some (σ.getD k 0) := by simp [List.getD, List.getElem?_eq_getElem hk]
    exact hσ k _ this
  have hget : ∀ (k : Nat) (b : Blk), H2[k]? = some b → (∃ (j : Nat) (b' : Blk), H1[j]? = some b' ∧ b = b'.ren σ ∧ σ[j]? = some k) ∨ (k < s.H.length ∧ k ∉ ks ∧ s.H[k]? = some b) := by
    intro k b h
    rw [← hH2] at h
    rcases putM_get ks _ s.H k b hks (by simpa using hn) h with ⟨j, h1, h2⟩ | h
    · rw [List.length_map, hσe] at h2
      rw [List.getElem?_map] at h1
      cases e : H1[j]? with
      | none => rw [e] at h1; cases h1
      | some b' => rw [e] at h1; exact .inl ⟨j, b', e, (Option.some.inj h1).symm, h2⟩
    · exact .inr h
  have hHc : ∀ (j : Nat) (b : Blk), H1[j]? = some b → (H1 ++ ancs 0 H0.length)[j]? = some b := fun j b h => by
    rw [List.getElem?_append_left (List.getElem?_eq_some_iff.1 h).1]; exact h
  have hown : ∀ (k : Nat) (c : List AV), H2[k]? = some (.own c) → (∃ (j : Nat) (c' : List AV), H1[j]? = some (.own c') ∧ c = c'.map (Go.Pv.ren σ) ∧ σ[j]? = some k) ∨ (k < s.H.length ∧ k ∉ ks ∧ s.H[k]? = some (.own c)) := by
    intro k c h
    rcases hget k _ h with ⟨j, b', h1, h2, h3⟩ | h
    · cases b' with
      | own c' => simp only [Blk.ren, Blk.own.injEq] at h2; exact .inl ⟨j, c', h1, h2, h3⟩
      | _ => cases h2
    · exact .inr h
  have hmps : ∀ (k : Nat) (kk : IntKind) (d : Int → Bool) (vv : Int → PV), H2[k]? = some (.mp kk d vv) → (∃ j : Nat, H1[j]? = some (.mp kk d vv) ∧ σ[j]? = some k) ∨ (k < s.H.length ∧ k ∉ ks ∧ s.H[k]? = some (.mp kk d vv)) := by
    intro k kk d vv h
    rcases hget k _ h with ⟨j, b', h1, h2, h3⟩ | h
    · cases b' with
      | mp kk' d' v' => simp only [Blk.ren, Blk.mp.injEq] at h2; obtain ⟨rfl, rfl, rfl⟩ := h2; exact .inl ⟨j, h1, h3⟩
      | _ => cases h2
    · exact .inr h
  have hfro : ∀ (k : Nat) (c : List PV), H2[k]? = some (.fro c) → (∃ j : Nat, H1[j]? = some (.fro c) ∧ σ[j]? = some k) ∨ (k < s.H.length ∧ k ∉ ks ∧ s.H[k]? = some (.fro c)) := by
    intro k c h
    rcases hget k _ h with ⟨j, b', h1, h2, h3⟩ | h
    · cases b' with
      | fro c' => simp only [Blk.ren, Blk.fro.injEq] at h2; subst h2; exact .inl ⟨j, h1, h3⟩
      | _ => cases h2
    · exact .inr h
  have lent : ∀ (j : Nat) (b0 : Blk) (l : Loc), H0[j]? = some b0 → b0.wr = true → mren m ks j = some l → ∃ k' b, k' ∈ ks ∧ s.H[k']? = some b ∧ b.wr = true ∧ m k' = some l ∧ ((∃ c, b0 = .own c) → ∃ c, b = .own c) ∧ ((∃ kk d v, b0 = .mp kk d v) → ∃ kk d v, b = .mp kk d v) := by
    intro j b0 l h hw hl
    obtain ⟨k', b, a1, a2, a3, a4, a5⟩ := hle.wr h hw
    simp only [mren, a1, Option.bind_some] at hl
    exact ⟨k', b, List.mem_of_getElem? a1, a2, a3, hl, a4, a5⟩
  have hB1 : ∀ b, (subC C m s.H ks H0 w).B b → C.B b := by
    intro b hb
    rcases hb with hb | ⟨j, b0, l, h1, h2, h3, rfl⟩
    · exact R.base b hb
    · obtain ⟨k', b, _, a2, a3, a4, _⟩ := lent j b0 l h1 h2 h3
      exact (R.wrLt a2 a3 a4).1
  have hBx : ∀ (k : Nat) (b : Blk) (l : Loc), k ∉ ks → s.H[k]? = some b → b.wr = true → m k = some l → ¬ (subC C m s.H ks H0 w).B l.g := by
    intro k b l hk hb hw hl hB
    rcases hB with hB | ⟨j, b0, l0, h1, h2, h3, h4⟩
    · have := (R.wrLt hb hw hl).2
      omega
    · obtain ⟨k', b', a1, a2, a3, a4, _⟩ := lent j b0 l0 h1 h2 h3
      have := R.inj2 hb hw a2 a3 hl a4 h4.symm
      subst this
      exact hk a1
  have hcell : ∀ b o x, OK C m s.H w b → w.cell? ⟨b, o, none⟩ = some x → w'.cell? ⟨b, o, none⟩ = some x := by
    intro b o x hb hc
    by_cases hB : (subC C m s.H ks H0 w).B b
    · exfalso
      rcases hB with hB | ⟨j, b0, l0, h1, h2, h3, h4⟩
      · have := hb.2.1; omega
      · obtain ⟨k', b', a1, a2, a3, a4, _⟩ := lent j b0 l0 h1 h2 h3
        cases b' with
        | own c => exact hb.2.2 k' c l0 a2 a4 h4
        | mp kk d vv =>
          obtain ⟨l', ar, clk, vs, c1, c2, c3, _⟩ := R.mp.1 k' kk d vv a2
          rw [a4] at c1; cases c1
          rw [h4] at c3
          unfold World.cell? at hc
          simp only [c3] at hc
          first | cases hc | simp at hc
        | _ => cases a3
    · rw [World.cell?_of_block (w := w) (R1.below.block b hB)]; exact hc
  have hOK : ∀ b, OK (subC C m s.H ks H0 w) m' (H1 ++ ancs 0 H0.length) w' b → OK C m2 H2 w' b := by
    intro b hb
    refine ⟨?_, hb.2.1, fun k c l h hl => ?_⟩
    · rcases hb.1 with h | h
      · exact h.1
      · exact .inr (hB1 b h)
    · rcases hown k c h with ⟨j, c', h1, _, h3⟩ | ⟨h1, h2, h3⟩
      · rw [(hσ j k h3).2] at hl
        exact hb.2.2 j c' l (hHc _ _ h1) hl
      · rw [hmo k h1] at hl
        rcases hb.1 with h' | h'
        · exact h'.2.2 k c l h3 hl
        · intro e
          exact hBx k _ l h2 h3 rfl hl (by rw [e]; exact h')
  have ho1 : ∀ b, OK C m s.H w b → OK C m2 H2 w' b := by
    intro b hb
    refine ⟨hb.1, Nat.lt_of_lt_of_le hb.2.1 R1.below.size, fun k c l h hl e => ?_⟩
    rcases hown k c h with ⟨j, c', h1, _, h3⟩ | ⟨h1, h2, h3⟩
    · rw [(hσ j k h3).2] at hl
      rcases (R1.wrLt (hHc _ _ h1) rfl hl).1 with hB | ⟨j0, b0, l0, a1, a2, a3, a4⟩
      · have := hb.2.1; omega
      · obtain ⟨k', b', d1, d2, d3, d4, d5, d6⟩ := lent j0 b0 l0 a1 a2 a3
        cases b0 with
        | own c0 =>
          obtain ⟨c1, rfl⟩ := d5 ⟨_, rfl⟩
          exact hb.2.2 k' c1 l0 d2 d4 (by rw [a4, e])
        | mp kk d vv =>
          obtain ⟨kk', d', v', f1⟩ := mpKeep_get s4 j0 kk d vv a1
          have hj0 : j0 < H0.length := (List.getElem?_eq_some_iff.1 a1).1
          have f2 : m' j0 = some l0 := by rw [hm1 j0 hj0]; exact a3
          exact (R1.mpOK (hHc _ _ f1) f2).2.2 j c' l (hHc _ _ h1) hl a4.symm
        | _ => cases a2
    · rw [hmo k h1] at hl
      exact hb.2.2 k c l h3 hl e
  have rd1 : ∀ p x, Reads (OK C m s.H w) w p x → Reads (OK C m2 H2 w') w' p x := fun p x h => h.extc ho1 hcell
  have rd2 : ∀ p x, Reads (OK (subC C m s.H ks H0 w) m' (H1 ++ ancs 0 H0.length) w') w' p x → Reads (OK C m2 H2 w') w' p x := fun p x h => h.mono hOK
  have hlen3 : s.H.length ≤ H2.length := by omega
  have sall : ∀ (j : Nat) (b : Blk), H1[j]? = some b → (match b with | .own c => c.all (scA H1.length) | .anc _ _ => false | _ => true) = true := fun j b h => by
    have := (List.all_eq_true.1 s2) _ (List.mem_of_getElem? h)
    cases b <;> exact this
  refine ⟨m2, ⟨R.laid.ext rd1, R.below.trans ⟨R1.below.os, R1.below.tape, R1.below.output, R1.below.size, fun k hk => R1.below.block k fun h => hk (hB1 k h), R1.below.dr⟩, fun b h => R.base b (Nat.le_trans R1.below.size h), R.size, ?_, ?_, ?_, fun t => ?_, ?_, ?_, ?_⟩, ?_⟩
  · intro k k' c c' l l' h1 h2 h3 h4 h5
    rcases hown k c h1 with ⟨j, d, a1, _, a3⟩ | ⟨a1, a2, a3⟩ <;> rcases hown k' c' h2 with ⟨j', d', b1, _, b3⟩ | ⟨b1, b2, b3⟩
    · rw [(hσ _ _ a3).2] at h3; rw [(hσ _ _ b3).2] at h4
      have := R1.inj j j' d d' l l' (hHc _ _ a1) (hHc _ _ b1) h3 h4 h5
      subst this
      rw [a3] at b3
      exact Option.some.inj b3
    · rw [(hσ _ _ a3).2] at h3; rw [hmo _ b1] at h4
      exact absurd (by rw [← h5]; exact (R1.wrLt (hHc _ _ a1) rfl h3).1) (hBx k' _ l' b2 b3 rfl h4)
    · rw [hmo _ a1] at h3; rw [(hσ _ _ b3).2] at h4
      exact absurd (by rw [h5]; exact (R1.wrLt (hHc _ _ b1) rfl h4).1) (hBx k _ l a2 a3 rfl h3)
    · rw [hmo _ a1] at h3; rw [hmo _ b1] at h4
      exact R.inj k k' c c' l l' a3 b3 h3 h4 h5
  · intro k c h
    rcases hown k c h with ⟨j, c', a1, rfl, a3⟩ | ⟨a1, a2, a3⟩
    · rcases R1.blk j c' (hHc _ _ a1) with ⟨e, hn⟩ | ⟨l, cur, e, b1, b2, b3, b4, b5, b6, b7⟩
      · exact .inl ⟨by rw [e]; rfl, by rw [(hσ _ _ a3).2]; exact hn⟩
      · refine .inr ⟨l, cur, e, by rw [(hσ _ _ a3).2]; exact b1, hB1 _ b2, b3, b4, b5, by simpa using b6, fun i hi => ?_⟩
        rw [List.length_map] at hi
        rw [List.getElem_map]
        have hs : scA σ.length c'[i] = true := by
          rw [hσlen]
          exact (List.all_eq_true.1 (sall j _ a1)) _ (List.getElem_mem hi)
        exact (b7 i hi).sig rd2 hσ2 hs
    · refine (R.blk k c a3).ext rd1 hlen3 hmo (hmo k a1) fun l hl => R1.below.block _ (hBx k _ l a2 a3 rfl hl)
  · intro k c h
    rcases hfro k c h with ⟨j, a1, a3⟩ | ⟨a1, a2, a3⟩
    · rcases R1.fro j c (hHc _ _ a1) with ⟨e1, e2⟩ | ⟨l, vs, e1, e2, e3, e4⟩
      · exact .inl ⟨e1, by rw [(hσ _ _ a3).2]; exact e2⟩
      · exact .inr ⟨l, vs, by rw [(hσ _ _ a3).2]; exact e1, hOK _ e2, e3, fun i hi => ⟨(e4 i hi).1, rd2 _ _ (e4 i hi).2⟩⟩
    · rcases R.fro k c a3 with ⟨e1, e2⟩ | ⟨l, vs, e1, e2, e3, e4⟩
      · exact .inl ⟨e1, by rw [hmo k a1]; exact e2⟩
      · exact .inr ⟨l, vs, by rw [hmo k a1]; exact e1, ho1 _ e2, e3, fun i hi => ⟨hcell _ _ _ e2 (e4 i hi).1, rd1 _ _ (e4 i hi).2⟩⟩
  · exact (R.slot t).ext rd1 hlen3 hmo
  · intro k kk d vv h
    rcases hmps k kk d vv h with ⟨j, a1, a3⟩ | ⟨a1, a2, a3⟩
    · obtain ⟨l, ar, clk, vs, b1, b2, b3, b4, b5, b6, b7⟩ := R1.mp.1 j kk d vv (hHc _ _ a1)
      exact ⟨l, ar, clk, vs, by rw [(hσ _ _ a3).2]; exact b1, hB1 _ b2, b3, b4, b5, b6, fun z hz => rd2 _ _ (b7 z hz)⟩
    · obtain ⟨l, ar, clk, vs, b1, b2, b3, b4, b5, b6, b7⟩ := R.mp.1 k kk d vv a3
      exact ⟨l, ar, clk, vs, by rw [hmo k a1]; exact b1, b2, by rw [R1.below.block _ (hBx k _ l a2 a3 rfl b1)]; exact b3, b4, b5, b6, fun z hz => rd1 _ _ (b7 z hz)⟩
  · intro k k' kk d vv kk' d' v' l l' h1 h2 h3 h4 h5
    rcases hmps k kk d vv h1 with ⟨j, a1, a3⟩ | ⟨a1, a2, a3⟩ <;> rcases hmps k' kk' d' v' h2 with ⟨j', b1, b3⟩ | ⟨b1, b2, b3⟩
    · rw [(hσ _ _ a3).2] at h3; rw [(hσ _ _ b3).2] at h4
      have := R1.mp.2.1 _ _ _ _ _ _ _ _ _ _ (hHc _ _ a1) (hHc _ _ b1) h3 h4 h5
      subst this
      rw [a3] at b3
      exact Option.some.inj b3
    · rw [(hσ _ _ a3).2] at h3; rw [hmo _ b1] at h4
      exact absurd (by rw [← h5]; exact (R1.wrLt (hHc _ _ a1) rfl h3).1) (hBx k' _ l' b2 b3 rfl h4)
    · rw [hmo _ a1] at h3; rw [(hσ _ _ b3).2] at h4
      exact absurd (by rw [h5]; exact (R1.wrLt (hHc _ _ b1) rfl h4).1) (hBx k _ l a2 a3 rfl h3)
    · rw [hmo _ a1] at h3; rw [hmo _ b1] at h4
      exact R.mp.2.1 _ _ _ _ _ _ _ _ _ _ a3 b3 h3 h4 h5
  · intro k i j h
    rcases hget k _ h with ⟨j', b', h1, h2, _⟩ | ⟨a1, a2, a3⟩
    · have := sall j' b' h1
      cases b' with
      | anc _ _ => cases this
      | _ => cases h2
    · obtain ⟨c1, c2⟩ := R.mp.2.2 k i j a3
      exact ⟨by simp only; omega, by rw [hmo j c1]; exact c2⟩
  · have := R1.slot 0
    exact AVal.sig rd2 hσ2 this (by rw [hσlen]; exact s1)

/-! ### The call -/

def argM1 (H : Heap) (ks : List Nat) (x a : AV) : Prop :=
  match a with
  | .p pv => (match peekG H x with | some (p, pv', true) => p ∧ pv' = pv | _ => False)
  | a => x = Go.Pv.ren ks a ∧ scA ks.length a = true

def argsM (H : Heap) (ks : List Nat) : List AV → List AV → Prop
  | x :: xs, a :: avs => argM1 H ks x a ∧ argsM H ks xs avs
  | [], [] => True
  | _, _ => False

theorem argsM_val (R : Rel C m s tmps w) {rd' : PV → Value → Prop} {ks : List Nat} {H0 : Heap} (h1 : ∀ p v, Reads (OK C m s.H w) w p v → rd' p v) (hl : H0.length = ks.length) : ∀ (X avs : List AV) (f : Nat → Value), argsM s.H ks X avs → (∀ i (h : i < X.length), AVal (Reads (OK C m s.H w) w) m s.H X[i] (f i)) →
    avs.length = X.length ∧ ∀ i (h : i < avs.length), AVal rd' (mren m ks) H0 avs[i] (f i)
  | [], [], f, _, _ => ⟨rfl, fun i h => by simp at h⟩
  | x :: xs, a :: avs, f, h, hv => by
    obtain ⟨k1, k2⟩ := argsM_val R h1 hl xs avs (fun i => f (i + 1)) h.2 fun i hi => by have := hv (i + 1) (by simp; omega); rwa [List.getElem_cons_succ] at this
    refine ⟨by simp [k1], fun i hi => ?_⟩
    cases i with
    | succ i => simpa using k2 i (by simpa using hi)
    | zero =>
      have hx := hv 0 (by simp)
      simp only [List.getElem_cons_zero] at hx ⊢
      have h0 := h.1
      unfold argM1 at h0
      split at h0
      · rename_i pv
        split at h0
        · rename_i p pv' hp
          obtain ⟨g1, rfl⟩ := h0
          exact .p _ _ (h1 _ _ ((peekG_val R hx hp g1).2 rfl))
        · exact h0.elim
      · obtain ⟨rfl, hsc⟩ := h0
        exact hx.unren h1 hl hsc
  | [], _ :: _, _, h, _ => h.elim
  | _ :: _, [], _, h, _ => h.elim

theorem call_doesM {o : Oper} {fo : Operand} {args : Array Operand} {ts : Array TypeId} (ho : o.op = .call { callee := .value fo, args := args, argTypes := ts }) {g : FuncId} {cap : List PV} (hfo : s.ev fo = .p (.fn g cap)) {ks : List Nat} {avs : List AV} {H0 H1 : Heap} {r : AV}
    (hc : FnM P g avs H0 r H1) (hargs : argsM s.H ks (args.toList.map s.ev ++ cap.map .p) avs) (hle : LeH ks s.H ks H0) (hnd : ks.Nodup) (hks : ks.all (fun k => decide (k < s.H.length)) = true) (hsc : scM r H0 H1 = true) :
    DoesW P o s (Go.Pv.ren (ks ++ List.range' s.H.length (H1.length - ks.length)) r) (putM s.H ks (H1.map (Blk.ren (ks ++ List.range' s.H.length (H1.length - ks.length))))) := by
  intro C m a w K Q R hK
  have hks' : ∀ k ∈ ks, k < s.H.length := fun k hk => by simpa using (List.all_eq_true.1 hks) k hk
  have hfv := R.ev fo
  rw [hfo] at hfv
  generalize hfe : a.eval fo = fv at hfv
  have hfv := hfv.p_inv
  cases hfv with
  | fn _ _ vs hcl hcr =>
    obtain ⟨⟨fn, hfn, hnm, hbd⟩, hcalls⟩ := hc
    have hrun : (execOp a.eval o).run P w = .ok (.enter g (args.map a.eval ++ vs)) w := by
      have hnm' : ¬ fn.name = "runtime.NumGoroutine" := by simpa using hnm
      have hbd' : ¬ fn.body = none := by intro e; rw [e] at hbd; simp at hbd
      simp [execOp, ho, resolve, hfe, Deferred.ofValue, invoke, callFunc, hfn, hnm', hbd']
    unfold Oper.wp
    rw [hrun]
    simp only [Oper.upon]
    obtain ⟨g1, g2⟩ := hle.get
    have ho1 : ∀ b, OK C m s.H w b → OK (subC C m s.H ks H0 w) (mren m ks) H0 w b := by
      refine fun b h => ⟨.inl h, h.2.1, fun k c l hk hl => ?_⟩
      obtain ⟨k', d, a1, a2, _⟩ := LeH.own g2 k c hk
      simp only [mren, a1, Option.bind_some] at hl
      exact h.2.2 k' _ l a2 hl
    obtain ⟨e1, e2⟩ := argsM_val R (rd' := Reads (OK (subC C m s.H ks H0 w) (mren m ks) H0 w) w) (H0 := H0) (fun p v h => h.mono ho1) g1.symm _ avs (fun i => (args.map a.eval ++ vs).getD i undef) hargs fun i hi => by
      simp only [List.length_append, List.length_map, Array.length_toList] at hi
      by_cases hip : i < args.size
      · rw [List.getElem_append_left (by simpa using hip)]
        simp only [Array.getD_eq_getD_getElem?]
        rw [Array.getElem?_append_left (by simpa using hip)]
        have := R.ev args[i]
        simpa [Array.getElem?_eq_getElem hip] using this
      · rw [List.getElem_append_right (by simp; omega)]
        simp only [Array.getD_eq_getD_getElem?]
        rw [Array.getElem?_append_right (by simp; omega)]
        simp only [List.getElem_map, List.length_map, Array.length_toList, Array.size_map]
        have := hcr (i - args.size) (by omega)
        rw [Array.getD_eq_getD_getElem?] at this
        exact .p _ _ this
    have hsz : (args.map a.eval ++ vs).size = avs.length := by
      rw [e1]; simp; omega
    have s5 : H0.all notAnc = true := by
      unfold scM at hsc
      rw [Bool.and_eq_true] at hsc
      exact hsc.2
    have R0 : Rel (subC C m s.H ks H0 w) (mren m ks) ⟨avs.length, entA 0 avs, H0⟩ (args.map a.eval ++ vs) w := by
      refine R.weakenC (s1 := ⟨avs.length, entA 0 avs, H0⟩) hsz hnd hle ho1 (BelowP.refl _ _) (fun b h => .inl h) (fun k b l h hw hl _ => .inr ⟨k, b, l, h, hw, hl, rfl⟩) (fun k i j h => ?_) fun t => ?_
      · exact absurd rfl (notAnc_spec ((List.all_eq_true.1 s5) _ (List.mem_of_getElem? h)) i j)
      · unfold St.get
        simp only
        rw [entA_lk, if_pos (Nat.zero_le _), Nat.sub_zero]
        by_cases ht : t < avs.length
        · have := e2 t ht
          simpa [List.getD, List.getElem?_eq_getElem ht] using this
        · rw [List.getD_eq_getElem?_getD, List.getElem?_eq_none (by omega)]
          exact .dead _
    have R0' := R0.addAnc (n := H0.length) (Nat.le_refl _) fun i _ => rfl
    refine (hcalls _ _ w _ R0').mono fun e w' ⟨v, m', he, R1⟩ => ?_
    subst he
    obtain ⟨m2, R2, hv⟩ := R.joinM hle hks' R1 hsc
    exact hK v m2 w' R2 hv

/-- THE WORD OF THE WALK: a call that is lent blocks. -/
theorem runs_callM {all : Array Oper} {rest : List Oper} {K : St → Prop} {dst : Option Tmp} {ty : TypeId} {pos : String} {aft : Array Edge} {gd : Option (Nat × Bool)} {fo : Operand} {args : Array Operand} {ts : Array TypeId} {g : FuncId} {avs : List AV} {H0 H1 : Heap} {r : AV} (ks : List Nat)
    (hc : FnM P g avs H0 r H1) {cap : List PV} (hfo : s.ev fo = .p (.fn g cap)) (hg : guardA all s { dst := dst, op := .call { callee := .value fo, args := args, argTypes := ts }, type := ty, pos := pos, after := aft, guard := gd } = some true)
    (hargs : argsM s.H ks (args.toList.map s.ev ++ cap.map .p) avs) (hle : LeH ks s.H ks H0) (hnd : ks.Nodup) (hks : ks.all (fun k => decide (k < s.H.length)) = true) (hsc : scM r H0 H1 = true) (hd : dstOk s dst)
    (h : Runs P false all rest K (({ s with H := putM s.H ks (H1.map (Blk.ren (ks ++ List.range' s.H.length (H1.length - ks.length)))) } : St).put dst (Go.Pv.ren (ks ++ List.range' s.H.length (H1.length - ks.length)) r))) :
    Runs P false all ({ dst := dst, op := .call { callee := .value fo, args := args, argTypes := ts }, type := ty, pos := pos, after := aft, guard := gd } :: rest) K s := by
  obtain ⟨s', hr, hK⟩ := h
  exact ⟨s', .cons (.op s _ _ hg (dstOk_spec hd) (call_doesM rfl hfo hc hargs hle hnd hks hsc) fun h => by cases h) hr, hK⟩

/-- A block is frozen before an operation. -/
theorem runs_freeze {all : Array Oper} {o : Oper} {rest : List Oper} {K : St → Prop} (k : Nat) {c : List AV} {ps : List PV} (hk : hget s.H k = .own c) (hc : allP c = some ps) (hgu : o.guard = none) (h : Runs P false all (o :: rest) K { s with H := hset s.H k (.fro ps) }) : Runs P false all (o :: rest) K s := by
  obtain ⟨s', hr, hK⟩ := h
  refine ⟨s', ?_, hK⟩
  cases hr with
  | cons h1 hr =>
    refine .cons ?_ hr
    cases h1 with
    | skip hg hd => unfold guardA at hg; rw [hgu] at hg; cases hg
    | op av H' hg hd h2 hl => exact .op s av H' hg hd (fun C m a w K Q R hK => h2 C m a w K Q (R.freeze hk hc) hK) fun h => by cases h

/-! ### How much stands in a map -/

open Classical in
noncomputable def mpLen (d : Int → Bool) : Nat := if h : ∃ l : List Int, l.Nodup ∧ ∀ z, z ∈ l ↔ d z = true then h.choose.length else 0

theorem nodup_le : ∀ {l l' : List Int}, l.Nodup → (∀ z ∈ l, z ∈ l') → l.length ≤ l'.length
  | [], _, _, _ => Nat.zero_le _
  | x :: l, l', hn, h => by
    have hx := h x (by simp)
    have h1 := nodup_le (l := l) (l' := l'.erase x) (List.nodup_cons.1 hn).2 fun z hz => (List.mem_erase_of_ne (fun e => (List.nodup_cons.1 hn).1 (by rw [← e]; exact hz))).2 (h z (by simp [hz]))
    rw [List.length_erase_of_mem hx] at h1
    have := List.length_pos_of_mem hx
    simp only [List.length_cons]
    omega

theorem mpLen_eq {d : Int → Bool} {l : List Int} (h1 : l.Nodup) (h2 : ∀ z, z ∈ l ↔ d z = true) : mpLen d = l.length := by
  have h : ∃ l : List Int, l.Nodup ∧ ∀ z, z ∈ l ↔ d z = true := ⟨l, h1, h2⟩
  unfold mpLen
  rw [dif_pos h]
  obtain ⟨a1, a2⟩ := h.choose_spec
  refine Nat.le_antisymm (nodup_le a1 fun z hz => (h2 z).2 ((a2 z).1 hz)) (nodup_le h1 fun z hz => (a2 z).2 ((h2 z).1 hz))

theorem mlk_some {kk : IntKind} {z : Int} : ∀ {es : List MapEntry} {x : Value}, mlk kk z es = some x → ∃ e ∈ es, e.key = .int kk z
  | [], _, h => by cases h
  | e :: es, x, h => by
    by_cases hk : e.key = .int kk z
    · exact ⟨e, by simp, hk⟩
    · rw [mlk_neg _ hk] at h
      obtain ⟨e', h1, h2⟩ := mlk_some h
      exact ⟨e', by simp [h1], h2⟩

theorem mlk_ne {kk : IntKind} {z : Int} : ∀ {es : List MapEntry}, (∃ e ∈ es, e.key = .int kk z) → mlk kk z es ≠ none
  | [], h => by obtain ⟨e, h1, _⟩ := h; cases h1
  | e :: es, h => by
    by_cases hk : e.key = .int kk z
    · rw [mlk_pos _ hk]; simp
    · rw [mlk_neg _ hk]
      obtain ⟨e', h1, h2⟩ := h
      rcases List.mem_cons.1 h1 with rfl | h1
      · exact absurd h2 hk
      · exact mlk_ne ⟨e', h1, h2⟩

def keyInt : Value → Int
  | .int _ z => z
  | _ => 0

theorem mpLen_entries {kk : IntKind} {d : Int → Bool} {es : List MapEntry} {vs : Int → Value} {clk : Nat} (h1 : MpK kk clk es) (h2 : ∀ z, d z = false → mlk kk z es = none) (h3 : ∀ z, d z = true → mlk kk z es = some (vs z)) : mpLen d = es.length := by
  have hk : ∀ e ∈ es, e.key = .int kk (keyInt e.key) := fun e he => by
    obtain ⟨z, hz⟩ := h1.1 e he
    rw [hz]; rfl
  have e1 : es.map MapEntry.key = (es.map fun e => keyInt e.key).map (Value.int kk) := by
    rw [List.map_map]
    exact List.map_congr_left fun e he => hk e he
  have hnd : (es.map fun e => keyInt e.key).Nodup := by
    have := h1.2.1
    rw [e1] at this
    exact List.Pairwise.imp (fun h e => h (by rw [e])) (List.pairwise_map.1 this)
  rw [mpLen_eq hnd fun z => ?_, List.length_map]
  rw [List.mem_map]
  constructor
  · rintro ⟨e, he, rfl⟩
    cases hd : d (keyInt e.key) with
    | true => rfl
    | false => exact absurd (h2 _ hd) (mlk_ne ⟨e, he, hk e he⟩)
  · intro hd
    obtain ⟨e, he, hz⟩ := mlk_some (h3 z hd)
    exact ⟨e, he, by rw [hz]; rfl⟩

theorem mpLen_does (hT : ∀ t ti, T t = some ti → tiOf P t = some ti) {o : Oper} {t : TypeId} {x : Operand} (ho : o.op = .call { callee := .builtin .len, args := #[x], argTypes := #[t] }) {ti : TI} (ht : T t = some ti) {kt et : TypeId} {zo : Option Value} (hkind : ti.kind = .map kt et zo)
    {k : Nat} {kk : IntKind} {d : Int → Bool} {v : Int → PV} (hx : s.ev x = .mptr k) (hg : hget s.H k = .mp kk d v) : DoesW P o s (.p (.int .i64 (mpLen d : Int))) s.H := by
  intro C m a w K Q R hK
  obtain ⟨dst, op, type, pos, after, guard⟩ := o
  simp only at ho
  subst ho
  have hxe := R.ev x
  rw [hx] at hxe
  generalize hxv : a.eval x = xv at hxe
  cases hxe with
  | mptr _ _ hkl hp =>
    obtain ⟨l, hml, rfl⟩ := hp
    obtain ⟨l', ar, clk, vs, a1, a2, a3, a4, a5, a6, a7⟩ := R.mp.1 k kk d v (hget_some hg (by simp))
    rw [hml] at a1; cases a1
    have hu := (ti_map (hT _ _ ht) hkind).1
    have hlen : (mpLen d : Int) = (ar.size : Int) := by rw [mpLen_entries a4 a5 a6]; simp
    have hrun : (execOp a.eval { dst := dst, op := .call { callee := .builtin .len, args := #[x], argTypes := #[t] }, type := type, pos := pos, after := after, guard := guard }).run P w = .ok (.value (.int .i64 (ar.size : Int))) w := by
      simp [BigFrame.execOp_builtin, BigFrame.builtin_len, Builtin.len_, hxv, run_underlying hu, goInt, MapKept.run_getObj_map a3]
    unfold Oper.wp
    rw [hrun]
    refine hK _ m w R (.p _ _ ?_)
    rw [hlen]
    exact .int _ _

theorem runs_mapLen (hT : ∀ t ti, T t = some ti → tiOf P t = some ti) {all : Array Oper} {rest : List Oper} {K : St → Prop} {dst : Option Tmp} {ty : TypeId} {pos : String} {aft : Array Edge} {gd : Option (Nat × Bool)} {x : Operand} {t : TypeId} {ti : TI} (ht : T t = some ti) {kt et : TypeId} {zo : Option Value} (hkind : ti.kind = .map kt et zo)
    {k : Nat} {kk : IntKind} {d : Int → Bool} {v : Int → PV} (hx : s.ev x = .mptr k) (hgt : hget s.H k = .mp kk d v) (hg : guardA all s { dst := dst, op := .call { callee := .builtin .len, args := #[x], argTypes := #[t] }, type := ty, pos := pos, after := aft, guard := gd } = some true) (hd : dstOk s dst)
    (h : Runs P false all rest K (s.put dst (.p (.int .i64 (mpLen d : Int))))) : Runs P false all ({ dst := dst, op := .call { callee := .builtin .len, args := #[x], argTypes := #[t] }, type := ty, pos := pos, after := aft, guard := gd } :: rest) K s := by
  obtain ⟨s', hr, hK⟩ := h
  exact ⟨s', .cons (.op s _ _ hg (dstOk_spec hd) (mpLen_does hT rfl ht hkind hx hgt) fun h => by cases h) hr, hK⟩

/-- The same where the order is drawn. -/
theorem runs2_mapLen (hT : ∀ t ti, T t = some ti → tiOf P t = some ti) {all : Array Oper} {rest : List Oper} {K : St → List I2 → Prop} {acc : List I2} {dst : Option Tmp} {ty : TypeId} {pos : String} {aft : Array Edge} {gd : Option (Nat × Bool)} {x : Operand} {t : TypeId} {ti : TI} (ht : T t = some ti) {kt et : TypeId} {zo : Option Value} (hkind : ti.kind = .map kt et zo)
    {k : Nat} {kk : IntKind} {d : Int → Bool} {v : Int → PV} (hx : s.ev x = .mptr k) (hgt : hget s.H k = .mp kk d v) (hg : guardA all s { dst := dst, op := .call { callee := .builtin .len, args := #[x], argTypes := #[t] }, type := ty, pos := pos, after := aft, guard := gd } = some true) (hd : dstOk s dst)
    (h : Runs2 P all rest K (s.put dst (.p (.int .i64 (mpLen d : Int)))) (acc ++ [⟨.ld k, .p (.int .i64 (mpLen d : Int)), .dead, false⟩])) : Runs2 P all ({ dst := dst, op := .call { callee := .builtin .len, args := #[x], argTypes := #[t] }, type := ty, pos := pos, after := aft, guard := gd } :: rest) K s acc := by
  obtain ⟨s', xs, hr, hK⟩ := h
  have hkl : k < s.H.length := (List.getElem?_eq_some_iff.1 (hget_some hgt (by simp))).1
  refine ⟨s', ⟨.ld k, .p (.int .i64 (mpLen d : Int)), .dead, false⟩ :: xs, .op hg (dstOk_spec hd) ⟨hkl, fun s2 hn ha hH => ?_⟩ (fun h => by cases h) hr, by rw [List.append_assoc] at hK; exact hK⟩
  refine mpLen_does (s := s2) hT rfl ht hkind (k := k) (kk := kk) (d := d) (v := v) ?_ (by rw [hH]; exact hgt)
  rw [← hx]
  exact ha x (by simp [Op.operands, Call.operands])

end

end Go.Pv

/-
  Steps of a region beside those that are evaluated: literal rows as one's own, entries of literal maps. Conditions: none; a library text.
-/
set_option linter.all false

namespace Go.Pv
open Go.RowKit
section
variable {P : Program} {T : TypeId → Option TI} {s : St}
theorem appendNn0_does (hT : ∀ t ti, T t = some ti → tiOf P t = some ti) {o : Oper} {t : TypeId} {x y : Operand} (ho : o.op = .call { callee := .builtin .append, args := #[x, y], argTypes := #[t, t] }) {ti te : TI} (ht : T t = some ti) {e : TypeId} (hk : ti.kind = .slice e) (hte : T e = some te) (hsz : te.size = 1)
    {l : List PV} {k lo : Nat} (hx : s.ev x = .p (.nn l)) (hy : s.ev y = .sl k lo 0) : DoesW P o s (.p (.nn l)) s.H := by
  intro C m a w K Q R hK
  obtain ⟨dst, op, type, pos, after, guard⟩ := o
  simp only at ho
  subst ho
  have hu := ti_slice (hT _ _ ht) hk
  obtain ⟨i, d, z, h1, h2, h3, h4, h5, h6, h7, h8⟩ := tiOf_parts (hT _ _ hte)
  have h := R.ev x
  rw [hx] at h
  have hl := h.p_inv
  obtain ⟨ad, hv⟩ : ∃ ad, a.eval x = .slice (some ad) l.length l.length := by
    generalize a.eval x = v at hl
    rcases hl.nn_inv with ⟨rfl, ad, rfl⟩ | ⟨b, off, sz, vs, rfl, _⟩
    · exact ⟨ad, rfl⟩
    · exact ⟨_, rfl⟩
  have hy' := R.ev y
  rw [hy] at hy'
  obtain ⟨ad2, cap2, hv2⟩ : ∃ ad2 cap2, a.eval y = .slice ad2 0 cap2 := by
    generalize a.eval y = v at hy'
    cases hy' with
    | sl _ _ _ _ _ hs =>
      rcases hs with ⟨_, ad, rfl⟩ | ⟨l', cap, _, rfl, _⟩
      · exact ⟨_, _, rfl⟩
      · exact ⟨_, _, rfl⟩
  have hr := append_nothing (P := P) (w := w) type hu h1 (by rw [h4, hsz]) (ad := some ad) (n := l.length) (cap := l.length) (x := .slice ad2 0 cap2) src_nil (Nat.le_refl _)
  have hrun : (execOp a.eval { dst := dst, op := .call { callee := .builtin .append, args := #[x, y], argTypes := #[t, t] }, type := type, pos := pos, after := after, guard := guard }).run P w = .ok (.value (.slice (some ad) l.length l.length)) w := by
    simp only [BigFrame.execOp_builtin, BigFrame.builtin_append, List.map_toArray, List.map_cons, List.map_nil, hv, hv2, Sem.run_bind, hr, Result.andThen_ok, Sem.run_pure]
  unfold Oper.wp
  rw [hrun]
  rw [hv] at hl
  exact hK _ m w R (.p _ _ hl)
theorem appendNn0_loc (hT : ∀ t ti, T t = some ti → tiOf P t = some ti) {o : Oper} {t : TypeId} {x y : Operand} (ho : o.op = .call { callee := .builtin .append, args := #[x, y], argTypes := #[t, t] }) {ti te : TI} (ht : T t = some ti) {e : TypeId} (hk : ti.kind = .slice e) (hte : T e = some te) (hsz : te.size = 1)
    {l : List PV} {k lo : Nat} (hx : s.ev x = .p (.nn l)) (hy : s.ev y = .sl k lo 0) : Loc1 P o s (.p (.nn l)) s.H := by
  have hx2 : x ∈ o.op.operands := by rw [ho]; simp [Op.operands, Call.operands]
  have hy2 : y ∈ o.op.operands := by rw [ho]; simp [Op.operands, Call.operands]
  refine ⟨fun s2 hn ha hH => ?_, fun hf => by simp [ho, isT] at hf, fun hf => by simp [ho, isW] at hf⟩
  rw [← hH]
  exact appendNn0_does hT ho ht hk hte hsz ((ha _ hx2).trans hx) ((ha _ hy2).trans hy)
theorem runs_opD {draw : Bool} {all : Array Oper} {rest : List Oper} {K : St → Prop} {o : Oper} {av : AV} {H' : Heap} (h1 : Loc1 P o s av H') (hg : guardA all s o = some true) (hd : dstOk s o.dst)
    (h : Runs P draw all rest K (({ s with H := H' } : St).put o.dst av)) : Runs P draw all (o :: rest) K s := by
  obtain ⟨s', hr, hK⟩ := h
  exact ⟨s', .cons (.op s _ _ hg (dstOk_spec hd) (h1.here s rfl (fun _ _ => rfl) rfl) fun _ => h1) hr, hK⟩
theorem runs_at {draw : Bool} {all : Array Oper} {K : St → Prop} (n : Nat) {l : List Oper} (h : Runs P draw all (l.take n) (fun s' => Runs P draw all (l.drop n) K s') s) : Runs P draw all l K s := by
  have gen : ∀ (l1 l2 : List Oper) (s s1 s2 : St), Run1 P draw all l1 s s1 → Run1 P draw all l2 s1 s2 → Run1 P draw all (l1 ++ l2) s s2 := by
    intro l1
    induction l1 with
    | nil => intro l2 s s1 s2 h1 h2; cases h1; exact h2
    | cons o r ih => intro l2 s s1 s2 h1 h2; cases h1 with | cons a b => exact .cons a (ih l2 _ _ _ b h2)
  obtain ⟨s1, h1, s2, h2, hK⟩ := h
  exact ⟨s2, by have := gen _ _ _ _ _ h1 h2; rwa [List.take_append_drop] at this, hK⟩

/-- A literal row, as a block of the call's own. -/
theorem buildOwn_does (hT : ∀ t ti, T t = some ti → tiOf P t = some ti) {o : Oper} {t : TypeId} {n : Nat} {parts : Array (Nat × Operand)} (ho : o.op = .buildSlice t n parts) {ti te : TI} (ht : T t = some ti) {e : TypeId} (hk : ti.kind = .slice e) (hte : T e = some te) (hsz : te.size = 1) (hzl : te.zero.length = 1)
    {p : Prop} {l : List PV} (hp : partsA 1 0 (parts.toList.map fun q => (q.1, s.ev q.2)) = some (p, l)) (hvc : p) (hl : l.length = n) (hn : n ≤ 16777216) (hone : l.all PV.one = true) : DoesW P o s (.sl s.H.length 0 n) (s.H ++ [.own (opl l)]) := by
  intro C m a w K Q R hK
  have hu := ti_slice (hT _ _ ht) hk
  obtain ⟨i, d, z, h1, h2, h3, h4, h5, h6, h7, h8⟩ := tiOf_parts (hT _ _ hte)
  have key : ∀ z0 : Array Value, ∃ cs', (∀ x ∈ l, x.cells.length = 1) ∧ Instr.fill (fun i => some (i * 1, 1)) ((Array.range (n * 1)).map (z0[· % z0.size]!)) (parts.toList.map fun q => (q.1, a.eval q.2)) = some cs' ∧ cs'.size = n * 1 ∧
      ∀ c (h : c < (flat l).length), Reads (OK C m s.H w) w (flat l)[c] (cs'.getD c undef) := by
    intro z0
    obtain ⟨k1, cs', k2, k3, _, k5⟩ := partsA_run R 1 parts.toList 0 (cs := (Array.range (n * 1)).map (z0[· % z0.size]!)) hp hvc (by simp [hl])
    exact ⟨cs', k1, k2, by rw [k3]; simp, fun c hc => by have := k5 c hc; rwa [Nat.zero_mul, Nat.zero_add] at this⟩
  obtain ⟨cs', k1, k2, k3, k5⟩ := key (if n * 1 = 0 then #[] else z.cells)
  have hss := ti_size (hT _ _ hte) w
  rw [hsz] at hss
  have hfl0 := flat_length_eq 1 l k1
  have hfl : flat l = l := flat_all_one hone
  have hrun : (execOp a.eval o).run P w = .ok (.value (.slice (some ⟨w.heap.size, 0, none⟩) n n)) (w.alloc (.cells cs' e)) := by
    have hpt : (parts.map fun q => (q.1, a.eval q.2)).toList = parts.toList.map fun q => (q.1, a.eval q.2) := by simp
    have hne : ¬ (n * 1 > 2 ^ 24) := by omega
    by_cases hz : n * 1 = 0
    · rw [if_pos hz] at k2
      simp only [execOp, ho, Instr.buildSlice, Sem.run_bind, run_underlying hu, Result.andThen_ok, hss, Sem.run_ite, hz, if_true, Sem.run_pure, newRow] at k2 ⊢
      simp only [hpt, k2, Sem.run_bind, run_newObj, Result.andThen_ok, Sem.run_pure]
      rfl
    · rw [if_neg hz] at k2
      simp only [execOp, ho, Instr.buildSlice, Sem.run_bind, run_underlying hu, Result.andThen_ok, hss, Sem.run_ite, hne, if_false, hz, zeroValue, typeInfo, run_program, h1, h3, Sem.run_pure, newRow] at k2 ⊢
      simp only [hpt, k2, Sem.run_bind, run_newObj, Result.andThen_ok, Sem.run_pure]
      rfl
  have hrel := R.newBlk (below_alloc _) (cur := cs') (e := e) (heap_alloc_new w _) (by rw [k3]; unfold maxLen; omega) (c := opl l) (by rw [opl_length, k3]; omega) (by
    intro j hj
    rw [opl_length] at hj
    have := k5 j (by rw [hfl]; exact hj)
    simp only [hfl] at this
    simp only [opl, List.getElem_map]
    exact .p _ _ this)
  unfold Oper.wp
  rw [hrun]
  exact hK _ _ _ hrel (.sl _ _ _ _ (by simp) <| .inr ⟨⟨w.heap.size, 0, cs'.size⟩, n, by simp [mput], by simp, Nat.le_refl _, by simp only; omega⟩)

/-- An entry of a literal map. -/
theorem insert_does (hT : ∀ t ti, T t = some ti → tiOf P t = some ti) {o : Oper} {t : TypeId} {x y z : Operand} (ho : o.op = .insert t x y z) {ti : TI} (ht : T t = some ti) {r : OV} (h : mapUpdateA T ti s.H (s.ev x) (s.ev y) (s.ev z) = some r) (hvc : r.vc) : DoesW P o s r.av r.H := by
  intro C m a w K Q R hK
  obtain ⟨v, w', m', hy, R', hv⟩ := mapUpdateA_does hT R (o := { o with op := .mapUpdate t x y z }) rfl ht h hvc
  have := hK v m' w' R' hv
  have e : execOp a.eval o = execOp a.eval { o with op := .mapUpdate t x y z } := by
    simp only [execOp, ho]
  rcases hy with hr | ⟨hr, rfl⟩
  · unfold Oper.wp; rw [e, hr]; exact this
  · unfold Oper.wp; rw [e, hr]; exact this
section
variable {C : Ctx} {m : Map} {tmps : Array Value} {w : World}
theorem call_doesMc {o : Oper} {fo : Operand} {args : Array Operand} {ts : Array TypeId} (ho : o.op = .call { callee := .value fo, args := args, argTypes := ts }) {g : FuncId} {cap : List AV} (hfo : s.ev fo = .cl g cap) {ks : List Nat} {avs : List AV} {H0 H1 : Heap} {r : AV}
    (hc : FnM P g avs H0 r H1) (hargs : argsM s.H ks (args.toList.map s.ev ++ cap) avs) (hle : LeH ks s.H ks H0) (hnd : ks.Nodup) (hks : ks.all (fun k => decide (k < s.H.length)) = true) (hsc : scM r H0 H1 = true) :
    DoesW P o s (Go.Pv.ren (ks ++ List.range' s.H.length (H1.length - ks.length)) r) (putM s.H ks (H1.map (Blk.ren (ks ++ List.range' s.H.length (H1.length - ks.length))))) := by
  intro C m a w K Q R hK
  have hks' : ∀ k ∈ ks, k < s.H.length := fun k hk => by simpa using (List.all_eq_true.1 hks) k hk
  have hfv := R.ev fo
  rw [hfo] at hfv
  generalize hfe : a.eval fo = fv at hfv
  cases hfv with
  | cl _ _ vs hcl hcr =>
    obtain ⟨⟨fn, hfn, hnm, hbd⟩, hcalls⟩ := hc
    have hrun : (execOp a.eval o).run P w = .ok (.enter g (args.map a.eval ++ vs)) w := by
      have hnm' : ¬ fn.name = "runtime.NumGoroutine" := by simpa using hnm
      have hbd' : ¬ fn.body = none := by intro e; rw [e] at hbd; simp at hbd
      simp [execOp, ho, resolve, hfe, Deferred.ofValue, invoke, callFunc, hfn, hnm', hbd']
    unfold Oper.wp
    rw [hrun]
    simp only [Oper.upon]
    obtain ⟨g1, g2⟩ := hle.get
    have ho1 : ∀ b, OK C m s.H w b → OK (subC C m s.H ks H0 w) (mren m ks) H0 w b := by
      refine fun b h => ⟨.inl h, h.2.1, fun k c l hk hl => ?_⟩
      obtain ⟨k', d, a1, a2, _⟩ := LeH.own g2 k c hk
      simp only [mren, a1, Option.bind_some] at hl
      exact h.2.2 k' _ l a2 hl
    obtain ⟨e1, e2⟩ := argsM_val R (rd' := Reads (OK (subC C m s.H ks H0 w) (mren m ks) H0 w) w) (H0 := H0) (fun p v h => h.mono ho1) g1.symm _ avs (fun i => (args.map a.eval ++ vs).getD i undef) hargs fun i hi => by
      simp only [List.length_append, List.length_map, Array.length_toList] at hi
      by_cases hip : i < args.size
      · rw [List.getElem_append_left (by simpa using hip)]
        simp only [Array.getD_eq_getD_getElem?]
        rw [Array.getElem?_append_left (by simpa using hip)]
        have := R.ev args[i]
        simpa [Array.getElem?_eq_getElem hip] using this
      · rw [List.getElem_append_right (by simp; omega)]
        simp only [Array.getD_eq_getD_getElem?]
        rw [Array.getElem?_append_right (by simp; omega)]
        simp only [List.length_map, Array.length_toList, Array.size_map]
        have := hcr (i - args.size) (by omega)
        rw [Array.getD_eq_getD_getElem?] at this
        exact this
    have hsz : (args.map a.eval ++ vs).size = avs.length := by
      rw [e1]; simp; omega
    have s5 : H0.all notAnc = true := by
      unfold scM at hsc
      rw [Bool.and_eq_true] at hsc
      exact hsc.2
    have R0 : Rel (subC C m s.H ks H0 w) (mren m ks) ⟨avs.length, entA 0 avs, H0⟩ (args.map a.eval ++ vs) w := by
      refine R.weakenC (s1 := ⟨avs.length, entA 0 avs, H0⟩) hsz hnd hle ho1 (BelowP.refl _ _) (fun b h => .inl h) (fun k b l h hw hl _ => .inr ⟨k, b, l, h, hw, hl, rfl⟩) (fun k i j h => ?_) fun t => ?_
      · exact absurd rfl (notAnc_spec ((List.all_eq_true.1 s5) _ (List.mem_of_getElem? h)) i j)
      · unfold St.get
        simp only
        rw [entA_lk, if_pos (Nat.zero_le _), Nat.sub_zero]
        by_cases ht : t < avs.length
        · have := e2 t ht
          simpa [List.getD, List.getElem?_eq_getElem ht] using this
        · rw [List.getD_eq_getElem?_getD, List.getElem?_eq_none (by omega)]
          exact .dead _
    have R0' := R0.addAnc (n := H0.length) (Nat.le_refl _) fun i _ => rfl
    refine (hcalls _ _ w _ R0').mono fun e w' ⟨v, m', he, R1⟩ => ?_
    subst he
    obtain ⟨m2, R2, hv⟩ := R.joinM hle hks' R1 hsc
    exact hK v m2 w' R2 hv

/-- THE WORD OF THE WALK: a call of a function with captured values that is lent blocks. -/
theorem runs_callMc {all : Array Oper} {rest : List Oper} {K : St → Prop} {dst : Option Tmp} {ty : TypeId} {pos : String} {aft : Array Edge} {gd : Option (Nat × Bool)} {fo : Operand} {args : Array Operand} {ts : Array TypeId} {g : FuncId} {avs : List AV} {H0 H1 : Heap} {r : AV} (ks : List Nat)
    (hc : FnM P g avs H0 r H1) {cap : List AV} (hfo : s.ev fo = .cl g cap) (hg : guardA all s { dst := dst, op := .call { callee := .value fo, args := args, argTypes := ts }, type := ty, pos := pos, after := aft, guard := gd } = some true)
    (hargs : argsM s.H ks (args.toList.map s.ev ++ cap) avs) (hle : LeH ks s.H ks H0) (hnd : ks.Nodup) (hks : ks.all (fun k => decide (k < s.H.length)) = true) (hsc : scM r H0 H1 = true) (hd : dstOk s dst)
    (h : Runs P false all rest K (({ s with H := putM s.H ks (H1.map (Blk.ren (ks ++ List.range' s.H.length (H1.length - ks.length)))) } : St).put dst (Go.Pv.ren (ks ++ List.range' s.H.length (H1.length - ks.length)) r))) :
    Runs P false all ({ dst := dst, op := .call { callee := .value fo, args := args, argTypes := ts }, type := ty, pos := pos, after := aft, guard := gd } :: rest) K s := by
  obtain ⟨s', hr, hK⟩ := h
  exact ⟨s', .cons (.op s _ _ hg (dstOk_spec hd) (call_doesMc rfl hfo hc hargs hle hnd hks hsc) fun h => by cases h) hr, hK⟩

end
end
/-- A function with captured values, of whatever make. -/
theorem mkCl_does {P : Program} {s : St} {o : Oper} {f : FuncId} {first : Array Operand} {caps : Array Operand} (ho : o.op = .makeFunc (.func f) first caps) (hf : first.isEmpty = true) : DoesW P o s (.cl f (caps.toList.map s.ev)) s.H := by
  intro C m a w K Q R hK
  have hfe : first = #[] := by simpa using hf
  have hrun : (execOp a.eval o).run P w = .ok (.value (.func (.func f) #[] (caps.map a.eval))) w := by
    simp [execOp, ho, hfe, Instr.makeFunc]
  unfold Oper.wp
  rw [hrun]
  refine hK _ m w R (.cl _ _ _ (by simp) fun c hc => ?_)
  have hc' : c < caps.size := by simpa using hc
  have e1 : (caps.map a.eval).getD c undef = a.eval caps[c] := by simp [Array.getD_eq_getD_getElem?, hc']
  have e2 : (caps.toList.map s.ev)[c] = s.ev caps[c] := by simp
  rw [e1, e2]
  exact R.ev _
end Go.Pv

/-
  The library's sort by a comparison, over a row of the caller's own: what it leaves. Conditions: none; a library text.
-/
set_option linter.all false
namespace Go.Pv
open Go.RowKit

theorem below_grow {w w' : World} (h : Below w.heap.size w w') : ∃ q os, w' = Go.Sort.grow (w.drewN q) os := by
  refine ⟨w'.drawn - w.drawn, w'.heap.extract w.heap.size w'.heap.size, ?_⟩
  obtain ⟨h1, h2, h3, h4, h5, h6⟩ := h
  cases w with
  | mk heap tape drawn os output =>
    cases w' with
    | mk heap' tape' drawn' os' output' =>
      simp only at h1 h2 h3 h4 h5 h6
      subst h1 h2 h3
      have hh : heap' = heap ++ heap'.extract heap.size heap'.size := by
        apply Array.ext_getElem?
        intro k
        by_cases hk : k < heap.size
        · rw [Array.getElem?_append_left hk]; exact h5 k hk
        · rw [Array.getElem?_append_right (by omega), Array.getElem?_extract]
          by_cases hk2 : k < heap'.size
          · rw [if_pos (by simp; omega), show heap.size + (k - heap.size) = k by omega]
          · rw [if_neg (by simp; omega), Array.getElem?_eq_none (by omega)]
      have hd : drawn' = drawn + (drawn' - drawn) := by omega
      show World.mk heap' tape' drawn' os' output' = World.mk (heap ++ heap'.extract heap.size heap'.size) tape' (drawn + (drawn' - drawn)) os' output'
      rw [← hh, ← hd]

theorem below_sortWorld {α : Type} [Inhabited α] (enc : α → Value) (w : World) (blk off m : Nat) (dk : Array α) (os : Array Obj) : ∀ b, b ≠ blk → b < w.heap.size → (Go.Proofs.sortWorld enc w blk off m dk os).heap[b]? = w.heap[b]? := by
  intro b hb hs
  unfold Go.Proofs.sortWorld
  rw [Go.Sort.heap_grow_old _ _ (by simpa using hs)]
  simp only [Go.Sort.putRow, Go.Sort.mapBlock, Array.getElem?_modify]
  rw [if_neg (Ne.symm hb)]
  rfl

theorem perm_sorted_unique {lt : PV → PV → Prop} : ∀ (xs ys : List PV), xs.Perm ys → (∀ x ∈ xs, ∀ y ∈ xs, ¬ lt x y → ¬ lt y x → x = y) → xs.Pairwise (fun x y => ¬ lt y x) → ys.Pairwise (fun x y => ¬ lt y x) → xs = ys
  | [], ys, h, _, _, _ => by simpa using h.symm.eq_nil.symm
  | x :: r, [], h, _, _, _ => by simpa using h.eq_nil
  | x :: r, y :: s, h, ha, h1, h2 => by
    have hxy : x = y := by
      have hx : x ∈ y :: s := h.mem_iff.1 (by simp)
      have hy : y ∈ x :: r := h.mem_iff.2 (by simp)
      rcases List.mem_cons.1 hx with hx | hx
      · exact hx
      · rcases List.mem_cons.1 hy with hy' | hy'
        · exact hy'.symm
        · have a1 := (List.pairwise_cons.1 h1).1 y hy'
          have a2 := (List.pairwise_cons.1 h2).1 x hx
          exact ha x (by simp) y hy a2 a1
    subst hxy
    rw [perm_sorted_unique r s (List.Perm.cons_inv h) (fun a ha' b hb' => ha a (by simp [ha']) b (by simp [hb'])) (List.pairwise_cons.1 h1).2 (List.pairwise_cons.1 h2).2]

section
variable {P : Program} {ρ : Go.Shelf.Ren}

/-- slices.SortFunc: a row of the caller's own; a pure comparison that parts whatever two things; behind it the row holds the one list that rises. -/
theorem sort_m (L : Go.Proofs.SlLaysF.n6 P ρ) {g : FuncId} {cap : List PV} (xs ys : List PV) (cf : PV → PV → Int) (hne : xs ≠ []) (hone : ∀ x ∈ xs, x.one = true)
    (irr : ∀ x ∈ xs, ¬ cf x x < 0) (tr : ∀ x ∈ xs, ∀ y ∈ xs, ∀ z ∈ xs, cf x y < 0 → cf y z < 0 → cf x z < 0) (ntr : ∀ x ∈ xs, ∀ y ∈ xs, ∀ z ∈ xs, ¬ cf x y < 0 → ¬ cf y z < 0 → ¬ cf x z < 0)
    (anti : ∀ x ∈ xs, ∀ y ∈ xs, ¬ cf x y < 0 → ¬ cf y x < 0 → x = y) (hc : ∀ x ∈ xs, ∀ y ∈ xs, FnC P g (x :: y :: cap) (.int .i64 (cf x y)))
    (hperm : xs.Perm ys) (hs : ys.Pairwise fun x y => ¬ cf y x < 0) (hlen : xs.length < 4611686018427387904) :
    FnM P (ρ.f 6) [.sl 0 0 xs.length, .p (.fn g cap)] [.own (opl xs)] (.p (.tup [])) [.own (opl ys)] := by
  have hpos : 0 < xs.length := List.length_pos_iff.2 hne
  refine ⟨?_, fun C m w vals R => ?_⟩
  · obtain ⟨nm, h1, h2⟩ := L.f6
    exact ⟨_, h2, h1, rfl⟩
  have hsz : vals.size = 2 := R.size
  have s0 := R.slot 0
  have s1 := R.slot 1
  simp only [St.get, entA, lk, BEq.rfl, cond_true, show ((0 : Nat) == 1) = false from rfl, cond_false] at s0 s1
  generalize hv0 : vals.getD 0 undef = v0 at s0
  generalize hv1 : vals.getD 1 undef = v1 at s1
  have hvals : vals = #[v0, v1] := by
    apply Array.ext
    · simpa using hsz
    · intro i h1 h2
      simp only [Array.getD_eq_getD_getElem?] at hv0 hv1
      match i, h2 with
      | 0, _ => rw [Array.getElem?_eq_getElem h1] at hv0; simpa using hv0
      | 1, _ => rw [Array.getElem?_eq_getElem h1] at hv1; simpa using hv1
  subst hvals
  have s1 := s1.p_inv
  cases s1 with
  | fn _ _ vs hcl hcr =>
  cases s0 with
  | sl _ _ _ _ hk0 h0 =>
  rcases h0 with ⟨h0, _⟩ | ⟨l, cp, hm, rfl, hle, hlo⟩
  · omega
  rcases R.blk 0 (opl xs) rfl with ⟨hx, _⟩ | ⟨l', cur, e, hm', hB, hg, hcs, hmx, hol, hcell⟩
  · exact absurd (show xs = [] by simpa [opl] using hx) hne
  rw [hm] at hm'; cases hm'
  rw [opl_length] at hol
  generalize hok : OK C m ([.own (opl xs)] ++ ancs 0 [Blk.own (opl xs)].length) w = ok at *
  have hokne : ∀ b, ok b → b ≠ l.g := fun b hb => by
    subst hok
    exact fun e => hb.2.2 0 _ l rfl hm e.symm
  have hoklt : ∀ b, ok b → b < w.heap.size := fun b hb => by subst hok; exact hb.2.1
  have hblk : l.g < w.heap.size := (Array.getElem?_eq_some_iff.1 hg).1
  have hrd : ∀ j (h : j < xs.length), Reads ok w xs[j] (cur.getD (l.o + j) undef) := fun j h => by
    have := hcell j (by rw [opl_length]; exact h)
    simp only [opl, List.getElem_map] at this
    subst hok
    exact this.p_inv
  let α := {p : PV × Value // p.1 ∈ xs ∧ Reads ok w p.1 p.2}
  have inh : α := ⟨(xs[0], cur.getD (l.o + 0) undef), List.getElem_mem hpos, hrd 0 hpos⟩
  letI : Inhabited α := ⟨inh⟩
  let enc : α → Value := fun x => x.1.2
  let cf' : α → α → Int := fun x y => cf x.1.1 y.1.1
  let d : Array α := Array.ofFn fun j : Fin xs.length => (⟨(xs[j], cur.getD (l.o + j) undef), List.getElem_mem j.2, hrd j j.2⟩ : α)
  have hd : d.size = xs.length := by simp [d]
  have hdj : ∀ j (h : j < xs.length), d[j]! = (⟨(xs[j], cur.getD (l.o + j) undef), List.getElem_mem h, hrd j h⟩ : α) := fun j h => by
    rw [getElem!_pos d j (by omega)]
    simp [d]
  have h1 : Go.Proofs.OneCell enc := fun x => (Reads.one x.2.2 (hone _ x.2.1)).1
  have hO : Go.Sort.SWO (Go.Proofs.ltOf cf') := by
    refine ⟨fun x => ?_, fun x y z h1 h2 => ?_, fun x y z h1 h2 => ?_⟩
    · exact decide_eq_false (irr _ x.2.1)
    · exact decide_eq_true (tr _ x.2.1 _ y.2.1 _ z.2.1 (of_decide_eq_true h1) (of_decide_eq_true h2))
    · exact decide_eq_false (ntr _ x.2.1 _ y.2.1 _ z.2.1 (of_decide_eq_false h1) (of_decide_eq_false h2))
  have hH : Go.Sort.Holds enc w l.g (l.o + 0) d := fun j hj => by
    rw [hd] at hj
    have hjc : l.o + j < cur.size := by omega
    refine ⟨?_, ?_⟩
    · rw [hdj j hj]
      show w.cell? ⟨l.g, l.o + 0 + j, none⟩ = some (cur.getD (l.o + j) undef)
      simp only [World.cell?, hg, Nat.add_zero]
      simp [Array.getD_eq_getD_getElem?, Array.getElem?_eq_getElem hjc]
    · simp [World.frozen?, hg]
  have eg : ∀ args w, (callFunc g args).run P w = .ok (.enter g args) w := by
    obtain ⟨fn, f1, f2, f3⟩ := (hc _ (List.getElem_mem hpos) _ (List.getElem_mem hpos)).1
    obtain ⟨c, hcb⟩ := Option.ne_none_iff_exists'.1 (show fn.body ≠ none by intro e; rw [e] at f3; simp at f3)
    exact Go.Proofs.enters_of f1 f2 hcb
  have hcmp : Go.Proofs.CmpLays1 P g vs enc cf' l.g (l.o + 0) d.size w := fun m1 os dk hs x y => by
    have hheap : ∀ b, ok b → (Go.Proofs.sortWorld enc w l.g (l.o + 0) m1 dk os).heap[b]? = w.heap[b]? := fun b hb => below_sortWorld enc w l.g _ m1 dk os b (hokne b hb) (hoklt b hb)
    have hsw : w.heap.size ≤ (Go.Proofs.sortWorld enc w l.g (l.o + 0) m1 dk os).heap.size := by simp [Go.Proofs.sortWorld]
    refine ((hc _ x.2.1 _ y.2.1).2 ok _ (#[enc x, enc y] ++ vs) ⟨fun b hb => Nat.lt_of_lt_of_le (hoklt b hb) hsw, fun gg ll hgg => ?_⟩ (by simp [hcl]; omega) fun i hi => ?_).mono fun e' w2 ⟨v, he, hbl, hv⟩ => ?_
    · have := R.laid gg ll hgg
      rw [hok] at this
      exact this.ext (fun _ h => h) hheap
    · match i, hi with
      | 0, _ =>
        have e0 : (#[enc x, enc y] ++ vs).getD 0 undef = enc x := by simp [Array.getD_eq_getD_getElem?, Array.getElem?_append]
        rw [e0]
        exact x.2.2.ext (fun _ h => h) hheap
      | 1, _ =>
        have e0 : (#[enc x, enc y] ++ vs).getD 1 undef = enc y := by simp [Array.getD_eq_getD_getElem?, Array.getElem?_append]
        rw [e0]
        exact y.2.2.ext (fun _ h => h) hheap
      | i + 2, hi =>
        have hi' : i < cap.length := by simpa using hi
        have e2 : (#[enc x, enc y] ++ vs).getD (i + 2) undef = vs.getD i undef := by
          simp only [Array.getD_eq_getD_getElem?]
          rw [Array.getElem?_append_right (by simp)]
          simp
        rw [e2]
        exact (hcr i hi').ext (fun _ h => h) hheap
    · subst he
      cases hv
      exact ⟨rfl, below_grow hbl⟩
  have hcall := Go.Proofs.Any.slices_SortFunc L enc h1 cf' hO g vs l.g (l.o + 0) cp d w eg hcmp hH hblk (by omega)
  rw [hd] at hcall
  refine hcall.mono fun e2 w2 ⟨he, d', n, os, hp, hso, hw⟩ => ?_
  subst he
  refine ⟨.tuple #[], m, rfl, ?_⟩
  have hs' : d'.size = xs.length := by rw [hp.1, hd]
  have hdl : d.toList.map (fun x => x.1.1) = xs := by
    apply List.ext_getElem
    · simp [d]
    · intro i h1 h2
      simp [d]
  have hperm2 : (d'.toList.map fun x => x.1.1).Perm xs := by
    have := hp.2.2
    rw [← hd, Array.extract_size] at this
    have h3 : d'.extract 0 d.size = d' := by rw [hd, ← hs', Array.extract_size]
    rw [h3] at this
    have h4 := this.map (fun x : α => x.1.1)
    rwa [hdl] at h4
  have hys : d'.toList.map (fun x => x.1.1) = ys := by
    refine perm_sorted_unique (lt := fun x y => cf x y < 0) _ _ (hperm2.trans hperm) (fun x hx y hy => anti x (hperm2.mem_iff.1 hx) y (hperm2.mem_iff.1 hy)) ?_ hs
    rw [List.pairwise_iff_getElem]
    intro i j hi hj hij
    simp only [List.length_map, Array.length_toList] at hi hj
    have := hso i j (Nat.zero_le _) hij (by omega)
    rw [getElem!_pos d' i hi, getElem!_pos d' j hj] at this
    simpa using of_decide_eq_false this
  have hyl : ys.length = xs.length := hperm.length_eq.symm
  -- the row as it stands behind the sort
  have R1 : Rel C m ⟨2, entA 0 [.sl 0 0 xs.length, .p (.fn g cap)], hset ([.own (opl xs)] ++ ancs 0 [Blk.own (opl xs)].length) 0 (.own (opl ys))⟩ #[.slice (some ⟨l.g, l.o + 0, none⟩) xs.length cp, .func (.func g) #[] vs] (Go.Sort.putRow enc (Go.Sort.ahead w n) l.g (l.o + 0) d') := by
    refine R.setBlk (a := { tmps := #[.slice (some ⟨l.g, l.o + 0, none⟩) xs.length cp, .func (.func g) #[] vs], defers := [] }) (c := opl xs) rfl hm ⟨rfl, rfl, rfl, by simp, fun k hk => ?_, by simp⟩ (fun b hb => ?_) (cur := Go.Sort.putCells enc (l.o + 0) d' cur) (e := e) ?_ (by simp [Go.Sort.putCells, hcs]) (by rw [opl_length]; omega) fun j hj => ?_
    · simp only [Go.Sort.putRow, Go.Sort.mapBlock, Array.getElem?_modify]
      rw [if_neg (fun e => hk (by rw [← e]; exact hB))]; rfl
    · simp only [Go.Sort.putRow, Go.Sort.mapBlock, Array.getElem?_modify]
      rw [if_neg (Ne.symm hb)]; rfl
    · simp only [Go.Sort.putRow, Go.Sort.mapBlock, Array.getElem?_modify]
      rw [if_pos trivial]
      show Option.map _ (w.heap[l.g]?) = _
      rw [hg]; rfl
    · rw [opl_length] at hj
      have hjd : j < d'.size := by omega
      have hjc : l.o + j < cur.size := by omega
      have e3 : (Go.Sort.putCells enc (l.o + 0) d' cur).getD (l.o + j) undef = enc d'[j] := by
        simp only [Go.Sort.putCells, Array.getD_eq_getD_getElem?, Array.getElem?_mapIdx, Array.getElem?_eq_getElem hjc, Option.map_some, Option.getD_some]
        rw [if_pos ⟨by omega, by omega⟩, show l.o + j - (l.o + 0) = j by omega, getElem!_pos d' j hjd]
      rw [e3]
      have e4 : ys[j] = d'[j].1.1 := by
        have := hys
        subst this
        simp
      have e5 : (opl ys)[j]'(by rw [opl_length]; exact hj) = .p ys[j] := by simp [opl]
      rw [e5, e4]
      have h6 := d'[j].2.2
      refine .p _ _ ?_
      show Reads (OK C m ([.own (opl xs)] ++ ancs 0 [Blk.own (opl xs)].length) w) w _ _
      rw [hok]
      exact h6
  have R2 := R1.later (w' := w2) (by
    rw [hw]
    refine ⟨rfl, rfl, rfl, by simp [Go.Proofs.sortWorld], fun k hk => ?_, Nat.le_refl _⟩
    unfold Go.Proofs.sortWorld
    exact Go.Sort.heap_grow_old _ _ hk)
  exact ⟨R2.laid, R2.below, R2.base, rfl, R2.inj, R2.blk, R2.fro, fun t => by
    cases t with
    | zero => exact .p _ _ (.tup [] #[] rfl fun c h => absurd h (by simp))
    | succ t => exact .dead _, R2.mp⟩

end
end Go.Pv
