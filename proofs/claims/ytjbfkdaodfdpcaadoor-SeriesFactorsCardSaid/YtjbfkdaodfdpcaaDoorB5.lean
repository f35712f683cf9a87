/-
  Texts of this proof, one behind the other: what each says stands at its head. Conditions: none.
-/
import Derived.Test.YtjbfkdaodfdpcaaDoorB4
import Derived.Test.YtjbfkdaodfdpcaaDoorB3

/-
  Sets of things: conjugated things, commutators, what they make. Conditions: none.
-/
set_option linter.all false
namespace Go.Proofs.YtjbfkdaodfdpcaaDoor
open Go.Pv

theorem truth (q : Prop) : ∃ b : Bool, b = true ↔ q := ⟨@decide q (Classical.propDecidable q), @decide_eq_true_iff q (Classical.propDecidable q)⟩
theorem thl_rng2 {n : Nat} {p : Nat → Bool} : ∀ x ∈ thl n p, ∃ a, a < n ∧ x = ((a : Nat) : Int) := fun x hx => by
  obtain ⟨a, h1, _, h3⟩ := mem_thl.1 hx
  exact ⟨a, h1, h3⟩
theorem conj_s {n e : Nat} {m : List Int} (h : GT n m n e) {x a : Nat} (hx : x < n) (ha : a < n) : FnC Tryd.prog 140 [gp n m, .int .i64 x, .int .i64 a] (.int .i64 (cjr n (op m n) e x a : Nat)) := by
  have G := h.2.2
  have ia := G.iv_lt ha
  refine fnc_of tab_ok Tryd.func140 rfl (by kernel_rfl) (by rw [Tryd.ntmps140]; exact Nat.le_add_left 3 _) ?_; rw [Tryd.ntmps140]
  refine qm ?_
  refine hk_region fun K hK => runs_eval tab_ok ?_
  simp only [ev0, evA, evB, evP, fl, gp, tab, simprocAttr, reduceCtorEq, reduceIte]
  refine fin_run ?_ (hK _ ?_) <;> clear hK <;> clear K
  · (first | exact trivial | omega | (simp only [In64] at *; omega) | (simp [In64] at *; omega) | (simp_all; done) | skip)
  refine qa (qm ?_)
  refine hk_draw mixed (by kernel_rfl) fun K hK => runs_eval tab_ok ?_
  simp only [ev0, evA, evB, evP, fl, gp, tab, simprocAttr, reduceCtorEq, reduceIte]
  refine fin_stop trivial (runs_call (invOf_c h ha) rfl rfl rfl (by simp only [dstOk, Nat.reduceLT]) (by repeat (first | exact trivial | constructor)) (runs_eval tab_ok ?_))
  simp only [ev0, evA, evB, evP, fl, gp, tab, simprocAttr, reduceCtorEq, reduceIte]
  refine fin_stop trivial (runs_call (of_c h.2.1 ia hx) rfl rfl rfl (by simp only [dstOk, Nat.reduceLT]) (by repeat (first | exact trivial | constructor)) (runs_eval tab_ok ?_))
  simp only [ev0, evA, evB, evP, fl, gp, tab, simprocAttr, reduceCtorEq, reduceIte]
  refine fin_stop trivial (runs_call (of_c h.2.1 (G.cl _ _ ia hx) ha) rfl rfl rfl (by simp only [dstOk, Nat.reduceLT]) (by repeat (first | exact trivial | constructor)) (runs_eval tab_ok ?_))
  simp only [ev0, evA, evB, evP, fl, gp, tab, simprocAttr, reduceCtorEq, reduceIte]
  refine fin_run ?_ (hK _ ?_) <;> clear hK <;> clear K
  · (first | exact trivial | omega | (simp only [In64] at *; omega) | (simp [In64] at *; omega) | (simp_all; done) | skip)
  refine qa (qk ?_)
  simp only [Tryd.results140, enA, ev0, evA, evB, evP, fl, gp, tab, simprocAttr, reduceCtorEq, reduceIte]
  all_goals (rfl)
theorem c_r {n e : Nat} {m : List Int} (h : GT n m n e) {x a : Nat} (hx : x < n) (ha : a < n) : FnC Tryd.prog 80 [gp n m, .int .i64 x, .int .i64 a] (.int .i64 (cjr n (op m n) e x a : Nat)) := by
  have G := h.2.2
  have ia := G.iv_lt ha
  refine fnc_of tab_ok Tryd.func80 rfl (by kernel_rfl) (by rw [Tryd.ntmps80]; exact Nat.le_add_left 3 _) ?_; rw [Tryd.ntmps80]
  refine qm ?_
  refine hk_region fun K hK => runs_eval tab_ok ?_
  simp only [ev0, evA, evB, evP, fl, gp, tab, simprocAttr, reduceCtorEq, reduceIte]
  refine fin_run ?_ (hK _ ?_) <;> clear hK <;> clear K
  · (first | exact trivial | omega | (simp only [In64] at *; omega) | (simp [In64] at *; omega) | (simp_all; done) | skip)
  refine qa (qm ?_)
  refine hk_draw mixed (by kernel_rfl) fun K hK => runs_eval tab_ok ?_
  simp only [ev0, evA, evB, evP, fl, gp, tab, simprocAttr, reduceCtorEq, reduceIte]
  refine fin_stop trivial (runs_call (i_c h.2.1 ha) rfl rfl rfl (by simp only [dstOk, Nat.reduceLT]) (by repeat (first | exact trivial | constructor)) (runs_eval tab_ok ?_))
  simp only [ev0, evA, evB, evP, fl, gp, tab, simprocAttr, reduceCtorEq, reduceIte, h.iI ha]
  refine fin_stop trivial (runs_call (m_c h.2.1 hx ha) rfl rfl rfl (by simp only [dstOk, Nat.reduceLT]) (by repeat (first | exact trivial | constructor)) (runs_eval tab_ok ?_))
  simp only [ev0, evA, evB, evP, fl, gp, tab, simprocAttr, reduceCtorEq, reduceIte]
  refine fin_stop trivial (runs_call (m_c h.2.1 ia (G.cl _ _ hx ha)) rfl rfl rfl (by simp only [dstOk, Nat.reduceLT]) (by repeat (first | exact trivial | constructor)) (runs_eval tab_ok ?_))
  simp only [ev0, evA, evB, evP, fl, gp, tab, simprocAttr, reduceCtorEq, reduceIte]
  refine fin_run ?_ (hK _ ?_) <;> clear hK <;> clear K
  · (first | exact trivial | omega | (simp only [In64] at *; omega) | (simp [In64] at *; omega) | (simp_all; done) | skip)
  refine qa (qk ?_)
  simp only [Tryd.results80, enA, ev0, evA, evB, evP, fl, gp, tab, simprocAttr, reduceCtorEq, reduceIte]
  all_goals (rw [G.cjr_alt hx ha])
theorem commOf_s {n e : Nat} {m : List Int} (h : GT n m n e) {a b : Nat} (ha : a < n) (hb : b < n) : FnC Tryd.prog 162 [gp n m, .int .i64 a, .int .i64 b] (.int .i64 (cmt n (op m n) e a b : Nat)) := by
  have G := h.2.2
  refine fnc_of tab_ok Tryd.func162 rfl (by kernel_rfl) (by rw [Tryd.ntmps162]; exact Nat.le_add_left 3 _) ?_; rw [Tryd.ntmps162]
  refine qm ?_
  refine hk_region fun K hK => runs_eval tab_ok ?_
  simp only [ev0, evA, evB, evP, fl, gp, tab, simprocAttr, reduceCtorEq, reduceIte]
  refine fin_run ?_ (hK _ ?_) <;> clear hK <;> clear K
  · (first | exact trivial | omega | (simp only [In64] at *; omega) | (simp [In64] at *; omega) | (simp_all; done) | skip)
  refine qa (qm ?_)
  refine hk_draw mixed (by kernel_rfl) fun K hK => runs_eval tab_ok ?_
  simp only [ev0, evA, evB, evP, fl, gp, tab, simprocAttr, reduceCtorEq, reduceIte]
  refine fin_stop trivial (runs_call (invOf_c h ha) rfl rfl rfl (by simp only [dstOk, Nat.reduceLT]) (by repeat (first | exact trivial | constructor)) (runs_eval tab_ok ?_))
  simp only [ev0, evA, evB, evP, fl, gp, tab, simprocAttr, reduceCtorEq, reduceIte]
  refine fin_stop trivial (runs_call (conj_s h ha hb) rfl rfl rfl (by simp only [dstOk, Nat.reduceLT]) (by repeat (first | exact trivial | constructor)) (runs_eval tab_ok ?_))
  simp only [ev0, evA, evB, evP, fl, gp, tab, simprocAttr, reduceCtorEq, reduceIte]
  refine fin_stop trivial (runs_call (of_c h.2.1 (G.iv_lt ha) (G.cjr_lt ha hb)) rfl rfl rfl (by simp only [dstOk, Nat.reduceLT]) (by repeat (first | exact trivial | constructor)) (runs_eval tab_ok ?_))
  simp only [ev0, evA, evB, evP, fl, gp, tab, simprocAttr, reduceCtorEq, reduceIte]
  refine fin_run ?_ (hK _ ?_) <;> clear hK <;> clear K
  · (first | exact trivial | omega | (simp only [In64] at *; omega) | (simp [In64] at *; omega) | (simp_all; done) | skip)
  refine qa (qk ?_)
  simp only [Tryd.results162, enA, ev0, evA, evB, evP, fl, gp, tab, simprocAttr, reduceCtorEq, reduceIte]
  all_goals (rw [G.cmt_alt ha hb])
/-! ### Commutators of two lists -/

def cmr (n : Nat) (f : Nat → Nat → Nat) (e : Nat) (a : Int) (lb : List Int) : List Int := lb.map fun b => ((cmt n f e a.toNat b.toNat : Nat) : Int)
def cml (n : Nat) (f : Nat → Nat → Nat) (e : Nat) (la lb : List Int) : List Int := la.flatMap fun a => cmr n f e a lb

theorem cml_succ (n : Nat) (f : Nat → Nat → Nat) (e : Nat) {la : List Int} (lb : List Int) {i : Nat} (hi : i < la.length) : cml n f e (la.take (i + 1)) lb = cml n f e (la.take i) lb ++ cmr n f e (la.getD i 0) lb := by
  unfold cml
  rw [List.take_succ_eq_append_getElem hi, List.flatMap_append]
  congr 1
  have : la[i] = la.getD i 0 := by simp [List.getD, List.getElem?_eq_getElem hi]
  rw [this]; simp
theorem cmr_succ (n : Nat) (f : Nat → Nat → Nat) (e : Nat) (a : Int) {lb : List Int} {j : Nat} (hj : j < lb.length) : cmr n f e a (lb.take (j + 1)) = cmr n f e a (lb.take j) ++ [((cmt n f e a.toNat (lb.getD j 0).toNat : Nat) : Int)] := by
  unfold cmr
  rw [List.take_succ_eq_append_getElem hj, List.map_append]
  have : lb[j] = lb.getD j 0 := by simp [List.getD, List.getElem?_eq_getElem hj]
  rw [this]; rfl
theorem mem_cml {n e : Nat} {f : Nat → Nat → Nat} {p r : Nat → Bool} {x : Int} : x ∈ cml n f e (thl n p) (thl n r) ↔ ∃ a b, a < n ∧ b < n ∧ p a = true ∧ r b = true ∧ x = ((cmt n f e a b : Nat) : Int) := by
  unfold cml cmr
  rw [List.mem_flatMap]
  constructor
  · rintro ⟨y, hy, hx⟩
    obtain ⟨z, hz, rfl⟩ := List.mem_map.1 hx
    obtain ⟨a, a1, a2, rfl⟩ := mem_thl.1 hy
    obtain ⟨b, b1, b2, rfl⟩ := mem_thl.1 hz
    exact ⟨a, b, a1, b1, a2, b2, by simp⟩
  · rintro ⟨a, b, a1, b1, a2, b2, rfl⟩
    exact ⟨(a : Int), (mem_thl_n a1).2 a2, List.mem_map.2 ⟨(b : Int), (mem_thl_n b1).2 b2, by simp⟩⟩
theorem cml_rng {n e : Nat} {f : Nat → Nat → Nat} (G : Grp n f e) {p r : Nat → Bool} : ∀ x ∈ cml n f e (thl n p) (thl n r), ∃ a, a < n ∧ x = ((a : Nat) : Int) := fun x hx => by
  obtain ⟨a, b, a1, b1, _, _, rfl⟩ := mem_cml.1 hx
  exact ⟨_, G.cmt_lt a1 b1, rfl⟩
/-- The bits of a list make what the list makes. -/
theorem gen_msk {n e : Nat} {f : Nat → Nat → Nat} {l : List Int} (hl : ∀ x ∈ l, ∃ a, a < n ∧ x = ((a : Nat) : Int)) {a : Nat} : Gen n f e (msk l).testBit a ↔ Gen n f e (tst l) a := by
  have key : ∀ b, (msk l).testBit b = tst l b := fun b => by
    rw [msk_bit]
    unfold tst
    refine decide_eq_decide.2 ⟨?_, fun h => ⟨_, h, by simp⟩⟩
    rintro ⟨x, hx, rfl⟩
    obtain ⟨c, _, rfl⟩ := hl x hx
    simpa using hx
  have : (msk l).testBit = tst l := funext key
  rw [this]

theorem derive_s {n e : Nat} {m : List Int} (h : GT n m n e) (p r q : Nat → Bool) (hq : ∀ a, a < n → (q a = true ↔ Gen n (op m n) e (tst (cml n (op m n) e (thl n p) (thl n r))) a)) :
    FnC Tryd.prog 131 [gp n m, .int .u64 (bo n p), .int .u64 (bo n r)] (.int .u64 (bo n q)) := by
  have G := h.2.2
  have hb := h.2.1.big
  have hlp := thl_le n p
  have hlr := thl_le n r
  refine fnc_of tab_ok Tryd.func131 rfl (by kernel_rfl) (by rw [Tryd.ntmps131]; exact Nat.le_add_left 3 _) ?_; rw [Tryd.ntmps131]
  refine qm ?_
  refine hk_region fun K hK => runs_eval tab_ok ?_
  simp only [ev0, evA, evB, evP, fl, gp, tab, simprocAttr, reduceCtorEq, reduceIte]
  refine fin_run ?_ (hK _ ?_) <;> clear hK <;> clear K
  · (first | exact trivial | omega | (simp only [In64] at *; omega) | (simp [In64] at *; omega) | (simp_all; done) | skip)
  refine qa (qm ?_)
  refine hk_region fun K hK => runs_eval tab_ok ?_
  simp only [ev0, evA, evB, evP, fl, gp, tab, simprocAttr, reduceCtorEq, reduceIte]
  refine fin_run trivial (hK _ ?_) <;> clear hK <;> clear K
  refine qa (qm (qm ?_))
  refine hk_region fun K hK => runs_eval tab_ok ?_
  simp only [ev0, evA, evB, evP, fl, gp, tab, simprocAttr, reduceCtorEq, reduceIte]
  refine fin_stop trivial (runs_call (list_s (bo n p) (bo_lt64 hb p)) rfl rfl rfl (by simp only [dstOk, Nat.reduceLT]) (by repeat (first | exact trivial | constructor)) (runs_eval tab_ok ?_))
  simp only [ev0, evA, evB, evP, fl, gp, tab, simprocAttr, reduceCtorEq, reduceIte, stl_bo hb, il_length]
  refine fin_run trivial (hK _ ?_) <;> clear hK <;> clear K
  refine qa (ql ?_)
  refine hk_loop (ι := Nat) (fun i => ⟨38, [(2, .p (.int .u64 (bo n r))), (3, .ptr 0 0), (7, .p (.int .u64 (msk (cml n (op m n) e ((thl n p).take i) (thl n r))))), (13, .p (.list (il (thl n p)))), (14, .p (.int .i64 (thl n p).length)), (15, .p (.int .i64 i))], [.own [.p (.int .i64 n), .p (.list (il m))]]⟩) (fun i => i ≤ (thl n p).length) (fun i => (thl n p).length - i) 0 (Nat.zero_le _) [0] (by simp only [leq, leA, ev0, evA, evB, evP, fl, gp, tab, simprocAttr, reduceCtorEq, reduceIte] <;> first | trivial | simp [cml, msk]) fun i hi => ?_
  refine qm ?_
  refine hk_region fun K hK => runs_eval tab_ok ?_
  simp only [ev0, evA, evB, evP, fl, gp, tab, simprocAttr, reduceCtorEq, reduceIte]
  refine fin_run trivial (hK _ ?_) <;> clear hK <;> clear K
  refine qa (qm ?_)
  refine hk_cond rfl (fun hC1 => ?_) (fun hC1 => ?_)
  · (try simp only [nhs] at hC1)
    have hlt : i < (thl n p).length := by omega
    obtain ⟨x, x1, x2, x3⟩ := thl_get hlt
    refine qh (qa (qm (ql (qm ?_))))
    refine hk_region fun K hK => runs_eval tab_ok ?_
    simp only [ev0, evA, evB, evP, fl, gp, tab, simprocAttr, reduceCtorEq, reduceIte, il_get hlt, x3]
    refine fin_run ?_ (hK _ ?_) <;> clear hK <;> clear K
    · (first | exact trivial | omega | (simp only [In64] at *; omega) | (simp [In64] at *; omega) | (simp_all; done) | skip)
    refine qa (qm ?_)
    refine hk_region fun K hK => runs_eval tab_ok ?_
    simp only [ev0, evA, evB, evP, fl, gp, tab, simprocAttr, reduceCtorEq, reduceIte]
    refine fin_stop trivial (runs_call (list_s (bo n r) (bo_lt64 hb r)) rfl rfl rfl (by simp only [dstOk, Nat.reduceLT]) (by repeat (first | exact trivial | constructor)) (runs_eval tab_ok ?_))
    simp only [ev0, evA, evB, evP, fl, gp, tab, simprocAttr, reduceCtorEq, reduceIte, stl_bo hb, il_length]
    refine fin_run trivial (hK _ ?_) <;> clear hK <;> clear K
    refine qa (ql ?_)
    refine hk_loop (ι := Nat) (fun j => ⟨38, [(2, .p (.int .u64 (bo n r))), (3, .ptr 0 0), (7, .p (.int .u64 (msk (cml n (op m n) e ((thl n p).take i) (thl n r) ++ cmr n (op m n) e x ((thl n r).take j))))), (9, .p (.int .i64 x)), (13, .p (.list (il (thl n p)))), (14, .p (.int .i64 (thl n p).length)), (15, .p (.int .i64 i)), (20, .p (.list (il (thl n r)))), (21, .p (.int .i64 (thl n r).length)), (22, .p (.int .i64 j))], [.own [.p (.int .i64 n), .p (.list (il m))]]⟩) (fun j => j ≤ (thl n r).length) (fun j => (thl n r).length - j) 0 (Nat.zero_le _) [0] (by simp only [leq, leA, ev0, evA, evB, evP, fl, gp, tab, simprocAttr, reduceCtorEq, reduceIte] <;> first | trivial | simp [cmr]) fun j hj => ?_
    refine qm ?_
    refine hk_region fun K hK => runs_eval tab_ok ?_
    simp only [ev0, evA, evB, evP, fl, gp, tab, simprocAttr, reduceCtorEq, reduceIte]
    refine fin_run trivial (hK _ ?_) <;> clear hK <;> clear K
    refine qa (qm ?_)
    refine hk_cond rfl (fun hC2 => ?_) (fun hC2 => ?_)
    · (try simp only [nhs] at hC2)
      have hjl : j < (thl n r).length := by omega
      obtain ⟨y, y1, y2, y3⟩ := thl_get hjl
      have hc := G.cmt_lt x1 y1
      have hp := pow_lt64 (b := cmt n (op m n) e x y) (by omega)
      have hall : ∀ z ∈ cml n (op m n) e ((thl n p).take i) (thl n r) ++ cmr n (op m n) e x ((thl n r).take j), z.toNat < n := fun z hz => by
        rcases List.mem_append.1 hz with hz | hz
        · obtain ⟨u, hu, hv⟩ := List.mem_flatMap.1 hz
          obtain ⟨w, hw, rfl⟩ := List.mem_map.1 hv
          obtain ⟨u', u1, u2⟩ := thl_rng2 u (List.mem_of_mem_take hu)
          obtain ⟨w', w1, w2⟩ := thl_rng2 w hw
          subst u2; subst w2
          exact G.cmt_lt u1 w1
        · obtain ⟨w, hw, rfl⟩ := List.mem_map.1 hz
          obtain ⟨w', w1, w2⟩ := thl_rng2 w (List.mem_of_mem_take hw)
          subst w2
          exact G.cmt_lt x1 w1
      have hm := lt64 hb (msk_lt hall)
      refine qh (qa (qm (ql (qm ?_))))
      refine hk_region fun K hK => runs_eval tab_ok ?_
      simp only [ev0, evA, evB, evP, fl, gp, tab, simprocAttr, reduceCtorEq, reduceIte, il_get hjl, y3]
      refine fin_run ?_ (hK _ ?_) <;> clear hK <;> clear K
      · (first | exact trivial | omega | (simp only [In64] at *; omega) | (simp [In64] at *; omega) | (simp_all; done) | skip)
      refine qa ?_
      refine hk_region fun K hK => runs_eval tab_ok ?_
      simp only [ev0, evA, evB, evP, fl, gp, tab, simprocAttr, reduceCtorEq, reduceIte]
      refine fin_stop trivial (runs_call (commOf_s h x1 y1) rfl rfl rfl (by simp only [dstOk, Nat.reduceLT]) (by repeat (first | exact trivial | constructor)) (runs_eval tab_ok ?_))
      simp only [ev0, evA, evB, evP, fl, gp, tab, simprocAttr, reduceCtorEq, reduceIte, shl_one (show cmt n (op m n) e x y < 64 by omega), bv_or hm hp]
      refine fin_run ?_ (hK _ ?_) <;> clear hK <;> clear K
      · (first | exact trivial | omega | (simp only [In64] at *; omega) | (simp [In64] at *; omega) | (simp_all; done) | skip)
      refine qd (qa ?_)
      refine hk_region fun K hK => runs_eval tab_ok ?_
      simp only [ev0, evA, evB, evP, fl, gp, tab, simprocAttr, reduceCtorEq, reduceIte]
      refine fin_run ?_ (hK _ ?_) <;> clear hK <;> clear K
      · (first | exact trivial | omega | (simp only [In64] at *; omega) | (simp [In64] at *; omega) | (simp_all; done) | skip)
      refine qa ?_
      refine ⟨j + 1, [0], by omega, by omega, ?_⟩
      rw [cmr_succ n (op m n) e x hjl, ← List.append_assoc, msk_snoc, y3]
      simp only [leq, leA, ev0, evA, evB, evP, fl, gp, tab, simprocAttr, reduceCtorEq, reduceIte] <;> first | trivial | omega
    · (try simp only [nhs] at hC2)
      have hjn : j = (thl n r).length := by omega
      rw [hjn, List.take_length]
      refine qj (qc (qc (qf (qd (qa ?_)))))
      refine hk_region fun K hK => runs_eval tab_ok ?_
      simp only [ev0, evA, evB, evP, fl, gp, tab, simprocAttr, reduceCtorEq, reduceIte]
      refine fin_run ?_ (hK _ ?_) <;> clear hK <;> clear K
      · (first | exact trivial | omega | (simp only [In64] at *; omega) | (simp [In64] at *; omega) | (simp_all; done) | skip)
      refine qa ?_
      refine ⟨i + 1, [0], by omega, by omega, ?_⟩
      rw [cml_succ n (op m n) e (thl n r) hlt, x3]
      simp only [leq, leA, ev0, evA, evB, evP, fl, gp, tab, simprocAttr, reduceCtorEq, reduceIte] <;> first | trivial | omega
  · (try simp only [nhs] at hC1)
    have hin : i = (thl n p).length := by omega
    rw [hin, List.take_length]
    refine qj (qc (qc (qf (qa (qm ?_)))))
    refine hk_region fun K hK => runs_eval tab_ok ?_
    simp only [ev0, evA, evB, evP, fl, gp, tab, simprocAttr, reduceCtorEq, reduceIte]
    refine fin_stop trivial (runs_call (grow_c h (msk (cml n (op m n) e (thl n p) (thl n r))) (msk_lt fun z hz => by obtain ⟨a, a1, rfl⟩ := cml_rng G z hz; simpa using a1) q (fun a ha => by rw [gen_msk (cml_rng G)]; exact hq a ha)) rfl rfl rfl (by simp only [dstOk, Nat.reduceLT]) (by repeat (first | exact trivial | constructor)) (runs_eval tab_ok ?_))
    simp only [ev0, evA, evB, evP, fl, gp, tab, simprocAttr, reduceCtorEq, reduceIte]
    refine fin_run ?_ (hK _ ?_) <;> clear hK <;> clear K
    · (first | exact trivial | omega | (simp only [In64] at *; omega) | (simp [In64] at *; omega) | (simp_all; done) | skip)
    refine qa (qk ?_)
    simp only [Tryd.results131, enA, ev0, evA, evB, evP, fl, gp, tab, simprocAttr, reduceCtorEq, reduceIte]
    all_goals (rfl)

/-! ### Small words -/

theorem parted_r (n : Nat) (p q : Nat → Bool) (hn : n ≤ 60) (b : Bool) (hb : b = true ↔ ∀ a, a < n → p a = true → q a = true) : FnC Tryd.prog 36 [.list (il (thl n p)), .list (il (thl n q))] (.bool b) := by
  have hlp := thl_le n p
  have hlq := thl_le n q
  refine fnc_of tab_ok Tryd.func36 rfl (by kernel_rfl) (by rw [Tryd.ntmps36]; exact Nat.le_add_left 2 _) ?_; rw [Tryd.ntmps36]
  refine qm ?_
  refine hk_region fun K hK => runs_eval tab_ok ?_
  simp only [ev0, evA, evB, evP, fl, gp, tab, simprocAttr, reduceCtorEq, reduceIte]
  refine fin_run trivial (hK _ ?_) <;> clear hK <;> clear K
  refine qa (qm (qm ?_))
  refine hk_region fun K hK => runs_eval tab_ok ?_
  simp only [ev0, evA, evB, evP, fl, gp, tab, simprocAttr, reduceCtorEq, reduceIte]
  refine fin_run trivial (hK _ ?_) <;> clear hK <;> clear K
  refine qa (ql ?_)
  refine hk_loop (ι := Nat) (fun i => ⟨19, [(0, .p (.list (il (thl n p)))), (1, .p (.list (il (thl n q)))), (5, .p (.int .i64 i))], []⟩) (fun i => i ≤ (thl n p).length ∧ ∀ j, j < i → q ((thl n p).getD j 0).toNat = true) (fun i => (thl n p).length - i) 0 ⟨Nat.zero_le _, fun j hj => by omega⟩ [] (by simp only [leq, leA, ev0, evA, evB, evP, fl, gp, tab, simprocAttr, reduceCtorEq, reduceIte] <;> trivial) fun i hi => ?_
  obtain ⟨hi1, hi2⟩ := hi
  refine qm (qm ?_)
  refine hk_region fun K hK => runs_eval tab_ok ?_
  simp only [ev0, evA, evB, evP, fl, gp, tab, simprocAttr, reduceCtorEq, reduceIte]
  refine fin_run trivial (hK _ ?_) <;> clear hK <;> clear K
  refine qa ?_
  refine hk_cond rfl (fun hC1 => ?_) (fun hC1 => ?_)
  · (try simp only [nhs] at hC1)
    have hlt : i < (thl n p).length := by omega
    obtain ⟨x, x1, x2, x3⟩ := thl_get hlt
    refine qh (qa (qm (ql (qm ?_))))
    refine hk_region fun K hK => runs_eval tab_ok ?_
    simp only [ev0, evA, evB, evP, fl, gp, tab, simprocAttr, reduceCtorEq, reduceIte, il_get hlt, x3]
    refine fin_stop ?_ (runs_call (has_r (thl n q) x (by omega)) rfl rfl rfl (by simp only [dstOk, Nat.reduceLT]) (by repeat (first | exact trivial | constructor)) (runs_eval tab_ok ?_))
    · (first | exact trivial | omega | (simp only [In64] at *; omega) | (simp [In64] at *; omega) | (simp_all; done) | skip)
    simp only [ev0, evA, evB, evP, fl, gp, tab, simprocAttr, reduceCtorEq, reduceIte, il_get hlt, x3]
    refine fin_run ?_ (hK _ ?_) <;> clear hK <;> clear K
    · (first | exact trivial | omega | (simp only [In64] at *; omega) | (simp [In64] at *; omega) | (simp_all; done) | skip)
    refine qa ?_
    refine hk_cond rfl (fun hC2 => ?_) (fun hC2 => ?_)
    · (try simp only [nhs] at hC2)
      refine qm ?_
      refine hk_region fun K hK => runs_eval tab_ok ?_
      simp only [ev0, evA, evB, evP, fl, gp, tab, simprocAttr, reduceCtorEq, reduceIte]
      refine fin_run trivial (hK _ ?_) <;> clear hK <;> clear K
      refine qa (qk (qe (qb (qb (qe (qb ?_))))))
      simp only [Tryd.results36, enA, ev0, evA, evB, evP, fl, gp, tab, simprocAttr, reduceCtorEq, reduceIte]
      cases b with
      | false => rfl
      | true => exact absurd ((mem_thl_n x1).2 (hb.1 rfl x x1 x2)) (by simpa using hC2)
    · (try simp only [nhs] at hC2)
      have hx : q x = true := (mem_thl_n x1).1 hC2
      refine qh (qd (qa ?_))
      refine hk_region fun K hK => runs_eval tab_ok ?_
      simp only [ev0, evA, evB, evP, fl, gp, tab, simprocAttr, reduceCtorEq, reduceIte]
      refine fin_run ?_ (hK _ ?_) <;> clear hK <;> clear K
      · (first | exact trivial | omega | (simp only [In64] at *; omega) | (simp [In64] at *; omega) | (simp_all; done) | skip)
      refine qa ?_
      refine ⟨i + 1, [], ⟨by omega, fun j hj => ?_⟩, by omega, ?_⟩
      · by_cases hj2 : j = i
        · subst hj2; rw [x3, Int.toNat_natCast]; exact hx
        · exact hi2 j (by omega)
      · simp only [leq, leA, ev0, evA, evB, evP, fl, gp, tab, simprocAttr, reduceCtorEq, reduceIte] <;> omega
  · (try simp only [nhs] at hC1)
    refine qj (qc (qc (qf (qa (qm ?_)))))
    refine hk_region fun K hK => runs_eval tab_ok ?_
    simp only [ev0, evA, evB, evP, fl, gp, tab, simprocAttr, reduceCtorEq, reduceIte]
    refine fin_run trivial (hK _ ?_) <;> clear hK <;> clear K
    refine qa (qk ?_)
    simp only [Tryd.results36, enA, ev0, evA, evB, evP, fl, gp, tab, simprocAttr, reduceCtorEq, reduceIte]
    rw [eq_comm, hb]
    intro a ha h1
    obtain ⟨j, j1, j2⟩ := thl_at ha h1
    have := hi2 j (by omega)
    rwa [j2, Int.toNat_natCast] at this
end Go.Proofs.YtjbfkdaodfdpcaaDoor

/-
  Subgroups, conjugated: Moved, Normaliser, Normal, Core, Closure, and what the document has. Conditions: none.
-/
set_option linter.all false
namespace Go.Proofs.YtjbfkdaodfdpcaaDoor
open Go.Pv

/-- The fault of a set that is, or is not, a subgroup. -/
def ufb (b : Bool) : Int × Int := bif b then (0, 0) else (7, 0)

/-- A group and a subgroup; a group and a set; a fault. -/
theorem sub3 (N : Int) (m l : List Int) : (∃ n e p, GT N m n e ∧ N = (n : Nat) ∧ l = thl n p ∧ Sub n (op m n) e p) ∨ (∃ n e p, GT N m n e ∧ N = (n : Nat) ∧ l = thl n p ∧ ¬ Sub n (op m n) e p) ∨ ¬ (sf N m l).1 = 0 := by
  by_cases hf : (sf N m l).1 = 0
  · obtain ⟨n, e, h, rfl, hl2, hs⟩ := sf_ok hf
    by_cases hsub : Sub n (op m n) e (tst l)
    · exact .inl ⟨n, e, tst l, h, rfl, hl2, hsub⟩
    · exact .inr (.inl ⟨n, e, tst l, h, rfl, hl2, hsub⟩)
  · exact .inr (.inr hf)

theorem group_ok {n e : Nat} {m : List Int} (h : GT n m n e) (p : Nat → Bool) (b : Bool) (hbs : b = true ↔ Sub n (op m n) e p) : FnC Tryd.prog 89 [gp n m, .list (il (thl n p))] (fl (ufb b)) := by
  refine fnc_of tab_ok Tryd.func89 rfl (by kernel_rfl) (by rw [Tryd.ntmps89]; exact Nat.le_add_left 2 _) ?_; rw [Tryd.ntmps89]
  refine qm ?_
  refine hk_region fun K hK => runs_eval tab_ok ?_
  simp only [ev0, evA, evB, evP, fl, gp, tab, simprocAttr, reduceCtorEq, reduceIte]
  refine fin_run ?_ (hK _ ?_) <;> clear hK <;> clear K
  · (first | exact trivial | omega | (simp only [In64] at *; omega) | (simp [In64] at *; omega) | (simp_all; done) | skip)
  refine qa (qm ?_)
  refine hk_region fun K hK => runs_eval tab_ok ?_
  simp only [ev0, evA, evB, evP, fl, gp, tab, simprocAttr, reduceCtorEq, reduceIte]
  refine fin_stop trivial (runs_call (is_ok h p b hbs) rfl rfl rfl (by simp only [dstOk, Nat.reduceLT]) (by repeat (first | exact trivial | constructor)) (runs_eval tab_ok ?_))
  simp only [ev0, evA, evB, evP, fl, gp, tab, simprocAttr, reduceCtorEq, reduceIte]
  refine fin_run ?_ (hK _ ?_) <;> clear hK <;> clear K
  · (first | exact trivial | omega | (simp only [In64] at *; omega) | (simp [In64] at *; omega) | (simp_all; done) | skip)
  refine qa (qm (qm ?_))
  refine hk_region fun K hK => runs_eval tab_ok ?_
  simp only [ev0, evA, evB, evP, fl, gp, tab, simprocAttr, reduceCtorEq, reduceIte]
  refine fin_run ?_ (hK _ ?_) <;> clear hK <;> clear K
  · (first | exact trivial | omega | (simp only [In64] at *; omega) | (simp [In64] at *; omega) | (simp_all; done) | skip)
  refine qa ?_
  refine hk_cond rfl (fun hC1 => ?_) (fun hC1 => ?_)
  · (try simp only [nhs] at hC1)
    have hbf : b = false := by simpa using hC1
    refine qm ?_
    refine hk_region fun K hK => runs_eval tab_ok ?_
    simp only [ev0, evA, evB, evP, fl, gp, tab, simprocAttr, reduceCtorEq, reduceIte]
    refine fin_stop trivial (runs_call (sfault_c 7 0) rfl rfl rfl (by simp only [dstOk, Nat.reduceLT]) (by repeat (first | exact trivial | constructor)) (runs_eval tab_ok ?_))
    simp only [ev0, evA, evB, evP, fl, gp, tab, simprocAttr, reduceCtorEq, reduceIte]
    refine fin_run ?_ (hK _ ?_) <;> clear hK <;> clear K
    · (first | exact trivial | omega | (simp only [In64] at *; omega) | (simp [In64] at *; omega) | (simp_all; done) | skip)
    refine qa (qk (qb ?_))
    simp only [Tryd.results89, enA, ev0, evA, evB, evP, fl, gp, tab, simprocAttr, reduceCtorEq, reduceIte]
    all_goals (rw [hbf]; exact ⟨rfl, rfl⟩)
  · (try simp only [nhs] at hC1)
    have hbt : b = true := by simpa using hC1
    refine qh (qa (qm ?_))
    refine hk_region fun K hK => runs_eval tab_ok ?_
    simp only [ev0, evA, evB, evP, fl, gp, tab, simprocAttr, reduceCtorEq, reduceIte]
    refine fin_run ?_ (hK _ ?_) <;> clear hK <;> clear K
    · (first | exact trivial | omega | (simp only [In64] at *; omega) | (simp [In64] at *; omega) | (simp_all; done) | skip)
    refine qa (qk ?_)
    simp only [Tryd.results89, enA, ev0, evA, evB, evP, fl, gp, tab, simprocAttr, reduceCtorEq, reduceIte]
    all_goals (rw [hbt]; exact ⟨rfl, rfl⟩)
/-! ### A set, conjugated -/

def cjl (n : Nat) (f : Nat → Nat → Nat) (e a : Nat) (l : List Int) : List Int := l.map fun x => ((cjr n f e x.toNat a : Nat) : Int)
theorem cjl_succ (n : Nat) (f : Nat → Nat → Nat) (e a : Nat) {l : List Int} {i : Nat} (hi : i < l.length) : cjl n f e a (l.take (i + 1)) = cjl n f e a (l.take i) ++ [((cjr n f e (l.getD i 0).toNat a : Nat) : Int)] := by
  unfold cjl
  rw [List.take_succ_eq_append_getElem hi, List.map_append]
  have : l[i] = l.getD i 0 := by simp [List.getD, List.getElem?_eq_getElem hi]
  rw [this]; rfl
theorem mem_cjl {n e a : Nat} {f : Nat → Nat → Nat} {p : Nat → Bool} {x : Int} : x ∈ cjl n f e a (thl n p) ↔ ∃ y, y < n ∧ p y = true ∧ x = ((cjr n f e y a : Nat) : Int) := by
  unfold cjl
  rw [List.mem_map]
  constructor
  · rintro ⟨z, hz, rfl⟩
    obtain ⟨y, y1, y2, rfl⟩ := mem_thl.1 hz
    exact ⟨y, y1, y2, by simp⟩
  · rintro ⟨y, y1, y2, rfl⟩
    exact ⟨_, (mem_thl_n y1).2 y2, by simp⟩
theorem msk_cjl {n e a : Nat} {f : Nat → Nat → Nat} (G : Grp n f e) (p : Nat → Bool) (ha : a < n) : msk (cjl n f e a (thl n p)) = bo n (shf n f e p a) := by
  refine Nat.eq_of_testBit_eq fun i => ?_
  rw [msk_bit, bo_bit, Bool.eq_iff_iff, decide_eq_true_eq, Bool.and_eq_true, decide_eq_true_eq, shf_iff]
  constructor
  · rintro ⟨x, hx, rfl⟩
    obtain ⟨y, y1, y2, rfl⟩ := mem_cjl.1 hx
    exact ⟨by simpa using G.cjr_lt y1 ha, y, y1, y2, by simp⟩
  · rintro ⟨_, y, y1, y2, rfl⟩
    exact ⟨_, mem_cjl.2 ⟨y, y1, y2, rfl⟩, by simp⟩

theorem moved_s {n e : Nat} {m : List Int} (h : GT n m n e) (p : Nat → Bool) {a : Nat} (ha : a < n) : FnC Tryd.prog 86 [gp n m, .int .u64 (bo n p), .int .i64 a] (.int .u64 (bo n (shf n (op m n) e p a))) := by
  have G := h.2.2
  have hb := h.2.1.big
  have hlp := thl_le n p
  refine fnc_of tab_ok Tryd.func86 rfl (by kernel_rfl) (by rw [Tryd.ntmps86]; exact Nat.le_add_left 3 _) ?_; rw [Tryd.ntmps86]
  refine qm ?_
  refine hk_region fun K hK => runs_eval tab_ok ?_
  simp only [ev0, evA, evB, evP, fl, gp, tab, simprocAttr, reduceCtorEq, reduceIte]
  refine fin_run ?_ (hK _ ?_) <;> clear hK <;> clear K
  · (first | exact trivial | omega | (simp only [In64] at *; omega) | (simp [In64] at *; omega) | (simp_all; done) | skip)
  refine qa (qm ?_)
  refine hk_region fun K hK => runs_eval tab_ok ?_
  simp only [ev0, evA, evB, evP, fl, gp, tab, simprocAttr, reduceCtorEq, reduceIte]
  refine fin_run trivial (hK _ ?_) <;> clear hK <;> clear K
  refine qa (qm (qm ?_))
  refine hk_region fun K hK => runs_eval tab_ok ?_
  simp only [ev0, evA, evB, evP, fl, gp, tab, simprocAttr, reduceCtorEq, reduceIte]
  refine fin_stop trivial (runs_call (list_s (bo n p) (bo_lt64 hb p)) rfl rfl rfl (by simp only [dstOk, Nat.reduceLT]) (by repeat (first | exact trivial | constructor)) (runs_eval tab_ok ?_))
  simp only [ev0, evA, evB, evP, fl, gp, tab, simprocAttr, reduceCtorEq, reduceIte, stl_bo hb, il_length]
  refine fin_run trivial (hK _ ?_) <;> clear hK <;> clear K
  refine qa (ql ?_)
  refine hk_loop (ι := Nat) (fun i => ⟨26, [(2, .p (.int .i64 a)), (3, .ptr 0 0), (7, .p (.int .u64 (msk (cjl n (op m n) e a ((thl n p).take i))))), (11, .p (.list (il (thl n p)))), (12, .p (.int .i64 (thl n p).length)), (13, .p (.int .i64 i))], [.own [.p (.int .i64 n), .p (.list (il m))]]⟩) (fun i => i ≤ (thl n p).length) (fun i => (thl n p).length - i) 0 (Nat.zero_le _) [0] (by simp only [leq, leA, ev0, evA, evB, evP, fl, gp, tab, simprocAttr, reduceCtorEq, reduceIte] <;> first | trivial | simp [cjl, msk]) fun i hi => ?_
  refine qm ?_
  refine hk_region fun K hK => runs_eval tab_ok ?_
  simp only [ev0, evA, evB, evP, fl, gp, tab, simprocAttr, reduceCtorEq, reduceIte]
  refine fin_run trivial (hK _ ?_) <;> clear hK <;> clear K
  refine qa (qm ?_)
  refine hk_cond rfl (fun hC1 => ?_) (fun hC1 => ?_)
  · (try simp only [nhs] at hC1)
    have hlt : i < (thl n p).length := by omega
    obtain ⟨x, x1, x2, x3⟩ := thl_get hlt
    have hc := G.cjr_lt x1 ha
    have hp := pow_lt64 (b := cjr n (op m n) e x a) (by omega)
    have hall : ∀ z ∈ cjl n (op m n) e a ((thl n p).take i), z.toNat < n := fun z hz => by
      obtain ⟨w, hw, rfl⟩ := List.mem_map.1 hz
      obtain ⟨w', w1, w2⟩ := thl_rng2 w (List.mem_of_mem_take hw)
      subst w2
      exact G.cjr_lt w1 ha
    have hm := lt64 hb (msk_lt hall)
    refine qh (qa (qm (ql (qm ?_))))
    refine hk_region fun K hK => runs_eval tab_ok ?_
    simp only [ev0, evA, evB, evP, fl, gp, tab, simprocAttr, reduceCtorEq, reduceIte, il_get hlt, x3]
    refine fin_run ?_ (hK _ ?_) <;> clear hK <;> clear K
    · (first | exact trivial | omega | (simp only [In64] at *; omega) | (simp [In64] at *; omega) | (simp_all; done) | skip)
    refine qa ?_
    refine hk_region fun K hK => runs_eval tab_ok ?_
    simp only [ev0, evA, evB, evP, fl, gp, tab, simprocAttr, reduceCtorEq, reduceIte]
    refine fin_stop trivial (runs_call (conj_s h x1 ha) rfl rfl rfl (by simp only [dstOk, Nat.reduceLT]) (by repeat (first | exact trivial | constructor)) (runs_eval tab_ok ?_))
    simp only [ev0, evA, evB, evP, fl, gp, tab, simprocAttr, reduceCtorEq, reduceIte, shl_one (show cjr n (op m n) e x a < 64 by omega), bv_or hm hp]
    refine fin_run ?_ (hK _ ?_) <;> clear hK <;> clear K
    · (first | exact trivial | omega | (simp only [In64] at *; omega) | (simp [In64] at *; omega) | (simp_all; done) | skip)
    refine qd (qa ?_)
    refine hk_region fun K hK => runs_eval tab_ok ?_
    simp only [ev0, evA, evB, evP, fl, gp, tab, simprocAttr, reduceCtorEq, reduceIte]
    refine fin_run ?_ (hK _ ?_) <;> clear hK <;> clear K
    · (first | exact trivial | omega | (simp only [In64] at *; omega) | (simp [In64] at *; omega) | (simp_all; done) | skip)
    refine qa ?_
    refine ⟨i + 1, [0], by omega, by omega, ?_⟩
    rw [cjl_succ n (op m n) e a hlt, msk_snoc, x3]
    simp only [leq, leA, ev0, evA, evB, evP, fl, gp, tab, simprocAttr, reduceCtorEq, reduceIte] <;> first | trivial | omega
  · (try simp only [nhs] at hC1)
    have hin : i = (thl n p).length := by omega
    rw [hin, List.take_length, msk_cjl G p ha]
    refine qj (qc (qc (qf (qa (qm ?_)))))
    refine hk_region fun K hK => runs_eval tab_ok ?_
    simp only [ev0, evA, evB, evP, fl, gp, tab, simprocAttr, reduceCtorEq, reduceIte]
    refine fin_run trivial (hK _ ?_) <;> clear hK <;> clear K
    refine qa (qk ?_)
    simp only [Tryd.results86, enA, ev0, evA, evB, evP, fl, gp, tab, simprocAttr, reduceCtorEq, reduceIte]
    all_goals (rfl)

theorem normaliser1_c {n e : Nat} {m : List Int} (h : GT n m n e) (p : Nat → Bool) {a : Nat} (ha : a < n) : FnC Tryd.prog 146 [.int .i64 a, .ptr [.int .i64 n, .list (il m)], .ptr [.list (il (thl n p))]] (.bool (nzr n (op m n) e p a)) := by
  have hb := h.2.1.big
  have hlp := thl_le n p
  have hz : decide ((bo n (shf n (op m n) e p a) : Int) = (bo n p : Int)) = nzr n (op m n) e p a := by
    rw [Bool.eq_iff_iff, decide_eq_true_eq, nzr_iff]
    exact ⟨fun he y hy => bo_inj (by omega) hy, fun he => by rw [bo_congr he]⟩
  refine fnc_of tab_ok Tryd.func146 rfl (by kernel_rfl) (by rw [Tryd.ntmps146]; exact Nat.le_add_left 3 _) ?_; rw [Tryd.ntmps146]
  refine qm ?_
  refine hk_region fun K hK => runs_eval tab_ok ?_
  simp only [ev0, evA, evB, evP, fl, gp, tab, simprocAttr, reduceCtorEq, reduceIte]
  refine fin_run trivial (hK _ ?_) <;> clear hK <;> clear K
  refine qa (qm ?_)
  refine hk_draw mixed (by kernel_rfl) fun K hK => runs_eval tab_ok ?_
  simp only [ev0, evA, evB, evP, fl, gp, tab, simprocAttr, reduceCtorEq, reduceIte]
  refine fin_stop trivial (runs_call (of_s (thl n p) (by omega) (thl_rng hb p)) rfl rfl rfl (by simp only [dstOk, Nat.reduceLT]) (by repeat (first | exact trivial | constructor)) (runs_eval tab_ok ?_))
  simp only [ev0, evA, evB, evP, fl, gp, tab, simprocAttr, reduceCtorEq, reduceIte, msk_thl]
  refine fin_stop trivial (runs_call (moved_s h p ha) rfl rfl rfl (by simp only [dstOk, Nat.reduceLT]) (by repeat (first | exact trivial | constructor)) (runs_eval tab_ok ?_))
  simp only [ev0, evA, evB, evP, fl, gp, tab, simprocAttr, reduceCtorEq, reduceIte]
  refine fin_stop trivial (runs_call (of_s (thl n p) (by omega) (thl_rng hb p)) rfl rfl rfl (by simp only [dstOk, Nat.reduceLT]) (by repeat (first | exact trivial | constructor)) (runs_eval tab_ok ?_))
  simp only [ev0, evA, evB, evP, fl, gp, tab, simprocAttr, reduceCtorEq, reduceIte]
  refine fin_run ?_ (hK _ ?_) <;> clear hK <;> clear K
  · (first | exact trivial | omega | (simp only [In64] at *; omega) | (simp [In64] at *; omega) | (simp_all; done) | skip)
  refine qa (qk ?_)
  simp only [Tryd.results146, enA, ev0, evA, evB, evP, fl, gp, tab, simprocAttr, reduceCtorEq, reduceIte]
  all_goals (exact hz)
theorem normaliser_ok {n e : Nat} {m : List Int} (h : GT n m n e) (p : Nat → Bool) (hs : Sub n (op m n) e p) : FnC Tryd.prog 99 [gp n m, .list (il (thl n p))] (.tup [.list (il (thl n (nzr n (op m n) e p))), fl (0, 0)]) := by
  have hb := h.2.1.big
  refine fnc_of tab_ok Tryd.func99 rfl (by kernel_rfl) (by rw [Tryd.ntmps99]; exact Nat.le_add_left 2 _) ?_; rw [Tryd.ntmps99]
  refine qm ?_
  refine hk_region fun K hK => runs_eval tab_ok ?_
  simp only [ev0, evA, evB, evP, fl, gp, tab, simprocAttr, reduceCtorEq, reduceIte]
  refine fin_run ?_ (hK _ ?_) <;> clear hK <;> clear K
  · (first | exact trivial | omega | (simp only [In64] at *; omega) | (simp [In64] at *; omega) | (simp_all; done) | skip)
  refine qa (qm (qm ?_))
  refine hk_region fun K hK => runs_eval tab_ok ?_
  simp only [ev0, evA, evB, evP, fl, gp, tab, simprocAttr, reduceCtorEq, reduceIte]
  refine fin_stop trivial (runs_call (group_ok h p true (by simp [hs])) rfl rfl rfl (by simp only [dstOk, Nat.reduceLT]) (by repeat (first | exact trivial | constructor)) (runs_eval tab_ok ?_))
  simp only [ev0, evA, evB, evP, fl, gp, tab, simprocAttr, reduceCtorEq, reduceIte, ufb]
  refine fin_run ?_ (hK _ ?_) <;> clear hK <;> clear K
  · (first | exact trivial | omega | (simp only [In64] at *; omega) | (simp [In64] at *; omega) | (simp_all; done) | skip)
  refine qa (qm ?_)
  refine hk_region fun K hK => runs_eval tab_ok ?_
  simp only [ev0, evA, evB, evP, fl, gp, tab, simprocAttr, reduceCtorEq, reduceIte]
  refine fin_run ?_ (hK _ ?_) <;> clear hK <;> clear K
  · (first | exact trivial | omega | (simp only [In64] at *; omega) | (simp [In64] at *; omega) | (simp_all; done) | skip)
  refine qa ?_
  refine hk_cond rfl (fun hC1 => ?_) (fun hC1 => ?_)
  · cases hC1
  · (try simp only [nhs] at hC1)
    refine qh (qa (qm ?_))
    refine hk_freeze 0 rfl rfl ?_
    refine hk_freeze 1 rfl rfl ?_
    simp only [hset]
    refine hk_region fun K hK => runs_eval tab_ok ?_
    simp only [ev0, evA, evB, evP, fl, gp, tab, simprocAttr, reduceCtorEq, reduceIte]
    refine fin_stop trivial (runs_call (choose_c n m _ _ (nzr n (op m n) e p) (by omega) (fun a ha => normaliser1_c h p ha)) rfl rfl rfl (by simp only [dstOk, Nat.reduceLT]) (by repeat (first | exact trivial | constructor)) (runs_eval tab_ok ?_))
    simp only [ev0, evA, evB, evP, fl, gp, tab, simprocAttr, reduceCtorEq, reduceIte]
    refine fin_run ?_ (hK _ ?_) <;> clear hK <;> clear K
    · (first | exact trivial | omega | (simp only [In64] at *; omega) | (simp [In64] at *; omega) | (simp_all; done) | skip)
    refine qa (qk ?_)
    simp only [Tryd.results99, enA, ev0, evA, evB, evP, fl, gp, tab, simprocAttr, reduceCtorEq, reduceIte]
    all_goals ((first | exact rfl | exact ⟨rfl, rfl⟩ | exact ⟨rfl, rfl, rfl⟩ | exact ⟨trivial, rfl⟩ | exact ⟨Nat.le_refl _, rfl⟩ | trivial | (simp; done)))
theorem normal_ok {n e : Nat} {m : List Int} (h : GT n m n e) (p : Nat → Bool) (hs : Sub n (op m n) e p) (b : Bool) (hb' : b = true ↔ Nml n (op m n) e p) : FnC Tryd.prog 35 [gp n m, .list (il (thl n p))] (.tup [.bool b, fl (0, 0)]) := by
  have hb := h.2.1.big
  have hl := thl_le n (nzr n (op m n) e p)
  have hz : decide (((thl n (nzr n (op m n) e p)).length : Int) = (n : Int)) = b := by
    rw [Bool.eq_iff_iff, decide_eq_true_eq, hb', h.2.2.nml_iff, ← mem_all]
    have : (thl n (nzr n (op m n) e p)).length = (mem n (nzr n (op m n) e p)).length := thl_len _ _
    omega
  refine fnc_of tab_ok Tryd.func35 rfl (by kernel_rfl) (by rw [Tryd.ntmps35]; exact Nat.le_add_left 2 _) ?_; rw [Tryd.ntmps35]
  refine qm ?_
  refine hk_region fun K hK => runs_eval tab_ok ?_
  simp only [ev0, evA, evB, evP, fl, gp, tab, simprocAttr, reduceCtorEq, reduceIte]
  refine fin_run ?_ (hK _ ?_) <;> clear hK <;> clear K
  · (first | exact trivial | omega | (simp only [In64] at *; omega) | (simp [In64] at *; omega) | (simp_all; done) | skip)
  refine qa (qm ?_)
  refine hk_region fun K hK => runs_eval tab_ok ?_
  simp only [ev0, evA, evB, evP, fl, gp, tab, simprocAttr, reduceCtorEq, reduceIte]
  refine fin_stop trivial (runs_call (normaliser_ok h p hs) rfl rfl rfl (by simp only [dstOk, Nat.reduceLT]) (by repeat (first | exact trivial | constructor)) (runs_eval tab_ok ?_))
  simp only [ev0, evA, evB, evP, fl, gp, tab, simprocAttr, reduceCtorEq, reduceIte]
  refine fin_run ?_ (hK _ ?_) <;> clear hK <;> clear K
  · (first | exact trivial | omega | (simp only [In64] at *; omega) | (simp [In64] at *; omega) | (simp_all; done) | skip)
  refine qa (qm ?_)
  refine hk_draw mixed (by kernel_rfl) fun K hK => runs_eval tab_ok ?_
  simp only [ev0, evA, evB, evP, fl, gp, tab, simprocAttr, reduceCtorEq, reduceIte, il_length]
  refine fin_run ?_ (hK _ ?_) <;> clear hK <;> clear K
  · (first | exact trivial | omega | (simp only [In64] at *; omega) | (simp [In64] at *; omega) | (simp_all; done) | skip)
  refine qa (qk ?_)
  simp only [Tryd.results35, enA, ev0, evA, evB, evP, fl, gp, tab, simprocAttr, reduceCtorEq, reduceIte]
  all_goals (rw [hz])

/-- What is in a set, and in it conjugated by things below a. -/
def crs (n : Nat) (f : Nat → Nat → Nat) (e : Nat) (p : Nat → Bool) (a y : Nat) : Bool := p y && decide (∀ b, b < a → shf n f e p b y = true)
/-- What is in a set conjugated by things below a. -/
def cus (n : Nat) (f : Nat → Nat → Nat) (e : Nat) (p : Nat → Bool) (a y : Nat) : Bool := decide (∃ b, b < a ∧ shf n f e p b y = true)
theorem cus_succ (n : Nat) (f : Nat → Nat → Nat) (e : Nat) (p : Nat → Bool) (a y : Nat) : cus n f e p (a + 1) y = (cus n f e p a y || shf n f e p a y) := by
  unfold cus
  rw [Bool.eq_iff_iff, Bool.or_eq_true, decide_eq_true_eq, decide_eq_true_eq]
  constructor
  · rintro ⟨b, hb, h⟩
    by_cases hba : b = a
    · subst hba; exact .inr h
    · exact .inl ⟨b, by omega, h⟩
  · rintro (⟨b, hb, h⟩ | h)
    · exact ⟨b, by omega, h⟩
    · exact ⟨a, by omega, h⟩
theorem bo_orb (n : Nat) (p q : Nat → Bool) : bo n p ||| bo n q = bo n fun a => p a || q a := by
  refine Nat.eq_of_testBit_eq fun i => ?_
  rw [Nat.testBit_or, bo_bit, bo_bit, bo_bit]
  cases decide (i < n) <;> simp
theorem cus_all {n e : Nat} {f : Nat → Nat → Nat} (p : Nat → Bool) (y : Nat) : cus n f e p n y = cup n f e p y := by
  rw [Bool.eq_iff_iff, cup_iff]
  unfold cus
  rw [decide_eq_true_eq]
  constructor
  · rintro ⟨b, hb, h⟩
    obtain ⟨x, x1, x2, x3⟩ := shf_iff.1 h
    exact ⟨x, b, x1, hb, x2, x3⟩
  · rintro ⟨x, b, x1, hb, x2, x3⟩
    exact ⟨b, hb, shf_iff.2 ⟨x, x1, x2, x3⟩⟩
theorem closure_ok {n e : Nat} {m : List Int} (h : GT n m n e) (p q : Nat → Bool) (hq : ∀ a, a < n → (q a = true ↔ Gen n (op m n) e (cup n (op m n) e p) a)) : FnC Tryd.prog 26 [gp n m, .list (il (thl n p))] (.tup [.list (il (thl n q)), fl (0, 0)]) := by
  have G := h.2.2
  have hb := h.2.1.big
  have hlp := thl_le n p
  have hml := h.2.1.len
  have hsq := sq_le hb
  have h0 : bo n (cus n (op m n) e p 0) = 0 := Nat.eq_of_testBit_eq fun i => by rw [bo_bit]; simp [cus]
  refine fnc_of tab_ok Tryd.func26 rfl (by kernel_rfl) (by rw [Tryd.ntmps26]; exact Nat.le_add_left 2 _) ?_; rw [Tryd.ntmps26]
  refine qm ?_
  refine hk_region fun K hK => runs_eval tab_ok ?_
  simp only [ev0, evA, evB, evP, fl, gp, tab, simprocAttr, reduceCtorEq, reduceIte]
  refine fin_run ?_ (hK _ ?_) <;> clear hK <;> clear K
  · (first | exact trivial | omega | (simp only [In64] at *; omega) | (simp [In64] at *; omega) | (simp_all; done) | skip)
  refine qa (qm (qm ?_))
  refine hk_region fun K hK => runs_eval tab_ok ?_
  simp only [ev0, evA, evB, evP, fl, gp, tab, simprocAttr, reduceCtorEq, reduceIte]
  refine fin_stop trivial (runs_call (look_c n m (thl n p) (by omega) (by omega)) rfl rfl rfl (by simp only [dstOk, Nat.reduceLT]) (by repeat (first | exact trivial | constructor)) (runs_eval tab_ok ?_))
  simp only [ev0, evA, evB, evP, fl, gp, tab, simprocAttr, reduceCtorEq, reduceIte, sf_thl h]
  refine fin_run ?_ (hK _ ?_) <;> clear hK <;> clear K
  · (first | exact trivial | omega | (simp only [In64] at *; omega) | (simp [In64] at *; omega) | (simp_all; done) | skip)
  refine qa (qm ?_)
  refine hk_region fun K hK => runs_eval tab_ok ?_
  simp only [ev0, evA, evB, evP, fl, gp, tab, simprocAttr, reduceCtorEq, reduceIte]
  refine fin_run ?_ (hK _ ?_) <;> clear hK <;> clear K
  · (first | exact trivial | omega | (simp only [In64] at *; omega) | (simp [In64] at *; omega) | (simp_all; done) | skip)
  refine qa ?_
  refine hk_cond rfl (fun hC1 => ?_) (fun hC1 => ?_)
  · cases hC1
  · (try simp only [nhs] at hC1)
    refine qh (qa (qm ?_))
    refine hk_region fun K hK => runs_eval tab_ok ?_
    simp only [ev0, evA, evB, evP, fl, gp, tab, simprocAttr, reduceCtorEq, reduceIte]
    refine fin_run trivial (hK _ ?_) <;> clear hK <;> clear K
    refine qa (qm (qm ?_))
    refine hk_region fun K hK => runs_eval tab_ok ?_
    simp only [ev0, evA, evB, evP, fl, gp, tab, simprocAttr, reduceCtorEq, reduceIte]
    refine fin_run ?_ (hK _ ?_) <;> clear hK <;> clear K
    · (first | exact trivial | omega | (simp only [In64] at *; omega) | (simp [In64] at *; omega) | (simp_all; done) | skip)
    refine qa (ql ?_)
    refine hk_loop (ι := Nat) (fun a => ⟨34, [(1, .p (.list (il (thl n p)))), (2, .ptr 0 0), (5, .ptr 1 0), (7, .p (.int .u64 (bo n (cus n (op m n) e p a)))), (17, .p (.int .i64 n)), (18, .p (.int .i64 a))], [.own [.p (.int .i64 n), .p (.list (il m))], .own [.p (.int .i64 0), .p (.int .i64 0)]]⟩) (fun a => a ≤ n) (fun a => n - a) 0 (Nat.zero_le _) [0, 1] (by rw [h0]; simp only [leq, leA, ev0, evA, evB, evP, fl, gp, tab, simprocAttr, reduceCtorEq, reduceIte] <;> trivial) fun a ha => ?_
    refine qm ?_
    refine hk_region fun K hK => runs_eval tab_ok ?_
    simp only [ev0, evA, evB, evP, fl, gp, tab, simprocAttr, reduceCtorEq, reduceIte]
    refine fin_run trivial (hK _ ?_) <;> clear hK <;> clear K
    refine qa (qm ?_)
    refine hk_cond rfl (fun hC2 => ?_) (fun hC2 => ?_)
    · (try simp only [nhs] at hC2)
      have hlt : a < n := by omega
      have hb1 := bo_lt64 hb (cus n (op m n) e p a)
      have hb2 := bo_lt64 hb (shf n (op m n) e p a)
      have hs1 : bo n (cus n (op m n) e p (a + 1)) = bo n fun y => cus n (op m n) e p a y || shf n (op m n) e p a y := bo_congr fun y _ => cus_succ n (op m n) e p a y
      refine qh (qa (qm (ql (qm ?_))))
      refine hk_region fun K hK => runs_eval tab_ok ?_
      simp only [ev0, evA, evB, evP, fl, gp, tab, simprocAttr, reduceCtorEq, reduceIte]
      refine fin_run trivial (hK _ ?_) <;> clear hK <;> clear K
      refine qa ?_
      refine hk_draw mixed (by kernel_rfl) fun K hK => runs_eval tab_ok ?_
      simp only [ev0, evA, evB, evP, fl, gp, tab, simprocAttr, reduceCtorEq, reduceIte]
      refine fin_stop trivial (runs_call (of_s (thl n p) (by omega) (thl_rng hb p)) rfl rfl rfl (by simp only [dstOk, Nat.reduceLT]) (by repeat (first | exact trivial | constructor)) (runs_eval tab_ok ?_))
      simp only [ev0, evA, evB, evP, fl, gp, tab, simprocAttr, reduceCtorEq, reduceIte, msk_thl]
      refine fin_stop trivial (runs_call (moved_s h p hlt) rfl rfl rfl (by simp only [dstOk, Nat.reduceLT]) (by repeat (first | exact trivial | constructor)) (runs_eval tab_ok ?_))
      simp only [ev0, evA, evB, evP, fl, gp, tab, simprocAttr, reduceCtorEq, reduceIte, bv_or hb1 hb2, bo_orb]
      refine fin_run ?_ (hK _ ?_) <;> clear hK <;> clear K
      · (first | exact trivial | omega | (simp only [In64] at *; omega) | (simp [In64] at *; omega) | (simp_all; done) | skip)
      refine qd (qa ?_)
      refine hk_region fun K hK => runs_eval tab_ok ?_
      simp only [ev0, evA, evB, evP, fl, gp, tab, simprocAttr, reduceCtorEq, reduceIte]
      refine fin_run ?_ (hK _ ?_) <;> clear hK <;> clear K
      · (first | exact trivial | omega | (simp only [In64] at *; omega) | (simp [In64] at *; omega) | (simp_all; done) | skip)
      refine qa ?_
      refine ⟨a + 1, [0, 1], by omega, by omega, ?_⟩
      rw [hs1]
      simp only [leq, leA, ev0, evA, evB, evP, fl, gp, tab, simprocAttr, reduceCtorEq, reduceIte] <;> first | trivial | omega
    · (try simp only [nhs] at hC2)
      have han : a = n := by omega
      have hfin : bo n (cus n (op m n) e p a) = bo n (cup n (op m n) e p) := bo_congr fun y hy => by rw [han, cus_all]
      rw [hfin]
      refine qj (qc (qc (qf (qa (qm ?_)))))
      refine hk_region fun K hK => runs_eval tab_ok ?_
      simp only [ev0, evA, evB, evP, fl, gp, tab, simprocAttr, reduceCtorEq, reduceIte]
      refine fin_stop trivial (runs_call (grow_c h (bo n (cup n (op m n) e p)) (bo_lt n _) q (fun a ha => by rw [gen_bo]; exact hq a ha)) rfl rfl rfl (by simp only [dstOk, Nat.reduceLT]) (by repeat (first | exact trivial | constructor)) (runs_eval tab_ok ?_))
      simp only [ev0, evA, evB, evP, fl, gp, tab, simprocAttr, reduceCtorEq, reduceIte]
      refine fin_stop trivial (runs_call (list_s (bo n q) (bo_lt64 hb q)) rfl rfl rfl (by simp only [dstOk, Nat.reduceLT]) (by repeat (first | exact trivial | constructor)) (runs_eval tab_ok ?_))
      simp only [ev0, evA, evB, evP, fl, gp, tab, simprocAttr, reduceCtorEq, reduceIte, stl_bo hb]
      refine fin_run ?_ (hK _ ?_) <;> clear hK <;> clear K
      · (first | exact trivial | omega | (simp only [In64] at *; omega) | (simp [In64] at *; omega) | (simp_all; done) | skip)
      refine qa (qk ?_)
      simp only [Tryd.results26, enA, ev0, evA, evB, evP, fl, gp, tab, simprocAttr, reduceCtorEq, reduceIte]
      all_goals ((first | exact rfl | exact ⟨rfl, rfl⟩ | exact ⟨rfl, rfl, rfl⟩ | exact ⟨trivial, rfl⟩ | exact ⟨Nat.le_refl _, rfl⟩ | trivial | (simp; done)))

/-! ### As the document has them -/

theorem shf1_c {n e : Nat} {m : List Int} (h : GT n m n e) (p : Nat → Bool) {a y : Nat} (ha : a < n) (hy : y < n) : FnC Tryd.prog 136 [.int .i64 y, .ptr [.list (il (thl n p))], .ptr [.int .i64 n, .list (il m)], .ptr [.int .i64 a]] (.bool (shf n (op m n) e p a y)) := by
  have hb := h.2.1.big
  have hlp := thl_le n p
  refine fnc_of tab_ok Tryd.func136 rfl (by kernel_rfl) (by rw [Tryd.ntmps136]; exact Nat.le_add_left 4 _) ?_; rw [Tryd.ntmps136]
  refine qm ?_
  refine hk_region fun K hK => runs_eval tab_ok ?_
  simp only [ev0, evA, evB, evP, fl, gp, tab, simprocAttr, reduceCtorEq, reduceIte]
  refine fin_run trivial (hK _ ?_) <;> clear hK <;> clear K
  refine qa (qm (qm ?_))
  refine hk_region fun K hK => runs_eval tab_ok ?_
  simp only [ev0, evA, evB, evP, fl, gp, tab, simprocAttr, reduceCtorEq, reduceIte]
  refine fin_run trivial (hK _ ?_) <;> clear hK <;> clear K
  refine qa (ql ?_)
  refine hk_loop (ι := Nat) (fun i => ⟨22, [(0, .p (.int .i64 y)), (1, .p (.ptr [.list (il (thl n p))])), (2, .p (.ptr [.int .i64 n, .list (il m)])), (3, .p (.ptr [.int .i64 a])), (6, .p (.int .i64 i))], []⟩) (fun i => i ≤ (thl n p).length ∧ ∀ j, j < i → ¬ cjr n (op m n) e ((thl n p).getD j 0).toNat a = y) (fun i => (thl n p).length - i) 0 ⟨Nat.zero_le _, fun j hj => by omega⟩ [] (by simp only [leq, leA, ev0, evA, evB, evP, fl, gp, tab, simprocAttr, reduceCtorEq, reduceIte] <;> trivial) fun i hi => ?_
  obtain ⟨hi1, hi2⟩ := hi
  refine qm (qm ?_)
  refine hk_region fun K hK => runs_eval tab_ok ?_
  simp only [ev0, evA, evB, evP, fl, gp, tab, simprocAttr, reduceCtorEq, reduceIte]
  refine fin_run ?_ (hK _ ?_) <;> clear hK <;> clear K
  · (first | exact trivial | omega | (simp only [In64] at *; omega) | (simp [In64] at *; omega) | (simp_all; done) | skip)
  refine qa ?_
  refine hk_cond rfl (fun hC1 => ?_) (fun hC1 => ?_)
  · (try simp only [nhs] at hC1)
    have hlt : i < (thl n p).length := by omega
    obtain ⟨x, x1, x2, x3⟩ := thl_get hlt
    refine qh (qa (qm (ql (qm ?_))))
    refine hk_draw mixed (by kernel_rfl) fun K hK => runs_eval tab_ok ?_
    simp only [ev0, evA, evB, evP, fl, gp, tab, simprocAttr, reduceCtorEq, reduceIte, il_get hlt, x3]
    refine fin_stop ?_ (runs_call (c_r h x1 ha) rfl rfl rfl (by simp only [dstOk, Nat.reduceLT]) (by repeat (first | exact trivial | constructor)) (runs_eval tab_ok ?_))
    · (first | exact trivial | omega | (simp only [In64] at *; omega) | (simp [In64] at *; omega) | (simp_all; done) | skip)
    simp only [ev0, evA, evB, evP, fl, gp, tab, simprocAttr, reduceCtorEq, reduceIte, il_get hlt, x3]
    refine fin_run ?_ (hK _ ?_) <;> clear hK <;> clear K
    · (first | exact trivial | omega | (simp only [In64] at *; omega) | (simp [In64] at *; omega) | (simp_all; done) | skip)
    refine qa ?_
    refine hk_cond rfl (fun hC2 => ?_) (fun hC2 => ?_)
    · (try simp only [nhs] at hC2)
      refine qm ?_
      refine hk_region fun K hK => runs_eval tab_ok ?_
      simp only [ev0, evA, evB, evP, fl, gp, tab, simprocAttr, reduceCtorEq, reduceIte]
      refine fin_run trivial (hK _ ?_) <;> clear hK <;> clear K
      refine qa (qk (qe (qb (qb (qe (qb ?_))))))
      simp only [Tryd.results136, enA, ev0, evA, evB, evP, fl, gp, tab, simprocAttr, reduceCtorEq, reduceIte]
      all_goals (rw [eq_comm, shf_iff]; exact ⟨x, x1, x2, (show cjr n (op m n) e x a = y by omega)⟩)
    · (try simp only [nhs] at hC2)
      refine qh (qd (qa ?_))
      refine hk_region fun K hK => runs_eval tab_ok ?_
      simp only [ev0, evA, evB, evP, fl, gp, tab, simprocAttr, reduceCtorEq, reduceIte]
      refine fin_run ?_ (hK _ ?_) <;> clear hK <;> clear K
      · (first | exact trivial | omega | (simp only [In64] at *; omega) | (simp [In64] at *; omega) | (simp_all; done) | skip)
      refine qa ?_
      refine ⟨i + 1, [], ⟨by omega, fun j hj => ?_⟩, by omega, ?_⟩
      · by_cases hj2 : j = i
        · subst hj2; rw [x3, Int.toNat_natCast]; omega
        · exact hi2 j (by omega)
      · simp only [leq, leA, ev0, evA, evB, evP, fl, gp, tab, simprocAttr, reduceCtorEq, reduceIte] <;> omega
  · (try simp only [nhs] at hC1)
    refine qj (qc (qc (qf (qa (qm ?_)))))
    refine hk_region fun K hK => runs_eval tab_ok ?_
    simp only [ev0, evA, evB, evP, fl, gp, tab, simprocAttr, reduceCtorEq, reduceIte]
    refine fin_run trivial (hK _ ?_) <;> clear hK <;> clear K
    refine qa (qk ?_)
    simp only [Tryd.results136, enA, ev0, evA, evB, evP, fl, gp, tab, simprocAttr, reduceCtorEq, reduceIte]
    rw [eq_comm]
    cases hv : shf n (op m n) e p a y with
    | false => rfl
    | true =>
      obtain ⟨x, x1, x2, x3⟩ := shf_iff.1 hv
      obtain ⟨j, j1, j2⟩ := thl_at x1 x2
      exact absurd (by rw [j2, Int.toNat_natCast]; exact x3) (hi2 j (by omega))
theorem shifted_r {n e : Nat} {m : List Int} (h : GT n m n e) (p : Nat → Bool) {a : Nat} (ha : a < n) : FnC Tryd.prog 79 [gp n m, .list (il (thl n p)), .int .i64 a] (.list (il (thl n (shf n (op m n) e p a)))) := by
  have hb := h.2.1.big
  refine fnc_of tab_ok Tryd.func79 rfl (by kernel_rfl) (by rw [Tryd.ntmps79]; exact Nat.le_add_left 3 _) ?_; rw [Tryd.ntmps79]
  refine qm ?_
  refine hk_region fun K hK => runs_eval tab_ok ?_
  simp only [ev0, evA, evB, evP, fl, gp, tab, simprocAttr, reduceCtorEq, reduceIte]
  refine fin_run ?_ (hK _ ?_) <;> clear hK <;> clear K
  · (first | exact trivial | omega | (simp only [In64] at *; omega) | (simp [In64] at *; omega) | (simp_all; done) | skip)
  refine qa (qm ?_)
  refine hk_freeze 0 rfl rfl ?_
  refine hk_freeze 1 rfl rfl ?_
  refine hk_freeze 2 rfl rfl ?_
  simp only [hset]
  refine hk_region fun K hK => runs_eval tab_ok ?_
  simp only [ev0, evA, evB, evP, fl, gp, tab, simprocAttr, reduceCtorEq, reduceIte]
  refine fin_stop trivial (runs_call (those_c n m _ _ (shf n (op m n) e p a) (by omega) (fun y hy => shf1_c h p ha hy)) rfl rfl rfl (by simp only [dstOk, Nat.reduceLT]) (by repeat (first | exact trivial | constructor)) (runs_eval tab_ok ?_))
  simp only [ev0, evA, evB, evP, fl, gp, tab, simprocAttr, reduceCtorEq, reduceIte]
  refine fin_run ?_ (hK _ ?_) <;> clear hK <;> clear K
  · (first | exact trivial | omega | (simp only [In64] at *; omega) | (simp [In64] at *; omega) | (simp_all; done) | skip)
  refine qa (qk ?_)
  simp only [Tryd.results79, enA, ev0, evA, evB, evP, fl, gp, tab, simprocAttr, reduceCtorEq, reduceIte]
  all_goals (rfl)
end Go.Proofs.YtjbfkdaodfdpcaaDoor

/-
  Maps by lists of keys. Conditions: none.
-/
set_option linter.all false
namespace Go.Proofs.YtjbfkdaodfdpcaaDoor
open Go.Pv

/-! ### Maps by lists of keys -/
def mpd (l : List Int) : Int → Bool := fun u => decide (u ∈ l)
def mpv (l : List Int) (g : Int → PV) : Int → PV := fun u => bif decide (u ∈ l) then g u else default
theorem mpd_nil : (fun _ : Int => false) = mpd [] := funext fun u => by simp [mpd]
theorem mpv_nil (g : Int → PV) : (fun _ : Int => (default : PV)) = mpv [] g := funext fun u => by simp [mpv]
theorem mpd_set (l : List Int) (x : Int) : (fun u => decide (u = x) || mpd l u) = mpd (l ++ [x]) := funext fun u => by
  unfold mpd
  rw [Bool.eq_iff_iff]
  simp only [Bool.or_eq_true, decide_eq_true_eq, List.mem_append, List.mem_singleton]
  exact Or.comm
theorem mpv_set (l : List Int) (x : Int) (g : Int → PV) : (fun u => bif decide (u = x) then g x else mpv l g u) = mpv (l ++ [x]) g := funext fun u => by
  unfold mpv
  by_cases hu : u = x
  · subst hu; simp
  · simp [hu]
theorem mpd_in {l : List Int} {x : Int} (h : x ∈ l) : mpd l x = true := decide_eq_true h
theorem mpv_in {l : List Int} {x : Int} (g : Int → PV) (h : x ∈ l) : mpv l g x = g x := by
  unfold mpv
  rw [decide_eq_true h]; rfl
theorem ll_takeL (ls : List (List Int)) : (ll ls).take ls.length = ll ls := List.take_of_length_le (by rw [ll_length]; exact Nat.le_refl _)
theorem ll_takeS (ls : List (List Int)) (x : List Int) : (ll (ls ++ [x])).take (ls.length + 1) = ll (ls ++ [x]) := List.take_of_length_le (by rw [ll_length]; simp)
def tru : Int → PV := fun _ => .bool true
end Go.Proofs.YtjbfkdaodfdpcaaDoor

/-
  Classes: by what is alike; of conjugate things. Conditions: none.
-/
set_option linter.all false
namespace Go.Proofs.YtjbfkdaodfdpcaaDoor
open Go.Pv

/-- The classes whose least things are below a. -/
def cstp (n : Nat) (r : Nat → Nat → Bool) (a : Nat) : List (List Int) := ((List.range a).filter (lead r)).map fun x => thl n (r x)
def cst (n : Nat) (r : Nat → Nat → Bool) : List (List Int) := cstp n r n
theorem cstp_succ (n : Nat) (r : Nat → Nat → Bool) (a : Nat) : cstp n r (a + 1) = cstp n r a ++ if lead r a = true then [thl n (r a)] else [] := by
  unfold cstp
  rw [List.range_succ, List.filter_append, List.map_append]
  congr 1
  cases h : lead r a <;> simp [h]
theorem cstp_len (n : Nat) (r : Nat → Nat → Bool) (a : Nat) : (cstp n r a).length ≤ a := by
  unfold cstp
  rw [List.length_map]
  have := List.length_filter_le (lead r) (List.range a)
  rwa [List.length_range] at this
/-- The class at a place: its least thing. -/
theorem cst_get {n : Nat} {r : Nat → Nat → Bool} {i : Nat} (hi : i < (cst n r).length) : ∃ x, x < n ∧ lead r x = true ∧ (cst n r).getD i [] = thl n (r x) ∧ (mem n (lead r)).getD i 0 = x := by
  unfold cst cstp at hi ⊢
  rw [List.length_map] at hi
  have hm := List.getElem_mem hi
  obtain ⟨h1, h2⟩ := List.mem_filter.1 hm
  refine ⟨_, List.mem_range.1 h1, h2, ?_, ?_⟩
  · simp [List.getD, List.getElem?_eq_getElem hi]
  · unfold mem
    simp [List.getD, List.getElem?_eq_getElem hi]
/-- The first of a list of things. -/
theorem thl_head {n : Nat} {p : Nat → Bool} {a : Nat} (ha : a < n) (h1 : p a = true) (h2 : ∀ b, b < a → p b = false) : 0 < (thl n p).length ∧ (thl n p).getD 0 0 = (a : Int) := by
  have : thl n p = (a : Int) :: (thn' n fun i => p i && !decide (i = a)).map (fun (a : Nat) => (a : Int)) := by
    unfold thl
    rw [thn_first ha h1 h2]; rfl
  rw [this]
  exact ⟨by simp, rfl⟩
theorem head_thl {n : Nat} {p : Nat → Bool} {a : Nat} (ha : a < n) (h0 : 0 < (thl n p).length) (h : (thl n p).getD 0 0 = (a : Int)) : p a = true ∧ ∀ b, b < a → p b = false := by
  obtain ⟨x, x1, x2, x3⟩ := thl_get h0
  have : x = a := by omega
  subst this
  refine ⟨x2, fun b hb => ?_⟩
  cases hpb : p b with
  | false => rfl
  | true =>
    exfalso
    obtain ⟨i, i1, i2⟩ := thl_at (n := n) (p := p) (show b < n by omega) hpb
    rcases Nat.eq_zero_or_pos i with h' | h'
    · subst h'; omega
    · have := thl_get_asc (n := n) (p := p) h' i1
      omega
theorem lead_head {n : Nat} {r : Nat → Nat → Bool} {a : Nat} (ha : a < n) : lead r a = true ↔ 0 < (thl n (r a)).length ∧ (thl n (r a)).getD 0 0 = (a : Int) := by
  rw [lead_iff]
  exact ⟨fun h => thl_head ha h.1 h.2, fun h => head_thl ha h.1 h.2⟩



theorem thl_one {n x : Nat} (hx : x < n) : thl n (fun y => decide (y = x)) = [(x : Int)] := by
  refine asc_ext (thl_asc _ _) (by simp) fun z => ?_
  rw [mem_thl, List.mem_singleton]
  constructor
  · rintro ⟨a, _, h2, rfl⟩
    rw [decide_eq_true_eq] at h2
    rw [h2]
  · rintro rfl
    exact ⟨x, hx, by simp, rfl⟩
/-! ### Rows of rows, compared -/

/-- Rows of rows, typed. -/
def lln (ls : List (List Int)) : List PV := ls.map fun w => .nn (il w)
/-! ### Classes of conjugate things -/

theorem bo_or (n : Nat) (p q : Nat → Bool) : bo n p ||| bo n q = bo n fun a => p a || q a := by
  refine Nat.eq_of_testBit_eq fun i => ?_
  rw [Nat.testBit_or, bo_bit, bo_bit, bo_bit]
  cases decide (i < n) <;> simp
/-- What is in a class of an earlier thing. -/
def hadp (r : Nat → Nat → Bool) (x y : Nat) : Bool := decide (∃ z, z < x ∧ r z y = true)
/-- What is x, conjugated by an earlier thing. -/
def sp (n : Nat) (f : Nat → Nat → Nat) (e x a y : Nat) : Bool := decide (∃ b, b < a ∧ cjr n f e x b = y)
theorem bo_zero (n : Nat) : bo n (fun _ => false) = 0 := by
  refine Nat.eq_of_testBit_eq fun i => ?_
  rw [bo_bit]; simp

theorem sq8_e : GT (8 : Nat) sq8 8 0 := by
  obtain ⟨e, h⟩ := sq8_gt
  have h1 := h.eI
  have h2 : eI sq8 8 = 0 := by decide +kernel
  have : e = 0 := by omega
  subst this
  exact h

end Go.Proofs.YtjbfkdaodfdpcaaDoor

/-
  Cosets: right, left and double; how many, how great. Conditions: none.
-/
set_option linter.all false
namespace Go.Proofs.YtjbfkdaodfdpcaaDoor
open Go.Pv

/-- The one alone. -/
def onp (e x : Nat) : Bool := decide (x = e)
/-- Is b = x a y for some x of p, y of q? -/
def dco (n : Nat) (f : Nat → Nat → Nat) (p q : Nat → Bool) (a b : Nat) : Bool := decide (∃ x, x < n ∧ p x = true ∧ ∃ y, y < n ∧ q y = true ∧ f (f x a) y = b)

theorem mem_bij {n : Nat} {P Q : Nat → Bool} (g : Nat → Nat) (h1 : ∀ x, x < n → P x = true → g x < n ∧ Q (g x) = true) (hi : ∀ x y, x < n → y < n → P x = true → P y = true → g x = g y → x = y) (h2 : ∀ y, y < n → Q y = true → ∃ x, x < n ∧ P x = true ∧ g x = y) : (mem n P).length = (mem n Q).length := by
  rw [← List.length_map (f := g) («as» := mem n P)]
  refine same_len (nodup_map (List.nodup_range.filter _) fun x hx y hy he => hi x y (mem_mem.1 hx).1 (mem_mem.1 hy).1 (mem_mem.1 hx).2 (mem_mem.1 hy).2 he) (List.nodup_range.filter _) fun y => ?_
  rw [List.mem_map, mem_mem]
  constructor
  · rintro ⟨x, hx, rfl⟩
    exact h1 x (mem_mem.1 hx).1 (mem_mem.1 hx).2
  · rintro ⟨y1, y2⟩
    obtain ⟨x, x1, x2, x3⟩ := h2 y y1 y2
    exact ⟨x, mem_mem.2 ⟨x1, x2⟩, x3⟩
theorem mem_congr {n : Nat} {P Q : Nat → Bool} (h : ∀ a, a < n → P a = Q a) : mem n P = mem n Q := List.filter_congr fun a ha => h a (List.mem_range.1 ha)

section
variable {n : Nat} {f : Nat → Nat → Nat} {e : Nat} {p q : Nat → Bool}
theorem dco_iff {a b : Nat} : dco n f p q a b = true ↔ ∃ x y, x < n ∧ y < n ∧ p x = true ∧ q y = true ∧ f (f x a) y = b := by
  unfold dco; rw [decide_eq_true_iff]
  exact ⟨fun ⟨x, h1, h2, y, h3, h4, h5⟩ => ⟨x, y, h1, h3, h2, h4, h5⟩, fun ⟨x, y, h1, h3, h2, h4, h5⟩ => ⟨x, h1, h2, y, h3, h4, h5⟩⟩
theorem onp_iff {x : Nat} : onp e x = true ↔ x = e := by unfold onp; exact decide_eq_true_iff
theorem Grp.onp_sub (G : Grp n f e) : Sub n f e (onp e) :=
  sub_of G (onp_iff.2 rfl) fun a b ha hb h1 h2 => by
    rw [onp_iff] at *; subst h1; subst h2; exact G.one_l _ ha

theorem Grp.dco_eqv (G : Grp n f e) (hp : Sub n f e p) (hq : Sub n f e q) : Eqv n (dco n f p q) where
  refl a ha := dco_iff.2 ⟨e, e, G.el, G.el, hp.one, hq.one, by rw [G.one_l a ha, G.one_r a ha]⟩
  symm a b ha hb h := by
    obtain ⟨x, y, x1, y1, x2, y2, rfl⟩ := dco_iff.1 h
    have ix := G.iv_lt x1
    have iy := G.iv_lt y1
    have hxa := G.cl _ _ x1 ha
    refine dco_iff.2 ⟨iv n f e x, iv n f e y, ix, iy, hp.inv x x1 x2, hq.inv y y1 y2, ?_⟩
    rw [← G.assoc _ _ y ix hxa y1, ← G.assoc _ x a ix x1 ha, G.iv_mul x1, G.one_l a ha, G.assoc a y _ ha y1 iy, G.mul_iv y1, G.one_r a ha]
  trans a b c ha hb hc h1 h2 := by
    obtain ⟨x, y, x1, y1, x2, y2, rfl⟩ := dco_iff.1 h1
    obtain ⟨u, v, u1, v1, u2, v2, rfl⟩ := dco_iff.1 h2
    have hxa := G.cl _ _ x1 ha
    refine dco_iff.2 ⟨f u x, f y v, G.cl _ _ u1 x1, G.cl _ _ y1 v1, hp.mul _ _ u1 x1 u2 x2, hq.mul _ _ y1 v1 y2 v2, ?_⟩
    rw [G.assoc u x a u1 x1 ha, ← G.assoc _ y v (G.cl _ _ u1 hxa) y1 v1, G.assoc u (f x a) y u1 hxa y1]
/-- Right and left ones. -/
theorem Grp.rco_iff (G : Grp n f e) {a b : Nat} (ha : a < n) (hb : b < n) : dco n f p (onp e) a b = p (f b (iv n f e a)) := by
  rw [Bool.eq_iff_iff, dco_iff]
  constructor
  · rintro ⟨x, y, x1, y1, x2, y2, rfl⟩
    rw [onp_iff.1 y2, G.one_r _ (G.cl _ _ x1 ha), G.assoc x a _ x1 ha (G.iv_lt ha), G.mul_iv ha, G.one_r x x1]; exact x2
  · intro h
    refine ⟨f b (iv n f e a), e, G.cl _ _ hb (G.iv_lt ha), G.el, h, onp_iff.2 rfl, ?_⟩
    rw [G.assoc b _ a hb (G.iv_lt ha) ha, G.iv_mul ha, G.one_r b hb, G.one_r b hb]
/-- As many things in each. -/
theorem Grp.rco_len (G : Grp n f e) {a : Nat} (ha : a < n) : (mem n (dco n f p (onp e) a)).length = (mem n p).length := by
  refine (mem_bij (fun x => f x a) (fun x hx h => ⟨G.cl _ _ hx ha, dco_iff.2 ⟨x, e, hx, G.el, h, onp_iff.2 rfl, G.one_r _ (G.cl _ _ hx ha)⟩⟩) (fun x y hx hy _ _ h => G.cancel_r ha hx hy h) fun y hy h => ?_).symm
  obtain ⟨x, z, x1, z1, x2, z2, rfl⟩ := dco_iff.1 h
  exact ⟨x, x1, x2, by rw [onp_iff.1 z2, G.one_r _ (G.cl _ _ x1 ha)]⟩
theorem sum_same {α : Type} {g : α → Nat} {k : Nat} : ∀ {l : List α}, (∀ x ∈ l, g x = k) → (l.map g).sum = l.length * k
  | [], _ => by simp
  | a :: l, h => by
    rw [List.map_cons, List.sum_cons, sum_same (l := l) fun x hx => h x (by simp [hx]), h a (by simp), List.length_cons, Nat.add_mul, Nat.one_mul, Nat.add_comm]
theorem Grp.rco_num (G : Grp n f e) (hp : Sub n f e p) : (mem n (lead (dco n f p (onp e)))).length * (mem n p).length = n := by
  have h := (G.dco_eqv hp G.onp_sub).sum
  rwa [sum_same fun x hx => G.rco_len (mem_mem.1 hx).1] at h
theorem Sub.pos (hp : Sub n f e p) (he : e < n) : 0 < (mem n p).length := List.length_pos_of_mem (mem_mem.2 ⟨he, hp.one⟩)
/-- A subgroup, conjugated. -/
theorem Grp.shf_sub (G : Grp n f e) (hp : Sub n f e p) {a : Nat} (ha : a < n) : Sub n f e (shf n f e p a) :=
  sub_of G (shf_iff.2 ⟨e, G.el, hp.one, G.cjr_one ha⟩) fun x y hx hy h1 h2 => by
    obtain ⟨u, u1, u2, rfl⟩ := shf_iff.1 h1
    obtain ⟨v, v1, v2, rfl⟩ := shf_iff.1 h2
    exact shf_iff.2 ⟨f u v, G.cl _ _ u1 v1, hp.mul _ _ u1 v1 u2 v2, G.cjr_hom u1 v1 ha⟩
theorem Grp.shf_len (G : Grp n f e) {a : Nat} (ha : a < n) : (mem n (shf n f e p a)).length = (mem n p).length := by
  refine (mem_bij (fun x => cjr n f e x a) (fun x hx h => ⟨G.cjr_lt hx ha, shf_iff.2 ⟨x, hx, h, rfl⟩⟩) (fun x y hx hy _ _ h => ?_) fun y hy h => ?_).symm
  · have := congrArg (fun z => cjr n f e z (iv n f e a)) h
    simp only [G.cjr_iv hx ha, G.cjr_iv hy ha] at this
    exact this
  · obtain ⟨x, x1, x2, x3⟩ := shf_iff.1 h
    exact ⟨x, x1, x2, x3⟩
/-- FROBENIUS: how many things a double coset has. -/
theorem Grp.dco_count (G : Grp n f e) (hp : Sub n f e p) (hq : Sub n f e q) {a : Nat} (ha : a < n) : (mem n (dco n f p q a)).length * (mem n fun x => shf n f e p a x && q x).length = (mem n p).length * (mem n q).length := by
  have h := G.prod_count (G.shf_sub hp ha) hq
  rw [G.shf_len ha] at h
  rw [← h]
  congr 1
  have ia := G.iv_lt ha
  refine mem_bij (fun x => f (iv n f e a) x) (fun x hx h => ⟨G.cl _ _ ia hx, ?_⟩) (fun x y hx hy _ _ h => G.cancel_l ia hx hy h) fun y hy h => ?_
  · obtain ⟨u, v, u1, v1, u2, v2, rfl⟩ := dco_iff.1 h
    have hua := G.cl _ _ u1 ha
    have hc := G.cjr_lt u1 ha
    refine pr2_iff.2 ⟨cjr n f e u a, hc, shf_iff.2 ⟨u, u1, u2, rfl⟩, ?_⟩
    have : f (iv n f e a) (f (f u a) v) = f (cjr n f e u a) v := by
      unfold cjr
      rw [← G.assoc _ (f u a) v ia hua v1, ← G.assoc _ u a ia u1 ha]
    rw [this, ← G.assoc _ _ v (G.iv_lt hc) hc v1, G.iv_mul hc, G.one_l v v1]; exact v2
  · obtain ⟨i, i1, i2, i3⟩ := pr2_iff.1 h
    obtain ⟨u, u1, u2, rfl⟩ := shf_iff.1 i2
    refine ⟨f a y, G.cl _ _ ha hy, dco_iff.2 ⟨u, _, u1, G.cl _ _ (G.iv_lt i1) hy, u2, i3, ?_⟩, ?_⟩
    · have hua := G.cl _ _ u1 ha
      have : f u a = f a (cjr n f e u a) := by
        unfold cjr
        rw [← G.assoc a _ a ha (G.cl _ _ ia u1) ha, ← G.assoc a _ u ha ia u1, G.mul_iv ha, G.one_l u u1]
      rw [this, G.assoc a _ _ ha i1 (G.cl _ _ (G.iv_lt i1) hy), ← G.assoc _ _ y i1 (G.iv_lt i1) hy, G.mul_iv i1, G.one_l y hy]
    · show f (iv n f e a) (f a y) = y
      rw [← G.assoc _ a y ia ha hy, G.iv_mul ha, G.one_l y hy]

/-! ### Towers -/

/-- Classes in a set that has whole classes. -/
theorem Eqv.part {r : Nat → Nat → Bool} (h : Eqv n r) {K : Nat → Bool} (hK : ∀ x y, x < n → y < n → r x y = true → K x = true → K y = true) : ((mem n fun x => lead r x && K x).map fun x => (mem n (r x)).length).sum = (mem n K).length := by
  have h1 := sum_filter (fun x y => r x y) (mem n fun x => lead r x && K x) (List.range n)
  have h2 : ∀ y, y ∈ List.range n → ((mem n fun x => lead r x && K x).filter fun x => r x y).length = if K y = true then 1 else 0 := fun y hy => by
    have y1 := List.mem_range.1 hy
    by_cases hk : K y = true
    · rw [if_pos hk, ← h.one y1]
      congr 1
      unfold mem
      rw [List.filter_filter, List.filter_filter]
      refine List.filter_congr fun x hx => ?_
      have x1 := List.mem_range.1 hx
      cases hr : r x y with
      | false => simp
      | true => rw [hK y x y1 x1 (h.symm x y x1 y1 hr) hk]; simp
    · rw [if_neg hk, List.length_eq_zero_iff, List.filter_eq_nil_iff]
      intro x hx hr
      obtain ⟨x1, x2⟩ := mem_mem.1 hx
      rw [Bool.and_eq_true] at x2
      exact hk (hK x y x1 y1 hr x2.2)
  have h3 : ((List.range n).map fun y => ((mem n fun x => lead r x && K x).filter fun x => r x y).length).sum = (mem n K).length := by
    rw [List.map_congr_left h2]
    unfold mem
    generalize List.range n = L
    induction L with
    | nil => rfl
    | cons a L ih => rw [List.map_cons, List.sum_cons, ih, List.filter_cons]; by_cases hk : K a = true <;> simp [hk, Nat.add_comm]
  exact h1.trans h3
/-! ### Sides -/

end
end Go.Proofs.YtjbfkdaodfdpcaaDoor

/-
  Series of subgroups: commutators of commutators, from all on; what commutes up to the last one, from the one on. Conditions: none.
-/
set_option linter.all false
namespace Go.Proofs.YtjbfkdaodfdpcaaDoor
open Go.Pv

/-- Commutators of two sets. -/
def dnp (n : Nat) (f : Nat → Nat → Nat) (e : Nat) (p q : Nat → Bool) (x : Nat) : Bool := decide (∃ a, a < n ∧ p a = true ∧ ∃ b, b < n ∧ q b = true ∧ cmt n f e a b = x)
/-- What commutes with all, up to a set. -/
def unx (n : Nat) (f : Nat → Nat → Nat) (e : Nat) (p : Nat → Bool) (a : Nat) : Bool := decide (∀ b, b < n → p (cmt n f e a b) = true)
def itr (nx : (Nat → Bool) → Nat → Bool) (p : Nat → Bool) : Nat → Nat → Bool
  | 0 => p
  | k + 1 => nx (itr nx p k)
/-- A series comes to its end at K. -/
structure Stp (n : Nat) (T : Nat → Nat → Bool) (K : Nat) : Prop where
  eq : ∀ a, a < n → T (K + 1) a = T K a
  ne : ∀ j, j < K → ¬ ∀ a, a < n → T (j + 1) a = T j a

theorem mem_lt {n : Nat} {p q : Nat → Bool} (h : ∀ a, a < n → q a = true → p a = true) (hne : ¬ ∀ a, a < n → q a = p a) : (mem n q).length < (mem n p).length := by
  have h1 : mem n q = (mem n p).filter q := by
    unfold mem
    rw [List.filter_filter]
    refine List.filter_congr fun a ha => ?_
    have := h a (List.mem_range.1 ha)
    cases hq : q a with
    | false => simp
    | true => simp [this hq]
  have h2 : (mem n q).Sublist (mem n p) := by rw [h1]; exact List.filter_sublist
  rcases Nat.lt_or_eq_of_le h2.length_le with h3 | h3
  · exact h3
  · exfalso
    have h4 := h2.eq_of_length h3
    refine hne fun a ha => ?_
    rw [Bool.eq_iff_iff]
    have : a ∈ mem n q ↔ a ∈ mem n p := by rw [h4]
    rw [mem_mem, mem_mem] at this
    exact ⟨fun h => (this.1 ⟨ha, h⟩).2, fun h => (this.2 ⟨ha, h⟩).2⟩

theorem Stp.after {n : Nat} {nx : (Nat → Bool) → Nat → Bool} {p : Nat → Bool} {K : Nat} (hx : ∀ p q : Nat → Bool, (∀ a, a < n → p a = q a) → ∀ a, a < n → nx p a = nx q a) (h : Stp n (itr nx p) K) : ∀ j a, a < n → itr nx p (K + j) a = itr nx p K a
  | 0, a, ha => rfl
  | j + 1, a, ha => by
    have h1 := hx _ _ (fun b hb => Stp.after hx h j b hb) a ha
    exact h1.trans (h.eq a ha)

section
variable {n : Nat} {f : Nat → Nat → Nat} {e : Nat}
theorem dnp_iff {p q : Nat → Bool} {x : Nat} : dnp n f e p q x = true ↔ ∃ a b, a < n ∧ b < n ∧ p a = true ∧ q b = true ∧ cmt n f e a b = x := by
  unfold dnp; rw [decide_eq_true_iff]
  exact ⟨fun ⟨a, h1, h2, b, h3, h4, h5⟩ => ⟨a, b, h1, h3, h2, h4, h5⟩, fun ⟨a, b, h1, h3, h2, h4, h5⟩ => ⟨a, h1, h2, b, h3, h4, h5⟩⟩
theorem nx_ex (n : Nat) (f : Nat → Nat → Nat) (e : Nat) (P : (Nat → Bool) → Nat → Bool) : ∃ nx : (Nat → Bool) → Nat → Bool, ∀ p a, a < n → (nx p a = true ↔ Gen n f e (P p) a) :=
  ⟨fun p => Classical.choose (gen_ex n f e (P p)), fun p => Classical.choose_spec (gen_ex n f e (P p))⟩
theorem Gen.congr {p q : Nat → Bool} (h : ∀ a, a < n → p a = q a) {a : Nat} : Gen n f e p a ↔ Gen n f e q a :=
  ⟨Gen.mono fun b hb h1 => by rw [← h b hb]; exact h1, Gen.mono fun b hb h1 => by rw [h b hb]; exact h1⟩
theorem Grp.all_sub (G : Grp n f e) : Sub n f e fun _ => true := sub_of G rfl fun _ _ _ _ _ _ => rfl
theorem Grp.one_nml (G : Grp n f e) : Nml n f e (onp e) := fun a ha x hx h => by
  rw [onp_iff] at *
  rw [h, G.cjr_one ha]
/-! ### Falling -/

section
variable {nx : (Nat → Bool) → Nat → Bool}
end
/-! ### Rising -/

end
end Go.Proofs.YtjbfkdaodfdpcaaDoor

/-
  Series of subgroups, as the program has them. Conditions: none.
-/
set_option linter.all false
namespace Go.Proofs.YtjbfkdaodfdpcaaDoor
open Go.Pv

/-- A series, as lists, up to the one at K. -/
def cht (n : Nat) (T : Nat → Nat → Bool) (K : Nat) : List (List Int) := (List.range (K + 1)).map fun k => thl n (T k)
theorem cht_succ (n : Nat) (T : Nat → Nat → Bool) (k : Nat) : cht n T (k + 1) = cht n T k ++ [thl n (T (k + 1))] := by
  unfold cht
  rw [List.range_succ, List.map_append]; rfl
theorem cht_len (n : Nat) (T : Nat → Nat → Bool) (k : Nat) : (cht n T k).length = k + 1 := by simp [cht]
theorem cht_get {n : Nat} {T : Nat → Nat → Bool} {K i : Nat} (hi : i ≤ K) : (cht n T K).getD i [] = thl n (T i) := by
  unfold cht
  simp [List.getD, List.getElem?_map, List.getElem?_range (show i < K + 1 by omega)]
theorem tst_cml {n e : Nat} {f : Nat → Nat → Nat} (p q : Nat → Bool) : tst (cml n f e (thl n p) (thl n q)) = dnp n f e p q := by
  funext x
  rw [Bool.eq_iff_iff, dnp_iff]
  unfold tst
  rw [decide_eq_true_eq, mem_cml]
  constructor
  · rintro ⟨a, b, a1, b1, a2, b2, h⟩
    exact ⟨a, b, a1, b1, a2, b2, by omega⟩
  · rintro ⟨a, b, a1, b1, a2, b2, h⟩
    exact ⟨a, b, a1, b1, a2, b2, by omega⟩
theorem Stp.at {n : Nat} {T : Nat → Nat → Bool} {K k : Nat} (h : Stp n T K) (hk : k ≤ K) : bo n (T (k + 1)) = bo n (T k) ↔ k = K := by
  constructor
  · intro he
    rcases Nat.lt_or_eq_of_le hk with h1 | h1
    · exact absurd (fun a ha => bo_inj he ha) (h.ne k h1)
    · exact h1
  · rintro rfl
    exact bo_congr h.eq
theorem whole_bo (n : Nat) : 2 ^ n - 1 = bo n fun _ => true := by
  refine Nat.eq_of_testBit_eq fun i => ?_
  rw [bo_bit, Nat.testBit_two_pow_sub_one]; simp
theorem whole_s (n : Nat) (m : List Int) (hb : n ≤ 60) : FnC Tryd.prog 81 [gp n m] (.int .u64 (bo n fun _ => true)) := by
  have h1 : IntKind.u64.wrap (((2 ^ n : Nat) : Int) - 1) = ((bo n fun _ => true : Nat) : Int) := by
    rw [← whole_bo, wrap_u]
    have h2 := pow_lt64 (b := n) (by omega)
    have h3 : 0 < 2 ^ n := Nat.pow_pos (by omega)
    omega
  refine fnc_of tab_ok Tryd.func81 rfl (by kernel_rfl) (by rw [Tryd.ntmps81]; exact Nat.le_add_left 1 _) ?_; rw [Tryd.ntmps81]
  refine qm ?_
  refine hk_region fun K hK => runs_eval tab_ok ?_
  simp only [ev0, evA, evB, evP, fl, gp, tab, simprocAttr, reduceCtorEq, reduceIte]
  refine fin_run ?_ (hK _ ?_) <;> clear hK <;> clear K
  · (first | exact trivial | omega | (simp only [In64] at *; omega) | (simp [In64] at *; omega) | (simp_all; done) | skip)
  refine qa (qm ?_)
  refine hk_region fun K hK => runs_eval tab_ok ?_
  simp only [ev0, evA, evB, evP, fl, gp, tab, simprocAttr, reduceCtorEq, reduceIte, shl_one (show n < 64 by omega), h1]
  refine fin_run ?_ (hK _ ?_) <;> clear hK <;> clear K
  · (first | exact trivial | omega | (simp only [In64] at *; omega) | (simp [In64] at *; omega) | (simp_all; done) | skip)
  refine qa (qk ?_)
  simp only [Tryd.results81, enA, ev0, evA, evB, evP, fl, gp, tab, simprocAttr, reduceCtorEq, reduceIte]
  all_goals (rfl)

set_option maxHeartbeats 2000000 in
theorem down_ok {n e : Nat} {m : List Int} (h : GT n m n e) (F : FuncId) (caps : List PV) (T : Nat → Nat → Bool) (K : Nat) (hK : K ≤ n) (hS : Stp n T K) (h0 : T 0 = fun _ => true) (hF : ∀ k, FnC Tryd.prog F (.int .u64 (bo n (T k)) :: caps) (.int .u64 (bo n (T (k + 1))))) :
    FnC Tryd.prog 129 [gp n m, .fn F caps] (.tup [.list (ll (cht n T K)), fl (0, 0)]) := by
  have hb := h.2.1.big
  have hml := h.2.1.len
  have hsq := sq_le hb
  have hbt : ∀ p, bo n p < 2 ^ 64 := fun p => bo_lt64 hb p
  have h1 : ∀ k : Nat, ((k + 1) == 0) = false := fun k => rfl
  refine fnc_of tab_ok Tryd.func129 rfl (by kernel_rfl) (by rw [Tryd.ntmps129]; exact Nat.le_add_left 2 _) ?_; rw [Tryd.ntmps129]
  refine qm ?_
  refine hk_region fun K hK => runs_eval tab_ok ?_
  simp only [ev0, evA, evB, evP, fl, gp, tab, simprocAttr, reduceCtorEq, reduceIte]
  refine fin_run ?_ (hK _ ?_) <;> clear hK <;> clear K
  · (first | exact trivial | omega | (simp only [In64] at *; omega) | (simp [In64] at *; omega) | (simp_all; done) | skip)
  refine qa (qm (qm ?_))
  refine hk_region fun K hK => runs_eval tab_ok ?_
  simp only [ev0, evA, evB, evP, fl, gp, tab, simprocAttr, reduceCtorEq, reduceIte]
  refine fin_stop trivial (runs_call (check_c n m (by omega)) rfl rfl rfl (by simp only [dstOk, Nat.reduceLT]) (by repeat (first | exact trivial | constructor)) (runs_eval tab_ok ?_))
  simp only [ev0, evA, evB, evP, fl, gp, tab, simprocAttr, reduceCtorEq, reduceIte, gf_of h]
  refine fin_run ?_ (hK _ ?_) <;> clear hK <;> clear K
  · (first | exact trivial | omega | (simp only [In64] at *; omega) | (simp [In64] at *; omega) | (simp_all; done) | skip)
  refine qa (qm ?_)
  refine hk_region fun K hK => runs_eval tab_ok ?_
  simp only [ev0, evA, evB, evP, fl, gp, tab, simprocAttr, reduceCtorEq, reduceIte]
  refine fin_run ?_ (hK _ ?_) <;> clear hK <;> clear K
  · (first | exact trivial | omega | (simp only [In64] at *; omega) | (simp [In64] at *; omega) | (simp_all; done) | skip)
  refine qa ?_
  refine hk_cond rfl (fun hC1 => ?_) (fun hC1 => ?_)
  · cases hC1
  · (try simp only [nhs] at hC1)
    refine qh (qa (qm ?_))
    refine hk_region fun K hK => runs_eval tab_ok ?_
    simp only [ev0, evA, evB, evP, fl, gp, tab, simprocAttr, reduceCtorEq, reduceIte]
    refine fin_stop trivial (runs_call (whole_s n m hb) rfl rfl rfl (by simp only [dstOk, Nat.reduceLT]) (by repeat (first | exact trivial | constructor)) (runs_eval tab_ok ?_))
    simp only [ev0, evA, evB, evP, fl, gp, tab, simprocAttr, reduceCtorEq, reduceIte]
    refine fin_run ?_ (hK _ ?_) <;> clear hK <;> clear K
    · (first | exact trivial | omega | (simp only [In64] at *; omega) | (simp [In64] at *; omega) | (simp_all; done) | skip)
    refine qa (qm ?_)
    refine hk_region fun K hK => runs_eval tab_ok ?_
    simp only [ev0, evA, evB, evP, fl, gp, tab, simprocAttr, reduceCtorEq, reduceIte]
    refine fin_stop trivial (runs_call (list_s (bo n fun _ => true) (hbt _)) rfl rfl rfl (by simp only [dstOk, Nat.reduceLT]) (by repeat (first | exact trivial | constructor)) (runs_eval tab_ok ?_))
    simp only [ev0, evA, evB, evP, fl, gp, tab, simprocAttr, reduceCtorEq, reduceIte, stl_bo hb]
    refine fin_run ?_ (hK _ ?_) <;> clear hK <;> clear K
    · (first | exact trivial | omega | (simp only [In64] at *; omega) | (simp [In64] at *; omega) | (simp_all; done) | skip)
    refine qa (ql ?_)
    refine hk_loop (ι := Nat) (fun k => ⟨35, [(1, .p (.fn F caps)), (5, .ptr 0 0), (7, .p (.int .u64 (bo n (T k)))), (8, bif k == 0 then .p (.nn [.list (il (thl n (T 0)))]) else .sl 1 0 (cht n T k).length)], bif k == 0 then [.own [.p (.int .i64 0), .p (.int .i64 0)]] else [.own [.p (.int .i64 0), .p (.int .i64 0)], .own (opl (ll (cht n T k)))]⟩) (fun k => k ≤ K) (fun k => K - k) 0 (Nat.zero_le _) [1] (by rw [h0]; simp only [leq, leA, ev0, evA, evB, evP, fl, gp, tab, simprocAttr, reduceCtorEq, reduceIte, beq_self_eq_true, cond_true] <;> first | trivial | (simp; done)) fun k hk => ?_
    refine ql (qm ?_)
    by_cases hk0 : (k == 0) = true
    · simp only [hk0, cond_true]
      have hkz : k = 0 := by simpa using hk0
      refine hk_region fun K hK => runs_eval tab_ok ?_
      simp only [ev0, evA, evB, evP, fl, gp, tab, simprocAttr, reduceCtorEq, reduceIte]
      refine fin_stop trivial (runs_call (hF k) rfl rfl rfl (by simp only [dstOk, Nat.reduceLT]) (by repeat (first | exact trivial | constructor)) (runs_eval tab_ok ?_))
      simp only [ev0, evA, evB, evP, fl, gp, tab, simprocAttr, reduceCtorEq, reduceIte]
      refine fin_run trivial (hK _ ?_) <;> clear hK <;> clear K
      refine qa (qm (qm ?_))
      refine hk_region fun K hK => runs_eval tab_ok ?_
      simp only [ev0, evA, evB, evP, fl, gp, tab, simprocAttr, reduceCtorEq, reduceIte]
      refine fin_run trivial (hK _ ?_) <;> clear hK <;> clear K
      refine qa ?_
      refine hk_cond rfl (fun hC2 => ?_) (fun hC2 => ?_)
      · (try simp only [nhs] at hC2)
        have hkK : k = K := (hS.at hk).1 (by omega)
        refine qm ?_
        refine hk_region fun K hK => runs_eval tab_ok ?_
        simp only [ev0, evA, evB, evP, fl, gp, tab, simprocAttr, reduceCtorEq, reduceIte]
        refine fin_run ?_ (hK _ ?_) <;> clear hK <;> clear K
        · (first | exact trivial | omega | (simp only [In64] at *; omega) | (simp [In64] at *; omega) | (simp_all; done) | skip)
        refine qa (qk (qb (qe (qb (qe ?_)))))
        simp only [Tryd.results129, enA, ev0, evA, evB, evP, fl, gp, tab, simprocAttr, reduceCtorEq, reduceIte]
        all_goals (rw [← hkK, hkz]; rfl)
      · (try simp only [nhs] at hC2)
        have hkK : k < K := by
          rcases Nat.lt_or_eq_of_le hk with h | h
          · exact h
          · exact absurd (by rw [(hS.at hk).2 h]) hC2
        have hs := cht_succ n T k
        refine qh (qa (qm ?_))
        refine hk_region fun K hK => runs_eval tab_ok ?_
        simp only [ev0, evA, evB, evP, fl, gp, tab, simprocAttr, reduceCtorEq, reduceIte]
        refine fin_run trivial (hK _ ?_) <;> clear hK <;> clear K
        refine qa ?_
        refine hk_region fun K hK => runs_eval tab_ok ?_
        simp only [ev0, evA, evB, evP, fl, gp, tab, simprocAttr, reduceCtorEq, reduceIte, ll_takeL, oll_ok, ll_snoc]
        refine fin_stop trivial (runs_call (list_s (bo n (T (k + 1))) (hbt _)) rfl rfl rfl (by simp only [dstOk, Nat.reduceLT]) (by repeat (first | exact trivial | constructor)) (runs_eval tab_ok ?_))
        simp only [ev0, evA, evB, evP, fl, gp, tab, simprocAttr, reduceCtorEq, reduceIte, stl_bo hb, ll_takeL, oll_ok, ll_snoc]
        refine fin_run ?_ (hK _ ?_) <;> clear hK <;> clear K
        · first | (simp [cellOk, PV.one]; done) | (simp [cellOk, PV.one]; omega)
        refine qd (qa ?_)
        refine ⟨k + 1, [0, 1], by omega, by omega, ?_⟩
        have hs0 : ll (cht n T (k + 1)) = [.list (il (thl n (T 0))), .list (il (thl n (T (k + 1))))] := by rw [hs, hkz]; rfl
        have hl0 := cht_len n T (k + 1)
        simp only [leq, leA, ev0, evA, evB, evP, fl, gp, tab, simprocAttr, reduceCtorEq, reduceIte, h1, cond_false] <;> first | trivial | omega | (rw [hs0, hl0, hkz]; exact ⟨rfl, rfl⟩)
    · rw [Bool.not_eq_true] at hk0
      simp only [hk0, cond_false]
      have hlen := cht_len n T k
      have hll := ll_length (cht n T k)
      refine hk_region fun K hK => runs_eval tab_ok ?_
      simp only [ev0, evA, evB, evP, fl, gp, tab, simprocAttr, reduceCtorEq, reduceIte]
      refine fin_stop trivial (runs_call (hF k) rfl rfl rfl (by simp only [dstOk, Nat.reduceLT]) (by repeat (first | exact trivial | constructor)) (runs_eval tab_ok ?_))
      simp only [ev0, evA, evB, evP, fl, gp, tab, simprocAttr, reduceCtorEq, reduceIte]
      refine fin_run trivial (hK _ ?_) <;> clear hK <;> clear K
      refine qa (qm (qm ?_))
      refine hk_region fun K hK => runs_eval tab_ok ?_
      simp only [ev0, evA, evB, evP, fl, gp, tab, simprocAttr, reduceCtorEq, reduceIte]
      refine fin_run trivial (hK _ ?_) <;> clear hK <;> clear K
      refine qa ?_
      refine hk_cond rfl (fun hC2 => ?_) (fun hC2 => ?_)
      · (try simp only [nhs] at hC2)
        have hkK : k = K := (hS.at hk).1 (by omega)
        refine qm ?_
        rw [← ll_length (cht n T k)]
        refine hk_sealp 8 1 (ll_all _) rfl rfl ?_
        refine hk_region fun K hK => runs_eval tab_ok ?_
        simp only [ev0, evA, evB, evP, fl, gp, tab, simprocAttr, reduceCtorEq, reduceIte]
        refine fin_run ?_ (hK _ ?_) <;> clear hK <;> clear K
        · (first | exact trivial | omega | (simp only [In64] at *; omega) | (simp [In64] at *; omega) | (simp_all; done) | skip)
        refine qa (qk (qb (qe (qb (qe ?_)))))
        simp only [Tryd.results129, enA, ev0, evA, evB, evP, fl, gp, tab, simprocAttr, reduceCtorEq, reduceIte]
        all_goals (rw [← hkK])
      · (try simp only [nhs] at hC2)
        have hkK : k < K := by
          rcases Nat.lt_or_eq_of_le hk with h | h
          · exact h
          · exact absurd (by rw [(hS.at hk).2 h]) hC2
        have hs := cht_succ n T k
        refine qh (qa (qm ?_))
        refine hk_region fun K hK => runs_eval tab_ok ?_
        simp only [ev0, evA, evB, evP, fl, gp, tab, simprocAttr, reduceCtorEq, reduceIte]
        refine fin_run trivial (hK _ ?_) <;> clear hK <;> clear K
        refine qa ?_
        refine hk_region fun K hK => runs_eval tab_ok ?_
        simp only [ev0, evA, evB, evP, fl, gp, tab, simprocAttr, reduceCtorEq, reduceIte, ll_takeL, oll_ok, ll_snoc]
        refine fin_stop trivial (runs_call (list_s (bo n (T (k + 1))) (hbt _)) rfl rfl rfl (by simp only [dstOk, Nat.reduceLT]) (by repeat (first | exact trivial | constructor)) (runs_eval tab_ok ?_))
        simp only [ev0, evA, evB, evP, fl, gp, tab, simprocAttr, reduceCtorEq, reduceIte, stl_bo hb, ll_takeL, oll_ok, ll_snoc]
        refine fin_run ?_ (hK _ ?_) <;> clear hK <;> clear K
        · first | (simp [cellOk, PV.one]; done) | (simp [cellOk, PV.one]; omega)
        refine qd (qa ?_)
        refine ⟨k + 1, [0, 2], by omega, by omega, ?_⟩
        rw [hs]
        simp only [leq, leA, ev0, evA, evB, evP, fl, gp, tab, simprocAttr, reduceCtorEq, reduceIte, h1, cond_false, ll_takeL, ll_snoc, ll_takeS] <;> first | trivial | omega | (simp [ll]; done)
/-! ### Derived, Lower -/

section
variable {n e : Nat} {m : List Int}
theorem derived1_c (h : GT n m n e) (p r : Nat → Bool) (hr : ∀ a, a < n → (r a = true ↔ Gen n (op m n) e (dnp n (op m n) e p p) a)) : FnC Tryd.prog 130 [.int .u64 (bo n p), .ptr [.int .i64 n, .list (il m)]] (.int .u64 (bo n r)) := by
  refine fnc_of tab_ok Tryd.func130 rfl (by kernel_rfl) (by rw [Tryd.ntmps130]; exact Nat.le_add_left 2 _) ?_; rw [Tryd.ntmps130]
  refine qm ?_
  refine hk_region fun K hK => runs_eval tab_ok ?_
  simp only [ev0, evA, evB, evP, fl, gp, tab, simprocAttr, reduceCtorEq, reduceIte]
  refine fin_run trivial (hK _ ?_) <;> clear hK <;> clear K
  refine qa (qm ?_)
  refine hk_region fun K hK => runs_eval tab_ok ?_
  simp only [ev0, evA, evB, evP, fl, gp, tab, simprocAttr, reduceCtorEq, reduceIte]
  refine fin_stop trivial (runs_call (derive_s h p p r (fun a ha => by rw [tst_cml]; exact hr a ha)) rfl rfl rfl (by simp only [dstOk, Nat.reduceLT]) (by repeat (first | exact trivial | constructor)) (runs_eval tab_ok ?_))
  simp only [ev0, evA, evB, evP, fl, gp, tab, simprocAttr, reduceCtorEq, reduceIte]
  refine fin_run ?_ (hK _ ?_) <;> clear hK <;> clear K
  · (first | exact trivial | omega | (simp only [In64] at *; omega) | (simp [In64] at *; omega) | (simp_all; done) | skip)
  refine qa (qk ?_)
  simp only [Tryd.results130, enA, ev0, evA, evB, evP, fl, gp, tab, simprocAttr, reduceCtorEq, reduceIte]
  all_goals (rfl)
theorem derived_ok (h : GT n m n e) (nx : (Nat → Bool) → Nat → Bool) (hnx : ∀ p a, a < n → (nx p a = true ↔ Gen n (op m n) e (dnp n (op m n) e p p) a)) (Z : Nat) (hZ : Z ≤ n) (hS : Stp n (itr nx fun _ => true) Z) :
    FnC Tryd.prog 71 [gp n m] (.tup [.list (ll (cht n (itr nx fun _ => true) Z)), fl (0, 0)]) := by
  refine fnc_of tab_ok Tryd.func71 rfl (by kernel_rfl) (by rw [Tryd.ntmps71]; exact Nat.le_add_left 1 _) ?_; rw [Tryd.ntmps71]
  refine qm ?_
  refine hk_region fun K hK => runs_eval tab_ok ?_
  simp only [ev0, evA, evB, evP, fl, gp, tab, simprocAttr, reduceCtorEq, reduceIte]
  refine fin_run ?_ (hK _ ?_) <;> clear hK <;> clear K
  · (first | exact trivial | omega | (simp only [In64] at *; omega) | (simp [In64] at *; omega) | (simp_all; done) | skip)
  refine qa (qm ?_)
  refine hk_freeze 0 rfl rfl ?_
  simp only [hset]
  refine hk_region fun K hK => runs_eval tab_ok ?_
  simp only [ev0, evA, evB, evP, fl, gp, tab, simprocAttr, reduceCtorEq, reduceIte]
  refine fin_stop trivial (runs_call (down_ok h _ _ (itr nx fun _ => true) Z hZ hS rfl (fun k => derived1_c h _ _ (hnx _))) rfl rfl rfl (by simp only [dstOk, Nat.reduceLT]) (by repeat (first | exact trivial | constructor)) (runs_eval tab_ok ?_))
  simp only [ev0, evA, evB, evP, fl, gp, tab, simprocAttr, reduceCtorEq, reduceIte]
  refine fin_run ?_ (hK _ ?_) <;> clear hK <;> clear K
  · (first | exact trivial | omega | (simp only [In64] at *; omega) | (simp [In64] at *; omega) | (simp_all; done) | skip)
  refine qa (qk ?_)
  simp only [Tryd.results71, enA, ev0, evA, evB, evP, fl, gp, tab, simprocAttr, reduceCtorEq, reduceIte]
  all_goals ((first | exact rfl | exact ⟨rfl, rfl⟩ | exact ⟨rfl, rfl, rfl⟩ | exact ⟨trivial, rfl⟩ | exact ⟨Nat.le_refl _, rfl⟩ | trivial | (simp; done)))
end
/-! ### Upper -/

/-- Of what is below a: what commutes with all, up to a set. -/
def upl (n : Nat) (f : Nat → Nat → Nat) (e : Nat) (p : Nat → Bool) (a x : Nat) : Bool := decide (x < a) && unx n f e p x
/-! ### An example of the document -/

theorem sq8_der (nx : (Nat → Bool) → Nat → Bool) (hnx : ∀ p a, a < 8 → (nx p a = true ↔ Gen 8 (op sq8 8) 0 (dnp 8 (op sq8 8) 0 p p) a)) : Stp 8 (itr nx fun _ => true) 2 ∧ thl 8 (itr nx (fun _ => true) 1) = [0, 2] := by
  have G := sq8_e.2.2
  have e1 : ∀ a, a < 8 → itr nx (fun _ => true) 1 a = (a == 0 || a == 2) := fun a ha => by
    rw [Bool.eq_iff_iff]
    refine (hnx _ a ha).trans ?_
    constructor
    · intro hg
      have hs : Sub 8 (op sq8 8) 0 fun a => a == 0 || a == 2 := by
        refine sub_of G rfl fun a b ha hb h1 h2 => ?_
        have key : ∀ a, a < 8 → ∀ b, b < 8 → (a == 0 || a == 2) = true → (b == 0 || b == 2) = true → (op sq8 8 a b == 0 || op sq8 8 a b == 2) = true := by decide +kernel
        exact key a ha b hb h1 h2
      refine hg.sub G hs fun b hb hc => ?_
      have key : ∀ b, b < 8 → dnp 8 (op sq8 8) 0 (fun _ => true) (fun _ => true) b = true → (b == 0 || b == 2) = true := by decide +kernel
      exact key b hb hc
    · intro h'
      have : a = 0 ∨ a = 2 := by simpa using h'
      rcases this with rfl | rfl
      · exact .one
      · exact .mem G (by omega) (by show dnp 8 (op sq8 8) 0 (fun _ => true) (fun _ => true) 2 = true; decide +kernel)
  have step : ∀ k, (∀ a, a < 8 → itr nx (fun _ => true) k a = true → (a = 0 ∨ a = 2)) → ∀ a, a < 8 → itr nx (fun _ => true) (k + 1) a = (a == 0) := fun k hk a ha => by
    rw [Bool.eq_iff_iff]
    refine (hnx _ a ha).trans ?_
    constructor
    · intro hg
      have hs := G.onp_sub
      have := hg.sub G hs fun b hb hc => by
        obtain ⟨x, y, x1, y1, x2, y2, rfl⟩ := dnp_iff.1 hc
        have key : ∀ x, x < 8 → ∀ y, y < 8 → (x = 0 ∨ x = 2) → (y = 0 ∨ y = 2) → onp 0 (cmt 8 (op sq8 8) 0 x y) = true := by decide +kernel
        exact key x x1 y y1 (hk x x1 x2) (hk y y1 y2)
      simpa [onp] using this
    · intro h'
      have : a = 0 := by simpa using h'
      subst this
      exact .one
  have e2 : ∀ a, a < 8 → itr nx (fun _ => true) 2 a = (a == 0) := step 1 fun a ha h => by rw [e1 a ha] at h; simpa using h
  have e3 : ∀ a, a < 8 → itr nx (fun _ => true) 3 a = (a == 0) := step 2 fun a ha h => by rw [e2 a ha] at h; exact .inl (by simpa using h)
  refine ⟨⟨fun a ha => by rw [e2 a ha]; exact e3 a ha, fun j hj hall => ?_⟩, ?_⟩
  · match j, hj with
    | 0, _ => have := hall 1 (by omega); rw [e1 1 (by omega)] at this; cases this
    | 1, _ => have := hall 2 (by omega); rw [e1 2 (by omega)] at this; rw [show itr nx (fun _ => true) (1 + 1) 2 = _ from e2 2 (by omega)] at this; cases this
  · rw [thl_congr e1]; decide +kernel
theorem seriesBegun_c : FnC Tryd.prog 14 [] (.bool true) := by
  obtain ⟨nx, hnx⟩ := nx_ex 8 (op sq8 8) 0 fun p => dnp 8 (op sq8 8) 0 p p
  obtain ⟨hS, h1⟩ := sq8_der nx hnx
  have hl : (cht 8 (itr nx fun _ => true) 2).length = 3 := cht_len _ _ _
  have hg : (cht 8 (itr nx fun _ => true) 2).getD 1 [] = [0, 2] := by rw [cht_get (by omega), h1]
  have hll : (ll (cht 8 (itr nx fun _ => true) 2)).getD 1 default = .list (il [0, 2]) := by rw [ll_get (by omega), hg]
  refine fnc_of tab_ok Tryd.func14 rfl (by kernel_rfl) (by rw [Tryd.ntmps14]; exact Nat.le_add_left 0 _) ?_; rw [Tryd.ntmps14]
  refine qm ?_
  refine hk_region fun K hK => runs_eval tab_ok ?_
  simp only [ev0, evA, evB, evP, fl, gp, tab, simprocAttr, reduceCtorEq, reduceIte]
  refine fin_run trivial (hK _ ?_) <;> clear hK <;> clear K
  refine qa (qm ?_)
  refine hk_region fun K hK => runs_eval tab_ok ?_
  simp only [ev0, evA, evB, evP, fl, gp, tab, simprocAttr, reduceCtorEq, reduceIte]
  refine fin_stop trivial (runs_call (square_c) rfl rfl rfl (by simp only [dstOk, Nat.reduceLT]) (by repeat (first | exact trivial | constructor)) (runs_eval tab_ok ?_))
  simp only [ev0, evA, evB, evP, fl, gp, tab, simprocAttr, reduceCtorEq, reduceIte]
  refine fin_stop trivial (runs_call (derived_ok sq8_e nx hnx 2 (by omega) hS) rfl rfl rfl (by simp only [dstOk, Nat.reduceLT]) (by repeat (first | exact trivial | constructor)) (runs_eval tab_ok ?_))
  simp only [ev0, evA, evB, evP, fl, gp, tab, simprocAttr, reduceCtorEq, reduceIte]
  refine fin_run ?_ (hK _ ?_) <;> clear hK <;> clear K
  · (first | exact trivial | omega | (simp only [In64] at *; omega) | (simp [In64] at *; omega) | (simp_all; done) | skip)
  refine qa (qm ?_)
  refine hk_region fun K hK => runs_eval tab_ok ?_
  simp only [ev0, evA, evB, evP, fl, gp, tab, simprocAttr, reduceCtorEq, reduceIte, ll_length, hl, hll]
  refine fin_stop trivial (runs_call (FnC.sub (args' := [.list (il [0, 2]), .nn (il [0, 2])]) (ints_c [0, 2] [0, 2] (by decide)) (And.intro (.same _) (And.intro (.nn _) trivial))) rfl rfl rfl (by simp only [dstOk, Nat.reduceLT]) (by repeat (first | exact trivial | constructor)) (runs_eval tab_ok ?_))
  simp only [ev0, evA, evB, evP, fl, gp, tab, simprocAttr, reduceCtorEq, reduceIte, ll_length, hl, hll]
  refine fin_run ?_ (hK _ ?_) <;> clear hK <;> clear K
  · (first | exact trivial | omega | (simp only [In64] at *; omega) | (simp [In64] at *; omega) | (simp_all; done) | skip)
  refine qa (qk ?_)
  simp only [Tryd.results14, enA, ev0, evA, evB, evP, fl, gp, tab, simprocAttr, reduceCtorEq, reduceIte]
  all_goals (rfl)
end Go.Proofs.YtjbfkdaodfdpcaaDoor

/-
  What reads as one value reads as another. Conditions: none.
-/
set_option linter.all false
namespace Go.Proofs.YtjbfkdaodfdpcaaDoor
open Go.Pv

/-! ### What reads as one reads as another -/

def Rle (a b : PV) : Prop := ∀ (ok : Nat → Prop) (w : World) (v : Value), Reads ok w a v → Reads ok w b v
theorem Rle.rfl {a : PV} : Rle a a := fun _ _ _ h => h
theorem Rle.nn {l : List PV} : Rle (.nn l) (.list l) := fun _ _ _ h => h.nn_list
def Rles : List PV → List PV → Prop
  | [], [] => True
  | a :: r, b :: s => Rle a b ∧ Rles r s
  | _, _ => False
theorem Rles.len : ∀ {l r : List PV}, Rles l r → l.length = r.length
  | [], [], _ => by rfl
  | a :: l, b :: r, h => by simp [Rles.len h.2]
  | [], _ :: _, h => h.elim
  | _ :: _, [], h => h.elim
theorem Rles.get : ∀ {l r : List PV}, Rles l r → ∀ (i : Nat) (h : i < l.length) (h' : i < r.length), Rle l[i] r[i]
  | a :: l, b :: r, h, 0, _, _ => h.1
  | a :: l, b :: r, h, i + 1, h1, h2 => by simpa using Rles.get h.2 i (by simpa using h1) (by simpa using h2)
  | [], [], _, i, h, _ => by simp at h
  | [], _ :: _, h, _, _, _ => h.elim
  | _ :: _, [], h, _, _, _ => h.elim
end Go.Proofs.YtjbfkdaodfdpcaaDoor

/-
  Classes: where things stand; powers of classes; pairs that commute. Conditions: none.
-/
set_option linter.all false
namespace Go.Proofs.YtjbfkdaodfdpcaaDoor
open Go.Pv

theorem cst_len (n : Nat) (r : Nat → Nat → Bool) : (cst n r).length = (mem n (lead r)).length := by
  unfold cst cstp mem
  rw [List.length_map]

/-- The place of the first list that has a thing; -1: none has. -/
def wch (l : List (List Int)) (x : Int) : Int := match fst' (fun i => decide (x ∈ l.getD i [])) l.length with | some i => (i : Int) | none => -1

/-- A row by a rule. -/
def rgz (n : Nat) (g : Nat → Int) : List Int := (List.range n).map g
theorem rgz_len (n : Nat) (g : Nat → Int) : (rgz n g).length = n := by simp [rgz]
theorem rgz_get {n : Nat} {g : Nat → Int} {a : Nat} (ha : a < n) : (rgz n g).getD a 0 = g a := by
  simp [rgz, List.getD, List.getElem?_map, List.getElem?_range ha]
theorem rgz_congr {n : Nat} {g g' : Nat → Int} (h : ∀ a, a < n → g a = g' a) : rgz n g = rgz n g' := List.map_congr_left fun a ha => h a (List.mem_range.1 ha)
theorem rgz_set (n : Nat) (g : Nat → Int) (c : Nat) (x : Int) : (rgz n g).set c x = rgz n fun a => if a = c then x else g a := by
  refine List.ext_getElem (by simp [rgz]) fun i h1 h2 => ?_
  rw [List.getElem_set]
  by_cases e : c = i
  · subst e; simp [rgz]
  · rw [if_neg e]
    simp [rgz, Ne.symm e]
theorem rgz_new (n : Nat) : List.replicate n (AV.p (.int .i64 0)) = ol (rgz n fun _ => 0) := by
  refine List.ext_getElem (by simp [ol, il, rgz]) fun i h1 h2 => ?_
  simp [ol, il, rgz]

/-- Where each thing's class stands. -/
def whl (n : Nat) (r : Nat → Nat → Bool) : List Int := rgz n fun a => wch (cst n r) a

theorem cst_apart {n : Nat} {r : Nat → Nat → Bool} (h : Eqv n r) {i j a : Nat} (hi : i < (cst n r).length) (hj : j < (cst n r).length) (ha : a < n) (h1 : ((a : Nat) : Int) ∈ (cst n r).getD i []) (h2 : ((a : Nat) : Int) ∈ (cst n r).getD j []) : i = j := by
  obtain ⟨x, x1, x2, x3, x4⟩ := cst_get hi
  obtain ⟨y, y1, y2, y3, y4⟩ := cst_get hj
  rw [x3, mem_thl_n ha] at h1
  rw [y3, mem_thl_n ha] at h2
  have hxy : x = y := h.lead_eq x1 y1 x2 y2 (h.trans x a y x1 ha y1 h1 (h.symm y a y1 ha h2))
  subst hxy
  have hn : (mem n (lead r)).Nodup := List.nodup_range.filter _
  have hl := cst_len n r
  exact at_inj hn (by omega) (by omega) (x4.trans y4.symm)
theorem cst_in {n : Nat} {r : Nat → Nat → Bool} (h : Eqv n r) {a : Nat} (ha : a < n) : ∃ i, i < (cst n r).length ∧ ((a : Nat) : Int) ∈ (cst n r).getD i [] := by
  obtain ⟨x, x1, x2, x3⟩ := h.least ha
  obtain ⟨i, hi, e⟩ := List.getElem_of_mem (mem_mem.2 ⟨x1, x2⟩ : x ∈ mem n (lead r))
  have hl := cst_len n r
  refine ⟨i, by omega, ?_⟩
  obtain ⟨y, y1, y2, y3, y4⟩ := cst_get (n := n) (r := r) (i := i) (by omega)
  rw [y3, mem_thl_n ha]
  have : y = x := by rw [← y4]; simp [List.getD, List.getElem?_eq_getElem hi, e]
  rw [this]; exact x3
theorem wch_at {n : Nat} {r : Nat → Nat → Bool} (h : Eqv n r) {i a : Nat} (hi : i < (cst n r).length) (ha : a < n) (h1 : ((a : Nat) : Int) ∈ (cst n r).getD i []) : wch (cst n r) a = (i : Int) := by
  have e : fst' (fun k => decide (((a : Nat) : Int) ∈ (cst n r).getD k [])) (cst n r).length = some i := fst_some hi (decide_eq_true h1) fun j hj => decide_eq_false fun h2 => by
    have := cst_apart h hi (by omega) ha h1 h2
    omega
  simp only [wch, e]

end Go.Proofs.YtjbfkdaodfdpcaaDoor

/-
  Cosets: right, left and double, of the program and of the document. Conditions: none.
-/
set_option linter.all false
namespace Go.Proofs.YtjbfkdaodfdpcaaDoor
open Go.Pv

/-! ### Gathered -/

set_option maxHeartbeats 2000000 in
theorem gather_c (n : Nat) (hb : n ≤ 60) (F : FuncId) (caps : List PV) (r : Nat → Nat → Bool) (E : Eqv n r) (hF : ∀ a, a < n → FnC Tryd.prog F (.int .i64 a :: caps) (.int .u64 (bo n (r a)))) : FnC Tryd.prog 115 [.int .i64 n, .fn F caps] (.list (ll (cst n r))) := by
  have hz : bo n (hadp r 0) = 0 := by
    have h1 : bo n (hadp r 0) = bo n fun _ => false := bo_congr fun a _ => by simp [hadp]
    rw [h1, bo_zero]
  have hlead : ∀ x, x < n → lead r x = !hadp r x x := by
    intro x hx
    rw [Bool.eq_iff_iff, lead_iff, Bool.not_eq_true']
    unfold hadp
    rw [decide_eq_false_iff_not]
    constructor
    · rintro ⟨_, h2⟩ ⟨z, z1, z2⟩
      have := E.symm z x (by omega) hx z2
      rw [h2 z z1] at this; cases this
    · intro h1
      refine ⟨E.refl x hx, fun b hb' => ?_⟩
      cases hv : r x b with
      | false => rfl
      | true => exact absurd ⟨b, hb', E.symm x b hx (by omega) hv⟩ h1
  refine fnc_of tab_ok Tryd.func115 rfl (by kernel_rfl) (by rw [Tryd.ntmps115]; exact Nat.le_add_left 2 _) ?_; rw [Tryd.ntmps115]
  refine qm ?_
  refine hk_region fun K hK => runs_eval tab_ok ?_
  simp only [ev0, evA, evB, evP, fl, gp, tab, simprocAttr, reduceCtorEq, reduceIte]
  refine fin_run trivial (hK _ ?_) <;> clear hK <;> clear K
  refine qa (qm ?_)
  refine hk_region fun K hK => runs_eval tab_ok ?_
  simp only [ev0, evA, evB, evP, fl, gp, tab, simprocAttr, reduceCtorEq, reduceIte]
  refine fin_run trivial (hK _ ?_) <;> clear hK <;> clear K
  refine qa (qm ?_)
  refine hk_own0 5 rfl ?_
  refine hk_region fun K hK => runs_eval tab_ok ?_
  simp only [ev0, evA, evB, evP, fl, gp, tab, simprocAttr, reduceCtorEq, reduceIte]
  refine fin_run trivial (hK _ ?_) <;> clear hK <;> clear K
  refine qa (qm (qm ?_))
  refine hk_region fun K hK => runs_eval tab_ok ?_
  simp only [ev0, evA, evB, evP, fl, gp, tab, simprocAttr, reduceCtorEq, reduceIte]
  refine fin_run trivial (hK _ ?_) <;> clear hK <;> clear K
  refine qa (ql ?_)
  refine hk_loop (ι := Nat) (fun x => ⟨29, [(1, .p (.fn F caps)), (5, .sl 0 0 (cstp n r x).length), (6, .p (.int .u64 (bo n (hadp r x)))), (9, .p (.int .i64 n)), (10, .p (.int .i64 x))], [.own (opl (ll (cstp n r x)))]⟩) (fun x => x ≤ n) (fun x => n - x) 0 (Nat.zero_le _) [0] (by simp only [leq, leA, ev0, evA, evB, evP, fl, gp, tab, simprocAttr, reduceCtorEq, reduceIte, ll_takeL, ll_snoc, ll_takeS] <;> first | trivial | (simp [cstp, ll, opl, hz]; done) | (simp [cstp, ll, opl]; done)) fun x hx => ?_
  have hlen := cstp_len n r x
  have hll := ll_length (cstp n r x)
  refine qm ?_
  refine hk_region fun K hK => runs_eval tab_ok ?_
  simp only [ev0, evA, evB, evP, fl, gp, tab, simprocAttr, reduceCtorEq, reduceIte]
  refine fin_run trivial (hK _ ?_) <;> clear hK <;> clear K
  refine qa (qm ?_)
  refine hk_cond rfl (fun hC1 => ?_) (fun hC1 => ?_)
  · (try simp only [nhs] at hC1)
    have hlt : x < n := by omega
    have hs := cstp_succ n r x
    have hhb : (bo n (hadp r x)).testBit x = hadp r x x := by rw [bo_bit]; simp [hlt]
    have hb1 := bo_lt64 hb (hadp r x)
    have hb2 := bo_lt64 hb (r x)
    refine qh (qa (qm (ql (qm ?_))))
    refine hk_region fun K hK => runs_eval tab_ok ?_
    simp only [ev0, evA, evB, evP, fl, gp, tab, simprocAttr, reduceCtorEq, reduceIte]
    refine fin_run trivial (hK _ ?_) <;> clear hK <;> clear K
    refine qa (qm (qm ?_))
    refine hk_region fun K hK => runs_eval tab_ok ?_
    simp only [ev0, evA, evB, evP, fl, gp, tab, simprocAttr, reduceCtorEq, reduceIte]
    refine fin_stop trivial (runs_call (has_s (bo n (hadp r x)) x hb1 (by omega)) rfl rfl rfl (by simp only [dstOk, Nat.reduceLT]) (by repeat (first | exact trivial | constructor)) (runs_eval tab_ok ?_))
    simp only [ev0, evA, evB, evP, fl, gp, tab, simprocAttr, reduceCtorEq, reduceIte, hhb]
    refine fin_run trivial (hK _ ?_) <;> clear hK <;> clear K
    refine qa ?_
    refine hk_cond rfl (fun hC2 => ?_) (fun hC2 => ?_)
    · (try simp only [nhs] at hC2)
      have hld : lead r x = false := by rw [hlead x hlt, hC2]; rfl
      rw [if_neg (by rw [hld]; simp), List.append_nil] at hs
      have hh : bo n (hadp r (x + 1)) = bo n (hadp r x) := bo_congr fun y hy => by
        unfold hadp at hC2 ⊢
        rw [decide_eq_true_eq] at hC2
        refine decide_eq_decide.2 ⟨?_, fun ⟨z, z1, z2⟩ => ⟨z, by omega, z2⟩⟩
        rintro ⟨z, z1, z2⟩
        by_cases hzx : z = x
        · subst hzx
          obtain ⟨w, w1, w2⟩ := hC2
          exact ⟨w, w1, E.trans w z y (by omega) hlt hy w2 z2⟩
        · exact ⟨z, by omega, z2⟩
      refine qj (qc (qf (qa ?_)))
      refine hk_region fun K hK => runs_eval tab_ok ?_
      simp only [ev0, evA, evB, evP, fl, gp, tab, simprocAttr, reduceCtorEq, reduceIte]
      refine fin_run ?_ (hK _ ?_) <;> clear hK <;> clear K
      · (first | exact trivial | omega | (simp only [In64] at *; omega) | (simp [In64] at *; omega) | (simp_all; done) | skip)
      refine qa ?_
      refine ⟨x + 1, [0], by omega, by omega, ?_⟩
      rw [hs, hh]
      simp only [leq, leA, ev0, evA, evB, evP, fl, gp, tab, simprocAttr, reduceCtorEq, reduceIte, ll_takeL, ll_snoc, ll_takeS] <;> first | trivial | omega
    · (try simp only [nhs] at hC2)
      have hld : lead r x = true := by rw [hlead x hlt, hC2]; rfl
      rw [if_pos hld] at hs
      have hh : bo n (hadp r (x + 1)) = bo n (fun y => hadp r x y || r x y) := bo_congr fun y hy => by
        unfold hadp
        rw [Bool.eq_iff_iff, Bool.or_eq_true, decide_eq_true_eq, decide_eq_true_eq]
        constructor
        · rintro ⟨z, z1, z2⟩
          by_cases hzx : z = x
          · subst hzx; exact .inr z2
          · exact .inl ⟨z, by omega, z2⟩
        · rintro (⟨z, z1, z2⟩ | h')
          · exact ⟨z, by omega, z2⟩
          · exact ⟨x, by omega, h'⟩
      refine qh (qa (qm ?_))
      refine hk_region fun K hK => runs_eval tab_ok ?_
      simp only [ev0, evA, evB, evP, fl, gp, tab, simprocAttr, reduceCtorEq, reduceIte]
      refine fin_stop trivial (runs_call (hF x hlt) rfl rfl rfl (by simp only [dstOk, Nat.reduceLT]) (by repeat (first | exact trivial | constructor)) (runs_eval tab_ok ?_))
      simp only [ev0, evA, evB, evP, fl, gp, tab, simprocAttr, reduceCtorEq, reduceIte]
      refine fin_run trivial (hK _ ?_) <;> clear hK <;> clear K
      refine qa (qm ?_)
      refine hk_region fun K hK => runs_eval tab_ok ?_
      simp only [ev0, evA, evB, evP, fl, gp, tab, simprocAttr, reduceCtorEq, reduceIte, bv_or hb1 hb2, bo_or]
      refine fin_run ?_ (hK _ ?_) <;> clear hK <;> clear K
      · (first | exact trivial | omega | (simp only [In64] at *; omega) | (simp [In64] at *; omega) | (simp_all; done) | skip)
      refine qa ?_
      refine hk_region fun K hK => runs_eval tab_ok ?_
      simp only [ev0, evA, evB, evP, fl, gp, tab, simprocAttr, reduceCtorEq, reduceIte, ll_takeL, oll_ok, ll_snoc]
      refine fin_stop trivial (runs_call (list_s (bo n (r x)) hb2) rfl rfl rfl (by simp only [dstOk, Nat.reduceLT]) (by repeat (first | exact trivial | constructor)) (runs_eval tab_ok ?_))
      simp only [ev0, evA, evB, evP, fl, gp, tab, simprocAttr, reduceCtorEq, reduceIte, stl_bo hb, ll_takeL, oll_ok, ll_snoc]
      refine fin_run ?_ (hK _ ?_) <;> clear hK <;> clear K
      · (first | exact trivial | omega | (simp only [In64] at *; omega) | (simp [In64] at *; omega) | (simp_all; done) | skip)
      refine qd (qa ?_)
      refine hk_region fun K hK => runs_eval tab_ok ?_
      simp only [ev0, evA, evB, evP, fl, gp, tab, simprocAttr, reduceCtorEq, reduceIte]
      refine fin_run ?_ (hK _ ?_) <;> clear hK <;> clear K
      · (first | exact trivial | omega | (simp only [In64] at *; omega) | (simp [In64] at *; omega) | (simp_all; done) | skip)
      refine qa ?_
      refine ⟨x + 1, [1], by omega, by omega, ?_⟩
      rw [hs, hh]
      simp only [leq, leA, ev0, evA, evB, evP, fl, gp, tab, simprocAttr, reduceCtorEq, reduceIte, ll_takeL, ll_snoc, ll_takeS] <;> first | trivial | omega | (simp [ll]; done)
  · (try simp only [nhs] at hC1)
    have hxn : x = n := by omega
    subst hxn
    rw [← ll_length (cstp x r x)]
    refine hk_sealp 5 0 (ll_all _) rfl rfl ?_
    refine qj (qc (qc (qf (qa (qm ?_)))))
    refine hk_region fun K hK => runs_eval tab_ok ?_
    simp only [ev0, evA, evB, evP, fl, gp, tab, simprocAttr, reduceCtorEq, reduceIte]
    refine fin_run trivial (hK _ ?_) <;> clear hK <;> clear K
    refine qa (qk ?_)
    simp only [Tryd.results115, enA, ev0, evA, evB, evP, fl, gp, tab, simprocAttr, reduceCtorEq, reduceIte]
    all_goals (rfl)

/-! ### Products of a set, a thing and a set -/

def pdr (f : Nat → Nat → Nat) (x a : Nat) (lm : List Int) : List Int := lm.map fun y => ((f (f x a) y.toNat : Nat) : Int)
def pdl (f : Nat → Nat → Nat) (a : Nat) (l lm : List Int) : List Int := l.flatMap fun x => pdr f x.toNat a lm
theorem pdl_succ (f : Nat → Nat → Nat) (a : Nat) {l : List Int} (lm : List Int) {i : Nat} (hi : i < l.length) : pdl f a (l.take (i + 1)) lm = pdl f a (l.take i) lm ++ pdr f (l.getD i 0).toNat a lm := by
  unfold pdl
  rw [List.take_succ_eq_append_getElem hi, List.flatMap_append]
  congr 1
  have : l[i] = l.getD i 0 := by simp [List.getD, List.getElem?_eq_getElem hi]
  rw [this]; simp
theorem pdr_succ (f : Nat → Nat → Nat) (x a : Nat) {lm : List Int} {j : Nat} (hj : j < lm.length) : pdr f x a (lm.take (j + 1)) = pdr f x a (lm.take j) ++ [((f (f x a) (lm.getD j 0).toNat : Nat) : Int)] := by
  unfold pdr
  rw [List.take_succ_eq_append_getElem hj, List.map_append]
  have : lm[j] = lm.getD j 0 := by simp [List.getD, List.getElem?_eq_getElem hj]
  rw [this]; rfl
theorem mem_pdl {n a : Nat} {f : Nat → Nat → Nat} {p q : Nat → Bool} {z : Int} : z ∈ pdl f a (thl n p) (thl n q) ↔ ∃ x y, x < n ∧ y < n ∧ p x = true ∧ q y = true ∧ z = ((f (f x a) y : Nat) : Int) := by
  unfold pdl pdr
  rw [List.mem_flatMap]
  constructor
  · rintro ⟨u, hu, hz⟩
    obtain ⟨v, hv, rfl⟩ := List.mem_map.1 hz
    obtain ⟨x, x1, x2, rfl⟩ := mem_thl.1 hu
    obtain ⟨y, y1, y2, rfl⟩ := mem_thl.1 hv
    exact ⟨x, y, x1, y1, x2, y2, by simp⟩
  · rintro ⟨x, y, x1, y1, x2, y2, rfl⟩
    exact ⟨_, (mem_thl_n x1).2 x2, List.mem_map.2 ⟨_, (mem_thl_n y1).2 y2, by simp⟩⟩
theorem msk_pdl {n e a : Nat} {f : Nat → Nat → Nat} (G : Grp n f e) (p q : Nat → Bool) (ha : a < n) : msk (pdl f a (thl n p) (thl n q)) = bo n (dco n f p q a) := by
  refine Nat.eq_of_testBit_eq fun i => ?_
  rw [msk_bit, bo_bit, Bool.eq_iff_iff, decide_eq_true_eq, Bool.and_eq_true, decide_eq_true_eq, dco_iff]
  constructor
  · rintro ⟨z, hz, rfl⟩
    obtain ⟨x, y, x1, y1, x2, y2, rfl⟩ := mem_pdl.1 hz
    exact ⟨by simpa using G.cl _ _ (G.cl _ _ x1 ha) y1, x, y, x1, y1, x2, y2, by simp⟩
  · rintro ⟨_, x, y, x1, y1, x2, y2, rfl⟩
    exact ⟨_, mem_pdl.2 ⟨x, y, x1, y1, x2, y2, rfl⟩, by simp⟩

theorem product_s {n e : Nat} {m : List Int} (h : GT n m n e) (p q : Nat → Bool) {a : Nat} (ha : a < n) : FnC Tryd.prog 117 [gp n m, .list (il (thl n p)), .int .i64 a, .list (il (thl n q))] (.int .u64 (bo n (dco n (op m n) p q a))) := by
  have G := h.2.2
  have hb := h.2.1.big
  have hlp := thl_le n p
  have hlq := thl_le n q
  refine fnc_of tab_ok Tryd.func117 rfl (by kernel_rfl) (by rw [Tryd.ntmps117]; exact Nat.le_add_left 4 _) ?_; rw [Tryd.ntmps117]
  refine qm ?_
  refine hk_region fun K hK => runs_eval tab_ok ?_
  simp only [ev0, evA, evB, evP, fl, gp, tab, simprocAttr, reduceCtorEq, reduceIte]
  refine fin_run ?_ (hK _ ?_) <;> clear hK <;> clear K
  · (first | exact trivial | omega | (simp only [In64] at *; omega) | (simp [In64] at *; omega) | (simp_all; done) | skip)
  refine qa (qm ?_)
  refine hk_region fun K hK => runs_eval tab_ok ?_
  simp only [ev0, evA, evB, evP, fl, gp, tab, simprocAttr, reduceCtorEq, reduceIte]
  refine fin_run trivial (hK _ ?_) <;> clear hK <;> clear K
  refine qa (qm (qm ?_))
  refine hk_region fun K hK => runs_eval tab_ok ?_
  simp only [ev0, evA, evB, evP, fl, gp, tab, simprocAttr, reduceCtorEq, reduceIte, il_length]
  refine fin_run trivial (hK _ ?_) <;> clear hK <;> clear K
  refine qa (ql ?_)
  refine hk_loop (ι := Nat) (fun i => ⟨39, [(2, .p (.int .i64 a)), (3, .p (.list (il (thl n q)))), (4, .ptr 0 0), (9, .p (.int .u64 (msk (pdl (op m n) a ((thl n p).take i) (thl n q))))), (14, .p (.list (il (thl n p)))), (15, .p (.int .i64 (thl n p).length)), (16, .p (.int .i64 i))], [.own [.p (.int .i64 n), .p (.list (il m))]]⟩) (fun i => i ≤ (thl n p).length) (fun i => (thl n p).length - i) 0 (Nat.zero_le _) [0] (by simp only [leq, leA, ev0, evA, evB, evP, fl, gp, tab, simprocAttr, reduceCtorEq, reduceIte] <;> first | trivial | simp [pdl, msk]) fun i hi => ?_
  refine qm ?_
  refine hk_region fun K hK => runs_eval tab_ok ?_
  simp only [ev0, evA, evB, evP, fl, gp, tab, simprocAttr, reduceCtorEq, reduceIte]
  refine fin_run trivial (hK _ ?_) <;> clear hK <;> clear K
  refine qa (qm ?_)
  refine hk_cond rfl (fun hC1 => ?_) (fun hC1 => ?_)
  · (try simp only [nhs] at hC1)
    have hlt : i < (thl n p).length := by omega
    obtain ⟨x, x1, x2, x3⟩ := thl_get hlt
    refine qh (qa (qm (ql (qm ?_))))
    refine hk_region fun K hK => runs_eval tab_ok ?_
    simp only [ev0, evA, evB, evP, fl, gp, tab, simprocAttr, reduceCtorEq, reduceIte, il_get hlt, x3]
    refine fin_run ?_ (hK _ ?_) <;> clear hK <;> clear K
    · (first | exact trivial | omega | (simp only [In64] at *; omega) | (simp [In64] at *; omega) | (simp_all; done) | skip)
    refine qa (qm ?_)
    refine hk_region fun K hK => runs_eval tab_ok ?_
    simp only [ev0, evA, evB, evP, fl, gp, tab, simprocAttr, reduceCtorEq, reduceIte, il_length]
    refine fin_run trivial (hK _ ?_) <;> clear hK <;> clear K
    refine qa (ql ?_)
    refine hk_loop (ι := Nat) (fun j => ⟨39, [(2, .p (.int .i64 a)), (3, .p (.list (il (thl n q)))), (4, .ptr 0 0), (9, .p (.int .u64 (msk (pdl (op m n) a ((thl n p).take i) (thl n q) ++ pdr (op m n) x a ((thl n q).take j))))), (11, .p (.int .i64 x)), (14, .p (.list (il (thl n p)))), (15, .p (.int .i64 (thl n p).length)), (16, .p (.int .i64 i)), (20, .p (.list (il (thl n q)))), (21, .p (.int .i64 (thl n q).length)), (22, .p (.int .i64 j))], [.own [.p (.int .i64 n), .p (.list (il m))]]⟩) (fun j => j ≤ (thl n q).length) (fun j => (thl n q).length - j) 0 (Nat.zero_le _) [0] (by simp only [leq, leA, ev0, evA, evB, evP, fl, gp, tab, simprocAttr, reduceCtorEq, reduceIte] <;> first | trivial | simp [pdr]) fun j hj => ?_
    refine qm ?_
    refine hk_region fun K hK => runs_eval tab_ok ?_
    simp only [ev0, evA, evB, evP, fl, gp, tab, simprocAttr, reduceCtorEq, reduceIte]
    refine fin_run trivial (hK _ ?_) <;> clear hK <;> clear K
    refine qa (qm ?_)
    refine hk_cond rfl (fun hC2 => ?_) (fun hC2 => ?_)
    · (try simp only [nhs] at hC2)
      have hjl : j < (thl n q).length := by omega
      obtain ⟨y, y1, y2, y3⟩ := thl_get hjl
      have hxa := G.cl _ _ x1 ha
      have hc := G.cl _ _ hxa y1
      have hp := pow_lt64 (b := op m n (op m n x a) y) (by omega)
      have hall : ∀ z ∈ pdl (op m n) a ((thl n p).take i) (thl n q) ++ pdr (op m n) x a ((thl n q).take j), z.toNat < n := fun z hz => by
        rcases List.mem_append.1 hz with hz | hz
        · obtain ⟨u, hu, hv⟩ := List.mem_flatMap.1 hz
          obtain ⟨w, hw, rfl⟩ := List.mem_map.1 hv
          obtain ⟨u', u1, u2⟩ := thl_rng2 u (List.mem_of_mem_take hu)
          obtain ⟨w', w1, w2⟩ := thl_rng2 w hw
          subst u2; subst w2
          exact G.cl _ _ (G.cl _ _ u1 ha) w1
        · obtain ⟨w, hw, rfl⟩ := List.mem_map.1 hz
          obtain ⟨w', w1, w2⟩ := thl_rng2 w (List.mem_of_mem_take hw)
          subst w2
          exact G.cl _ _ hxa w1
      have hm := lt64 hb (msk_lt hall)
      refine qh (qa (qm (ql (qm ?_))))
      refine hk_region fun K hK => runs_eval tab_ok ?_
      simp only [ev0, evA, evB, evP, fl, gp, tab, simprocAttr, reduceCtorEq, reduceIte, il_get hjl, y3]
      refine fin_run ?_ (hK _ ?_) <;> clear hK <;> clear K
      · (first | exact trivial | omega | (simp only [In64] at *; omega) | (simp [In64] at *; omega) | (simp_all; done) | skip)
      refine qa ?_
      refine hk_draw mixed (by kernel_rfl) fun K hK => runs_eval tab_ok ?_
      simp only [ev0, evA, evB, evP, fl, gp, tab, simprocAttr, reduceCtorEq, reduceIte]
      refine fin_stop trivial (runs_call (of_c h.2.1 x1 ha) rfl rfl rfl (by simp only [dstOk, Nat.reduceLT]) (by repeat (first | exact trivial | constructor)) (runs_eval tab_ok ?_))
      simp only [ev0, evA, evB, evP, fl, gp, tab, simprocAttr, reduceCtorEq, reduceIte]
      refine fin_stop trivial (runs_call (of_c h.2.1 hxa y1) rfl rfl rfl (by simp only [dstOk, Nat.reduceLT]) (by repeat (first | exact trivial | constructor)) (runs_eval tab_ok ?_))
      simp only [ev0, evA, evB, evP, fl, gp, tab, simprocAttr, reduceCtorEq, reduceIte, shl_one (show op m n (op m n x a) y < 64 by omega), bv_or hm hp]
      refine fin_run ?_ (hK _ ?_) <;> clear hK <;> clear K
      · (first | exact trivial | omega | (simp only [In64] at *; omega) | (simp [In64] at *; omega) | (simp_all; done) | skip)
      refine qd (qa ?_)
      refine hk_region fun K hK => runs_eval tab_ok ?_
      simp only [ev0, evA, evB, evP, fl, gp, tab, simprocAttr, reduceCtorEq, reduceIte]
      refine fin_run ?_ (hK _ ?_) <;> clear hK <;> clear K
      · (first | exact trivial | omega | (simp only [In64] at *; omega) | (simp [In64] at *; omega) | (simp_all; done) | skip)
      refine qa ?_
      refine ⟨j + 1, [0], by omega, by omega, ?_⟩
      rw [pdr_succ (op m n) x a hjl, ← List.append_assoc, msk_snoc, y3]
      simp only [leq, leA, ev0, evA, evB, evP, fl, gp, tab, simprocAttr, reduceCtorEq, reduceIte] <;> first | trivial | omega
    · (try simp only [nhs] at hC2)
      have hjn : j = (thl n q).length := by omega
      rw [hjn, List.take_length]
      refine qj (qc (qc (qf (qd (qa ?_)))))
      refine hk_region fun K hK => runs_eval tab_ok ?_
      simp only [ev0, evA, evB, evP, fl, gp, tab, simprocAttr, reduceCtorEq, reduceIte]
      refine fin_run ?_ (hK _ ?_) <;> clear hK <;> clear K
      · (first | exact trivial | omega | (simp only [In64] at *; omega) | (simp [In64] at *; omega) | (simp_all; done) | skip)
      refine qa ?_
      refine ⟨i + 1, [0], by omega, by omega, ?_⟩
      rw [pdl_succ (op m n) a (thl n q) hlt, x3]
      simp only [leq, leA, ev0, evA, evB, evP, fl, gp, tab, simprocAttr, reduceCtorEq, reduceIte] <;> first | trivial | omega
  · (try simp only [nhs] at hC1)
    have hin : i = (thl n p).length := by omega
    rw [hin, List.take_length, msk_pdl G p q ha]
    refine qj (qc (qc (qf (qa (qm ?_)))))
    refine hk_region fun K hK => runs_eval tab_ok ?_
    simp only [ev0, evA, evB, evP, fl, gp, tab, simprocAttr, reduceCtorEq, reduceIte]
    refine fin_run trivial (hK _ ?_) <;> clear hK <;> clear K
    refine qa (qk ?_)
    simp only [Tryd.results117, enA, ev0, evA, evB, evP, fl, gp, tab, simprocAttr, reduceCtorEq, reduceIte]
    all_goals (rfl)

theorem one_s {n e : Nat} {m : List Int} (h : GT n m n e) : FnC Tryd.prog 118 [gp n m] (.list (il (thl n (onp e)))) := by
  have ht : thl n (onp e) = [(e : Int)] := thl_one h.2.2.el
  refine fnc_of tab_ok Tryd.func118 rfl (by kernel_rfl) (by rw [Tryd.ntmps118]; exact Nat.le_add_left 1 _) ?_; rw [Tryd.ntmps118]
  refine qm ?_
  refine hk_region fun K hK => runs_eval tab_ok ?_
  simp only [ev0, evA, evB, evP, fl, gp, tab, simprocAttr, reduceCtorEq, reduceIte]
  refine fin_run ?_ (hK _ ?_) <;> clear hK <;> clear K
  · (first | exact trivial | omega | (simp only [In64] at *; omega) | (simp [In64] at *; omega) | (simp_all; done) | skip)
  refine qa (qm ?_)
  refine hk_region fun K hK => runs_eval tab_ok ?_
  simp only [ev0, evA, evB, evP, fl, gp, tab, simprocAttr, reduceCtorEq, reduceIte]
  refine fin_stop trivial (runs_call (oneOf_c h) rfl rfl rfl (by simp only [dstOk, Nat.reduceLT]) (by repeat (first | exact trivial | constructor)) (runs_eval tab_ok ?_))
  simp only [ev0, evA, evB, evP, fl, gp, tab, simprocAttr, reduceCtorEq, reduceIte]
  refine fin_run ?_ (hK _ ?_) <;> clear hK <;> clear K
  · (first | exact trivial | omega | (simp only [In64] at *; omega) | (simp [In64] at *; omega) | (simp_all; done) | skip)
  refine qa (qk ?_)
  simp only [Tryd.results118, enA, ev0, evA, evB, evP, fl, gp, tab, simprocAttr, reduceCtorEq, reduceIte]
  all_goals (rw [ht]; rfl)

theorem right1_c {n e : Nat} {m : List Int} (h : GT n m n e) (p : Nat → Bool) {a : Nat} (ha : a < n) : FnC Tryd.prog 116 [.int .i64 a, .ptr [.int .i64 n, .list (il m)], .ptr [.list (il (thl n p))]] (.int .u64 (bo n (dco n (op m n) p (onp e) a))) := by
  refine fnc_of tab_ok Tryd.func116 rfl (by kernel_rfl) (by rw [Tryd.ntmps116]; exact Nat.le_add_left 3 _) ?_; rw [Tryd.ntmps116]
  refine qm ?_
  refine hk_region fun K hK => runs_eval tab_ok ?_
  simp only [ev0, evA, evB, evP, fl, gp, tab, simprocAttr, reduceCtorEq, reduceIte]
  refine fin_run trivial (hK _ ?_) <;> clear hK <;> clear K
  refine qa (qm ?_)
  refine hk_draw mixed (by kernel_rfl) fun K hK => runs_eval tab_ok ?_
  simp only [ev0, evA, evB, evP, fl, gp, tab, simprocAttr, reduceCtorEq, reduceIte]
  refine fin_stop trivial (runs_call (one_s h) rfl rfl rfl (by simp only [dstOk, Nat.reduceLT]) (by repeat (first | exact trivial | constructor)) (runs_eval tab_ok ?_))
  simp only [ev0, evA, evB, evP, fl, gp, tab, simprocAttr, reduceCtorEq, reduceIte]
  refine fin_stop trivial (runs_call (product_s h p (onp e) ha) rfl rfl rfl (by simp only [dstOk, Nat.reduceLT]) (by repeat (first | exact trivial | constructor)) (runs_eval tab_ok ?_))
  simp only [ev0, evA, evB, evP, fl, gp, tab, simprocAttr, reduceCtorEq, reduceIte]
  refine fin_run ?_ (hK _ ?_) <;> clear hK <;> clear K
  · (first | exact trivial | omega | (simp only [In64] at *; omega) | (simp [In64] at *; omega) | (simp_all; done) | skip)
  refine qa (qk ?_)
  simp only [Tryd.results116, enA, ev0, evA, evB, evP, fl, gp, tab, simprocAttr, reduceCtorEq, reduceIte]
  all_goals (rfl)
theorem right_ok {n e : Nat} {m : List Int} (h : GT n m n e) (p : Nat → Bool) (hs : Sub n (op m n) e p) : FnC Tryd.prog 56 [gp n m, .list (il (thl n p))] (.tup [.list (ll (cst n (dco n (op m n) p (onp e)))), fl (0, 0)]) := by
  have G := h.2.2
  have hb := h.2.1.big
  refine fnc_of tab_ok Tryd.func56 rfl (by kernel_rfl) (by rw [Tryd.ntmps56]; exact Nat.le_add_left 2 _) ?_; rw [Tryd.ntmps56]
  refine qm ?_
  refine hk_region fun K hK => runs_eval tab_ok ?_
  simp only [ev0, evA, evB, evP, fl, gp, tab, simprocAttr, reduceCtorEq, reduceIte]
  refine fin_run ?_ (hK _ ?_) <;> clear hK <;> clear K
  · (first | exact trivial | omega | (simp only [In64] at *; omega) | (simp [In64] at *; omega) | (simp_all; done) | skip)
  refine qa (qm (qm ?_))
  refine hk_region fun K hK => runs_eval tab_ok ?_
  simp only [ev0, evA, evB, evP, fl, gp, tab, simprocAttr, reduceCtorEq, reduceIte]
  refine fin_stop trivial (runs_call (group_ok h p true (by simp [hs])) rfl rfl rfl (by simp only [dstOk, Nat.reduceLT]) (by repeat (first | exact trivial | constructor)) (runs_eval tab_ok ?_))
  simp only [ev0, evA, evB, evP, fl, gp, tab, simprocAttr, reduceCtorEq, reduceIte, ufb]
  refine fin_run ?_ (hK _ ?_) <;> clear hK <;> clear K
  · (first | exact trivial | omega | (simp only [In64] at *; omega) | (simp [In64] at *; omega) | (simp_all; done) | skip)
  refine qa (qm ?_)
  refine hk_region fun K hK => runs_eval tab_ok ?_
  simp only [ev0, evA, evB, evP, fl, gp, tab, simprocAttr, reduceCtorEq, reduceIte]
  refine fin_run ?_ (hK _ ?_) <;> clear hK <;> clear K
  · (first | exact trivial | omega | (simp only [In64] at *; omega) | (simp [In64] at *; omega) | (simp_all; done) | skip)
  refine qa ?_
  refine hk_cond rfl (fun hC1 => ?_) (fun hC1 => ?_)
  · cases hC1
  · (try simp only [nhs] at hC1)
    refine qh (qa (qm ?_))
    refine hk_freeze 0 rfl rfl ?_
    refine hk_freeze 1 rfl rfl ?_
    simp only [hset]
    refine hk_region fun K hK => runs_eval tab_ok ?_
    simp only [ev0, evA, evB, evP, fl, gp, tab, simprocAttr, reduceCtorEq, reduceIte]
    refine fin_stop trivial (runs_call (gather_c n hb _ _ (dco n (op m n) p (onp e)) (G.dco_eqv hs G.onp_sub) (fun a ha => right1_c h p ha)) rfl rfl rfl (by simp only [dstOk, Nat.reduceLT]) (by repeat (first | exact trivial | constructor)) (runs_eval tab_ok ?_))
    simp only [ev0, evA, evB, evP, fl, gp, tab, simprocAttr, reduceCtorEq, reduceIte]
    refine fin_run ?_ (hK _ ?_) <;> clear hK <;> clear K
    · (first | exact trivial | omega | (simp only [In64] at *; omega) | (simp [In64] at *; omega) | (simp_all; done) | skip)
    refine qa (qk ?_)
    simp only [Tryd.results56, enA, ev0, evA, evB, evP, fl, gp, tab, simprocAttr, reduceCtorEq, reduceIte]
    all_goals ((first | exact rfl | exact ⟨rfl, rfl⟩ | exact ⟨rfl, rfl, rfl⟩ | exact ⟨trivial, rfl⟩ | exact ⟨Nat.le_refl _, rfl⟩ | trivial | (simp; done)))
/-! ### As the document has them -/

/-! ### An example of the document -/

def cy4 : List Int := [0, 1, 2, 3, 1, 2, 3, 0, 2, 3, 0, 1, 3, 0, 1, 2]
def ev4 (x : Nat) : Bool := x == 0 || x == 2
end Go.Proofs.YtjbfkdaodfdpcaaDoor

/-
  The quotient of a group by a congruence; by a normal subgroup. Conditions: none.
-/
set_option linter.all false
namespace Go.Proofs.YtjbfkdaodfdpcaaDoor
open Go.Pv

/-- Places for classes: of each thing its place; of each place a thing. -/
structure Qm (n : Nat) (f : Nat → Nat → Nat) (k : Nat) (cl rep : Nat → Nat) : Prop where
  lt : ∀ a, a < n → cl a < k
  rlt : ∀ i, i < k → rep i < n
  at_ : ∀ i, i < k → cl (rep i) = i
  cong : ∀ a b c d, a < n → b < n → c < n → d < n → cl a = cl b → cl c = cl d → cl (f a c) = cl (f b d)

section
variable {n : Nat} {f : Nat → Nat → Nat} {e : Nat} {p : Nat → Bool}
def qop (f : Nat → Nat → Nat) (cl rep : Nat → Nat) (i j : Nat) : Nat := cl (f (rep i) (rep j))
theorem Qm.op {k : Nat} {cl rep : Nat → Nat} (Q : Qm n f k cl rep) {a b : Nat} (ha : a < n) (hb : b < n) : qop f cl rep (cl a) (cl b) = cl (f a b) :=
  Q.cong _ _ _ _ (Q.rlt _ (Q.lt a ha)) ha (Q.rlt _ (Q.lt b hb)) hb (Q.at_ _ (Q.lt a ha)) (Q.at_ _ (Q.lt b hb))
theorem Qm.grp {k : Nat} {cl rep : Nat → Nat} (Q : Qm n f k cl rep) (G : Grp n f e) : Grp k (qop f cl rep) (cl e) where
  pos := Nat.lt_of_le_of_lt (Nat.zero_le _) (Q.lt e G.el)
  cl i j hi hj := Q.lt _ (G.cl _ _ (Q.rlt i hi) (Q.rlt j hj))
  el := Q.lt e G.el
  one_l i hi := by
    have h1 := Q.rlt i hi
    have h2 := Q.op G.el h1
    rw [Q.at_ i hi, G.one_l _ h1, Q.at_ i hi] at h2; exact h2
  one_r i hi := by
    have h1 := Q.rlt i hi
    have h2 := Q.op h1 G.el
    rw [Q.at_ i hi, G.one_r _ h1, Q.at_ i hi] at h2; exact h2
  assoc i j l hi hj hl := by
    have h1 := Q.rlt i hi
    have h2 := Q.rlt j hj
    have h3 := Q.rlt l hl
    have e1 := Q.op (G.cl _ _ h1 h2) h3
    have e2 := Q.op h1 (G.cl _ _ h2 h3)
    rw [Q.at_ l hl] at e1
    rw [Q.at_ i hi] at e2
    have e3 : qop f cl rep i j = cl (f (rep i) (rep j)) := rfl
    have e4 : qop f cl rep j l = cl (f (rep j) (rep l)) := rfl
    rw [e3, e4, e1, e2, G.assoc _ _ _ h1 h2 h3]
  inv i hi := by
    have h1 := Q.rlt i hi
    have h2 := G.iv_lt h1
    have e1 := Q.op h1 h2
    have e2 := Q.op h2 h1
    rw [Q.at_ i hi] at e1 e2
    exact ⟨_, Q.lt _ h2, by rw [e1, G.mul_iv h1], by rw [e2, G.iv_mul h1]⟩

/-- Of a normal subgroup: alike things have alike products. -/
theorem Grp.rco_cong (G : Grp n f e) (hp : Sub n f e p) (hn : Nml n f e p) {a b c d : Nat} (ha : a < n) (hb : b < n) (hc : c < n) (hd : d < n) (h1 : dco n f p (onp e) a b = true) (h2 : dco n f p (onp e) c d = true) : dco n f p (onp e) (f a c) (f b d) = true := by
  have ia := G.iv_lt ha
  have ic := G.iv_lt hc
  have h3 := G.cl _ _ hb ia
  have h4 := G.cl _ _ hd ic
  rw [G.rco_iff ha hb] at h1
  rw [G.rco_iff hc hd] at h2
  rw [G.rco_iff (G.cl _ _ ha hc) (G.cl _ _ hb hd), G.iv_prod ha hc]
  -- b d c' a' = (b a') (a (d c') a')
  have h5 := hn _ ia _ h4 h2
  unfold cjr at h5
  rw [G.iv_iv ha] at h5
  have h6 := hp.mul _ _ h3 (G.cl _ _ (G.cl _ _ ha h4) ia) h1 h5
  have e1 : f (f b (iv n f e a)) (f (f a (f d (iv n f e c))) (iv n f e a)) = f (f b d) (f (iv n f e c) (iv n f e a)) := by
    rw [G.assoc b _ _ hb ia (G.cl _ _ (G.cl _ _ ha h4) ia), G.assoc a _ _ ha h4 ia, ← G.assoc _ a _ ia ha (G.cl _ _ h4 ia), G.iv_mul ha, G.one_l _ (G.cl _ _ h4 ia), G.assoc d _ _ hd ic ia, ← G.assoc b d _ hb hd (G.cl _ _ ic ia)]
  rw [← e1]; exact h6
end
end Go.Proofs.YtjbfkdaodfdpcaaDoor

/-
  Tables by a rule. Conditions: none.
-/
set_option linter.all false
namespace Go.Proofs.YtjbfkdaodfdpcaaDoor
open Go.Pv

theorem Grp.cong' {n : Nat} {f f' : Nat → Nat → Nat} {e : Nat} (G : Grp n f e) (h : ∀ a b, a < n → b < n → f' a b = f a b) : Grp n f' e := by
  refine ⟨G.pos, fun a b ha hb => by rw [h a b ha hb]; exact G.cl a b ha hb, G.el, fun a ha => by rw [h e a G.el ha]; exact G.one_l a ha, fun a ha => by rw [h a e ha G.el]; exact G.one_r a ha, fun a b c ha hb hc => ?_, fun a ha => ?_⟩
  · rw [h a b ha hb, h _ c (G.cl a b ha hb) hc, h b c hb hc, h a _ ha (G.cl b c hb hc)]
    exact G.assoc a b c ha hb hc
  · obtain ⟨b, hb, h1, h2⟩ := G.inv a ha
    exact ⟨b, hb, by rw [h a b ha hb]; exact h1, by rw [h b a hb ha]; exact h2⟩
theorem tbl_op' (g : Nat → Nat → Nat) {n a b : Nat} (ha : a < n) (hb : b < n) : op (tbl (fun a b => (g a b : Nat)) n) n a b = g a b := by
  unfold op
  rw [tbl_get _ ha hb]; rfl
theorem tbl_Tab {n : Nat} {g : Nat → Nat → Nat} (h1 : 1 ≤ n) (hn : n ≤ 60) (hg : ∀ a b, a < n → b < n → g a b < n) : Tab n (tbl (fun a b => (g a b : Nat)) n) := by
  refine ⟨h1, hn, tbl_len _ _, fun i hi => ?_⟩
  have h1 : i / n < n := Nat.div_lt_of_lt_mul hi
  have h2 : i % n < n := Nat.mod_lt _ (by omega)
  have h3 : i / n * n + i % n = i := by rw [Nat.mul_comm]; exact Nat.div_add_mod i n
  have := tbl_get (fun a b => ((g a b : Nat) : Int)) h1 h2
  rw [h3] at this
  rw [this]
  have := hg _ _ h1 h2
  omega
theorem tbl_GT' {n e : Nat} {g : Nat → Nat → Nat} (hn : n ≤ 60) (G : Grp n g e) : GT n (tbl (fun a b => (g a b : Nat)) n) n e :=
  ⟨rfl, tbl_Tab G.pos hn G.cl, G.cong' fun a b ha hb => tbl_op' g ha hb⟩

end Go.Proofs.YtjbfkdaodfdpcaaDoor

/-
  Quotients, of the program and of the document. Conditions: none.
-/
set_option linter.all false
namespace Go.Proofs.YtjbfkdaodfdpcaaDoor
open Go.Pv

/-- The fault of a subgroup that is, or is not, normal. -/
def nfb (b : Bool) : Int × Int := bif b then (0, 0) else (4, 0)
theorem nfb_t : nfb true = (0, 0) := rfl
theorem qfault_c (c a : Int) : FnC Tryd.prog 141 [.int .i64 c, .int .i64 a] (fl (c, a)) := by
  refine fnc_of tab_ok Tryd.func141 rfl (by kernel_rfl) (by rw [Tryd.ntmps141]; exact Nat.le_add_left 2 _) ?_; rw [Tryd.ntmps141]
  refine qm ?_
  refine hk_region fun K hK => runs_eval tab_ok ?_
  simp only [ev0, evA, evB, evP, fl, gp, tab, simprocAttr, reduceCtorEq, reduceIte]
  refine fin_run ?_ (hK _ ?_) <;> clear hK <;> clear K
  · (first | exact trivial | omega | (simp only [In64] at *; omega) | (simp [In64] at *; omega) | (simp_all; done) | skip)
  refine qa (qm ?_)
  refine hk_region fun K hK => runs_eval tab_ok ?_
  simp only [ev0, evA, evB, evP, fl, gp, tab, simprocAttr, reduceCtorEq, reduceIte]
  refine fin_run ?_ (hK _ ?_) <;> clear hK <;> clear K
  · (first | exact trivial | omega | (simp only [In64] at *; omega) | (simp [In64] at *; omega) | (simp_all; done) | skip)
  refine qa (qk ?_)
  simp only [Tryd.results141, enA, ev0, evA, evB, evP, fl, gp, tab, simprocAttr, reduceCtorEq, reduceIte]
  all_goals ((first | exact rfl | exact ⟨rfl, rfl⟩ | exact ⟨rfl, rfl, rfl⟩ | exact ⟨trivial, rfl⟩ | exact ⟨Nat.le_refl _, rfl⟩ | trivial | (simp; done)))
theorem quotN_ok {n e : Nat} {m : List Int} (h : GT n m n e) (p : Nat → Bool) (hs : Sub n (op m n) e p) (b : Bool) (hb' : b = true ↔ Nml n (op m n) e p) : FnC Tryd.prog 91 [gp n m, .list (il (thl n p))] (fl (nfb b)) := by
  refine fnc_of tab_ok Tryd.func91 rfl (by kernel_rfl) (by rw [Tryd.ntmps91]; exact Nat.le_add_left 2 _) ?_; rw [Tryd.ntmps91]
  refine qm ?_
  refine hk_region fun K hK => runs_eval tab_ok ?_
  simp only [ev0, evA, evB, evP, fl, gp, tab, simprocAttr, reduceCtorEq, reduceIte]
  refine fin_run ?_ (hK _ ?_) <;> clear hK <;> clear K
  · (first | exact trivial | omega | (simp only [In64] at *; omega) | (simp [In64] at *; omega) | (simp_all; done) | skip)
  refine qa (qm ?_)
  refine hk_region fun K hK => runs_eval tab_ok ?_
  simp only [ev0, evA, evB, evP, fl, gp, tab, simprocAttr, reduceCtorEq, reduceIte]
  refine fin_stop trivial (runs_call (normal_ok h p hs b hb') rfl rfl rfl (by simp only [dstOk, Nat.reduceLT]) (by repeat (first | exact trivial | constructor)) (runs_eval tab_ok ?_))
  simp only [ev0, evA, evB, evP, fl, gp, tab, simprocAttr, reduceCtorEq, reduceIte]
  refine fin_run ?_ (hK _ ?_) <;> clear hK <;> clear K
  · (first | exact trivial | omega | (simp only [In64] at *; omega) | (simp [In64] at *; omega) | (simp_all; done) | skip)
  refine qa (qm (qm ?_))
  refine hk_region fun K hK => runs_eval tab_ok ?_
  simp only [ev0, evA, evB, evP, fl, gp, tab, simprocAttr, reduceCtorEq, reduceIte]
  refine fin_run ?_ (hK _ ?_) <;> clear hK <;> clear K
  · (first | exact trivial | omega | (simp only [In64] at *; omega) | (simp [In64] at *; omega) | (simp_all; done) | skip)
  refine qa ?_
  refine hk_cond rfl (fun hC1 => ?_) (fun hC1 => ?_)
  · (try simp only [nhs] at hC1)
    have hbf : b = false := by simpa using hC1
    refine qm ?_
    refine hk_region fun K hK => runs_eval tab_ok ?_
    simp only [ev0, evA, evB, evP, fl, gp, tab, simprocAttr, reduceCtorEq, reduceIte]
    refine fin_stop trivial (runs_call (qfault_c 4 0) rfl rfl rfl (by simp only [dstOk, Nat.reduceLT]) (by repeat (first | exact trivial | constructor)) (runs_eval tab_ok ?_))
    simp only [ev0, evA, evB, evP, fl, gp, tab, simprocAttr, reduceCtorEq, reduceIte]
    refine fin_run ?_ (hK _ ?_) <;> clear hK <;> clear K
    · (first | exact trivial | omega | (simp only [In64] at *; omega) | (simp [In64] at *; omega) | (simp_all; done) | skip)
    refine qa (qk (qb ?_))
    simp only [Tryd.results91, enA, ev0, evA, evB, evP, fl, gp, tab, simprocAttr, reduceCtorEq, reduceIte]
    all_goals (rw [hbf]; exact ⟨rfl, rfl⟩)
  · (try simp only [nhs] at hC1)
    have hbt : b = true := by simpa using hC1
    refine qh (qa (qm ?_))
    refine hk_region fun K hK => runs_eval tab_ok ?_
    simp only [ev0, evA, evB, evP, fl, gp, tab, simprocAttr, reduceCtorEq, reduceIte]
    refine fin_run ?_ (hK _ ?_) <;> clear hK <;> clear K
    · (first | exact trivial | omega | (simp only [In64] at *; omega) | (simp [In64] at *; omega) | (simp_all; done) | skip)
    refine qa (qk ?_)
    simp only [Tryd.results91, enA, ev0, evA, evB, evP, fl, gp, tab, simprocAttr, reduceCtorEq, reduceIte]
    all_goals (rw [hbt]; exact ⟨rfl, rfl⟩)
/-! ### Places of classes -/

def rpq (n : Nat) (r : Nat → Nat → Bool) (i : Nat) : Nat := (mem n (lead r)).getD i 0
def clq (n : Nat) (r : Nat → Nat → Bool) (a : Nat) : Nat := (wch (cst n r) a).toNat
section
variable {n : Nat} {r : Nat → Nat → Bool}
theorem clq_at (E : Eqv n r) {a : Nat} (ha : a < n) : clq n r a < (cst n r).length ∧ wch (cst n r) a = (clq n r a : Int) ∧ ((a : Nat) : Int) ∈ (cst n r).getD (clq n r a) [] := by
  obtain ⟨i, i1, i2⟩ := cst_in E ha
  have h1 := wch_at E i1 ha i2
  have h2 : clq n r a = i := by unfold clq; rw [h1]; rfl
  rw [h2]
  exact ⟨i1, h1, i2⟩
theorem clq_iff (E : Eqv n r) {a b : Nat} (ha : a < n) (hb : b < n) : clq n r a = clq n r b ↔ r a b = true := by
  obtain ⟨a1, a2, a3⟩ := clq_at E ha
  obtain ⟨b1, b2, b3⟩ := clq_at E hb
  obtain ⟨x, x1, x2, x3, x4⟩ := cst_get a1
  rw [x3, mem_thl_n ha] at a3
  constructor
  · intro he
    rw [← he, x3, mem_thl_n hb] at b3
    exact E.trans a x b ha x1 hb (E.symm x a x1 ha a3) b3
  · intro hr
    have : ((b : Nat) : Int) ∈ (cst n r).getD (clq n r a) [] := by rw [x3, mem_thl_n hb]; exact E.trans x a b x1 ha hb a3 hr
    exact cst_apart E a1 b1 hb this b3
theorem rpq_at (E : Eqv n r) {i : Nat} (hi : i < (cst n r).length) : rpq n r i < n ∧ clq n r (rpq n r i) = i ∧ (cst n r).getD i [] = thl n (r (rpq n r i)) ∧ lead r (rpq n r i) = true := by
  obtain ⟨x, x1, x2, x3, x4⟩ := cst_get hi
  have h1 : rpq n r i = x := x4
  rw [h1]
  have h2 : ((x : Nat) : Int) ∈ (cst n r).getD i [] := by rw [x3, mem_thl_n x1]; exact E.refl x x1
  have h3 := wch_at E hi x1 h2
  exact ⟨x1, by unfold clq; rw [h3]; rfl, x3, x2⟩
theorem whl_get (E : Eqv n r) {a : Nat} (ha : a < n) : (whl n r).getD a 0 = (clq n r a : Int) := by
  unfold whl; rw [rgz_get ha]; exact (clq_at E ha).2.1
theorem whl_len (n : Nat) (r : Nat → Nat → Bool) : (whl n r).length = n := rgz_len _ _
theorem cst_qm {f : Nat → Nat → Nat} {e : Nat} (G : Grp n f e) (E : Eqv n r) (hc : ∀ a b c d, a < n → b < n → c < n → d < n → r a b = true → r c d = true → r (f a c) (f b d) = true) : Qm n f (cst n r).length (clq n r) (rpq n r) where
  lt a ha := (clq_at E ha).1
  rlt i hi := (rpq_at E hi).1
  at_ i hi := (rpq_at E hi).2.1
  cong a b c d ha hb hc' hd h1 h2 := (clq_iff E (G.cl _ _ ha hc') (G.cl _ _ hb hd)).2 (hc a b c d ha hb hc' hd ((clq_iff E ha hb).1 h1) ((clq_iff E hc' hd).1 h2))
end
/-- The quotient's table. -/
def qtb (n : Nat) (f : Nat → Nat → Nat) (r : Nat → Nat → Bool) : List Int := tbl (fun i j => ((qop f (clq n r) (rpq n r) i j : Nat) : Int)) (cst n r).length

theorem quotient_w (N : Int) (m l : List Int) (w : Int × Int) (hG : FnC Tryd.prog 91 [gp N m, .list (il l)] (fl w)) (hw : ¬ w.1 = 0) : FnC Tryd.prog 28 [gp N m, .list (il l)] (.tup [gp 0 [], .list [], fl w]) := by
  refine fnc_of tab_ok Tryd.func28 rfl (by kernel_rfl) (by rw [Tryd.ntmps28]; exact Nat.le_add_left 2 _) ?_; rw [Tryd.ntmps28]
  refine qm ?_
  refine hk_region fun K hK => runs_eval tab_ok ?_
  simp only [ev0, evA, evB, evP, fl, gp, tab, simprocAttr, reduceCtorEq, reduceIte]
  refine fin_run ?_ (hK _ ?_) <;> clear hK <;> clear K
  · (first | exact trivial | omega | (simp only [In64] at *; omega) | (simp [In64] at *; omega) | (simp_all; done) | skip)
  refine qa (qm (qm ?_))
  refine hk_region fun K hK => runs_eval tab_ok ?_
  simp only [ev0, evA, evB, evP, fl, gp, tab, simprocAttr, reduceCtorEq, reduceIte]
  refine fin_stop trivial (runs_call (hG) rfl rfl rfl (by simp only [dstOk, Nat.reduceLT]) (by repeat (first | exact trivial | constructor)) (runs_eval tab_ok ?_))
  simp only [ev0, evA, evB, evP, fl, gp, tab, simprocAttr, reduceCtorEq, reduceIte]
  refine fin_run ?_ (hK _ ?_) <;> clear hK <;> clear K
  · (first | exact trivial | omega | (simp only [In64] at *; omega) | (simp [In64] at *; omega) | (simp_all; done) | skip)
  refine qa (qm ?_)
  refine hk_region fun K hK => runs_eval tab_ok ?_
  simp only [ev0, evA, evB, evP, fl, gp, tab, simprocAttr, reduceCtorEq, reduceIte]
  refine fin_run ?_ (hK _ ?_) <;> clear hK <;> clear K
  · (first | exact trivial | omega | (simp only [In64] at *; omega) | (simp [In64] at *; omega) | (simp_all; done) | skip)
  refine qa ?_
  refine hk_cond rfl (fun hC1 => ?_) (fun hC1 => ?_)
  · (try simp only [nhs] at hC1)
    refine qm ?_
    refine hk_draw2 mixed fun K hK => runs2_eval tab_ok ?_
    simp only [evD, ev0, evA, evB, evP, fl, gp, tab, simprocAttr, reduceCtorEq, reduceIte]
    refine fin2_run ?_ (hK _ _ (by first | kernel_rfl | rfl) ?_) <;> clear hK <;> clear K
    · (first | exact trivial | omega | (simp only [In64] at *; omega) | (simp [In64] at *; omega) | (simp_all; done) | skip)
    refine qa (qk (qb ?_))
    simp only [Tryd.results28, enA, ev0, evA, evB, evP, fl, gp, tab, simprocAttr, reduceCtorEq, reduceIte]
    all_goals (simp [il])
  · (try simp only [nhs] at hC1)
    exact absurd hC1 hw

set_option maxHeartbeats 4000000 in
theorem quotient_ok {n e : Nat} {m : List Int} (h : GT n m n e) (p : Nat → Bool) (hs : Sub n (op m n) e p) (hN : Nml n (op m n) e p) :
    FnC Tryd.prog 28 [gp n m, .list (il (thl n p))] (.tup [gp (cst n (dco n (op m n) p (onp e))).length (qtb n (op m n) (dco n (op m n) p (onp e))), .list (il (whl n (dco n (op m n) p (onp e)))), fl (0, 0)]) := by
  have G := h.2.2
  have hb := h.2.1.big
  have E := G.dco_eqv hs G.onp_sub
  have hR := right_ok h p hs
  have Q := cst_qm G E fun a b c d ha hb' hc hd h1 h2 => G.rco_cong hs hN ha hb' hc hd h1 h2
  generalize dco n (op m n) p (onp e) = r at *
  have hcl : (cst n r).length ≤ n := cstp_len _ _ _
  have hsq := sq_le (show (cst n r).length ≤ 60 by omega)
  have hlen := tbr_len (fun i j => ((qop (op m n) (clq n r) (rpq n r) i j : Nat) : Int)) (cst n r).length
  refine fnc_of tab_ok Tryd.func28 rfl (by kernel_rfl) (by rw [Tryd.ntmps28]; exact Nat.le_add_left 2 _) ?_; rw [Tryd.ntmps28]
  refine qm ?_
  refine hk_region fun K hK => runs_eval tab_ok ?_
  simp only [ev0, evA, evB, evP, fl, gp, tab, simprocAttr, reduceCtorEq, reduceIte]
  refine fin_run ?_ (hK _ ?_) <;> clear hK <;> clear K
  · (first | exact trivial | omega | (simp only [In64] at *; omega) | (simp [In64] at *; omega) | (simp_all; done) | skip)
  refine qa (qm (qm ?_))
  refine hk_region fun K hK => runs_eval tab_ok ?_
  simp only [ev0, evA, evB, evP, fl, gp, tab, simprocAttr, reduceCtorEq, reduceIte, nfb_t]
  refine fin_stop trivial (runs_call (quotN_ok h p hs true (by simp [hN])) rfl rfl rfl (by simp only [dstOk, Nat.reduceLT]) (by repeat (first | exact trivial | constructor)) (runs_eval tab_ok ?_))
  simp only [ev0, evA, evB, evP, fl, gp, tab, simprocAttr, reduceCtorEq, reduceIte, nfb_t]
  refine fin_run ?_ (hK _ ?_) <;> clear hK <;> clear K
  · (first | exact trivial | omega | (simp only [In64] at *; omega) | (simp [In64] at *; omega) | (simp_all; done) | skip)
  refine qa (qm ?_)
  refine hk_region fun K hK => runs_eval tab_ok ?_
  simp only [ev0, evA, evB, evP, fl, gp, tab, simprocAttr, reduceCtorEq, reduceIte]
  refine fin_run ?_ (hK _ ?_) <;> clear hK <;> clear K
  · (first | exact trivial | omega | (simp only [In64] at *; omega) | (simp [In64] at *; omega) | (simp_all; done) | skip)
  refine qa ?_
  refine hk_cond rfl (fun hC1 => ?_) (fun hC1 => ?_)
  · cases hC1
  · (try simp only [nhs] at hC1)
    refine qh (qa (qm ?_))
    refine hk_region fun K hK => runs_eval tab_ok ?_
    simp only [ev0, evA, evB, evP, fl, gp, tab, simprocAttr, reduceCtorEq, reduceIte]
    refine fin_stop trivial (runs_call (hR) rfl rfl rfl (by simp only [dstOk, Nat.reduceLT]) (by repeat (first | exact trivial | constructor)) (runs_eval tab_ok ?_))
    simp only [ev0, evA, evB, evP, fl, gp, tab, simprocAttr, reduceCtorEq, reduceIte]
    refine fin_run ?_ (hK _ ?_) <;> clear hK <;> clear K
    · (first | exact trivial | omega | (simp only [In64] at *; omega) | (simp [In64] at *; omega) | (simp_all; done) | skip)
    refine qa (qm (qm ?_))
    refine hk_region fun K hK => runs_eval tab_ok ?_
    simp only [ev0, evA, evB, evP, fl, gp, tab, simprocAttr, reduceCtorEq, reduceIte]
    refine fin_run ?_ (hK _ ?_) <;> clear hK <;> clear K
    · (first | exact trivial | omega | (simp only [In64] at *; omega) | (simp [In64] at *; omega) | (simp_all; done) | skip)
    refine qa ?_
    refine hk_cond rfl (fun hC2 => ?_) (fun hC2 => ?_)
    · cases hC2
    · (try simp only [nhs] at hC2)
      refine qh (qa (qm ?_))
      refine hk_region fun K hK => runs_eval tab_ok ?_
      simp only [ev0, evA, evB, evP, fl, gp, tab, simprocAttr, reduceCtorEq, reduceIte, makeSliceA.eq_def, rgz_new]
      refine fin_run ?_ (hK _ ?_) <;> clear hK <;> clear K
      · omega
      refine qa (qm (qm ?_))
      refine hk_region fun K hK => runs_eval tab_ok ?_
      simp only [ev0, evA, evB, evP, fl, gp, tab, simprocAttr, reduceCtorEq, reduceIte]
      refine fin_run trivial (hK _ ?_) <;> clear hK <;> clear K
      refine qa (ql ?_)
      refine hk_loop (ι := Nat × (Nat → Int)) (fun p => ⟨97, [(2, .ptr 0 0), (4, .ptr 1 0), (6, .ptr 2 0), (8, .p (.list (ll (cst n r)))), (9, .ptr 3 0), (10, .sl 4 0 n), (42, .p (.list (ll (cst n r)))), (43, .p (.int .i64 (cst n r).length)), (44, .p (.int .i64 p.1))], [.own [.p (.int .i64 n), .p (.list (il m))], .own [.p (.int .i64 0), .p .nil], .own [.p (.int .i64 0), .p (.int .i64 0)], .own [.p (.int .i64 0), .p (.int .i64 0)], .own (ol (rgz n p.2))]⟩) (fun p => p.1 ≤ (cst n r).length ∧ ∀ a, a < n → ∀ k, k < p.1 → ((a : Nat) : Int) ∈ (cst n r).getD k [] → p.2 a = (k : Int)) (fun p => (cst n r).length - p.1) (0, fun _ => 0) ⟨Nat.zero_le _, fun a _ k hk => by simp only at hk; omega⟩ [0, 1, 2, 4, 5] (by simp only [leq, leA, ev0, evA, evB, evP, fl, gp, tab, simprocAttr, reduceCtorEq, reduceIte, ll_length] <;> first | trivial | (simp; done)) fun p hp => ?_
      obtain ⟨i, g⟩ := p
      obtain ⟨hi1, hi2⟩ := hp
      simp only at hi1 hi2
      refine qm ?_
      refine hk_region fun K hK => runs_eval tab_ok ?_
      simp only [ev0, evA, evB, evP, fl, gp, tab, simprocAttr, reduceCtorEq, reduceIte]
      refine fin_run trivial (hK _ ?_) <;> clear hK <;> clear K
      refine qa (qm ?_)
      refine hk_cond rfl (fun hC3 => ?_) (fun hC3 => ?_)
      · (try simp only [nhs] at hC3)
        have hlt : i < (cst n r).length := by omega
        obtain ⟨x, x1, x2, x3, x4⟩ := cst_get hlt
        have l1 := thl_le n (r x)
        refine qh (qa (qm (ql (qm ?_))))
        refine hk_region fun K hK => runs_eval tab_ok ?_
        simp only [ev0, evA, evB, evP, fl, gp, tab, simprocAttr, reduceCtorEq, reduceIte, ll_length, ll_get hlt, x3]
        refine fin_run ?_ (hK _ ?_) <;> clear hK <;> clear K
        · (first | exact trivial | omega | (simp only [In64] at *; omega) | (simp [In64] at *; omega) | (simp_all; done) | skip)
        refine qa (qm ?_)
        refine hk_region fun K hK => runs_eval tab_ok ?_
        simp only [ev0, evA, evB, evP, fl, gp, tab, simprocAttr, reduceCtorEq, reduceIte, il_length]
        refine fin_run trivial (hK _ ?_) <;> clear hK <;> clear K
        refine qa (ql ?_)
        refine hk_loop (ι := Nat × (Nat → Int)) (fun p => ⟨97, [(2, .ptr 0 0), (4, .ptr 1 0), (6, .ptr 2 0), (8, .p (.list (ll (cst n r)))), (9, .ptr 3 0), (10, .sl 4 0 n), (11, .p (.int .i64 i)), (42, .p (.list (ll (cst n r)))), (43, .p (.int .i64 (cst n r).length)), (44, .p (.int .i64 i)), (49, .p (.list (il (thl n (r x))))), (50, .p (.int .i64 (thl n (r x)).length)), (51, .p (.int .i64 p.1))], [.own [.p (.int .i64 n), .p (.list (il m))], .own [.p (.int .i64 0), .p .nil], .own [.p (.int .i64 0), .p (.int .i64 0)], .own [.p (.int .i64 0), .p (.int .i64 0)], .own (ol (rgz n p.2))]⟩) (fun p => p.1 ≤ (thl n (r x)).length ∧ (∀ a, a < n → ∀ k, k < i → ((a : Nat) : Int) ∈ (cst n r).getD k [] → p.2 a = (k : Int)) ∧ ∀ a, a < n → ∀ k, k < p.1 → (thl n (r x)).getD k 0 = (a : Int) → p.2 a = (i : Int)) (fun p => (thl n (r x)).length - p.1) (0, g) ⟨Nat.zero_le _, hi2, fun a _ k hk => by simp only at hk; omega⟩ [0, 1, 2, 3, 4] (by simp only [leq, leA, ev0, evA, evB, evP, fl, gp, tab, simprocAttr, reduceCtorEq, reduceIte] <;> first | trivial | (simp; done)) fun p hp => ?_
        obtain ⟨j, g'⟩ := p
        obtain ⟨hj1, hj2, hj3⟩ := hp
        simp only at hj1 hj2 hj3
        refine qm ?_
        refine hk_region fun K hK => runs_eval tab_ok ?_
        simp only [ev0, evA, evB, evP, fl, gp, tab, simprocAttr, reduceCtorEq, reduceIte]
        refine fin_run trivial (hK _ ?_) <;> clear hK <;> clear K
        refine qa (qm ?_)
        refine hk_cond rfl (fun hC4 => ?_) (fun hC4 => ?_)
        · (try simp only [nhs] at hC4)
          have hjl : j < (thl n (r x)).length := by omega
          obtain ⟨c, c1, c2, c3⟩ := thl_get hjl
          refine qh (qa (qm (ql (qm ?_))))
          refine hk_region fun K hK => runs_eval tab_ok ?_
          simp only [ev0, evA, evB, evP, fl, gp, tab, simprocAttr, reduceCtorEq, reduceIte, il_get hjl, c3]
          refine fin_run ?_ (hK _ ?_) <;> clear hK <;> clear K
          · (first | exact trivial | omega | (simp only [In64] at *; omega) | (simp [In64] at *; omega) | (simp_all; done) | skip)
          refine qa ?_
          refine hk_region fun K hK => runs_eval tab_ok ?_
          simp only [ev0, evA, evB, evP, fl, gp, tab, simprocAttr, reduceCtorEq, reduceIte]
          refine fin_run ?_ (hK _ ?_) <;> clear hK <;> clear K
          · rw [rgz_len]; omega
          refine qd (qa ?_)
          rw [ol_set, rgz_set]
          refine hk_region fun K hK => runs_eval tab_ok ?_
          simp only [ev0, evA, evB, evP, fl, gp, tab, simprocAttr, reduceCtorEq, reduceIte]
          refine fin_run ?_ (hK _ ?_) <;> clear hK <;> clear K
          · (first | exact trivial | omega | (simp only [In64] at *; omega) | (simp [In64] at *; omega) | (simp_all; done) | skip)
          refine qa ?_
          refine ⟨(j + 1, fun a => if a = c then (i : Int) else g' a), [0, 1, 2, 3, 4], ⟨by simp only; omega, fun a ha k hk hm => ?_, fun a ha k hk hm => ?_⟩, by simp only; omega, ?_⟩
          · have hne : a ≠ c := by
              intro he
              subst he
              have h3 : ((a : Nat) : Int) ∈ (cst n r).getD i [] := by rw [x3, mem_thl_n ha]; exact c2
              have := cst_apart E hlt (by omega) ha h3 hm
              omega
            simp only [if_neg hne]
            exact hj2 a ha k hk hm
          · simp only at hk ⊢
            by_cases hac : a = c
            · rw [if_pos hac]
            · rw [if_neg hac]
              have hkj : k ≠ j := by intro he; rw [he, c3] at hm; omega
              exact hj3 a ha k (by omega) hm
          · simp only [leq, leA, ev0, evA, evB, evP, fl, gp, tab, simprocAttr, reduceCtorEq, reduceIte] <;> first | trivial | omega | (simp [rgz]; done)
        · (try simp only [nhs] at hC4)
          have hjn : j = (thl n (r x)).length := by omega
          refine qj (qc (qc (qf (qd (qa ?_)))))
          refine hk_region fun K hK => runs_eval tab_ok ?_
          simp only [ev0, evA, evB, evP, fl, gp, tab, simprocAttr, reduceCtorEq, reduceIte]
          refine fin_run ?_ (hK _ ?_) <;> clear hK <;> clear K
          · (first | exact trivial | omega | (simp only [In64] at *; omega) | (simp [In64] at *; omega) | (simp_all; done) | skip)
          refine qa ?_
          refine ⟨(i + 1, g'), [0, 1, 2, 3, 4], ⟨by simp only; omega, fun a ha k hk hm => ?_⟩, by simp only; omega, ?_⟩
          · by_cases hki : k = i
            · subst hki
              rw [x3] at hm
              obtain ⟨q, q1, q2⟩ := thl_at (n := n) (p := r x) ha ((mem_thl_n ha).1 hm)
              exact hj3 a ha q (by omega) q2
            · exact hj2 a ha k (by simp only at hk; omega) hm
          · simp only [leq, leA, ev0, evA, evB, evP, fl, gp, tab, simprocAttr, reduceCtorEq, reduceIte] <;> first | trivial | omega | (simp [rgz]; done)
      · (try simp only [nhs] at hC3)
        have hin : i = (cst n r).length := by omega
        have hfin : rgz n g = whl n r := rgz_congr fun a ha => by
          obtain ⟨k, k1, k2⟩ := cst_in E ha
          rw [hi2 a ha k (by omega) k2, wch_at E k1 ha k2]
        rw [hfin]
        have hwl := whl_len n r
        refine hk_seal 10 4 (by show AV.sl 4 0 n = AV.sl 4 0 _; rw [hwl]) rfl ?_
        refine qj (qc (qc (qf (qa (qm ?_)))))
        refine hk_region fun K hK => runs_eval tab_ok ?_
        simp only [ev0, evA, evB, evP, fl, gp, tab, simprocAttr, reduceCtorEq, reduceIte, ll_length]
        refine fin_run ?_ (hK _ ?_) <;> clear hK <;> clear K
        · (first | exact trivial | omega | (simp only [In64] at *; omega) | (simp [In64] at *; omega) | (simp_all; done) | skip)
        refine qa (qm (qm ?_))
        refine hk_own0c 5 1 rfl rfl ?_
        simp only [hset, List.cons_append, List.nil_append, List.set, List.length_cons, List.length_nil]
        refine hk_region fun K hK => runs_eval tab_ok ?_
        simp only [ev0, evA, evB, evP, fl, gp, tab, simprocAttr, reduceCtorEq, reduceIte, ll_length]
        refine fin_run trivial (hK _ ?_) <;> clear hK <;> clear K
        refine qa (ql ?_)
        refine hk_loop (ι := Nat) (fun i => ⟨97, [(2, .ptr 0 0), (4, .ptr 1 0), (6, .ptr 2 0), (8, .p (.list (ll (cst n r)))), (9, .ptr 3 0), (10, .p (.list (il (whl n r)))), (15, .ptr 4 0), (64, .p (.list (ll (cst n r)))), (65, .p (.int .i64 (cst n r).length)), (66, .p (.int .i64 i))], [.own [.p (.int .i64 n), .p (.list (il m))], .own [.p (.int .i64 0), .p .nil], .own [.p (.int .i64 0), .p (.int .i64 0)], .own [.p (.int .i64 0), .p (.int .i64 0)], .own [.p (.int .i64 (cst n r).length), .sl 5 0 (tbr (fun i j => ((qop (op m n) (clq n r) (rpq n r) i j : Nat) : Int)) (cst n r).length (i * (cst n r).length)).length], .own (ol (tbr (fun i j => ((qop (op m n) (clq n r) (rpq n r) i j : Nat) : Int)) (cst n r).length (i * (cst n r).length)))]⟩) (fun i => i ≤ (cst n r).length) (fun i => (cst n r).length - i) 0 (Nat.zero_le _) [0, 1, 2, 3, 5, 6] (by rw [Nat.zero_mul]; simp only [leq, leA, ev0, evA, evB, evP, fl, gp, tab, simprocAttr, reduceCtorEq, reduceIte] <;> first | trivial | simp [tbr, rg, ol_nil]) fun i hi => ?_
        refine qm ?_
        refine hk_region fun K hK => runs_eval tab_ok ?_
        simp only [ev0, evA, evB, evP, fl, gp, tab, simprocAttr, reduceCtorEq, reduceIte]
        refine fin_run trivial (hK _ ?_) <;> clear hK <;> clear K
        refine qa (qm ?_)
        refine hk_cond rfl (fun hC5 => ?_) (fun hC5 => ?_)
        · (try simp only [nhs] at hC5)
          have hlt : i < (cst n r).length := by omega
          obtain ⟨x1, x2, x3, x4⟩ := rpq_at E hlt
          obtain ⟨hd1, hd2⟩ := (lead_head x1).1 x4
          refine qh (qa (qm (ql (qm ?_))))
          refine hk_region fun K hK => runs_eval tab_ok ?_
          simp only [ev0, evA, evB, evP, fl, gp, tab, simprocAttr, reduceCtorEq, reduceIte, ll_length, ll_get hlt, x3]
          refine fin_run ?_ (hK _ ?_) <;> clear hK <;> clear K
          · (first | exact trivial | omega | (simp only [In64] at *; omega) | (simp [In64] at *; omega) | (simp_all; done) | skip)
          refine qa (qm ?_)
          refine hk_region fun K hK => runs_eval tab_ok ?_
          simp only [ev0, evA, evB, evP, fl, gp, tab, simprocAttr, reduceCtorEq, reduceIte, ll_length]
          refine fin_run trivial (hK _ ?_) <;> clear hK <;> clear K
          refine qa (ql ?_)
          refine hk_loop (ι := Nat) (fun j => ⟨97, [(2, .ptr 0 0), (4, .ptr 1 0), (6, .ptr 2 0), (8, .p (.list (ll (cst n r)))), (9, .ptr 3 0), (10, .p (.list (il (whl n r)))), (15, .ptr 4 0), (17, .p (.list (il (thl n (r (rpq n r i)))))), (64, .p (.list (ll (cst n r)))), (65, .p (.int .i64 (cst n r).length)), (66, .p (.int .i64 i)), (70, .p (.list (ll (cst n r)))), (71, .p (.int .i64 (cst n r).length)), (72, .p (.int .i64 j))], [.own [.p (.int .i64 n), .p (.list (il m))], .own [.p (.int .i64 0), .p .nil], .own [.p (.int .i64 0), .p (.int .i64 0)], .own [.p (.int .i64 0), .p (.int .i64 0)], .own [.p (.int .i64 (cst n r).length), .sl 5 0 (tbr (fun i j => ((qop (op m n) (clq n r) (rpq n r) i j : Nat) : Int)) (cst n r).length (i * (cst n r).length + j)).length], .own (ol (tbr (fun i j => ((qop (op m n) (clq n r) (rpq n r) i j : Nat) : Int)) (cst n r).length (i * (cst n r).length + j)))]⟩) (fun j => j ≤ (cst n r).length) (fun j => (cst n r).length - j) 0 (Nat.zero_le _) [0, 1, 2, 3, 4, 5] (by rw [Nat.add_zero]; simp only [leq, leA, ev0, evA, evB, evP, fl, gp, tab, simprocAttr, reduceCtorEq, reduceIte] <;> trivial) fun j hj => ?_
          refine qm ?_
          refine hk_region fun K hK => runs_eval tab_ok ?_
          simp only [ev0, evA, evB, evP, fl, gp, tab, simprocAttr, reduceCtorEq, reduceIte]
          refine fin_run trivial (hK _ ?_) <;> clear hK <;> clear K
          refine qa (qm ?_)
          refine hk_cond rfl (fun hC6 => ?_) (fun hC6 => ?_)
          · (try simp only [nhs] at hC6)
            have hjl : j < (cst n r).length := by omega
            obtain ⟨y1, y2, y3, y4⟩ := rpq_at E hjl
            obtain ⟨he1, he2⟩ := (lead_head y1).1 y4
            have hxy := G.cl _ _ x1 y1
            have hat := at_lt hlt hjl
            have hl := hlen (i * (cst n r).length + j)
            have hwl := whl_len n r
            have hwg := whl_get E hxy
            have hwi : op m n (rpq n r i) (rpq n r j) < (whl n r).length := by omega
            refine qh (qa (qm (ql (qm ?_))))
            refine hk_region fun K hK => runs_eval tab_ok ?_
            simp only [ev0, evA, evB, evP, fl, gp, tab, simprocAttr, reduceCtorEq, reduceIte, ll_length, ll_get hjl, y3]
            refine fin_run ?_ (hK _ ?_) <;> clear hK <;> clear K
            · (first | exact trivial | omega | (simp only [In64] at *; omega) | (simp [In64] at *; omega) | (simp_all; done) | skip)
            refine qa ?_
            refine hk_draw2 mixed fun K hK => runs2_eval tab_ok ?_
            simp only [evD, ev0, evA, evB, evP, fl, gp, tab, simprocAttr, reduceCtorEq, reduceIte, il_length, il_get hd1, hd2, il_get he1, he2, il_get hwi, hwg]
            refine fin2_stop ?_ (runs2_call (of_c h.2.1 x1 y1) rfl rfl rfl rfl (by simp only [dstOk, Nat.reduceLT]) (by repeat (first | exact trivial | constructor)) (runs2_eval tab_ok ?_))
            · (first | exact trivial | omega | (simp only [In64] at *; omega) | (simp [In64] at *; omega) | (simp_all; done) | skip)
            simp only [evD, ev0, evA, evB, evP, fl, gp, tab, simprocAttr, reduceCtorEq, reduceIte, il_length, il_get hd1, hd2, il_get he1, he2, il_get hwi, hwg]
            refine fin2_run ?_ (hK _ _ (by first | kernel_rfl | rfl) ?_) <;> clear hK <;> clear K
            · (first | exact trivial | omega | (simp only [In64] at *; omega) | (simp [In64] at *; omega) | (simp_all; done) | skip)
            refine qd (qa ?_)
            refine hk_region fun K hK => runs_eval tab_ok ?_
            simp only [ev0, evA, evB, evP, fl, gp, tab, simprocAttr, reduceCtorEq, reduceIte]
            refine fin_run ?_ (hK _ ?_) <;> clear hK <;> clear K
            · (first | exact trivial | omega | (simp only [In64] at *; omega) | (simp [In64] at *; omega) | (simp_all; done) | skip)
            refine qa ?_
            refine ⟨j + 1, [0, 1, 2, 3, 4, 6], by omega, by omega, ?_⟩
            rw [tbr_succ (fun i j => ((qop (op m n) (clq n r) (rpq n r) i j : Nat) : Int)) hjl]
            simp only [leq, leA, ev0, evA, evB, evP, fl, gp, tab, simprocAttr, reduceCtorEq, reduceIte] <;> first | trivial | omega
          · (try simp only [nhs] at hC6)
            have hjn : j = (cst n r).length := by omega
            refine qj (qc (qc (qf (qd (qa ?_)))))
            refine hk_region fun K hK => runs_eval tab_ok ?_
            simp only [ev0, evA, evB, evP, fl, gp, tab, simprocAttr, reduceCtorEq, reduceIte]
            refine fin_run ?_ (hK _ ?_) <;> clear hK <;> clear K
            · (first | exact trivial | omega | (simp only [In64] at *; omega) | (simp [In64] at *; omega) | (simp_all; done) | skip)
            refine qa ?_
            refine ⟨i + 1, [0, 1, 2, 3, 4, 5], by omega, by omega, ?_⟩
            rw [hjn, show (i + 1) * (cst n r).length = i * (cst n r).length + (cst n r).length by rw [Nat.add_mul, Nat.one_mul]]
            simp only [leq, leA, ev0, evA, evB, evP, fl, gp, tab, simprocAttr, reduceCtorEq, reduceIte] <;> first | trivial | omega
        · (try simp only [nhs] at hC5)
          have hin : i = (cst n r).length := by omega
          refine qj (qc (qc (qf (qa (qm ?_)))))
          refine hk_draw2 mixed fun K hK => runs2_eval tab_ok ?_
          simp only [evD, ev0, evA, evB, evP, fl, gp, tab, simprocAttr, reduceCtorEq, reduceIte]
          refine fin2_run ?_ (hK _ _ (by first | kernel_rfl | rfl) ?_) <;> clear hK <;> clear K
          · (first | exact trivial | omega | (simp only [In64] at *; omega) | (simp [In64] at *; omega) | (simp_all; done) | skip)
          refine qa (qk ?_)
          simp only [Tryd.results28, enA, ev0, evA, evB, evP, fl, gp, tab, simprocAttr, reduceCtorEq, reduceIte]
          all_goals (simp [hin, tbl, qtb])
end Go.Proofs.YtjbfkdaodfdpcaaDoor

/-
  Parts of a group as groups; what a group does with cosets: by maps. Conditions: none.
-/
set_option linter.all false
namespace Go.Proofs.YtjbfkdaodfdpcaaDoor
open Go.Pv

/-! ### Parts -/

/-- Where a thing stands among those of which something is so. -/
def pix (p : Nat → Bool) (x : Nat) : Nat := (thl x p).length
theorem thl_split (n x : Nat) (p : Nat → Bool) (hx : x < n) (hp : p x = true) : ∃ r, thl n p = thl x p ++ (x : Int) :: r := by
  induction n with
  | zero => omega
  | succ n ih =>
    rw [thl_succ]
    by_cases h : x = n
    · subst h
      rw [if_pos hp]; exact ⟨[], rfl⟩
    · obtain ⟨r, hr⟩ := ih (by omega)
      rw [hr]
      exact ⟨r ++ (if p n = true then [(n : Int)] else []), by simp⟩
theorem pix_at {n x : Nat} {p : Nat → Bool} (hx : x < n) (hp : p x = true) : pix p x < (thl n p).length ∧ (thl n p).getD (pix p x) 0 = (x : Int) := by
  obtain ⟨r, hr⟩ := thl_split n x p hx hp
  unfold pix
  rw [hr]
  constructor
  · simp
  · simp [List.getD]
theorem pix_get {n i x : Nat} {p : Nat → Bool} (hi : i < (thl n p).length) (hx : x < n) (hp : p x = true) (h : (thl n p).getD i 0 = (x : Int)) : pix p x = i := by
  obtain ⟨h1, h2⟩ := pix_at hx hp
  rcases Nat.lt_trichotomy (pix p x) i with h3 | h3 | h3
  · have := thl_get_asc h3 hi; omega
  · exact h3
  · have := thl_get_asc h3 h1; omega
def lat (n : Nat) (p : Nat → Bool) (i : Nat) : Nat := ((thl n p).getD i 0).toNat
theorem lat_at {n i : Nat} {p : Nat → Bool} (hi : i < (thl n p).length) : lat n p i < n ∧ p (lat n p i) = true ∧ (thl n p).getD i 0 = (lat n p i : Int) ∧ pix p (lat n p i) = i := by
  obtain ⟨x, x1, x2, x3⟩ := thl_get hi
  have : lat n p i = x := by unfold lat; rw [x3]; rfl
  rw [this]
  exact ⟨x1, x2, x3, pix_get hi x1 x2 x3⟩
/-- The part's operation, by places. -/
def pop (n : Nat) (f : Nat → Nat → Nat) (p : Nat → Bool) (i j : Nat) : Nat := pix p (f (lat n p i) (lat n p j))
def ptb (n : Nat) (f : Nat → Nat → Nat) (p : Nat → Bool) : List Int := tbl (fun i j => ((pop n f p i j : Nat) : Int)) (thl n p).length
theorem pop_at {n e : Nat} {f : Nat → Nat → Nat} {p : Nat → Bool} (G : Grp n f e) (hs : Sub n f e p) {i j : Nat} (hi : i < (thl n p).length) (hj : j < (thl n p).length) : pop n f p i j < (thl n p).length ∧ lat n p (pop n f p i j) = f (lat n p i) (lat n p j) := by
  obtain ⟨x1, x2, _, _⟩ := lat_at hi
  obtain ⟨y1, y2, _, _⟩ := lat_at hj
  obtain ⟨h1, h2⟩ := pix_at (G.cl _ _ x1 y1) (hs.mul _ _ x1 y1 x2 y2)
  exact ⟨h1, by unfold pop lat at *; rw [h2]; rfl⟩
/-- A part is a group. -/
theorem ptb_grp {n e : Nat} {f : Nat → Nat → Nat} {p : Nat → Bool} (G : Grp n f e) (hs : Sub n f e p) : Grp (thl n p).length (pop n f p) (pix p e) := by
  have le := pix_at G.el hs.one
  have hat : ∀ {i}, i < (thl n p).length → pix p (lat n p i) = i := fun hi => (lat_at hi).2.2.2
  have hle : lat n p (pix p e) = e := by unfold lat; rw [le.2]; rfl
  refine ⟨by omega, fun i j hi hj => (pop_at G hs hi hj).1, le.1, fun i hi => ?_, fun i hi => ?_, fun i j k hi hj hk => ?_, fun i hi => ?_⟩
  · unfold pop; rw [hle, G.one_l _ (lat_at hi).1, hat hi]
  · unfold pop; rw [hle, G.one_r _ (lat_at hi).1, hat hi]
  · have h1 := pop_at G hs hi hj
    have h2 := pop_at G hs hj hk
    show pix p (f (lat n p (pop n f p i j)) (lat n p k)) = pix p (f (lat n p i) (lat n p (pop n f p j k)))
    rw [h1.2, h2.2, G.assoc _ _ _ (lat_at hi).1 (lat_at hj).1 (lat_at hk).1]
  · obtain ⟨x1, x2, _, _⟩ := lat_at hi
    have h1 := pix_at (G.iv_lt x1) (hs.inv _ x1 x2)
    have h2 : lat n p (pix p (iv n f e (lat n p i))) = iv n f e (lat n p i) := by
      show ((thl n p).getD (pix p (iv n f e (lat n p i))) 0).toNat = _
      rw [h1.2]; rfl
    refine ⟨_, h1.1, ?_, ?_⟩
    · show pix p (f (lat n p i) (lat n p (pix p (iv n f e (lat n p i))))) = _
      rw [h2, G.mul_iv x1]
    · show pix p (f (lat n p (pix p (iv n f e (lat n p i)))) (lat n p i)) = _
      rw [h2, G.iv_mul x1]

theorem take_snoc {l : List Int} {i : Nat} (h : i < l.length) : l.take (i + 1) = l.take i ++ [l.getD i 0] := by
  rw [List.take_succ_eq_append_getElem h]
  simp [List.getD, List.getElem?_eq_getElem h]
/-- Where a part's thing stands, as a value. -/
def pxv (p : Nat → Bool) (u : Int) : PV := .int .i64 (pix p u.toNat)

set_option maxHeartbeats 4000000 in
theorem part_ok {n e : Nat} {m : List Int} (h : GT n m n e) (p : Nat → Bool) (hs : Sub n (op m n) e p) : FnC Tryd.prog 27 [gp n m, .list (il (thl n p))] (.tup [gp (thl n p).length (ptb n (op m n) p), fl (0, 0)]) := by
  have G := h.2.2
  have hb := h.2.1.big
  have hlp := thl_le n p
  have hsq := sq_le (show (thl n p).length ≤ 60 by omega)
  have hlen := tbr_len (fun i j => ((pop n (op m n) p i j : Nat) : Int)) (thl n p).length
  refine fnc_of tab_ok Tryd.func27 rfl (by kernel_rfl) (by rw [Tryd.ntmps27]; exact Nat.le_add_left 2 _) ?_; rw [Tryd.ntmps27]
  refine qm ?_
  refine hk_region fun K hK => runs_eval tab_ok ?_
  simp only [ev0, evA, evB, evP, fl, gp, tab, simprocAttr, reduceCtorEq, reduceIte]
  refine fin_run ?_ (hK _ ?_) <;> clear hK <;> clear K
  · (first | exact trivial | omega | (simp only [In64] at *; omega) | (simp [In64] at *; omega) | (simp_all; done) | skip)
  refine qa (qm (qm ?_))
  refine hk_region fun K hK => runs_eval tab_ok ?_
  simp only [ev0, evA, evB, evP, fl, gp, tab, simprocAttr, reduceCtorEq, reduceIte]
  refine fin_stop trivial (runs_call (group_ok h p true (by simp [hs])) rfl rfl rfl (by simp only [dstOk, Nat.reduceLT]) (by repeat (first | exact trivial | constructor)) (runs_eval tab_ok ?_))
  simp only [ev0, evA, evB, evP, fl, gp, tab, simprocAttr, reduceCtorEq, reduceIte, ufb]
  refine fin_run ?_ (hK _ ?_) <;> clear hK <;> clear K
  · (first | exact trivial | omega | (simp only [In64] at *; omega) | (simp [In64] at *; omega) | (simp_all; done) | skip)
  refine qa (qm ?_)
  refine hk_region fun K hK => runs_eval tab_ok ?_
  simp only [ev0, evA, evB, evP, fl, gp, tab, simprocAttr, reduceCtorEq, reduceIte]
  refine fin_run ?_ (hK _ ?_) <;> clear hK <;> clear K
  · (first | exact trivial | omega | (simp only [In64] at *; omega) | (simp [In64] at *; omega) | (simp_all; done) | skip)
  refine qa ?_
  refine hk_cond rfl (fun hC1 => ?_) (fun hC1 => ?_)
  · cases hC1
  · (try simp only [nhs] at hC1)
    refine qh (qa (qm ?_))
    refine hk_region fun K hK => runs_eval tab_ok ?_
    simp only [ev0, evA, evB, evP, fl, gp, tab, simprocAttr, reduceCtorEq, reduceIte]
    refine fin_run ?_ (hK _ ?_) <;> clear hK <;> clear K
    · (first | exact trivial | omega | (simp only [In64] at *; omega) | (simp [In64] at *; omega) | (simp_all; done) | skip)
    refine qa (qm (qm ?_))
    refine hk_region fun K hK => runs_eval tab_ok ?_
    simp only [ev0, evA, evB, evP, fl, gp, tab, simprocAttr, reduceCtorEq, reduceIte, il_length]
    refine fin_run trivial (hK _ ?_) <;> clear hK <;> clear K
    refine qa (ql ?_)
    refine hk_loop (ι := Nat) (fun i => ⟨65, [(1, .p (.list (il (thl n p)))), (2, .ptr 0 0), (4, .ptr 1 0), (5, .ptr 2 0), (7, .mptr 3), (24, .p (.list (il (thl n p)))), (25, .p (.int .i64 (thl n p).length)), (26, .p (.int .i64 i))], [.own [.p (.int .i64 n), .p (.list (il m))], .own [.p (.int .i64 0), .p .nil], .own [.p (.int .i64 0), .p (.int .i64 0)], .mp .i64 (mpd ((thl n p).take i)) (mpv ((thl n p).take i) (pxv p))]⟩) (fun i => i ≤ (thl n p).length) (fun i => (thl n p).length - i) 0 (Nat.zero_le _) [0, 1, 2, 4] (by simp only [leq, leA, ev0, evA, evB, evP, fl, gp, tab, simprocAttr, reduceCtorEq, reduceIte] <;> first | trivial | (rw [mpd_nil, mpv_nil]; rfl)) fun i hi => ?_
    refine qm ?_
    refine hk_region fun K hK => runs_eval tab_ok ?_
    simp only [ev0, evA, evB, evP, fl, gp, tab, simprocAttr, reduceCtorEq, reduceIte]
    refine fin_run trivial (hK _ ?_) <;> clear hK <;> clear K
    refine qa (qm ?_)
    refine hk_cond rfl (fun hC2 => ?_) (fun hC2 => ?_)
    · (try simp only [nhs] at hC2)
      have hlt : i < (thl n p).length := by omega
      obtain ⟨x1, x2, x3, x4⟩ := lat_at hlt
      refine qh (qa (qm (ql (qm ?_))))
      refine hk_region fun K hK => runs_eval tab_ok ?_
      simp only [ev0, evA, evB, evP, fl, gp, tab, simprocAttr, reduceCtorEq, reduceIte, il_get hlt, x3]
      refine fin_run ?_ (hK _ ?_) <;> clear hK <;> clear K
      · (first | exact trivial | omega | (simp only [In64] at *; omega) | (simp [In64] at *; omega) | (simp_all; done) | skip)
      refine qa ?_
      refine hk_region fun K hK => runs_eval tab_ok ?_
      simp only [ev0, evA, evB, evP, fl, gp, tab, simprocAttr, reduceCtorEq, reduceIte]
      refine fin_run ?_ (hK _ ?_) <;> clear hK <;> clear K
      · (first | exact trivial | omega | (simp only [In64] at *; omega) | (simp [In64] at *; omega) | (simp_all; done) | skip)
      refine qd (qa ?_)
      refine hk_region fun K hK => runs_eval tab_ok ?_
      simp only [ev0, evA, evB, evP, fl, gp, tab, simprocAttr, reduceCtorEq, reduceIte]
      refine fin_run ?_ (hK _ ?_) <;> clear hK <;> clear K
      · (first | exact trivial | omega | (simp only [In64] at *; omega) | (simp [In64] at *; omega) | (simp_all; done) | skip)
      refine qa ?_
      refine ⟨i + 1, [0, 1, 2, 3], by omega, by omega, ?_⟩
      have hd := mpd_set ((thl n p).take i) (lat n p i : Int)
      have hv := mpv_set ((thl n p).take i) (lat n p i : Int) (pxv p)
      have hx : pxv p (lat n p i : Int) = .int .i64 (i : Int) := by unfold pxv; rw [Int.toNat_natCast, x4]
      rw [hx] at hv
      rw [take_snoc hlt, x3]
      simp only [leq, leA, ev0, evA, evB, evP, fl, gp, tab, simprocAttr, reduceCtorEq, reduceIte] <;> first | trivial | omega | (rw [hd, hv])
    · (try simp only [nhs] at hC2)
      have hin : i = (thl n p).length := by omega
      rw [hin, List.take_length]
      refine qj (qc (qc (qf (qa (qm ?_)))))
      refine hk_region fun K hK => runs_eval tab_ok ?_
      simp only [ev0, evA, evB, evP, fl, gp, tab, simprocAttr, reduceCtorEq, reduceIte, il_length]
      refine fin_run ?_ (hK _ ?_) <;> clear hK <;> clear K
      · (first | exact trivial | omega | (simp only [In64] at *; omega) | (simp [In64] at *; omega) | (simp_all; done) | skip)
      refine qa (qm (qm ?_))
      refine hk_own0c 4 1 rfl rfl ?_
      simp only [hset, List.cons_append, List.nil_append, List.set, List.length_cons, List.length_nil]
      refine hk_region fun K hK => runs_eval tab_ok ?_
      simp only [ev0, evA, evB, evP, fl, gp, tab, simprocAttr, reduceCtorEq, reduceIte, il_length]
      refine fin_run trivial (hK _ ?_) <;> clear hK <;> clear K
      refine qa (ql ?_)
      refine hk_loop (ι := Nat) (fun i => ⟨65, [(1, .p (.list (il (thl n p)))), (2, .ptr 0 0), (4, .ptr 1 0), (5, .ptr 2 0), (7, .mptr 3), (10, .ptr 4 0), (38, .p (.list (il (thl n p)))), (39, .p (.int .i64 (thl n p).length)), (40, .p (.int .i64 i))], [.own [.p (.int .i64 n), .p (.list (il m))], .own [.p (.int .i64 0), .p .nil], .own [.p (.int .i64 0), .p (.int .i64 0)], .mp .i64 (mpd (thl n p)) (mpv (thl n p) (pxv p)), .own [.p (.int .i64 (thl n p).length), .sl 5 0 (tbr (fun i j => ((pop n (op m n) p i j : Nat) : Int)) (thl n p).length (i * (thl n p).length)).length], .own (ol (tbr (fun i j => ((pop n (op m n) p i j : Nat) : Int)) (thl n p).length (i * (thl n p).length)))]⟩) (fun i => i ≤ (thl n p).length) (fun i => (thl n p).length - i) 0 (Nat.zero_le _) [0, 1, 2, 3, 4, 5] (by rw [Nat.zero_mul]; simp only [leq, leA, ev0, evA, evB, evP, fl, gp, tab, simprocAttr, reduceCtorEq, reduceIte] <;> first | trivial | simp [tbr, rg, ol_nil]) fun i hi => ?_
      refine qm ?_
      refine hk_region fun K hK => runs_eval tab_ok ?_
      simp only [ev0, evA, evB, evP, fl, gp, tab, simprocAttr, reduceCtorEq, reduceIte]
      refine fin_run trivial (hK _ ?_) <;> clear hK <;> clear K
      refine qa (qm ?_)
      refine hk_cond rfl (fun hC3 => ?_) (fun hC3 => ?_)
      · (try simp only [nhs] at hC3)
        have hlt : i < (thl n p).length := by omega
        obtain ⟨x1, x2, x3, x4⟩ := lat_at hlt
        refine qh (qa (qm (ql (qm ?_))))
        refine hk_region fun K hK => runs_eval tab_ok ?_
        simp only [ev0, evA, evB, evP, fl, gp, tab, simprocAttr, reduceCtorEq, reduceIte, il_get hlt, x3]
        refine fin_run ?_ (hK _ ?_) <;> clear hK <;> clear K
        · (first | exact trivial | omega | (simp only [In64] at *; omega) | (simp [In64] at *; omega) | (simp_all; done) | skip)
        refine qa (qm ?_)
        refine hk_region fun K hK => runs_eval tab_ok ?_
        simp only [ev0, evA, evB, evP, fl, gp, tab, simprocAttr, reduceCtorEq, reduceIte, il_length]
        refine fin_run trivial (hK _ ?_) <;> clear hK <;> clear K
        refine qa (ql ?_)
        refine hk_loop (ι := Nat) (fun j => ⟨65, [(1, .p (.list (il (thl n p)))), (2, .ptr 0 0), (4, .ptr 1 0), (5, .ptr 2 0), (7, .mptr 3), (10, .ptr 4 0), (12, .p (.int .i64 (lat n p i : Nat))), (38, .p (.list (il (thl n p)))), (39, .p (.int .i64 (thl n p).length)), (40, .p (.int .i64 i)), (44, .p (.list (il (thl n p)))), (45, .p (.int .i64 (thl n p).length)), (46, .p (.int .i64 j))], [.own [.p (.int .i64 n), .p (.list (il m))], .own [.p (.int .i64 0), .p .nil], .own [.p (.int .i64 0), .p (.int .i64 0)], .mp .i64 (mpd (thl n p)) (mpv (thl n p) (pxv p)), .own [.p (.int .i64 (thl n p).length), .sl 5 0 (tbr (fun i j => ((pop n (op m n) p i j : Nat) : Int)) (thl n p).length (i * (thl n p).length + j)).length], .own (ol (tbr (fun i j => ((pop n (op m n) p i j : Nat) : Int)) (thl n p).length (i * (thl n p).length + j)))]⟩) (fun j => j ≤ (thl n p).length) (fun j => (thl n p).length - j) 0 (Nat.zero_le _) [0, 1, 2, 3, 4, 5] (by rw [Nat.add_zero]; simp only [leq, leA, ev0, evA, evB, evP, fl, gp, tab, simprocAttr, reduceCtorEq, reduceIte] <;> trivial) fun j hj => ?_
        refine qm ?_
        refine hk_region fun K hK => runs_eval tab_ok ?_
        simp only [ev0, evA, evB, evP, fl, gp, tab, simprocAttr, reduceCtorEq, reduceIte]
        refine fin_run trivial (hK _ ?_) <;> clear hK <;> clear K
        refine qa (qm ?_)
        refine hk_cond rfl (fun hC4 => ?_) (fun hC4 => ?_)
        · (try simp only [nhs] at hC4)
          have hjl : j < (thl n p).length := by omega
          obtain ⟨y1, y2, y3, y4⟩ := lat_at hjl
          have hxy := G.cl _ _ x1 y1
          have hmem := (mem_thl_n hxy).2 (hs.mul _ _ x1 y1 x2 y2)
          have hin := mpd_in hmem
          have hvv := mpv_in (pxv p) hmem
          have hpx : pxv p ((op m n (lat n p i) (lat n p j) : Nat) : Int) = .int .i64 ((pop n (op m n) p i j : Nat) : Int) := by unfold pxv; rw [Int.toNat_natCast]; rfl
          have hat := at_lt hlt hjl
          have hl := hlen (i * (thl n p).length + j)
          refine qh (qa (qm (ql (qm ?_))))
          refine hk_region fun K hK => runs_eval tab_ok ?_
          simp only [ev0, evA, evB, evP, fl, gp, tab, simprocAttr, reduceCtorEq, reduceIte, il_get hjl, y3]
          refine fin_run ?_ (hK _ ?_) <;> clear hK <;> clear K
          · (first | exact trivial | omega | (simp only [In64] at *; omega) | (simp [In64] at *; omega) | (simp_all; done) | skip)
          refine qa ?_
          refine hk_draw2 mixed fun K hK => runs2_eval tab_ok ?_
          simp only [evD, ev0, evA, evB, evP, fl, gp, tab, simprocAttr, reduceCtorEq, reduceIte]
          refine fin2_stop trivial (runs2_call (of_c h.2.1 x1 y1) rfl rfl rfl rfl (by simp only [dstOk, Nat.reduceLT]) (by repeat (first | exact trivial | constructor)) (runs2_eval tab_ok ?_))
          simp only [evD, ev0, evA, evB, evP, fl, gp, tab, simprocAttr, reduceCtorEq, reduceIte, hin, cond_true, hvv, hpx]
          refine fin2_run ?_ (hK _ _ (by first | kernel_rfl | rfl) ?_) <;> clear hK <;> clear K
          · (first | exact trivial | omega | (simp only [In64] at *; omega) | (simp [In64] at *; omega) | (simp_all; done) | skip)
          refine qd (qa ?_)
          refine hk_region fun K hK => runs_eval tab_ok ?_
          simp only [ev0, evA, evB, evP, fl, gp, tab, simprocAttr, reduceCtorEq, reduceIte]
          refine fin_run ?_ (hK _ ?_) <;> clear hK <;> clear K
          · (first | exact trivial | omega | (simp only [In64] at *; omega) | (simp [In64] at *; omega) | (simp_all; done) | skip)
          refine qa ?_
          refine ⟨j + 1, [0, 1, 2, 3, 4, 6], by omega, by omega, ?_⟩
          rw [tbr_succ (fun i j => ((pop n (op m n) p i j : Nat) : Int)) hjl]
          simp only [leq, leA, ev0, evA, evB, evP, fl, gp, tab, simprocAttr, reduceCtorEq, reduceIte] <;> first | trivial | omega
        · (try simp only [nhs] at hC4)
          have hjn : j = (thl n p).length := by omega
          refine qj (qc (qc (qf (qd (qa ?_)))))
          refine hk_region fun K hK => runs_eval tab_ok ?_
          simp only [ev0, evA, evB, evP, fl, gp, tab, simprocAttr, reduceCtorEq, reduceIte]
          refine fin_run ?_ (hK _ ?_) <;> clear hK <;> clear K
          · (first | exact trivial | omega | (simp only [In64] at *; omega) | (simp [In64] at *; omega) | (simp_all; done) | skip)
          refine qa ?_
          refine ⟨i + 1, [0, 1, 2, 3, 4, 5], by omega, by omega, ?_⟩
          rw [hjn, show (i + 1) * (thl n p).length = i * (thl n p).length + (thl n p).length by rw [Nat.add_mul, Nat.one_mul]]
          simp only [leq, leA, ev0, evA, evB, evP, fl, gp, tab, simprocAttr, reduceCtorEq, reduceIte] <;> first | trivial | omega
      · (try simp only [nhs] at hC3)
        have hin : i = (thl n p).length := by omega
        refine qj (qc (qc (qf (qa (qm ?_)))))
        refine hk_region fun K hK => runs_eval tab_ok ?_
        simp only [ev0, evA, evB, evP, fl, gp, tab, simprocAttr, reduceCtorEq, reduceIte]
        refine fin_run ?_ (hK _ ?_) <;> clear hK <;> clear K
        · (first | exact trivial | omega | (simp only [In64] at *; omega) | (simp [In64] at *; omega) | (simp_all; done) | skip)
        refine qa (qk ?_)
        simp only [Tryd.results27, enA, ev0, evA, evB, evP, fl, gp, tab, simprocAttr, reduceCtorEq, reduceIte]
        all_goals (simp [hin, tbl, ptb])
end Go.Proofs.YtjbfkdaodfdpcaaDoor

/-
  Operations that are the same on a group's things: inverses, conjugates, what is made. Conditions: none.
-/
set_option linter.all false
namespace Go.Proofs.YtjbfkdaodfdpcaaDoor
open Go.Pv

section
variable {n e : Nat} {f g : Nat → Nat → Nat} {p : Nat → Bool}

theorem iv_cong (G : Grp n f e) (h : ∀ a b, a < n → b < n → g a b = f a b) {a : Nat} (ha : a < n) : iv n g e a = iv n f e a := by
  have G' := G.cong' h
  refine (G'.iv_unique ha (G.iv_lt ha) (.inl ?_)).symm
  rw [h _ _ ha (G.iv_lt ha), G.mul_iv ha]
theorem cjr_cong (G : Grp n f e) (h : ∀ a b, a < n → b < n → g a b = f a b) {x a : Nat} (hx : x < n) (ha : a < n) : cjr n g e x a = cjr n f e x a := by
  unfold cjr
  rw [iv_cong G h ha, h _ _ (G.iv_lt ha) hx, h _ _ (G.cl _ _ (G.iv_lt ha) hx) ha]
theorem cup_cong (G : Grp n f e) (h : ∀ a b, a < n → b < n → g a b = f a b) (y : Nat) : cup n g e p y = cup n f e p y := by
  rw [Bool.eq_iff_iff, cup_iff, cup_iff]
  constructor
  · rintro ⟨x, a, hx, ha, h1, h2⟩
    exact ⟨x, a, hx, ha, h1, by rw [← cjr_cong G h hx ha]; exact h2⟩
  · rintro ⟨x, a, hx, ha, h1, h2⟩
    exact ⟨x, a, hx, ha, h1, by rw [cjr_cong G h hx ha]; exact h2⟩
theorem Gen.cong_op (G : Grp n f e) (h : ∀ a b, a < n → b < n → g a b = f a b) {a : Nat} (hg : Gen n g e p a) : Gen n f e p a := by
  have G' := G.cong' h
  induction hg with
  | one => exact .one
  | step a b ha hb hp ih => rw [h a b (ih.lt G) hb]; exact .step a b ih hb hp
theorem Sub.cong_op (G : Grp n f e) (h : ∀ a b, a < n → b < n → g a b = f a b) (hs : Sub n g e p) : Sub n f e p :=
  sub_of G hs.one fun a b ha hb h1 h2 => by rw [← h a b ha hb]; exact hs.mul a b ha hb h1 h2
theorem Nml.cong_op (G : Grp n f e) (h : ∀ a b, a < n → b < n → g a b = f a b) (hs : Nml n g e p) : Nml n f e p := fun a ha x hx hp => by
  rw [← cjr_cong G h hx ha]; exact hs a ha x hx hp
theorem cong_symm {n : Nat} {f g : Nat → Nat → Nat} (h : ∀ a b, a < n → b < n → g a b = f a b) : ∀ a b, a < n → b < n → f a b = g a b := fun a b ha hb => (h a b ha hb).symm
end
end Go.Proofs.YtjbfkdaodfdpcaaDoor

/-
  Composition series: parts of parts; the greatest normal subgroup; Composition walked. Conditions: none.
-/
set_option linter.all false
namespace Go.Proofs.YtjbfkdaodfdpcaaDoor
open Go.Pv

/-! ### What a part has, in the whole -/

def lft (p q : Nat → Bool) (x : Nat) : Bool := p x && q (pix p x)
theorem lat_pix {n x : Nat} {p : Nat → Bool} (hx : x < n) (hp : p x = true) : lat n p (pix p x) = x := by
  have := (pix_at hx hp).2
  unfold lat; rw [this]; rfl
theorem lat_low {n i : Nat} {p : Nat → Bool} (hi : i < (thl n p).length) : lat (n + 1) p i = lat n p i := by
  unfold lat
  rw [thl_succ, List.getD_eq_getElem?_getD, List.getElem?_append_left hi, ← List.getD_eq_getElem?_getD]
theorem lft_thl (p q : Nat → Bool) : ∀ n, (thl (thl n p).length q).map (fun z => ((lat n p z.toNat : Nat) : Int)) = thl n (lft p q)
  | 0 => rfl
  | n + 1 => by
    have ih := lft_thl p q n
    have hc : (thl (thl n p).length q).map (fun z => ((lat (n + 1) p z.toNat : Nat) : Int)) = thl n (lft p q) := by
      rw [← ih]
      refine List.map_congr_left fun z hz => ?_
      obtain ⟨i, i1, _, rfl⟩ := mem_thl.1 hz
      rw [Int.toNat_natCast, lat_low i1]
    rw [thl_succ n (lft p q)]
    by_cases hp : p n = true
    · have hl : (thl (n + 1) p).length = (thl n p).length + 1 := by rw [thl_succ, if_pos hp]; simp
      have ha : lat (n + 1) p (thl n p).length = n := by
        unfold lat
        rw [thl_succ, if_pos hp]; simp [List.getD]
      rw [hl, thl_succ, List.map_append, hc]
      have hv : lft p q n = q (thl n p).length := by unfold lft pix; rw [hp]; rfl
      rw [hv]
      by_cases hq : q (thl n p).length = true
      · rw [if_pos hq, if_pos hq]; simp [ha]
      · rw [if_neg hq, if_neg hq]; rfl
    · have hl : thl (n + 1) p = thl n p := by rw [thl_succ, if_neg hp]; simp
      have hv : lft p q n = false := by unfold lft; rw [Bool.not_eq_true] at hp; rw [hp]; rfl
      rw [hl, hv, if_neg (by simp), List.append_nil]
      exact hc

section
variable {n e : Nat} {f : Nat → Nat → Nat} {p q : Nat → Bool}

theorem pop_pix (hs : Sub n f e p) {a b : Nat} (ha : a < n) (hb : b < n) (pa : p a = true) (pb : p b = true) : pop n f p (pix p a) (pix p b) = pix p (f a b) := by
  unfold pop; rw [lat_pix ha pa, lat_pix hb pb]
theorem cjr_in (G : Grp n f e) (hs : Sub n f e p) {x a : Nat} (hx : x < n) (ha : a < n) (px : p x = true) (pa : p a = true) : p (cjr n f e x a) = true := by
  have hi := G.iv_lt ha
  have pi := hs.inv _ ha pa
  exact hs.mul _ _ (G.cl _ _ hi hx) ha (hs.mul _ _ hi hx pi px) pa

/-- A normal subgroup of a subgroup, not all of it; with any thing more, and what that is conjugated to, it is all. -/
structure Mxn (n : Nat) (f : Nat → Nat → Nat) (e : Nat) (p p' : Nat → Bool) : Prop where
  sub : Sub n f e p'
  le : ∀ x, x < n → p' x = true → p x = true
  nml : ∀ a x, a < n → x < n → p a = true → p' x = true → p' (cjr n f e x a) = true
  ne : ∃ x, x < n ∧ p x = true ∧ p' x = false
  mx : ∀ x, x < n → p x = true → p' x = false → ∀ t : Nat → Bool, Sub n f e t → (∀ y, y < n → p' y = true → t y = true) → (∀ b, b < n → p b = true → t (cjr n f e x b) = true) → ∀ y, y < n → p y = true → t y = true

def wth (q : Nat → Bool) (a x : Nat) : Bool := q x || decide (x = a)
/-- What the greatest normal subgroup is. -/
structure Grt (n : Nat) (f : Nat → Nat → Nat) (e : Nat) (q : Nat → Bool) : Prop where
  sub : Sub n f e q
  nml : Nml n f e q
  ne : ∃ x, x < n ∧ q x = false
  mx : ∀ a, a < n → q a = false → ∀ y, y < n → Gen n f e (cup n f e (wth q a)) y

theorem Mxn.lt (h : Mxn n f e p q) : (mem n q).length < (mem n p).length := mem_lt h.le fun hh => by
  obtain ⟨x, x1, x2, x3⟩ := h.ne
  rw [hh x x1] at x3; rw [x3] at x2; cases x2
end

/-- The first thing with which a set makes not all. -/
def gfa (n : Nat) (cl : (Nat → Bool) → Nat → Nat → Bool) (p : Nat → Bool) (a : Nat) : Bool := !p a && decide ((thl n (cl p a)).length < n)
def gnx (n : Nat) (cl : (Nat → Bool) → Nat → Nat → Bool) (p : Nat → Bool) : Nat → Bool :=
  match fst' (gfa n cl p) n with
  | some a => cl p a
  | none => p
section
variable {n e : Nat} {f : Nat → Nat → Nat}
end

/-! ### greatest -/

/-! ### Composition -/

theorem Grt.cong {n e : Nat} {f g : Nat → Nat → Nat} {q : Nat → Bool} (G : Grp n f e) (h : ∀ a b, a < n → b < n → g a b = f a b) (hq : Grt n g e q) : Grt n f e q :=
  ⟨hq.sub.cong_op G h, hq.nml.cong_op G h, hq.ne, fun a ha hqa y hy => (Gen.mono (fun b _ hb => by rwa [cup_cong G h] at hb) (hq.mx a ha hqa y hy)).cong_op G h⟩

section
variable {n e : Nat} {m : List Int}
theorem ptb_GT (h : GT n m n e) {p : Nat → Bool} (hs : Sub n (op m n) e p) : GT (thl n p).length (ptb n (op m n) p) (thl n p).length (pix p e) := by
  have := thl_le n p
  have := h.2.1.big
  exact tbl_GT' (by omega) (ptb_grp h.2.2 hs)
theorem ptb_op {p : Nat → Bool} (f : Nat → Nat → Nat) : ∀ a b, a < (thl n p).length → b < (thl n p).length → op (ptb n f p) (thl n p).length a b = pop n f p a b := fun a b ha hb => tbl_op' _ ha hb

/-- A composition series: from all on, to one thing. -/
structure Cps (n : Nat) (f : Nat → Nat → Nat) (e : Nat) (T : Nat → Nat → Bool) (K : Nat) : Prop where
  all : T 0 = fun _ => true
  sub : ∀ k, k ≤ K → Sub n f e (T k)
  mxn : ∀ k, k < K → Mxn n f e (T k) (T (k + 1))
  last : (thl n (T K)).length = 1
  short : K ≤ 5

def lml (n : Nat) (p : Nat → Bool) (l : List Int) : List Int := l.map fun z => ((lat n p z.toNat : Nat) : Int)
end
end Go.Proofs.YtjbfkdaodfdpcaaDoor

/-
  Direct products of subgroups. Conditions: none.
-/
set_option linter.all false
namespace Go.Proofs.YtjbfkdaodfdpcaaDoor

section
variable {n e : Nat} {f : Nat → Nat → Nat} {p q : Nat → Bool}
/-- All things of one commute with all of the other. -/
def Cmm (n : Nat) (f : Nat → Nat → Nat) (p q : Nat → Bool) : Prop := ∀ a b, a < n → b < n → p a = true → q b = true → f a b = f b a
end
end Go.Proofs.YtjbfkdaodfdpcaaDoor

/-
  Plain law, FROBENIUS' THEOREM: what commutes with y, taken by y's powers, is a group on the least things of cosets. Conditions: none.
-/
set_option linter.all false
namespace Go.Proofs.YtjbfkdaodfdpcaaDoor
open Go.Pv

section
variable {n : Nat} {f : Nat → Nat → Nat} {e : Nat}

/-- The same but for a power of y. -/
def sm (n : Nat) (f : Nat → Nat → Nat) (e y x z : Nat) : Prop := ∃ j, j < ord n f e y ∧ z = f x (pw f e y j)
instance (n : Nat) (f : Nat → Nat → Nat) (e y x z : Nat) : Decidable (sm n f e y x z) := by unfold sm; infer_instance

/-- The least of a coset. -/
def rp (n : Nat) (f : Nat → Nat → Nat) (e y x : Nat) : Nat := (fst' (fun z => decide (sm n f e y x z)) n).getD 0

/-- The quotient's things. -/
def quo (n : Nat) (f : Nat → Nat → Nat) (e y : Nat) : List Nat := mem n fun x => cen f y x && decide (rp n f e y x = x)
end
end Go.Proofs.YtjbfkdaodfdpcaaDoor

/-
  Plain law, FROBENIUS' THEOREM: how many things the quotient of a centraliser has, and how many solutions. Conditions: none.
-/
set_option linter.all false
namespace Go.Proofs.YtjbfkdaodfdpcaaDoor
open Go.Pv

section
variable {n : Nat} {f : Nat → Nat → Nat} {e : Nat}

end
end Go.Proofs.YtjbfkdaodfdpcaaDoor

/-
  Plain law, FROBENIUS' THEOREM: of a divisor m of n so many things are, m times, the one, as a multiple of m. Conditions: none.
-/
set_option linter.all false
namespace Go.Proofs.YtjbfkdaodfdpcaaDoor
open Go.Pv

def sol (n : Nat) (f : Nat → Nat → Nat) (e s : Nat) : Nat := ((List.range n).filter fun x => decide (pw f e x s = e)).length

section
variable {n : Nat} {f : Nat → Nat → Nat} {e : Nat}

/-- Conjugated. -/
def cj (n : Nat) (f : Nat → Nat → Nat) (e g x : Nat) : Nat := f (f g x) (iv n f e g)
/-! ### Primes -/

theorem prime_cop {p s : Nat} (hp : ∀ d, d ∣ p → d = 1 ∨ d = p) (h : ¬ p ∣ s) : Nat.gcd p s = 1 := by
  rcases hp _ (Nat.gcd_dvd_left p s) with h1 | h1
  · exact h1
  · exact absurd (h1 ▸ Nat.gcd_dvd_right p s) h
theorem dvd_ppow {p : Nat} (hp2 : 2 ≤ p) (hp : ∀ d, d ∣ p → d = 1 ∨ d = p) : ∀ {k d : Nat}, d ∣ p ^ (k + 1) → d = p ^ (k + 1) ∨ d ∣ p ^ k
  | k, d, h => by
    by_cases hpd : p ∣ d
    · obtain ⟨c, rfl⟩ := hpd
      rw [Nat.pow_succ, Nat.mul_comm _ p] at h
      have h1 := Nat.dvd_of_mul_dvd_mul_left (by omega) h
      match k, h1 with
      | 0, h1 =>
        have : c = 1 := Nat.dvd_one.1 (by simpa using h1)
        left; simp [this]
      | k + 1, h1 =>
        rcases dvd_ppow hp2 hp h1 with h2 | h2
        · left; rw [h2, Nat.pow_succ p (k + 1), Nat.mul_comm]
        · right; rw [Nat.pow_succ, Nat.mul_comm _ p]; exact Nat.mul_dvd_mul (Nat.dvd_refl p) h2
    · right
      have hc : Nat.Coprime d p := Nat.Coprime.symm (prime_cop hp hpd)
      rw [Nat.pow_succ] at h
      exact Nat.Coprime.dvd_of_dvd_mul_right hc h

end
end Go.Proofs.YtjbfkdaodfdpcaaDoor

/-
  Plain law, SYLOW'S THEOREMS: subgroups of a power of a prime of things. Conditions: none.
-/
set_option linter.all false
namespace Go.Proofs.YtjbfkdaodfdpcaaDoor
open Go.Pv

section
variable {n : Nat} {f : Nat → Nat → Nat} {e : Nat} {p q s : Nat → Bool} {P : Nat}

theorem isPr.pow_div (hP : isPr P) : ∀ {k d : Nat}, d ∣ P ^ k → ∃ i, i ≤ k ∧ d = P ^ i
  | 0, d, h => ⟨0, Nat.le_refl _, by simpa using h⟩
  | k + 1, d, h => by
    rcases dvd_ppow hP.1 (fun d hd => hP.div hd) h with h | h
    · exact ⟨k + 1, Nat.le_refl _, h⟩
    · obtain ⟨i, hi, h⟩ := hP.pow_div h
      exact ⟨i, by omega, h⟩
theorem isPr.pos (hP : isPr P) (k : Nat) : 0 < P ^ k := Nat.pow_pos (by have := hP.1; omega)
theorem isPr.le_of_dvd (hP : isPr P) {i j : Nat} (h : P ^ i ∣ P ^ j) : i ≤ j := by
  have h1 := Nat.le_of_dvd (hP.pos j) h
  exact (Nat.pow_le_pow_iff_right hP.1).1 h1
theorem isPr.mul (hP : isPr P) {a b : Nat} (h : P ∣ a * b) : P ∣ a ∨ P ∣ b := by
  by_cases ha : P ∣ a
  · exact .inl ha
  · exact .inr (Nat.Coprime.dvd_of_dvd_mul_left (hP.cop ha) h)

/-- What a thing's powers are. -/
def cyp (n : Nat) (f : Nat → Nat → Nat) (e b x : Nat) : Bool := decide (∃ i, i < n ∧ pw f e b i = x)
/-- What lets a set stay, by one way of the two. -/
theorem Grp.nzr_of (G : Grp n f e) (hp : Sub n f e p) {a : Nat} (ha : a < n) (h : ∀ y, y < n → shf n f e p a y = true → p y = true) : nzr n f e p a = true := by
  have h1 := G.shf_len (p := p) ha
  refine nzr_iff.2 fun y hy => ?_
  by_cases hy2 : shf n f e p a y = p y
  · exact hy2
  · exfalso
    have := mem_lt (n := n) h (fun hh => hy2 (hh y hy))
    omega

/-- THE COUNT: of a subgroup of a power of P things, and another: things that bring not the first into the second. -/
theorem Grp.syl_count (G : Grp n f e) (hP : isPr P) (hq : Sub n f e q) {i : Nat} (hi : (mem n q).length = P ^ i) (hs : Sub n f e s) :
    ∃ c, n = (mem n fun a => decide (∀ y, y < n → shf n f e q a y = true → s y = true)).length + P * (mem n s).length * c := by
  obtain ⟨K, hK⟩ : ∃ K : Nat → Bool, K = fun a => decide (∀ y, y < n → shf n f e q a y = true → s y = true) := ⟨_, rfl⟩
  have hKi : ∀ a, K a = true ↔ ∀ y, y < n → shf n f e q a y = true → s y = true := fun a => by rw [hK]; exact decide_eq_true_iff
  have E := G.dco_eqv hq hs
  have inv : ∀ x y, x < n → y < n → dco n f q s x y = true → K x = true → K y = true := by
    intro x y hx hy h hk
    obtain ⟨u, v, hu, hv, qu, sv, rfl⟩ := dco_iff.1 h
    refine (hKi _).2 fun z hz hzs => ?_
    obtain ⟨w, hw, qw, rfl⟩ := shf_iff.1 hzs
    have hux := G.cl _ _ hu hx
    rw [← G.cjr_cjr hw hux hv, ← G.cjr_cjr hw hu hx]
    have hwu := G.cjr_lt hw hu
    have h1 : q (cjr n f e w u) = true := hq.mul _ _ (G.cl _ _ (G.iv_lt hu) hw) hu (hq.mul _ _ (G.iv_lt hu) hw (hq.inv _ hu qu) qw) qu
    have h2 : s (cjr n f e (cjr n f e w u) x) = true := (hKi x).1 hk _ (G.cjr_lt hwu hx) (shf_iff.2 ⟨_, hwu, h1, rfl⟩)
    have hwx := G.cjr_lt hwu hx
    exact hs.mul _ _ (G.cl _ _ (G.iv_lt hv) hwx) hv (hs.mul _ _ (G.iv_lt hv) hwx (hs.inv _ hv sv) h2) sv
  have inv2 : ∀ x y, x < n → y < n → dco n f q s x y = true → (!K x) = true → (!K y) = true := by
    intro x y hx hy h hk
    cases hky : K y with
    | false => rfl
    | true => rw [inv y x hy hx (E.symm x y hx hy h) hky] at hk; cases hk
  have hsum := E.part (K := fun a => !K a) inv2
  have hdv : ∀ l : List Nat, (∀ x ∈ l, P * (mem n s).length ∣ (mem n (dco n f q s x)).length) → P * (mem n s).length ∣ (l.map fun x => (mem n (dco n f q s x)).length).sum := by
    intro l
    induction l with
    | nil => intro _; exact ⟨0, rfl⟩
    | cons x r ih =>
      intro h
      rw [List.map_cons, List.sum_cons]
      exact Nat.dvd_add (h x (by simp)) (ih fun y hy => h y (by simp [hy]))
  have hd := hdv (mem n fun x => lead (dco n f q s) x && !K x) (fun x hx => by
    obtain ⟨x1, x2⟩ := mem_mem.1 hx
    rw [Bool.and_eq_true] at x2
    have hc := G.dco_count hq hs x1
    have hsh := G.shf_sub hq x1
    have hm := hsh.and hs
    have hlen := G.shf_len (p := q) x1
    obtain ⟨i2, hi2, hmi⟩ := hP.pow_div (k := i) (d := (mem n fun y => shf n f e q x y && s y).length) (by
      rw [← hi, ← hlen]
      exact hm.dvd G fun a b ha hb h1 h2 => hsh.mul a b ha hb h1 (by rw [Bool.and_eq_true] at h2; exact h2.1))
    have hne : i2 ≠ i := fun h => by
      have hk : K x = true := (hKi x).2 fun y hy hys => by
        cases hsy : s y with
        | true => rfl
        | false =>
          exfalso
          have := mem_lt (n := n) (p := shf n f e q x) (q := fun y => shf n f e q x y && s y) (fun a _ h => by rw [Bool.and_eq_true] at h; exact h.1) (fun hh => by
            have := hh y hy
            rw [hys, hsy] at this; cases this)
          rw [hlen, hi, hmi, h] at this
          omega
      rw [hk] at x2; cases x2.2
    rw [hmi, hi] at hc
    obtain ⟨t, ht⟩ : ∃ t, i = i2 + 1 + t := ⟨i - i2 - 1, by omega⟩
    refine ⟨P ^ t, Nat.eq_of_mul_eq_mul_right (hP.pos i2) ?_⟩
    rw [hc, ht, Nat.pow_add, Nat.pow_succ]
    ac_rfl)
  rw [hsum] at hd
  obtain ⟨c, hc⟩ := hd
  refine ⟨c, ?_⟩
  have hsp : (mem n K).length + (mem n fun a => !K a).length = n := by
    have h := List.length_eq_countP_add_countP K (l := List.range n)
    rw [List.length_range, List.countP_eq_length_filter, List.countP_eq_length_filter] at h
    unfold mem
    rw [show (List.filter (fun a => !K a) (List.range n)) = List.filter (fun a => decide ¬K a = true) (List.range n) from List.filter_congr fun a _ => by cases K a <;> rfl]
    exact h.symm
  rw [hK] at hsp hc
  omega

/-- Some of Sylow's subgroups. -/
structure Syl (n : Nat) (f : Nat → Nat → Nat) (e P : Nat) (s : Nat → Bool) (j t : Nat) : Prop where
  sub : Sub n f e s
  len : (mem n s).length = P ^ j
  num : n = P ^ j * t
  non : ¬ P ∣ t

/-- ALL ARE IN ONE, CONJUGATED. -/
theorem Syl.holds {j t : Nat} (hS : Syl n f e P s j t) (G : Grp n f e) (hP : isPr P) (hq : Sub n f e q) {i : Nat} (hi : (mem n q).length = P ^ i) : ∃ a, a < n ∧ ∀ y, y < n → q y = true → shf n f e s a y = true := by
  obtain ⟨c, hc⟩ := G.syl_count hP hq hi hS.sub
  by_cases h0 : (mem n fun a => decide (∀ y, y < n → shf n f e q a y = true → s y = true)) = []
  · exfalso
    rw [h0, hS.len] at hc
    have h1 := hS.num
    rw [List.length_nil, Nat.zero_add] at hc
    have : P ^ j * t = P ^ j * (P * c) := by rw [← h1, ← show P * P ^ j * c = P ^ j * (P * c) by ac_rfl]; exact hc
    have := Nat.eq_of_mul_eq_mul_left (hP.pos j) this
    exact hS.non ⟨c, this⟩
  · obtain ⟨a, ha⟩ := List.exists_mem_of_ne_nil _ h0
    obtain ⟨a1, a2⟩ := mem_mem.1 ha
    rw [decide_eq_true_eq] at a2
    refine ⟨iv n f e a, G.iv_lt a1, fun y hy hqy => ?_⟩
    rw [G.shf_back (G.iv_lt a1) hy, G.iv_iv a1]
    exact a2 _ (G.cjr_lt hy a1) (shf_iff.2 ⟨y, hy, hqy, rfl⟩)

theorem Syl.shf {j t : Nat} (hS : Syl n f e P s j t) (G : Grp n f e) {a : Nat} (ha : a < n) : Syl n f e P (shf n f e s a) j t :=
  ⟨G.shf_sub hS.sub ha, by rw [G.shf_len ha]; exact hS.len, hS.num, hS.non⟩

end
end Go.Proofs.YtjbfkdaodfdpcaaDoor

/-
  Plain law: how one of Sylow's subgroups is grown. Conditions: none.
-/
set_option linter.all false
namespace Go.Proofs.YtjbfkdaodfdpcaaDoor
open Go.Pv

/-- What is left of a number, when P is divided out. -/
noncomputable def npt (P o : Nat) : Nat := @dite Nat (∃ s k, o = P ^ k * s ∧ ¬ P ∣ s) (Classical.propDecidable _) (fun h => Classical.choose h) (fun _ => 0)
noncomputable def gn (n : Nat) (f : Nat → Nat → Nat) (e : Nat) (p : Nat → Bool) : Nat → Bool := Classical.choose (gen_ex n f e p)
theorem gn_iff {n : Nat} {f : Nat → Nat → Nat} {e : Nat} (p : Nat → Bool) : ∀ a, a < n → (gn n f e p a = true ↔ Gen n f e p a) := Classical.choose_spec (gen_ex n f e p)

section
variable {n : Nat} {f : Nat → Nat → Nat} {e : Nat} {p q s : Nat → Bool} {P : Nat}

noncomputable def swb (n : Nat) (f : Nat → Nat → Nat) (e P a : Nat) : Nat := pw f e a (npt P (ord n f e a))
/-- Something that lets the subgroup stay, whose part of a power of P is not in it. -/
noncomputable def swc (n : Nat) (f : Nat → Nat → Nat) (e P : Nat) (s : Nat → Bool) (a : Nat) : Bool := !(s a || !(nzr n f e s a)) && !(s (swb n f e P a))
noncomputable def sws (n : Nat) (f : Nat → Nat → Nat) (e P : Nat) (s : Nat → Bool) : Nat → Bool :=
  match fst' (swc n f e P s) n with
  | some a => gn n f e fun x => s x || decide (x = swb n f e P a)
  | none => s
noncomputable def swq (n : Nat) (f : Nat → Nat → Nat) (e P : Nat) : Nat → Nat → Bool
  | 0 => onp e
  | k + 1 => sws n f e P (swq n f e P k)

end
end Go.Proofs.YtjbfkdaodfdpcaaDoor

/-
  Plain: chains of subgroups whose steps are as small as can be (Jordan and Hoelder). Conditions: none.
-/
set_option linter.all false
namespace Go.Proofs.YtjbfkdaodfdpcaaDoor

section
variable {n e : Nat} {f : Nat → Nat → Nat} {p q a b : Nat → Bool}
theorem Mxn.nz (G : Grp n f e) (h : Mxn n f e p q) {c : Nat} (hc : c < n) (pc : p c = true) : nzr n f e q c = true :=
  G.nzr_of h.sub hc fun y hy hh => by
    obtain ⟨x, x1, x2, rfl⟩ := shf_iff.1 hh
    exact h.nml c x hc x1 pc x2
theorem Mxn.congr_l {p' : Nat → Bool} (h : Mxn n f e p q) (hp : ∀ x, x < n → p' x = p x) : Mxn n f e p' q where
  sub := h.sub
  le x hx hq := by rw [hp x hx]; exact h.le x hx hq
  nml c x hc hx pc := h.nml c x hc hx (by rw [← hp c hc]; exact pc)
  ne := by obtain ⟨x, x1, x2, x3⟩ := h.ne; exact ⟨x, x1, by rw [hp x x1]; exact x2, x3⟩
  mx x hx px qx t ht h1 h2 y hy py := h.mx x hx (by rwa [← hp x hx]) qx t ht h1 (fun c hc pc => h2 c hc (by rwa [hp c hc])) y hy (by rwa [← hp y hy])
theorem Mxn.congr_r {q' : Nat → Bool} (G : Grp n f e) (h : Mxn n f e p q) (hs : Sub n f e q') (hq : ∀ x, x < n → q' x = q x) : Mxn n f e p q' where
  sub := hs
  le x hx hh := h.le x hx (by rwa [← hq x hx])
  nml c x hc hx pc hh := by
    rw [hq _ (G.cjr_lt hx hc)]
    exact h.nml c x hc hx pc (by rwa [← hq x hx])
  ne := by obtain ⟨x, x1, x2, x3⟩ := h.ne; exact ⟨x, x1, x2, by rw [hq x x1]; exact x3⟩
  mx x hx px qx t ht h1 h2 y hy py := h.mx x hx px (by rwa [← hq x hx]) t ht (fun y hy hh => h1 y hy (by rwa [hq y hy])) h2 y hy py

/-- A chain from a subgroup down to the one. -/
def Chn (n : Nat) (f : Nat → Nat → Nat) (e : Nat) : (Nat → Bool) → List (Nat → Bool) → Prop
  | p, [] => ∀ x, x < n → p x = true → x = e
  | p, q :: l => Mxn n f e p q ∧ Chn n f e q l
def idx (n : Nat) : (Nat → Bool) → List (Nat → Bool) → List Nat
  | _, [] => []
  | p, q :: l => (mem n p).length / (mem n q).length :: idx n q l
theorem Chn.congr {p' : Nat → Bool} (hp : ∀ x, x < n → p' x = p x) : ∀ {l : List (Nat → Bool)}, Chn n f e p l → Chn n f e p' l ∧ idx n p' l = idx n p l
  | [], h => ⟨fun x hx hh => h x hx (by rwa [← hp x hx]), rfl⟩
  | q :: l, h => ⟨⟨h.1.congr_l hp, h.2⟩, by show _ / _ :: _ = _ / _ :: _; rw [mem_congr hp]⟩
end
end Go.Proofs.YtjbfkdaodfdpcaaDoor

/-
  Plain: homomorphisms of a subgroup onto a group; chains go there and back; steps in which things commute. Conditions: none.
-/
set_option linter.all false
namespace Go.Proofs.YtjbfkdaodfdpcaaDoor

/-- A homomorphism of a subgroup onto a group. -/
structure Hm (n : Nat) (f : Nat → Nat → Nat) (e : Nat) (p : Nat → Bool) (k : Nat) (g : Nat → Nat → Nat) (d : Nat) (φ : Nat → Nat) : Prop where
  grp : Grp k g d
  sub : Sub n f e p
  lt : ∀ x, x < n → p x = true → φ x < k
  mul : ∀ x y, x < n → y < n → p x = true → p y = true → φ (f x y) = g (φ x) (φ y)
  onto : ∀ i, i < k → ∃ x, x < n ∧ p x = true ∧ φ x = i

section
variable {n e k d : Nat} {f g : Nat → Nat → Nat} {p : Nat → Bool} {φ : Nat → Nat}
theorem Hm.one (H : Hm n f e p k g d φ) (G : Grp n f e) : φ e = d := by
  have h1 := H.mul e e G.el G.el H.sub.one H.sub.one
  have hl := H.lt e G.el H.sub.one
  rw [G.one_l e G.el] at h1
  have h2 : g (φ e) d = g (φ e) (φ e) := by rw [← h1, H.grp.one_r _ hl]
  exact (H.grp.cancel_l hl H.grp.el hl h2).symm
theorem Hm.iv (H : Hm n f e p k g d φ) (G : Grp n f e) {x : Nat} (hx : x < n) (px : p x = true) : φ (Go.Proofs.YtjbfkdaodfdpcaaDoor.iv n f e x) = Go.Proofs.YtjbfkdaodfdpcaaDoor.iv k g d (φ x) := by
  have ix := G.iv_lt hx
  have pix := H.sub.inv x hx px
  refine H.grp.iv_unique (H.lt x hx px) (H.lt _ ix pix) (.inl ?_)
  rw [← H.mul _ _ hx ix px pix, G.mul_iv hx, H.one G]
theorem Hm.cjr (H : Hm n f e p k g d φ) (G : Grp n f e) {x c : Nat} (hx : x < n) (hc : c < n) (px : p x = true) (pc : p c = true) : φ (Go.Proofs.YtjbfkdaodfdpcaaDoor.cjr n f e x c) = Go.Proofs.YtjbfkdaodfdpcaaDoor.cjr k g d (φ x) (φ c) := by
  have ic := G.iv_lt hc
  have pi := H.sub.inv c hc pc
  show φ (f (f _ _) _) = g (g _ _) _
  rw [H.mul _ _ (G.cl _ _ ic hx) hc (H.sub.mul _ _ ic hx pi px) pc, H.mul _ _ ic hx pi px, H.iv G hc pc]
theorem Hm.cmt (H : Hm n f e p k g d φ) (G : Grp n f e) {x c : Nat} (hx : x < n) (hc : c < n) (px : p x = true) (pc : p c = true) : φ (Go.Proofs.YtjbfkdaodfdpcaaDoor.cmt n f e x c) = Go.Proofs.YtjbfkdaodfdpcaaDoor.cmt k g d (φ x) (φ c) := by
  have ic := G.iv_lt hc
  have ix := G.iv_lt hx
  have pic := H.sub.inv c hc pc
  have pix := H.sub.inv x hx px
  show φ (f (f _ _) (f _ _)) = g (g _ _) (g _ _)
  rw [H.mul _ _ (G.cl _ _ ix ic) (G.cl _ _ hx hc) (H.sub.mul _ _ ix ic pix pic) (H.sub.mul _ _ hx hc px pc), H.mul _ _ ix ic pix pic, H.mul _ _ hx hc px pc, H.iv G hc pc, H.iv G hx px]
/-- What goes into a set. -/
def pre (p : Nat → Bool) (φ : Nat → Nat) (b : Nat → Bool) (x : Nat) : Bool := p x && b (φ x)
theorem pre_iff {b : Nat → Bool} {x : Nat} : pre p φ b x = true ↔ p x = true ∧ b (φ x) = true := by unfold pre; rw [Bool.and_eq_true]
theorem Hm.pre_sub (H : Hm n f e p k g d φ) (G : Grp n f e) {b : Nat → Bool} (hb : Sub k g d b) : Sub n f e (pre p φ b) :=
  sub_of G (pre_iff.2 ⟨H.sub.one, by rw [H.one G]; exact hb.one⟩) fun x y hx hy h1 h2 => by
    obtain ⟨h1, h3⟩ := pre_iff.1 h1
    obtain ⟨h2, h4⟩ := pre_iff.1 h2
    exact pre_iff.2 ⟨H.sub.mul x y hx hy h1 h2, by rw [H.mul x y hx hy h1 h2]; exact hb.mul _ _ (H.lt x hx h1) (H.lt y hy h2) h3 h4⟩
theorem Hm.pre_mxn (H : Hm n f e p k g d φ) (G : Grp n f e) {a b : Nat → Bool} (ha : Sub k g d a) (h : Mxn k g d a b) : Mxn n f e (pre p φ a) (pre p φ b) where
  sub := H.pre_sub G h.sub
  le x hx hh := by obtain ⟨h1, h2⟩ := pre_iff.1 hh; exact pre_iff.2 ⟨h1, h.le _ (H.lt x hx h1) h2⟩
  nml c x hc hx hcc hh := by
    obtain ⟨h1, h2⟩ := pre_iff.1 hh
    obtain ⟨h3, h4⟩ := pre_iff.1 hcc
    exact pre_iff.2 ⟨cjr_in G H.sub hx hc h1 h3, by rw [H.cjr G hx hc h1 h3]; exact h.nml _ _ (H.lt c hc h3) (H.lt x hx h1) h4 h2⟩
  ne := by
    obtain ⟨i, i1, i2, i3⟩ := h.ne
    obtain ⟨x, x1, x2, rfl⟩ := H.onto i i1
    exact ⟨x, x1, pre_iff.2 ⟨x2, i2⟩, by unfold pre; rw [i3, Bool.and_false]⟩
  mx x hx hax hbx t ht h1 h2 y hy hay := by
    obtain ⟨px, ax⟩ := pre_iff.1 hax
    obtain ⟨py, ay⟩ := pre_iff.1 hay
    have bx : b (φ x) = false := by unfold pre at hbx; rwa [px, Bool.true_and] at hbx
    -- where t goes
    let T : Nat → Bool := fun i => decide (∃ z, z < n ∧ p z = true ∧ a (φ z) = true ∧ t z = true ∧ φ z = i)
    have hT : ∀ i, T i = true ↔ ∃ z, z < n ∧ p z = true ∧ a (φ z) = true ∧ t z = true ∧ φ z = i := fun i => decide_eq_true_iff
    have ts : Sub k g d T := sub_of H.grp ((hT d).2 ⟨e, G.el, H.sub.one, by rw [H.one G]; exact ha.one, ht.one, H.one G⟩) fun i j hi hj h3 h4 => by
      obtain ⟨z, z1, z2, z3, z4, rfl⟩ := (hT i).1 h3
      obtain ⟨w, w1, w2, w3, w4, rfl⟩ := (hT j).1 h4
      exact (hT _).2 ⟨f z w, G.cl _ _ z1 w1, H.sub.mul _ _ z1 w1 z2 w2, by rw [H.mul _ _ z1 w1 z2 w2]; exact ha.mul _ _ hi hj z3 w3, ht.mul _ _ z1 w1 z4 w4, H.mul _ _ z1 w1 z2 w2⟩
    have hTa := h.mx (φ x) (H.lt x hx px) ax bx T ts (fun i hi bi => by
      obtain ⟨z, z1, z2, rfl⟩ := H.onto i hi
      exact (hT _).2 ⟨z, z1, z2, h.le _ hi bi, h1 z z1 (pre_iff.2 ⟨z2, bi⟩), rfl⟩) (fun i hi ai => by
      obtain ⟨z, z1, z2, rfl⟩ := H.onto i hi
      rw [← H.cjr G hx z1 px z2]
      have hz := h2 z z1 (pre_iff.2 ⟨z2, ai⟩)
      refine (hT _).2 ⟨_, G.cjr_lt hx z1, cjr_in G H.sub hx z1 px z2, ?_, hz, rfl⟩
      rw [H.cjr G hx z1 px z2]
      exact cjr_in H.grp ha (H.lt x hx px) hi ax ai) (φ y) (H.lt y hy py) ay
    obtain ⟨z, z1, z2, z3, z4, z5⟩ := (hT _).1 hTa
    -- y = z (z^-1 y), and this goes to the one
    have iz := G.iv_lt z1
    have hw := G.cl _ _ iz hy
    have pw := H.sub.mul _ _ iz hy (H.sub.inv z z1 z2) py
    have hφ : φ (f (Go.Proofs.YtjbfkdaodfdpcaaDoor.iv n f e z) y) = d := by
      rw [H.mul _ _ iz hy (H.sub.inv z z1 z2) py, H.iv G z1 z2, z5, H.grp.iv_mul (H.lt y hy py)]
    have ht2 := h1 _ hw (pre_iff.2 ⟨pw, by rw [hφ]; exact h.sub.one⟩)
    have := ht.mul _ _ z1 hw z4 ht2
    rwa [← G.assoc _ _ _ z1 iz hy, G.mul_iv z1, G.one_l y hy] at this
theorem Hm.of_pre (H : Hm n f e p k g d φ) (G : Grp n f e) {a b : Nat → Bool} (hb : Sub k g d b) (h : Mxn n f e (pre p φ a) (pre p φ b)) : Mxn k g d a b where
  sub := hb
  le i hi bi := by
    obtain ⟨x, x1, x2, rfl⟩ := H.onto i hi
    exact (pre_iff.1 (h.le x x1 (pre_iff.2 ⟨x2, bi⟩))).2
  nml c i hc hi ac bi := by
    obtain ⟨x, x1, x2, rfl⟩ := H.onto i hi
    obtain ⟨y, y1, y2, rfl⟩ := H.onto c hc
    have := (pre_iff.1 (h.nml y x y1 x1 (pre_iff.2 ⟨y2, ac⟩) (pre_iff.2 ⟨x2, bi⟩))).2
    rwa [H.cjr G x1 y1 x2 y2] at this
  ne := by
    obtain ⟨x, x1, x2, x3⟩ := h.ne
    obtain ⟨px, ax⟩ := pre_iff.1 x2
    unfold pre at x3
    rw [px, Bool.true_and] at x3
    exact ⟨_, H.lt x x1 px, ax, x3⟩
  mx i hi ai bi t ht h1 h2 j hj aj := by
    obtain ⟨x, x1, x2, rfl⟩ := H.onto i hi
    obtain ⟨y, y1, y2, rfl⟩ := H.onto j hj
    refine (pre_iff.1 (h.mx x x1 (pre_iff.2 ⟨x2, ai⟩) (by unfold pre; rw [bi, Bool.and_false]) (pre p φ t) (H.pre_sub G ht) (fun z hz hh => ?_) (fun c hc hh => ?_) y y1 (pre_iff.2 ⟨y2, aj⟩))).2
    · obtain ⟨pz, bz⟩ := pre_iff.1 hh
      exact pre_iff.2 ⟨pz, h1 _ (H.lt z hz pz) bz⟩
    · obtain ⟨pc, ac⟩ := pre_iff.1 hh
      exact pre_iff.2 ⟨cjr_in G H.sub x1 hc x2 pc, by rw [H.cjr G x1 hc x2 pc]; exact h2 _ (H.lt c hc pc) ac⟩

/-- Things of the first commute, up to the second. -/
def Abl (n : Nat) (f : Nat → Nat → Nat) (e : Nat) (p q : Nat → Bool) : Prop := ∀ x y, x < n → y < n → p x = true → p y = true → q (cmt n f e x y) = true
def AbC (n : Nat) (f : Nat → Nat → Nat) (e : Nat) : (Nat → Bool) → List (Nat → Bool) → Prop
  | _, [] => True
  | p, q :: l => Abl n f e p q ∧ AbC n f e q l
theorem AbC.congr {p' : Nat → Bool} (hp : ∀ x, x < n → p' x = p x) : ∀ {l : List (Nat → Bool)}, AbC n f e p l → AbC n f e p' l
  | [], _ => trivial
  | q :: l, h => ⟨fun x y hx hy h1 h2 => h.1 x y hx hy (by rwa [← hp x hx]) (by rwa [← hp y hy]), h.2⟩
end
end Go.Proofs.YtjbfkdaodfdpcaaDoor

/-
  Plain law, FRATTINI'S ARGUMENT. Conditions: none.
-/
set_option linter.all false
namespace Go.Proofs.YtjbfkdaodfdpcaaDoor
open Go.Pv

section
variable {n e P : Nat} {f : Nat → Nat → Nat} {q s : Nat → Bool}

theorem Syl.cong {f g : Nat → Nat → Nat} {j t : Nat} (hY : Syl n g e P s j t) (G : Grp n f e) (h : ∀ a b, a < n → b < n → g a b = f a b) : Syl n f e P s j t :=
  ⟨hY.sub.cong_op G h, hY.len, hY.num, hY.non⟩

/-- A part's set, as a set of the whole. -/
def upt (q s : Nat → Bool) (y : Nat) : Bool := q y && s (pix q y)
end
end Go.Proofs.YtjbfkdaodfdpcaaDoor

/-
  Nilpotent groups; classes of a quotient; the quotient by commutators. Conditions: none.
-/
set_option linter.all false
namespace Go.Proofs.YtjbfkdaodfdpcaaDoor
open Go.Pv

section
variable {n : Nat} {f : Nat → Nat → Nat} {e : Nat}
/-! ### Classes of a quotient -/

theorem lead_le {k : Nat} {r1 r2 : Nat → Nat → Bool} (E1 : Eqv n r1) (E2 : Eqv k r2) (rep : Nat → Nat) (hr : ∀ i, i < k → rep i < n) (h : ∀ i j, i < k → j < k → r1 (rep i) (rep j) = true → r2 i j = true) : (mem k (lead r2)).length ≤ (mem n (lead r1)).length := by
  have hex : ∀ i, ∃ x, i < k → x < n ∧ lead r1 x = true ∧ r1 x (rep i) = true := fun i => by
    by_cases hi : i < k
    · obtain ⟨x, h1, h2, h3⟩ := E1.least (hr i hi)
      exact ⟨x, fun _ => ⟨h1, h2, h3⟩⟩
    · exact ⟨0, fun h => absurd h hi⟩
  obtain ⟨g, hg⟩ := Classical.axiomOfChoice hex
  rw [← List.length_map (f := g) («as» := mem k (lead r2))]
  refine List.Nodup.length_le_of_subset (nodup_map (List.nodup_range.filter _) fun i hi j hj he => ?_) fun x hx => ?_
  · obtain ⟨i1, i2⟩ := mem_mem.1 hi
    obtain ⟨j1, j2⟩ := mem_mem.1 hj
    obtain ⟨a1, a2, a3⟩ := hg i i1
    obtain ⟨b1, b2, b3⟩ := hg j j1
    rw [← he] at b3
    exact E2.lead_eq i1 j1 i2 j2 (h i j i1 j1 (E1.trans _ _ _ (hr i i1) a1 (hr j j1) (E1.symm _ _ a1 (hr i i1) a3) b3))
  · obtain ⟨i, hi, rfl⟩ := List.mem_map.1 hx
    obtain ⟨i1, i2⟩ := mem_mem.1 hi
    exact mem_mem.2 ⟨(hg i i1).1, (hg i i1).2.1⟩
theorem Qm.iv {k : Nat} {cl rep : Nat → Nat} (Q : Qm n f k cl rep) (G : Grp n f e) {a : Nat} (ha : a < n) : iv k (qop f cl rep) (cl e) (cl a) = cl (Go.Proofs.YtjbfkdaodfdpcaaDoor.iv n f e a) :=
  ((Q.grp G).iv_unique (Q.lt a ha) (Q.lt _ (G.iv_lt ha)) (.inl (by rw [Q.op ha (G.iv_lt ha), G.mul_iv ha]))).symm
theorem Qm.cjb {k : Nat} {cl rep : Nat → Nat} (Q : Qm n f k cl rep) (G : Grp n f e) {x y : Nat} (hx : x < n) (hy : y < n) (h : cjb n f e x y = true) : cjb k (qop f cl rep) (cl e) (cl x) (cl y) = true := by
  obtain ⟨a, ha, rfl⟩ := cjb_iff.1 h
  have ia := G.iv_lt ha
  refine cjb_iff.2 ⟨cl a, Q.lt a ha, ?_⟩
  rw [Q.iv G ha, Q.op ia hx, Q.op (G.cl _ _ ia hx) ha]
/-- A quotient has no more classes. -/
theorem Qm.classes {k : Nat} {cl rep : Nat → Nat} (Q : Qm n f k cl rep) (G : Grp n f e) : (mem k (lead (Go.Proofs.YtjbfkdaodfdpcaaDoor.cjb k (qop f cl rep) (cl e)))).length ≤ (mem n (lead (Go.Proofs.YtjbfkdaodfdpcaaDoor.cjb n f e))).length :=
  lead_le G.cjb_eqv (Q.grp G).cjb_eqv rep Q.rlt fun i j hi hj h => by
    have := Q.cjb G (Q.rlt i hi) (Q.rlt j hj) h
    rwa [Q.at_ i hi, Q.at_ j hj] at this
end
end Go.Proofs.YtjbfkdaodfdpcaaDoor

/-
  Plain law: nilpotent is just where all of Sylow's subgroups are normal; both central series are as long. Conditions: none.
-/
set_option linter.all false
namespace Go.Proofs.YtjbfkdaodfdpcaaDoor
open Go.Pv

section
variable {n e P : Nat} {f : Nat → Nat → Nat} {p q s : Nat → Bool}

/-! ### Both series -/
section
variable {nl : (Nat → Bool) → Nat → Bool}
theorem Stp.le {T : Nat → Nat → Bool} {K k : Nat} (h : Stp n T K) (he : ∀ a, a < n → T (k + 1) a = T k a) : K ≤ k :=
  Nat.le_of_not_lt fun hh => h.ne k hh he
end

/-! ### Sylow's subgroups of what is nilpotent -/
/-! ### A group of a power of P things, and a normal subgroup that is not all -/
/-! ### Where all of Sylow's subgroups are normal -/
/-- What commutes with a thing, up to a normal subgroup. -/
def ctz (n : Nat) (f : Nat → Nat → Nat) (e : Nat) (z : Nat → Bool) (x y : Nat) : Bool := z (cmt n f e x y)
end
end Go.Proofs.YtjbfkdaodfdpcaaDoor

/-
  Plain: each step of a chain has its quotient; it is of a prime where things commute; what is solvable. Conditions: none.
-/
set_option linter.all false
namespace Go.Proofs.YtjbfkdaodfdpcaaDoor

section
variable {n e : Nat} {f : Nat → Nat → Nat} {p q : Nat → Bool}
/-- The quotient of a group. -/
theorem quot_hm (G : Grp n f e) (hq : Sub n f e q) (hN : Nml n f e q) : Hm n f e (fun _ => true) (cst n (dco n f q (onp e))).length (qop f (clq n (dco n f q (onp e))) (rpq n (dco n f q (onp e)))) (clq n (dco n f q (onp e)) e) (clq n (dco n f q (onp e))) := by
  have E := G.dco_eqv hq G.onp_sub
  have Q := cst_qm G E fun a b c d ha hb hc hd h1 h2 => G.rco_cong hq hN ha hb hc hd h1 h2
  exact ⟨Q.grp G, G.all_sub, fun x hx _ => Q.lt x hx, fun x y hx hy _ _ => (Q.op hx hy).symm, fun i hi => ⟨_, Q.rlt i hi, rfl, Q.at_ i hi⟩⟩
theorem quot_ker (G : Grp n f e) (hq : Sub n f e q) {x : Nat} (hx : x < n) : clq n (dco n f q (onp e)) x = clq n (dco n f q (onp e)) e ↔ q x = true := by
  have E := G.dco_eqv hq G.onp_sub
  rw [clq_iff E hx G.el, G.rco_iff hx G.el, G.one_l _ (G.iv_lt hx)]
  exact ⟨fun h => by have := hq.inv _ (G.iv_lt hx) h; rwa [G.iv_iv hx] at this, fun h => hq.inv x hx h⟩
theorem quot_num (G : Grp n f e) (hq : Sub n f e q) : (cst n (dco n f q (onp e))).length * (mem n q).length = n := by
  rw [cst_len]; exact G.rco_num hq
/-- The part of a group. -/
theorem part_hm (G : Grp n f e) (hp : Sub n f e p) : Hm n f e p (thl n p).length (pop n f p) (pix p e) (pix p) :=
  ⟨ptb_grp G hp, hp, fun x hx px => (pix_at hx px).1, fun x y hx hy px py => (pop_pix hp hx hy px py).symm, fun i hi => ⟨lat n p i, (lat_at hi).1, (lat_at hi).2.1, (lat_at hi).2.2.2⟩⟩
variable {k k2 d d2 : Nat} {g g2 : Nat → Nat → Nat} {φ ψ : Nat → Nat}
theorem Hm.comp (H : Hm n f e p k g d φ) (K : Hm k g d (fun _ => true) k2 g2 d2 ψ) : Hm n f e p k2 g2 d2 fun x => ψ (φ x) where
  grp := K.grp
  sub := H.sub
  lt x hx px := K.lt _ (H.lt x hx px) rfl
  mul x y hx hy px py := by
    show ψ (φ (f x y)) = _
    rw [H.mul x y hx hy px py, K.mul _ _ (H.lt x hx px) (H.lt y hy py) rfl rfl]
  onto i hi := by
    obtain ⟨y, y1, _, rfl⟩ := K.onto i hi
    obtain ⟨x, x1, x2, rfl⟩ := H.onto y y1
    exact ⟨x, x1, x2, rfl⟩
theorem Hm.cong_op (H : Hm n f e p k g d φ) (h : ∀ a b, a < k → b < k → g2 a b = g a b) (G2 : Grp k g2 d) : Hm n f e p k g2 d φ :=
  ⟨G2, H.sub, H.lt, fun x y hx hy px py => by rw [H.mul x y hx hy px py, h _ _ (H.lt x hx px) (H.lt y hy py)], H.onto⟩
/-- What stands of a smaller one in the part. -/
def dwn (n : Nat) (p q : Nat → Bool) (i : Nat) : Bool := q (lat n p i)
theorem lft_dwn (hle : ∀ x, x < n → q x = true → p x = true) : ∀ x, x < n → lft p (dwn n p q) x = q x := fun x hx => by
  unfold lft dwn
  cases px : p x with
  | false =>
    cases qx : q x with
    | false => rfl
    | true => rw [hle x hx qx] at px; cases px
  | true => rw [lat_pix hx px]; rfl
theorem dwn_sub (G : Grp n f e) (hp : Sub n f e p) (hq : Sub n f e q) : Sub (thl n p).length (pop n f p) (pix p e) (dwn n p q) :=
  sub_of (ptb_grp G hp) (by unfold dwn; rw [lat_pix G.el hp.one]; exact hq.one) fun i j hi hj h1 h2 => by
    unfold dwn at h1 h2 ⊢
    rw [(pop_at G hp hi hj).2]
    exact hq.mul _ _ (lat_at hi).1 (lat_at hj).1 h1 h2
theorem dwn_nml (G : Grp n f e) (hp : Sub n f e p) : Nml (thl n p).length (pop n f p) (pix p e) (dwn n p q) ↔ ∀ a x, a < n → x < n → p a = true → p x = true → q x = true → q (cjr n f e x a) = true := by
  have H := part_hm G hp
  constructor
  · intro h a x ha hx pa px qx
    have := h (pix p a) (pix_at ha pa).1 (pix p x) (pix_at hx px).1 (by unfold dwn; rw [lat_pix hx px]; exact qx)
    rw [← H.cjr G hx ha px pa] at this
    unfold dwn at this
    rwa [lat_pix (G.cjr_lt hx ha) (cjr_in G hp hx ha px pa)] at this
  · intro h i hi j hj hd
    obtain ⟨a1, a2, _, a4⟩ := lat_at hi
    obtain ⟨b1, b2, _, b4⟩ := lat_at hj
    have := h _ _ a1 b1 a2 b2 hd
    rw [← a4, ← b4, ← H.cjr G b1 a1 b2 a2]
    unfold dwn
    rwa [lat_pix (G.cjr_lt b1 a1) (cjr_in G hp b1 a1 b2 a2)]
theorem dwn_len (hle : ∀ x, x < n → q x = true → p x = true) : (mem (thl n p).length (dwn n p q)).length = (mem n q).length := by
  have h1 := congrArg List.length (lft_thl p (dwn n p q) n)
  rw [List.length_map] at h1
  have e1 : (thl (thl n p).length (dwn n p q)).length = (mem (thl n p).length (dwn n p q)).length := thl_len _ _
  have e2 : (thl n (lft p (dwn n p q))).length = (mem n (lft p (dwn n p q))).length := thl_len _ _
  rw [← e1, h1, e2, mem_congr (lft_dwn hle)]

/-- The quotient of a subgroup by what is normal in it. -/
theorem step_hm (G : Grp n f e) (hp : Sub n f e p) (hq : Sub n f e q) (hle : ∀ x, x < n → q x = true → p x = true) (hN : ∀ a x, a < n → x < n → p a = true → p x = true → q x = true → q (cjr n f e x a) = true) :
    ∃ k g d φ, Hm n f e p k g d φ ∧ (∀ x, x < n → pre p φ (onp d) x = q x) ∧ k * (mem n q).length = (mem n p).length := by
  have H := part_hm G hp
  have P := H.grp
  have ds := dwn_sub G hp hq
  have K := quot_hm P ds ((dwn_nml G hp).2 hN)
  refine ⟨_, _, _, _, H.comp K, fun x hx => ?_, ?_⟩
  · unfold pre
    cases px : p x with
    | false =>
      cases qx : q x with
      | false => rfl
      | true => rw [hle x hx qx] at px; cases px
    | true =>
      rw [Bool.true_and, Bool.eq_iff_iff, onp_iff, quot_ker P ds (H.lt x hx px)]
      unfold dwn
      rw [lat_pix hx px]
  · have := quot_num P ds
    rw [dwn_len hle] at this
    have e1 : (thl n p).length = (mem n p).length := thl_len _ _
    rw [← e1]; exact this
theorem Mxn.hm (G : Grp n f e) (hp : Sub n f e p) (h : Mxn n f e p q) : ∃ k g d φ, Hm n f e p k g d φ ∧ (∀ x, x < n → pre p φ (onp d) x = q x) ∧ k * (mem n q).length = (mem n p).length ∧ Mxn k g d (fun _ => true) (onp d) := by
  obtain ⟨k, g, d, φ, H, h1, h2⟩ := step_hm G hp h.sub h.le fun a x ha hx pa _ qx => h.nml a x ha hx pa qx
  refine ⟨k, g, d, φ, H, h1, h2, H.of_pre G H.grp.onp_sub ?_⟩
  refine (h.congr_r G (H.pre_sub G H.grp.onp_sub) h1).congr_l fun x hx => ?_
  show (p x && true) = p x
  rw [Bool.and_true]

end
end Go.Proofs.YtjbfkdaodfdpcaaDoor
