/-
  Sets of things: conjugated things, commutators, what they make. Conditions: none.
-/
import Derived.Test.YtjikchbmkodgfaaDoorS5
import Derived.Test.YtjikchbmkodgfaaDoorG18
set_option linter.all false
namespace Go.Proofs.YtjikchbmkodgfaaDoor
open Go.Pv

theorem truth (q : Prop) : ∃ b : Bool, b = true ↔ q := ⟨@decide q (Classical.propDecidable q), @decide_eq_true_iff q (Classical.propDecidable q)⟩
theorem thl_rng2 {n : Nat} {p : Nat → Bool} : ∀ x ∈ thl n p, ∃ a, a < n ∧ x = ((a : Nat) : Int) := fun x hx => by
  obtain ⟨a, h1, _, h3⟩ := mem_thl.1 hx
  exact ⟨a, h1, h3⟩
/-- What a list of a set makes is what the set makes. -/
theorem gen_tst {n e : Nat} {f : Nat → Nat → Nat} {p : Nat → Bool} {a : Nat} : Gen n f e (tst (thl n p)) a ↔ Gen n f e p a :=
  ⟨Gen.mono fun b hb h => by rwa [tst_thl hb] at h, Gen.mono fun b hb h => by rwa [tst_thl hb]⟩

theorem conj_s {n e : Nat} {m : List Int} (h : GT n m n e) {x a : Nat} (hx : x < n) (ha : a < n) : FnC Tryd.prog 122 [gp n m, .int .i64 x, .int .i64 a] (.int .i64 (cjr n (op m n) e x a : Nat)) := by
  have G := h.2.2
  have ia := G.iv_lt ha
  refine fnc_of tab_ok Tryd.func122 rfl (by kernel_rfl) (by rw [Tryd.ntmps122]; exact Nat.le_add_left 3 _) ?_; rw [Tryd.ntmps122]
  refine qm ?_
  refine hk_region fun K hK => runs_eval tab_ok ?_
  simp only [ev0, evA, evB, evP, fl, gp, tab, simprocAttr, reduceCtorEq, reduceIte]
  refine fin_run ?_ (hK _ ?_) <;> clear hK <;> clear K
  · (first | exact trivial | omega | (simp only [In64] at *; omega) | (simp [In64] at *; omega) | (simp_all; done) | skip)
  refine qa (qm ?_)
  refine hk_draw mixed (by kernel_rfl) fun K hK => runs_eval tab_ok ?_
  simp only [ev0, evA, evB, evP, fl, gp, tab, simprocAttr, reduceCtorEq, reduceIte]
  refine fin_stop trivial (runs_call (invOf_c h ha) rfl rfl rfl (by simp only [dstOk, Nat.reduceLT]) (by repeat (first | exact trivial | constructor)) (runs_eval tab_ok ?_))
  simp only [ev0, evA, evB, evP, fl, gp, tab, simprocAttr, reduceCtorEq, reduceIte]
  refine fin_stop trivial (runs_call (of_c h.2.1 ia hx) rfl rfl rfl (by simp only [dstOk, Nat.reduceLT]) (by repeat (first | exact trivial | constructor)) (runs_eval tab_ok ?_))
  simp only [ev0, evA, evB, evP, fl, gp, tab, simprocAttr, reduceCtorEq, reduceIte]
  refine fin_stop trivial (runs_call (of_c h.2.1 (G.cl _ _ ia hx) ha) rfl rfl rfl (by simp only [dstOk, Nat.reduceLT]) (by repeat (first | exact trivial | constructor)) (runs_eval tab_ok ?_))
  simp only [ev0, evA, evB, evP, fl, gp, tab, simprocAttr, reduceCtorEq, reduceIte]
  refine fin_run ?_ (hK _ ?_) <;> clear hK <;> clear K
  · (first | exact trivial | omega | (simp only [In64] at *; omega) | (simp [In64] at *; omega) | (simp_all; done) | skip)
  refine qa (qk ?_)
  simp only [Tryd.results122, enA, ev0, evA, evB, evP, fl, gp, tab, simprocAttr, reduceCtorEq, reduceIte]
  all_goals (rfl)
theorem c_r {n e : Nat} {m : List Int} (h : GT n m n e) {x a : Nat} (hx : x < n) (ha : a < n) : FnC Tryd.prog 94 [gp n m, .int .i64 x, .int .i64 a] (.int .i64 (cjr n (op m n) e x a : Nat)) := by
  have G := h.2.2
  have ia := G.iv_lt ha
  refine fnc_of tab_ok Tryd.func94 rfl (by kernel_rfl) (by rw [Tryd.ntmps94]; exact Nat.le_add_left 3 _) ?_; rw [Tryd.ntmps94]
  refine qm ?_
  refine hk_region fun K hK => runs_eval tab_ok ?_
  simp only [ev0, evA, evB, evP, fl, gp, tab, simprocAttr, reduceCtorEq, reduceIte]
  refine fin_run ?_ (hK _ ?_) <;> clear hK <;> clear K
  · (first | exact trivial | omega | (simp only [In64] at *; omega) | (simp [In64] at *; omega) | (simp_all; done) | skip)
  refine qa (qm ?_)
  refine hk_draw mixed (by kernel_rfl) fun K hK => runs_eval tab_ok ?_
  simp only [ev0, evA, evB, evP, fl, gp, tab, simprocAttr, reduceCtorEq, reduceIte]
  refine fin_stop trivial (runs_call (i_c h.2.1 ha) rfl rfl rfl (by simp only [dstOk, Nat.reduceLT]) (by repeat (first | exact trivial | constructor)) (runs_eval tab_ok ?_))
  simp only [ev0, evA, evB, evP, fl, gp, tab, simprocAttr, reduceCtorEq, reduceIte, h.iI ha]
  refine fin_stop trivial (runs_call (m_c h.2.1 hx ha) rfl rfl rfl (by simp only [dstOk, Nat.reduceLT]) (by repeat (first | exact trivial | constructor)) (runs_eval tab_ok ?_))
  simp only [ev0, evA, evB, evP, fl, gp, tab, simprocAttr, reduceCtorEq, reduceIte]
  refine fin_stop trivial (runs_call (m_c h.2.1 ia (G.cl _ _ hx ha)) rfl rfl rfl (by simp only [dstOk, Nat.reduceLT]) (by repeat (first | exact trivial | constructor)) (runs_eval tab_ok ?_))
  simp only [ev0, evA, evB, evP, fl, gp, tab, simprocAttr, reduceCtorEq, reduceIte]
  refine fin_run ?_ (hK _ ?_) <;> clear hK <;> clear K
  · (first | exact trivial | omega | (simp only [In64] at *; omega) | (simp [In64] at *; omega) | (simp_all; done) | skip)
  refine qa (qk ?_)
  simp only [Tryd.results94, enA, ev0, evA, evB, evP, fl, gp, tab, simprocAttr, reduceCtorEq, reduceIte]
  all_goals (rw [G.cjr_alt hx ha])
theorem commOf_s {n e : Nat} {m : List Int} (h : GT n m n e) {a b : Nat} (ha : a < n) (hb : b < n) : FnC Tryd.prog 105 [gp n m, .int .i64 a, .int .i64 b] (.int .i64 (cmt n (op m n) e a b : Nat)) := by
  have G := h.2.2
  refine fnc_of tab_ok Tryd.func105 rfl (by kernel_rfl) (by rw [Tryd.ntmps105]; exact Nat.le_add_left 3 _) ?_; rw [Tryd.ntmps105]
  refine qm ?_
  refine hk_region fun K hK => runs_eval tab_ok ?_
  simp only [ev0, evA, evB, evP, fl, gp, tab, simprocAttr, reduceCtorEq, reduceIte]
  refine fin_run ?_ (hK _ ?_) <;> clear hK <;> clear K
  · (first | exact trivial | omega | (simp only [In64] at *; omega) | (simp [In64] at *; omega) | (simp_all; done) | skip)
  refine qa (qm ?_)
  refine hk_draw mixed (by kernel_rfl) fun K hK => runs_eval tab_ok ?_
  simp only [ev0, evA, evB, evP, fl, gp, tab, simprocAttr, reduceCtorEq, reduceIte]
  refine fin_stop trivial (runs_call (invOf_c h ha) rfl rfl rfl (by simp only [dstOk, Nat.reduceLT]) (by repeat (first | exact trivial | constructor)) (runs_eval tab_ok ?_))
  simp only [ev0, evA, evB, evP, fl, gp, tab, simprocAttr, reduceCtorEq, reduceIte]
  refine fin_stop trivial (runs_call (conj_s h ha hb) rfl rfl rfl (by simp only [dstOk, Nat.reduceLT]) (by repeat (first | exact trivial | constructor)) (runs_eval tab_ok ?_))
  simp only [ev0, evA, evB, evP, fl, gp, tab, simprocAttr, reduceCtorEq, reduceIte]
  refine fin_stop trivial (runs_call (of_c h.2.1 (G.iv_lt ha) (G.cjr_lt ha hb)) rfl rfl rfl (by simp only [dstOk, Nat.reduceLT]) (by repeat (first | exact trivial | constructor)) (runs_eval tab_ok ?_))
  simp only [ev0, evA, evB, evP, fl, gp, tab, simprocAttr, reduceCtorEq, reduceIte]
  refine fin_run ?_ (hK _ ?_) <;> clear hK <;> clear K
  · (first | exact trivial | omega | (simp only [In64] at *; omega) | (simp [In64] at *; omega) | (simp_all; done) | skip)
  refine qa (qk ?_)
  simp only [Tryd.results105, enA, ev0, evA, evB, evP, fl, gp, tab, simprocAttr, reduceCtorEq, reduceIte]
  all_goals (rw [G.cmt_alt ha hb])
/-! ### Commutators of two lists -/

def cmr (n : Nat) (f : Nat → Nat → Nat) (e : Nat) (a : Int) (lb : List Int) : List Int := lb.map fun b => ((cmt n f e a.toNat b.toNat : Nat) : Int)
def cml (n : Nat) (f : Nat → Nat → Nat) (e : Nat) (la lb : List Int) : List Int := la.flatMap fun a => cmr n f e a lb

theorem cml_succ (n : Nat) (f : Nat → Nat → Nat) (e : Nat) {la : List Int} (lb : List Int) {i : Nat} (hi : i < la.length) : cml n f e (la.take (i + 1)) lb = cml n f e (la.take i) lb ++ cmr n f e (la.getD i 0) lb := by
  unfold cml
  rw [List.take_succ_eq_append_getElem hi, List.flatMap_append]
  congr 1
  have : la[i] = la.getD i 0 := by simp [List.getD, List.getElem?_eq_getElem hi]
  rw [this]; simp
theorem cmr_succ (n : Nat) (f : Nat → Nat → Nat) (e : Nat) (a : Int) {lb : List Int} {j : Nat} (hj : j < lb.length) : cmr n f e a (lb.take (j + 1)) = cmr n f e a (lb.take j) ++ [((cmt n f e a.toNat (lb.getD j 0).toNat : Nat) : Int)] := by
  unfold cmr
  rw [List.take_succ_eq_append_getElem hj, List.map_append]
  have : lb[j] = lb.getD j 0 := by simp [List.getD, List.getElem?_eq_getElem hj]
  rw [this]; rfl
theorem cml_len (n : Nat) (f : Nat → Nat → Nat) (e : Nat) (lb : List Int) : ∀ la : List Int, (cml n f e la lb).length = la.length * lb.length
  | [] => by simp [cml]
  | a :: la => by
    have := cml_len n f e lb la
    unfold cml at this ⊢
    rw [List.flatMap_cons, List.length_append, this]
    simp [cmr, Nat.add_mul, Nat.add_comm]
theorem mem_cml {n e : Nat} {f : Nat → Nat → Nat} {p r : Nat → Bool} {x : Int} : x ∈ cml n f e (thl n p) (thl n r) ↔ ∃ a b, a < n ∧ b < n ∧ p a = true ∧ r b = true ∧ x = ((cmt n f e a b : Nat) : Int) := by
  unfold cml cmr
  rw [List.mem_flatMap]
  constructor
  · rintro ⟨y, hy, hx⟩
    obtain ⟨z, hz, rfl⟩ := List.mem_map.1 hx
    obtain ⟨a, a1, a2, rfl⟩ := mem_thl.1 hy
    obtain ⟨b, b1, b2, rfl⟩ := mem_thl.1 hz
    exact ⟨a, b, a1, b1, a2, b2, by simp⟩
  · rintro ⟨a, b, a1, b1, a2, b2, rfl⟩
    exact ⟨(a : Int), (mem_thl_n a1).2 a2, List.mem_map.2 ⟨(b : Int), (mem_thl_n b1).2 b2, by simp⟩⟩
theorem cml_rng {n e : Nat} {f : Nat → Nat → Nat} (G : Grp n f e) {p r : Nat → Bool} : ∀ x ∈ cml n f e (thl n p) (thl n r), ∃ a, a < n ∧ x = ((a : Nat) : Int) := fun x hx => by
  obtain ⟨a, b, a1, b1, _, _, rfl⟩ := mem_cml.1 hx
  exact ⟨_, G.cmt_lt a1 b1, rfl⟩
/-- The bits of a list make what the list makes. -/
theorem gen_msk {n e : Nat} {f : Nat → Nat → Nat} {l : List Int} (hl : ∀ x ∈ l, ∃ a, a < n ∧ x = ((a : Nat) : Int)) {a : Nat} : Gen n f e (msk l).testBit a ↔ Gen n f e (tst l) a := by
  have key : ∀ b, (msk l).testBit b = tst l b := fun b => by
    rw [msk_bit]
    unfold tst
    refine decide_eq_decide.2 ⟨?_, fun h => ⟨_, h, by simp⟩⟩
    rintro ⟨x, hx, rfl⟩
    obtain ⟨c, _, rfl⟩ := hl x hx
    simpa using hx
  have : (msk l).testBit = tst l := funext key
  rw [this]

theorem derive_s {n e : Nat} {m : List Int} (h : GT n m n e) (p r q : Nat → Bool) (hq : ∀ a, a < n → (q a = true ↔ Gen n (op m n) e (tst (cml n (op m n) e (thl n p) (thl n r))) a)) :
    FnC Tryd.prog 102 [gp n m, .int .u64 (bo n p), .int .u64 (bo n r)] (.int .u64 (bo n q)) := by
  have G := h.2.2
  have hb := h.2.1.big
  have hlp := thl_le n p
  have hlr := thl_le n r
  refine fnc_of tab_ok Tryd.func102 rfl (by kernel_rfl) (by rw [Tryd.ntmps102]; exact Nat.le_add_left 3 _) ?_; rw [Tryd.ntmps102]
  refine qm ?_
  refine hk_region fun K hK => runs_eval tab_ok ?_
  simp only [ev0, evA, evB, evP, fl, gp, tab, simprocAttr, reduceCtorEq, reduceIte]
  refine fin_run ?_ (hK _ ?_) <;> clear hK <;> clear K
  · (first | exact trivial | omega | (simp only [In64] at *; omega) | (simp [In64] at *; omega) | (simp_all; done) | skip)
  refine qa (qm ?_)
  refine hk_region fun K hK => runs_eval tab_ok ?_
  simp only [ev0, evA, evB, evP, fl, gp, tab, simprocAttr, reduceCtorEq, reduceIte]
  refine fin_run trivial (hK _ ?_) <;> clear hK <;> clear K
  refine qa (qm (qm ?_))
  refine hk_region fun K hK => runs_eval tab_ok ?_
  simp only [ev0, evA, evB, evP, fl, gp, tab, simprocAttr, reduceCtorEq, reduceIte]
  refine fin_stop trivial (runs_call (list_s (bo n p) (bo_lt64 hb p)) rfl rfl rfl (by simp only [dstOk, Nat.reduceLT]) (by repeat (first | exact trivial | constructor)) (runs_eval tab_ok ?_))
  simp only [ev0, evA, evB, evP, fl, gp, tab, simprocAttr, reduceCtorEq, reduceIte, stl_bo hb, il_length]
  refine fin_run trivial (hK _ ?_) <;> clear hK <;> clear K
  refine qa (ql ?_)
  refine hk_loop (ι := Nat) (fun i => ⟨38, [(2, .p (.int .u64 (bo n r))), (3, .ptr 0 0), (7, .p (.int .u64 (msk (cml n (op m n) e ((thl n p).take i) (thl n r))))), (13, .p (.list (il (thl n p)))), (14, .p (.int .i64 (thl n p).length)), (15, .p (.int .i64 i))], [.own [.p (.int .i64 n), .p (.list (il m))]]⟩) (fun i => i ≤ (thl n p).length) (fun i => (thl n p).length - i) 0 (Nat.zero_le _) [0] (by simp only [leq, leA, ev0, evA, evB, evP, fl, gp, tab, simprocAttr, reduceCtorEq, reduceIte] <;> first | trivial | simp [cml, msk]) fun i hi => ?_
  refine qm ?_
  refine hk_region fun K hK => runs_eval tab_ok ?_
  simp only [ev0, evA, evB, evP, fl, gp, tab, simprocAttr, reduceCtorEq, reduceIte]
  refine fin_run trivial (hK _ ?_) <;> clear hK <;> clear K
  refine qa (qm ?_)
  refine hk_cond rfl (fun hC1 => ?_) (fun hC1 => ?_)
  · (try simp only [nhs] at hC1)
    have hlt : i < (thl n p).length := by omega
    obtain ⟨x, x1, x2, x3⟩ := thl_get hlt
    refine qh (qa (qm (ql (qm ?_))))
    refine hk_region fun K hK => runs_eval tab_ok ?_
    simp only [ev0, evA, evB, evP, fl, gp, tab, simprocAttr, reduceCtorEq, reduceIte, il_get hlt, x3]
    refine fin_run ?_ (hK _ ?_) <;> clear hK <;> clear K
    · (first | exact trivial | omega | (simp only [In64] at *; omega) | (simp [In64] at *; omega) | (simp_all; done) | skip)
    refine qa (qm ?_)
    refine hk_region fun K hK => runs_eval tab_ok ?_
    simp only [ev0, evA, evB, evP, fl, gp, tab, simprocAttr, reduceCtorEq, reduceIte]
    refine fin_stop trivial (runs_call (list_s (bo n r) (bo_lt64 hb r)) rfl rfl rfl (by simp only [dstOk, Nat.reduceLT]) (by repeat (first | exact trivial | constructor)) (runs_eval tab_ok ?_))
    simp only [ev0, evA, evB, evP, fl, gp, tab, simprocAttr, reduceCtorEq, reduceIte, stl_bo hb, il_length]
    refine fin_run trivial (hK _ ?_) <;> clear hK <;> clear K
    refine qa (ql ?_)
    refine hk_loop (ι := Nat) (fun j => ⟨38, [(2, .p (.int .u64 (bo n r))), (3, .ptr 0 0), (7, .p (.int .u64 (msk (cml n (op m n) e ((thl n p).take i) (thl n r) ++ cmr n (op m n) e x ((thl n r).take j))))), (9, .p (.int .i64 x)), (13, .p (.list (il (thl n p)))), (14, .p (.int .i64 (thl n p).length)), (15, .p (.int .i64 i)), (20, .p (.list (il (thl n r)))), (21, .p (.int .i64 (thl n r).length)), (22, .p (.int .i64 j))], [.own [.p (.int .i64 n), .p (.list (il m))]]⟩) (fun j => j ≤ (thl n r).length) (fun j => (thl n r).length - j) 0 (Nat.zero_le _) [0] (by simp only [leq, leA, ev0, evA, evB, evP, fl, gp, tab, simprocAttr, reduceCtorEq, reduceIte] <;> first | trivial | simp [cmr]) fun j hj => ?_
    refine qm ?_
    refine hk_region fun K hK => runs_eval tab_ok ?_
    simp only [ev0, evA, evB, evP, fl, gp, tab, simprocAttr, reduceCtorEq, reduceIte]
    refine fin_run trivial (hK _ ?_) <;> clear hK <;> clear K
    refine qa (qm ?_)
    refine hk_cond rfl (fun hC2 => ?_) (fun hC2 => ?_)
    · (try simp only [nhs] at hC2)
      have hjl : j < (thl n r).length := by omega
      obtain ⟨y, y1, y2, y3⟩ := thl_get hjl
      have hc := G.cmt_lt x1 y1
      have hp := pow_lt64 (b := cmt n (op m n) e x y) (by omega)
      have hall : ∀ z ∈ cml n (op m n) e ((thl n p).take i) (thl n r) ++ cmr n (op m n) e x ((thl n r).take j), z.toNat < n := fun z hz => by
        rcases List.mem_append.1 hz with hz | hz
        · obtain ⟨u, hu, hv⟩ := List.mem_flatMap.1 hz
          obtain ⟨w, hw, rfl⟩ := List.mem_map.1 hv
          obtain ⟨u', u1, u2⟩ := thl_rng2 u (List.mem_of_mem_take hu)
          obtain ⟨w', w1, w2⟩ := thl_rng2 w hw
          subst u2; subst w2
          exact G.cmt_lt u1 w1
        · obtain ⟨w, hw, rfl⟩ := List.mem_map.1 hz
          obtain ⟨w', w1, w2⟩ := thl_rng2 w (List.mem_of_mem_take hw)
          subst w2
          exact G.cmt_lt x1 w1
      have hm := lt64 hb (msk_lt hall)
      refine qh (qa (qm (ql (qm ?_))))
      refine hk_region fun K hK => runs_eval tab_ok ?_
      simp only [ev0, evA, evB, evP, fl, gp, tab, simprocAttr, reduceCtorEq, reduceIte, il_get hjl, y3]
      refine fin_run ?_ (hK _ ?_) <;> clear hK <;> clear K
      · (first | exact trivial | omega | (simp only [In64] at *; omega) | (simp [In64] at *; omega) | (simp_all; done) | skip)
      refine qa ?_
      refine hk_region fun K hK => runs_eval tab_ok ?_
      simp only [ev0, evA, evB, evP, fl, gp, tab, simprocAttr, reduceCtorEq, reduceIte]
      refine fin_stop trivial (runs_call (commOf_s h x1 y1) rfl rfl rfl (by simp only [dstOk, Nat.reduceLT]) (by repeat (first | exact trivial | constructor)) (runs_eval tab_ok ?_))
      simp only [ev0, evA, evB, evP, fl, gp, tab, simprocAttr, reduceCtorEq, reduceIte, shl_one (show cmt n (op m n) e x y < 64 by omega), bv_or hm hp]
      refine fin_run ?_ (hK _ ?_) <;> clear hK <;> clear K
      · (first | exact trivial | omega | (simp only [In64] at *; omega) | (simp [In64] at *; omega) | (simp_all; done) | skip)
      refine qd (qa ?_)
      refine hk_region fun K hK => runs_eval tab_ok ?_
      simp only [ev0, evA, evB, evP, fl, gp, tab, simprocAttr, reduceCtorEq, reduceIte]
      refine fin_run ?_ (hK _ ?_) <;> clear hK <;> clear K
      · (first | exact trivial | omega | (simp only [In64] at *; omega) | (simp [In64] at *; omega) | (simp_all; done) | skip)
      refine qa ?_
      refine ⟨j + 1, [0], by omega, by omega, ?_⟩
      rw [cmr_succ n (op m n) e x hjl, ← List.append_assoc, msk_snoc, y3]
      simp only [leq, leA, ev0, evA, evB, evP, fl, gp, tab, simprocAttr, reduceCtorEq, reduceIte] <;> first | trivial | omega
    · (try simp only [nhs] at hC2)
      have hjn : j = (thl n r).length := by omega
      rw [hjn, List.take_length]
      refine qj (qc (qc (qf (qd (qa ?_)))))
      refine hk_region fun K hK => runs_eval tab_ok ?_
      simp only [ev0, evA, evB, evP, fl, gp, tab, simprocAttr, reduceCtorEq, reduceIte]
      refine fin_run ?_ (hK _ ?_) <;> clear hK <;> clear K
      · (first | exact trivial | omega | (simp only [In64] at *; omega) | (simp [In64] at *; omega) | (simp_all; done) | skip)
      refine qa ?_
      refine ⟨i + 1, [0], by omega, by omega, ?_⟩
      rw [cml_succ n (op m n) e (thl n r) hlt, x3]
      simp only [leq, leA, ev0, evA, evB, evP, fl, gp, tab, simprocAttr, reduceCtorEq, reduceIte] <;> first | trivial | omega
  · (try simp only [nhs] at hC1)
    have hin : i = (thl n p).length := by omega
    rw [hin, List.take_length]
    refine qj (qc (qc (qf (qa (qm ?_)))))
    refine hk_region fun K hK => runs_eval tab_ok ?_
    simp only [ev0, evA, evB, evP, fl, gp, tab, simprocAttr, reduceCtorEq, reduceIte]
    refine fin_stop trivial (runs_call (grow_c h (msk (cml n (op m n) e (thl n p) (thl n r))) (msk_lt fun z hz => by obtain ⟨a, a1, rfl⟩ := cml_rng G z hz; simpa using a1) q (fun a ha => by rw [gen_msk (cml_rng G)]; exact hq a ha)) rfl rfl rfl (by simp only [dstOk, Nat.reduceLT]) (by repeat (first | exact trivial | constructor)) (runs_eval tab_ok ?_))
    simp only [ev0, evA, evB, evP, fl, gp, tab, simprocAttr, reduceCtorEq, reduceIte]
    refine fin_run ?_ (hK _ ?_) <;> clear hK <;> clear K
    · (first | exact trivial | omega | (simp only [In64] at *; omega) | (simp [In64] at *; omega) | (simp_all; done) | skip)
    refine qa (qk ?_)
    simp only [Tryd.results102, enA, ev0, evA, evB, evP, fl, gp, tab, simprocAttr, reduceCtorEq, reduceIte]
    all_goals (rfl)

/-! ### Small words -/

theorem parted_r (n : Nat) (p q : Nat → Bool) (hn : n ≤ 60) (b : Bool) (hb : b = true ↔ ∀ a, a < n → p a = true → q a = true) : FnC Tryd.prog 54 [.list (il (thl n p)), .list (il (thl n q))] (.bool b) := by
  have hlp := thl_le n p
  have hlq := thl_le n q
  refine fnc_of tab_ok Tryd.func54 rfl (by kernel_rfl) (by rw [Tryd.ntmps54]; exact Nat.le_add_left 2 _) ?_; rw [Tryd.ntmps54]
  refine qm ?_
  refine hk_region fun K hK => runs_eval tab_ok ?_
  simp only [ev0, evA, evB, evP, fl, gp, tab, simprocAttr, reduceCtorEq, reduceIte]
  refine fin_run trivial (hK _ ?_) <;> clear hK <;> clear K
  refine qa (qm (qm ?_))
  refine hk_region fun K hK => runs_eval tab_ok ?_
  simp only [ev0, evA, evB, evP, fl, gp, tab, simprocAttr, reduceCtorEq, reduceIte]
  refine fin_run trivial (hK _ ?_) <;> clear hK <;> clear K
  refine qa (ql ?_)
  refine hk_loop (ι := Nat) (fun i => ⟨19, [(0, .p (.list (il (thl n p)))), (1, .p (.list (il (thl n q)))), (5, .p (.int .i64 i))], []⟩) (fun i => i ≤ (thl n p).length ∧ ∀ j, j < i → q ((thl n p).getD j 0).toNat = true) (fun i => (thl n p).length - i) 0 ⟨Nat.zero_le _, fun j hj => by omega⟩ [] (by simp only [leq, leA, ev0, evA, evB, evP, fl, gp, tab, simprocAttr, reduceCtorEq, reduceIte] <;> trivial) fun i hi => ?_
  obtain ⟨hi1, hi2⟩ := hi
  refine qm (qm ?_)
  refine hk_region fun K hK => runs_eval tab_ok ?_
  simp only [ev0, evA, evB, evP, fl, gp, tab, simprocAttr, reduceCtorEq, reduceIte]
  refine fin_run trivial (hK _ ?_) <;> clear hK <;> clear K
  refine qa ?_
  refine hk_cond rfl (fun hC1 => ?_) (fun hC1 => ?_)
  · (try simp only [nhs] at hC1)
    have hlt : i < (thl n p).length := by omega
    obtain ⟨x, x1, x2, x3⟩ := thl_get hlt
    refine qh (qa (qm (ql (qm ?_))))
    refine hk_region fun K hK => runs_eval tab_ok ?_
    simp only [ev0, evA, evB, evP, fl, gp, tab, simprocAttr, reduceCtorEq, reduceIte, il_get hlt, x3]
    refine fin_stop ?_ (runs_call (has_r (thl n q) x (by omega)) rfl rfl rfl (by simp only [dstOk, Nat.reduceLT]) (by repeat (first | exact trivial | constructor)) (runs_eval tab_ok ?_))
    · (first | exact trivial | omega | (simp only [In64] at *; omega) | (simp [In64] at *; omega) | (simp_all; done) | skip)
    simp only [ev0, evA, evB, evP, fl, gp, tab, simprocAttr, reduceCtorEq, reduceIte, il_get hlt, x3]
    refine fin_run ?_ (hK _ ?_) <;> clear hK <;> clear K
    · (first | exact trivial | omega | (simp only [In64] at *; omega) | (simp [In64] at *; omega) | (simp_all; done) | skip)
    refine qa ?_
    refine hk_cond rfl (fun hC2 => ?_) (fun hC2 => ?_)
    · (try simp only [nhs] at hC2)
      refine qm ?_
      refine hk_region fun K hK => runs_eval tab_ok ?_
      simp only [ev0, evA, evB, evP, fl, gp, tab, simprocAttr, reduceCtorEq, reduceIte]
      refine fin_run trivial (hK _ ?_) <;> clear hK <;> clear K
      refine qa (qk (qe (qb (qb (qe (qb ?_))))))
      simp only [Tryd.results54, enA, ev0, evA, evB, evP, fl, gp, tab, simprocAttr, reduceCtorEq, reduceIte]
      cases b with
      | false => rfl
      | true => exact absurd ((mem_thl_n x1).2 (hb.1 rfl x x1 x2)) (by simpa using hC2)
    · (try simp only [nhs] at hC2)
      have hx : q x = true := (mem_thl_n x1).1 hC2
      refine qh (qd (qa ?_))
      refine hk_region fun K hK => runs_eval tab_ok ?_
      simp only [ev0, evA, evB, evP, fl, gp, tab, simprocAttr, reduceCtorEq, reduceIte]
      refine fin_run ?_ (hK _ ?_) <;> clear hK <;> clear K
      · (first | exact trivial | omega | (simp only [In64] at *; omega) | (simp [In64] at *; omega) | (simp_all; done) | skip)
      refine qa ?_
      refine ⟨i + 1, [], ⟨by omega, fun j hj => ?_⟩, by omega, ?_⟩
      · by_cases hj2 : j = i
        · subst hj2; rw [x3, Int.toNat_natCast]; exact hx
        · exact hi2 j (by omega)
      · simp only [leq, leA, ev0, evA, evB, evP, fl, gp, tab, simprocAttr, reduceCtorEq, reduceIte] <;> omega
  · (try simp only [nhs] at hC1)
    refine qj (qc (qc (qf (qa (qm ?_)))))
    refine hk_region fun K hK => runs_eval tab_ok ?_
    simp only [ev0, evA, evB, evP, fl, gp, tab, simprocAttr, reduceCtorEq, reduceIte]
    refine fin_run trivial (hK _ ?_) <;> clear hK <;> clear K
    refine qa (qk ?_)
    simp only [Tryd.results54, enA, ev0, evA, evB, evP, fl, gp, tab, simprocAttr, reduceCtorEq, reduceIte]
    rw [eq_comm, hb]
    intro a ha h1
    obtain ⟨j, j1, j2⟩ := thl_at ha h1
    have := hi2 j (by omega)
    rwa [j2, Int.toNat_natCast] at this
end Go.Proofs.YtjikchbmkodgfaaDoor
