/-
  Texts of this proof, one behind the other: what each says stands at its head. Conditions: none.
-/
import Derived.Test.YtjbfkdaodfdpcaaDoorB4
import Derived.Test.YtjbfkdaodfdpcaaDoorB3
import Derived.Shelf.SlSortCmp.Whole1
import Derived.Shelf.Sort.Plain
import Derived.Shelf.Slices.In.SortNone

/-
  Cosets: right, left and double, of the program and of the document. Conditions: none.
-/
set_option linter.all false
namespace Go.Proofs.YtjbfkdaodfdpcaaDoor
open Go.Pv

/-! ### Gathered -/

set_option maxHeartbeats 2000000 in
theorem gather_c (n : Nat) (hb : n ≤ 60) (F : FuncId) (caps : List PV) (r : Nat → Nat → Bool) (E : Eqv n r) (hF : ∀ a, a < n → FnC Tryd.prog F (.int .i64 a :: caps) (.int .u64 (bo n (r a)))) : FnC Tryd.prog 115 [.int .i64 n, .fn F caps] (.list (ll (cst n r))) := by
  have hz : bo n (hadp r 0) = 0 := by
    have h1 : bo n (hadp r 0) = bo n fun _ => false := bo_congr fun a _ => by simp [hadp]
    rw [h1, bo_zero]
  have hlead : ∀ x, x < n → lead r x = !hadp r x x := by
    intro x hx
    rw [Bool.eq_iff_iff, lead_iff, Bool.not_eq_true']
    unfold hadp
    rw [decide_eq_false_iff_not]
    constructor
    · rintro ⟨_, h2⟩ ⟨z, z1, z2⟩
      have := E.symm z x (by omega) hx z2
      rw [h2 z z1] at this; cases this
    · intro h1
      refine ⟨E.refl x hx, fun b hb' => ?_⟩
      cases hv : r x b with
      | false => rfl
      | true => exact absurd ⟨b, hb', E.symm x b hx (by omega) hv⟩ h1
  refine fnc_of tab_ok Tryd.func115 rfl (by kernel_rfl) (by rw [Tryd.ntmps115]; exact Nat.le_add_left 2 _) ?_; rw [Tryd.ntmps115]
  refine qm ?_
  refine hk_region fun K hK => runs_eval tab_ok ?_
  simp only [ev0, evA, evB, evP, fl, gp, tab, simprocAttr, reduceCtorEq, reduceIte]
  refine fin_run trivial (hK _ ?_) <;> clear hK <;> clear K
  refine qa (qm ?_)
  refine hk_region fun K hK => runs_eval tab_ok ?_
  simp only [ev0, evA, evB, evP, fl, gp, tab, simprocAttr, reduceCtorEq, reduceIte]
  refine fin_run trivial (hK _ ?_) <;> clear hK <;> clear K
  refine qa (qm ?_)
  refine hk_own0 5 rfl ?_
  refine hk_region fun K hK => runs_eval tab_ok ?_
  simp only [ev0, evA, evB, evP, fl, gp, tab, simprocAttr, reduceCtorEq, reduceIte]
  refine fin_run trivial (hK _ ?_) <;> clear hK <;> clear K
  refine qa (qm (qm ?_))
  refine hk_region fun K hK => runs_eval tab_ok ?_
  simp only [ev0, evA, evB, evP, fl, gp, tab, simprocAttr, reduceCtorEq, reduceIte]
  refine fin_run trivial (hK _ ?_) <;> clear hK <;> clear K
  refine qa (ql ?_)
  refine hk_loop (ι := Nat) (fun x => ⟨29, [(1, .p (.fn F caps)), (5, .sl 0 0 (cstp n r x).length), (6, .p (.int .u64 (bo n (hadp r x)))), (9, .p (.int .i64 n)), (10, .p (.int .i64 x))], [.own (opl (ll (cstp n r x)))]⟩) (fun x => x ≤ n) (fun x => n - x) 0 (Nat.zero_le _) [0] (by simp only [leq, leA, ev0, evA, evB, evP, fl, gp, tab, simprocAttr, reduceCtorEq, reduceIte, ll_takeL, ll_snoc, ll_takeS] <;> first | trivial | (simp [cstp, ll, opl, hz]; done) | (simp [cstp, ll, opl]; done)) fun x hx => ?_
  have hlen := cstp_len n r x
  have hll := ll_length (cstp n r x)
  refine qm ?_
  refine hk_region fun K hK => runs_eval tab_ok ?_
  simp only [ev0, evA, evB, evP, fl, gp, tab, simprocAttr, reduceCtorEq, reduceIte]
  refine fin_run trivial (hK _ ?_) <;> clear hK <;> clear K
  refine qa (qm ?_)
  refine hk_cond rfl (fun hC1 => ?_) (fun hC1 => ?_)
  · (try simp only [nhs] at hC1)
    have hlt : x < n := by omega
    have hs := cstp_succ n r x
    have hhb : (bo n (hadp r x)).testBit x = hadp r x x := by rw [bo_bit]; simp [hlt]
    have hb1 := bo_lt64 hb (hadp r x)
    have hb2 := bo_lt64 hb (r x)
    refine qh (qa (qm (ql (qm ?_))))
    refine hk_region fun K hK => runs_eval tab_ok ?_
    simp only [ev0, evA, evB, evP, fl, gp, tab, simprocAttr, reduceCtorEq, reduceIte]
    refine fin_run trivial (hK _ ?_) <;> clear hK <;> clear K
    refine qa (qm (qm ?_))
    refine hk_region fun K hK => runs_eval tab_ok ?_
    simp only [ev0, evA, evB, evP, fl, gp, tab, simprocAttr, reduceCtorEq, reduceIte]
    refine fin_stop trivial (runs_call (has_s (bo n (hadp r x)) x hb1 (by omega)) rfl rfl rfl (by simp only [dstOk, Nat.reduceLT]) (by repeat (first | exact trivial | constructor)) (runs_eval tab_ok ?_))
    simp only [ev0, evA, evB, evP, fl, gp, tab, simprocAttr, reduceCtorEq, reduceIte, hhb]
    refine fin_run trivial (hK _ ?_) <;> clear hK <;> clear K
    refine qa ?_
    refine hk_cond rfl (fun hC2 => ?_) (fun hC2 => ?_)
    · (try simp only [nhs] at hC2)
      have hld : lead r x = false := by rw [hlead x hlt, hC2]; rfl
      rw [if_neg (by rw [hld]; simp), List.append_nil] at hs
      have hh : bo n (hadp r (x + 1)) = bo n (hadp r x) := bo_congr fun y hy => by
        unfold hadp at hC2 ⊢
        rw [decide_eq_true_eq] at hC2
        refine decide_eq_decide.2 ⟨?_, fun ⟨z, z1, z2⟩ => ⟨z, by omega, z2⟩⟩
        rintro ⟨z, z1, z2⟩
        by_cases hzx : z = x
        · subst hzx
          obtain ⟨w, w1, w2⟩ := hC2
          exact ⟨w, w1, E.trans w z y (by omega) hlt hy w2 z2⟩
        · exact ⟨z, by omega, z2⟩
      refine qj (qc (qf (qa ?_)))
      refine hk_region fun K hK => runs_eval tab_ok ?_
      simp only [ev0, evA, evB, evP, fl, gp, tab, simprocAttr, reduceCtorEq, reduceIte]
      refine fin_run ?_ (hK _ ?_) <;> clear hK <;> clear K
      · (first | exact trivial | omega | (simp only [In64] at *; omega) | (simp [In64] at *; omega) | (simp_all; done) | skip)
      refine qa ?_
      refine ⟨x + 1, [0], by omega, by omega, ?_⟩
      rw [hs, hh]
      simp only [leq, leA, ev0, evA, evB, evP, fl, gp, tab, simprocAttr, reduceCtorEq, reduceIte, ll_takeL, ll_snoc, ll_takeS] <;> first | trivial | omega
    · (try simp only [nhs] at hC2)
      have hld : lead r x = true := by rw [hlead x hlt, hC2]; rfl
      rw [if_pos hld] at hs
      have hh : bo n (hadp r (x + 1)) = bo n (fun y => hadp r x y || r x y) := bo_congr fun y hy => by
        unfold hadp
        rw [Bool.eq_iff_iff, Bool.or_eq_true, decide_eq_true_eq, decide_eq_true_eq]
        constructor
        · rintro ⟨z, z1, z2⟩
          by_cases hzx : z = x
          · subst hzx; exact .inr z2
          · exact .inl ⟨z, by omega, z2⟩
        · rintro (⟨z, z1, z2⟩ | h')
          · exact ⟨z, by omega, z2⟩
          · exact ⟨x, by omega, h'⟩
      refine qh (qa (qm ?_))
      refine hk_region fun K hK => runs_eval tab_ok ?_
      simp only [ev0, evA, evB, evP, fl, gp, tab, simprocAttr, reduceCtorEq, reduceIte]
      refine fin_stop trivial (runs_call (hF x hlt) rfl rfl rfl (by simp only [dstOk, Nat.reduceLT]) (by repeat (first | exact trivial | constructor)) (runs_eval tab_ok ?_))
      simp only [ev0, evA, evB, evP, fl, gp, tab, simprocAttr, reduceCtorEq, reduceIte]
      refine fin_run trivial (hK _ ?_) <;> clear hK <;> clear K
      refine qa (qm ?_)
      refine hk_region fun K hK => runs_eval tab_ok ?_
      simp only [ev0, evA, evB, evP, fl, gp, tab, simprocAttr, reduceCtorEq, reduceIte, bv_or hb1 hb2, bo_or]
      refine fin_run ?_ (hK _ ?_) <;> clear hK <;> clear K
      · (first | exact trivial | omega | (simp only [In64] at *; omega) | (simp [In64] at *; omega) | (simp_all; done) | skip)
      refine qa ?_
      refine hk_region fun K hK => runs_eval tab_ok ?_
      simp only [ev0, evA, evB, evP, fl, gp, tab, simprocAttr, reduceCtorEq, reduceIte, ll_takeL, oll_ok, ll_snoc]
      refine fin_stop trivial (runs_call (list_s (bo n (r x)) hb2) rfl rfl rfl (by simp only [dstOk, Nat.reduceLT]) (by repeat (first | exact trivial | constructor)) (runs_eval tab_ok ?_))
      simp only [ev0, evA, evB, evP, fl, gp, tab, simprocAttr, reduceCtorEq, reduceIte, stl_bo hb, ll_takeL, oll_ok, ll_snoc]
      refine fin_run ?_ (hK _ ?_) <;> clear hK <;> clear K
      · (first | exact trivial | omega | (simp only [In64] at *; omega) | (simp [In64] at *; omega) | (simp_all; done) | skip)
      refine qd (qa ?_)
      refine hk_region fun K hK => runs_eval tab_ok ?_
      simp only [ev0, evA, evB, evP, fl, gp, tab, simprocAttr, reduceCtorEq, reduceIte]
      refine fin_run ?_ (hK _ ?_) <;> clear hK <;> clear K
      · (first | exact trivial | omega | (simp only [In64] at *; omega) | (simp [In64] at *; omega) | (simp_all; done) | skip)
      refine qa ?_
      refine ⟨x + 1, [1], by omega, by omega, ?_⟩
      rw [hs, hh]
      simp only [leq, leA, ev0, evA, evB, evP, fl, gp, tab, simprocAttr, reduceCtorEq, reduceIte, ll_takeL, ll_snoc, ll_takeS] <;> first | trivial | omega | (simp [ll]; done)
  · (try simp only [nhs] at hC1)
    have hxn : x = n := by omega
    subst hxn
    rw [← ll_length (cstp x r x)]
    refine hk_sealp 5 0 (ll_all _) rfl rfl ?_
    refine qj (qc (qc (qf (qa (qm ?_)))))
    refine hk_region fun K hK => runs_eval tab_ok ?_
    simp only [ev0, evA, evB, evP, fl, gp, tab, simprocAttr, reduceCtorEq, reduceIte]
    refine fin_run trivial (hK _ ?_) <;> clear hK <;> clear K
    refine qa (qk ?_)
    simp only [Tryd.results115, enA, ev0, evA, evB, evP, fl, gp, tab, simprocAttr, reduceCtorEq, reduceIte]
    all_goals (rfl)

/-! ### Products of a set, a thing and a set -/

def pdr (f : Nat → Nat → Nat) (x a : Nat) (lm : List Int) : List Int := lm.map fun y => ((f (f x a) y.toNat : Nat) : Int)
def pdl (f : Nat → Nat → Nat) (a : Nat) (l lm : List Int) : List Int := l.flatMap fun x => pdr f x.toNat a lm
theorem pdl_succ (f : Nat → Nat → Nat) (a : Nat) {l : List Int} (lm : List Int) {i : Nat} (hi : i < l.length) : pdl f a (l.take (i + 1)) lm = pdl f a (l.take i) lm ++ pdr f (l.getD i 0).toNat a lm := by
  unfold pdl
  rw [List.take_succ_eq_append_getElem hi, List.flatMap_append]
  congr 1
  have : l[i] = l.getD i 0 := by simp [List.getD, List.getElem?_eq_getElem hi]
  rw [this]; simp
theorem pdr_succ (f : Nat → Nat → Nat) (x a : Nat) {lm : List Int} {j : Nat} (hj : j < lm.length) : pdr f x a (lm.take (j + 1)) = pdr f x a (lm.take j) ++ [((f (f x a) (lm.getD j 0).toNat : Nat) : Int)] := by
  unfold pdr
  rw [List.take_succ_eq_append_getElem hj, List.map_append]
  have : lm[j] = lm.getD j 0 := by simp [List.getD, List.getElem?_eq_getElem hj]
  rw [this]; rfl
theorem mem_pdl {n a : Nat} {f : Nat → Nat → Nat} {p q : Nat → Bool} {z : Int} : z ∈ pdl f a (thl n p) (thl n q) ↔ ∃ x y, x < n ∧ y < n ∧ p x = true ∧ q y = true ∧ z = ((f (f x a) y : Nat) : Int) := by
  unfold pdl pdr
  rw [List.mem_flatMap]
  constructor
  · rintro ⟨u, hu, hz⟩
    obtain ⟨v, hv, rfl⟩ := List.mem_map.1 hz
    obtain ⟨x, x1, x2, rfl⟩ := mem_thl.1 hu
    obtain ⟨y, y1, y2, rfl⟩ := mem_thl.1 hv
    exact ⟨x, y, x1, y1, x2, y2, by simp⟩
  · rintro ⟨x, y, x1, y1, x2, y2, rfl⟩
    exact ⟨_, (mem_thl_n x1).2 x2, List.mem_map.2 ⟨_, (mem_thl_n y1).2 y2, by simp⟩⟩
theorem msk_pdl {n e a : Nat} {f : Nat → Nat → Nat} (G : Grp n f e) (p q : Nat → Bool) (ha : a < n) : msk (pdl f a (thl n p) (thl n q)) = bo n (dco n f p q a) := by
  refine Nat.eq_of_testBit_eq fun i => ?_
  rw [msk_bit, bo_bit, Bool.eq_iff_iff, decide_eq_true_eq, Bool.and_eq_true, decide_eq_true_eq, dco_iff]
  constructor
  · rintro ⟨z, hz, rfl⟩
    obtain ⟨x, y, x1, y1, x2, y2, rfl⟩ := mem_pdl.1 hz
    exact ⟨by simpa using G.cl _ _ (G.cl _ _ x1 ha) y1, x, y, x1, y1, x2, y2, by simp⟩
  · rintro ⟨_, x, y, x1, y1, x2, y2, rfl⟩
    exact ⟨_, mem_pdl.2 ⟨x, y, x1, y1, x2, y2, rfl⟩, by simp⟩

theorem product_s {n e : Nat} {m : List Int} (h : GT n m n e) (p q : Nat → Bool) {a : Nat} (ha : a < n) : FnC Tryd.prog 117 [gp n m, .list (il (thl n p)), .int .i64 a, .list (il (thl n q))] (.int .u64 (bo n (dco n (op m n) p q a))) := by
  have G := h.2.2
  have hb := h.2.1.big
  have hlp := thl_le n p
  have hlq := thl_le n q
  refine fnc_of tab_ok Tryd.func117 rfl (by kernel_rfl) (by rw [Tryd.ntmps117]; exact Nat.le_add_left 4 _) ?_; rw [Tryd.ntmps117]
  refine qm ?_
  refine hk_region fun K hK => runs_eval tab_ok ?_
  simp only [ev0, evA, evB, evP, fl, gp, tab, simprocAttr, reduceCtorEq, reduceIte]
  refine fin_run ?_ (hK _ ?_) <;> clear hK <;> clear K
  · (first | exact trivial | omega | (simp only [In64] at *; omega) | (simp [In64] at *; omega) | (simp_all; done) | skip)
  refine qa (qm ?_)
  refine hk_region fun K hK => runs_eval tab_ok ?_
  simp only [ev0, evA, evB, evP, fl, gp, tab, simprocAttr, reduceCtorEq, reduceIte]
  refine fin_run trivial (hK _ ?_) <;> clear hK <;> clear K
  refine qa (qm (qm ?_))
  refine hk_region fun K hK => runs_eval tab_ok ?_
  simp only [ev0, evA, evB, evP, fl, gp, tab, simprocAttr, reduceCtorEq, reduceIte, il_length]
  refine fin_run trivial (hK _ ?_) <;> clear hK <;> clear K
  refine qa (ql ?_)
  refine hk_loop (ι := Nat) (fun i => ⟨39, [(2, .p (.int .i64 a)), (3, .p (.list (il (thl n q)))), (4, .ptr 0 0), (9, .p (.int .u64 (msk (pdl (op m n) a ((thl n p).take i) (thl n q))))), (14, .p (.list (il (thl n p)))), (15, .p (.int .i64 (thl n p).length)), (16, .p (.int .i64 i))], [.own [.p (.int .i64 n), .p (.list (il m))]]⟩) (fun i => i ≤ (thl n p).length) (fun i => (thl n p).length - i) 0 (Nat.zero_le _) [0] (by simp only [leq, leA, ev0, evA, evB, evP, fl, gp, tab, simprocAttr, reduceCtorEq, reduceIte] <;> first | trivial | simp [pdl, msk]) fun i hi => ?_
  refine qm ?_
  refine hk_region fun K hK => runs_eval tab_ok ?_
  simp only [ev0, evA, evB, evP, fl, gp, tab, simprocAttr, reduceCtorEq, reduceIte]
  refine fin_run trivial (hK _ ?_) <;> clear hK <;> clear K
  refine qa (qm ?_)
  refine hk_cond rfl (fun hC1 => ?_) (fun hC1 => ?_)
  · (try simp only [nhs] at hC1)
    have hlt : i < (thl n p).length := by omega
    obtain ⟨x, x1, x2, x3⟩ := thl_get hlt
    refine qh (qa (qm (ql (qm ?_))))
    refine hk_region fun K hK => runs_eval tab_ok ?_
    simp only [ev0, evA, evB, evP, fl, gp, tab, simprocAttr, reduceCtorEq, reduceIte, il_get hlt, x3]
    refine fin_run ?_ (hK _ ?_) <;> clear hK <;> clear K
    · (first | exact trivial | omega | (simp only [In64] at *; omega) | (simp [In64] at *; omega) | (simp_all; done) | skip)
    refine qa (qm ?_)
    refine hk_region fun K hK => runs_eval tab_ok ?_
    simp only [ev0, evA, evB, evP, fl, gp, tab, simprocAttr, reduceCtorEq, reduceIte, il_length]
    refine fin_run trivial (hK _ ?_) <;> clear hK <;> clear K
    refine qa (ql ?_)
    refine hk_loop (ι := Nat) (fun j => ⟨39, [(2, .p (.int .i64 a)), (3, .p (.list (il (thl n q)))), (4, .ptr 0 0), (9, .p (.int .u64 (msk (pdl (op m n) a ((thl n p).take i) (thl n q) ++ pdr (op m n) x a ((thl n q).take j))))), (11, .p (.int .i64 x)), (14, .p (.list (il (thl n p)))), (15, .p (.int .i64 (thl n p).length)), (16, .p (.int .i64 i)), (20, .p (.list (il (thl n q)))), (21, .p (.int .i64 (thl n q).length)), (22, .p (.int .i64 j))], [.own [.p (.int .i64 n), .p (.list (il m))]]⟩) (fun j => j ≤ (thl n q).length) (fun j => (thl n q).length - j) 0 (Nat.zero_le _) [0] (by simp only [leq, leA, ev0, evA, evB, evP, fl, gp, tab, simprocAttr, reduceCtorEq, reduceIte] <;> first | trivial | simp [pdr]) fun j hj => ?_
    refine qm ?_
    refine hk_region fun K hK => runs_eval tab_ok ?_
    simp only [ev0, evA, evB, evP, fl, gp, tab, simprocAttr, reduceCtorEq, reduceIte]
    refine fin_run trivial (hK _ ?_) <;> clear hK <;> clear K
    refine qa (qm ?_)
    refine hk_cond rfl (fun hC2 => ?_) (fun hC2 => ?_)
    · (try simp only [nhs] at hC2)
      have hjl : j < (thl n q).length := by omega
      obtain ⟨y, y1, y2, y3⟩ := thl_get hjl
      have hxa := G.cl _ _ x1 ha
      have hc := G.cl _ _ hxa y1
      have hp := pow_lt64 (b := op m n (op m n x a) y) (by omega)
      have hall : ∀ z ∈ pdl (op m n) a ((thl n p).take i) (thl n q) ++ pdr (op m n) x a ((thl n q).take j), z.toNat < n := fun z hz => by
        rcases List.mem_append.1 hz with hz | hz
        · obtain ⟨u, hu, hv⟩ := List.mem_flatMap.1 hz
          obtain ⟨w, hw, rfl⟩ := List.mem_map.1 hv
          obtain ⟨u', u1, u2⟩ := thl_rng2 u (List.mem_of_mem_take hu)
          obtain ⟨w', w1, w2⟩ := thl_rng2 w hw
          subst u2; subst w2
          exact G.cl _ _ (G.cl _ _ u1 ha) w1
        · obtain ⟨w, hw, rfl⟩ := List.mem_map.1 hz
          obtain ⟨w', w1, w2⟩ := thl_rng2 w (List.mem_of_mem_take hw)
          subst w2
          exact G.cl _ _ hxa w1
      have hm := lt64 hb (msk_lt hall)
      refine qh (qa (qm (ql (qm ?_))))
      refine hk_region fun K hK => runs_eval tab_ok ?_
      simp only [ev0, evA, evB, evP, fl, gp, tab, simprocAttr, reduceCtorEq, reduceIte, il_get hjl, y3]
      refine fin_run ?_ (hK _ ?_) <;> clear hK <;> clear K
      · (first | exact trivial | omega | (simp only [In64] at *; omega) | (simp [In64] at *; omega) | (simp_all; done) | skip)
      refine qa ?_
      refine hk_draw mixed (by kernel_rfl) fun K hK => runs_eval tab_ok ?_
      simp only [ev0, evA, evB, evP, fl, gp, tab, simprocAttr, reduceCtorEq, reduceIte]
      refine fin_stop trivial (runs_call (of_c h.2.1 x1 ha) rfl rfl rfl (by simp only [dstOk, Nat.reduceLT]) (by repeat (first | exact trivial | constructor)) (runs_eval tab_ok ?_))
      simp only [ev0, evA, evB, evP, fl, gp, tab, simprocAttr, reduceCtorEq, reduceIte]
      refine fin_stop trivial (runs_call (of_c h.2.1 hxa y1) rfl rfl rfl (by simp only [dstOk, Nat.reduceLT]) (by repeat (first | exact trivial | constructor)) (runs_eval tab_ok ?_))
      simp only [ev0, evA, evB, evP, fl, gp, tab, simprocAttr, reduceCtorEq, reduceIte, shl_one (show op m n (op m n x a) y < 64 by omega), bv_or hm hp]
      refine fin_run ?_ (hK _ ?_) <;> clear hK <;> clear K
      · (first | exact trivial | omega | (simp only [In64] at *; omega) | (simp [In64] at *; omega) | (simp_all; done) | skip)
      refine qd (qa ?_)
      refine hk_region fun K hK => runs_eval tab_ok ?_
      simp only [ev0, evA, evB, evP, fl, gp, tab, simprocAttr, reduceCtorEq, reduceIte]
      refine fin_run ?_ (hK _ ?_) <;> clear hK <;> clear K
      · (first | exact trivial | omega | (simp only [In64] at *; omega) | (simp [In64] at *; omega) | (simp_all; done) | skip)
      refine qa ?_
      refine ⟨j + 1, [0], by omega, by omega, ?_⟩
      rw [pdr_succ (op m n) x a hjl, ← List.append_assoc, msk_snoc, y3]
      simp only [leq, leA, ev0, evA, evB, evP, fl, gp, tab, simprocAttr, reduceCtorEq, reduceIte] <;> first | trivial | omega
    · (try simp only [nhs] at hC2)
      have hjn : j = (thl n q).length := by omega
      rw [hjn, List.take_length]
      refine qj (qc (qc (qf (qd (qa ?_)))))
      refine hk_region fun K hK => runs_eval tab_ok ?_
      simp only [ev0, evA, evB, evP, fl, gp, tab, simprocAttr, reduceCtorEq, reduceIte]
      refine fin_run ?_ (hK _ ?_) <;> clear hK <;> clear K
      · (first | exact trivial | omega | (simp only [In64] at *; omega) | (simp [In64] at *; omega) | (simp_all; done) | skip)
      refine qa ?_
      refine ⟨i + 1, [0], by omega, by omega, ?_⟩
      rw [pdl_succ (op m n) a (thl n q) hlt, x3]
      simp only [leq, leA, ev0, evA, evB, evP, fl, gp, tab, simprocAttr, reduceCtorEq, reduceIte] <;> first | trivial | omega
  · (try simp only [nhs] at hC1)
    have hin : i = (thl n p).length := by omega
    rw [hin, List.take_length, msk_pdl G p q ha]
    refine qj (qc (qc (qf (qa (qm ?_)))))
    refine hk_region fun K hK => runs_eval tab_ok ?_
    simp only [ev0, evA, evB, evP, fl, gp, tab, simprocAttr, reduceCtorEq, reduceIte]
    refine fin_run trivial (hK _ ?_) <;> clear hK <;> clear K
    refine qa (qk ?_)
    simp only [Tryd.results117, enA, ev0, evA, evB, evP, fl, gp, tab, simprocAttr, reduceCtorEq, reduceIte]
    all_goals (rfl)

theorem one_s {n e : Nat} {m : List Int} (h : GT n m n e) : FnC Tryd.prog 118 [gp n m] (.list (il (thl n (onp e)))) := by
  have ht : thl n (onp e) = [(e : Int)] := thl_one h.2.2.el
  refine fnc_of tab_ok Tryd.func118 rfl (by kernel_rfl) (by rw [Tryd.ntmps118]; exact Nat.le_add_left 1 _) ?_; rw [Tryd.ntmps118]
  refine qm ?_
  refine hk_region fun K hK => runs_eval tab_ok ?_
  simp only [ev0, evA, evB, evP, fl, gp, tab, simprocAttr, reduceCtorEq, reduceIte]
  refine fin_run ?_ (hK _ ?_) <;> clear hK <;> clear K
  · (first | exact trivial | omega | (simp only [In64] at *; omega) | (simp [In64] at *; omega) | (simp_all; done) | skip)
  refine qa (qm ?_)
  refine hk_region fun K hK => runs_eval tab_ok ?_
  simp only [ev0, evA, evB, evP, fl, gp, tab, simprocAttr, reduceCtorEq, reduceIte]
  refine fin_stop trivial (runs_call (oneOf_c h) rfl rfl rfl (by simp only [dstOk, Nat.reduceLT]) (by repeat (first | exact trivial | constructor)) (runs_eval tab_ok ?_))
  simp only [ev0, evA, evB, evP, fl, gp, tab, simprocAttr, reduceCtorEq, reduceIte]
  refine fin_run ?_ (hK _ ?_) <;> clear hK <;> clear K
  · (first | exact trivial | omega | (simp only [In64] at *; omega) | (simp [In64] at *; omega) | (simp_all; done) | skip)
  refine qa (qk ?_)
  simp only [Tryd.results118, enA, ev0, evA, evB, evP, fl, gp, tab, simprocAttr, reduceCtorEq, reduceIte]
  all_goals (rw [ht]; rfl)

theorem right1_c {n e : Nat} {m : List Int} (h : GT n m n e) (p : Nat → Bool) {a : Nat} (ha : a < n) : FnC Tryd.prog 116 [.int .i64 a, .ptr [.int .i64 n, .list (il m)], .ptr [.list (il (thl n p))]] (.int .u64 (bo n (dco n (op m n) p (onp e) a))) := by
  refine fnc_of tab_ok Tryd.func116 rfl (by kernel_rfl) (by rw [Tryd.ntmps116]; exact Nat.le_add_left 3 _) ?_; rw [Tryd.ntmps116]
  refine qm ?_
  refine hk_region fun K hK => runs_eval tab_ok ?_
  simp only [ev0, evA, evB, evP, fl, gp, tab, simprocAttr, reduceCtorEq, reduceIte]
  refine fin_run trivial (hK _ ?_) <;> clear hK <;> clear K
  refine qa (qm ?_)
  refine hk_draw mixed (by kernel_rfl) fun K hK => runs_eval tab_ok ?_
  simp only [ev0, evA, evB, evP, fl, gp, tab, simprocAttr, reduceCtorEq, reduceIte]
  refine fin_stop trivial (runs_call (one_s h) rfl rfl rfl (by simp only [dstOk, Nat.reduceLT]) (by repeat (first | exact trivial | constructor)) (runs_eval tab_ok ?_))
  simp only [ev0, evA, evB, evP, fl, gp, tab, simprocAttr, reduceCtorEq, reduceIte]
  refine fin_stop trivial (runs_call (product_s h p (onp e) ha) rfl rfl rfl (by simp only [dstOk, Nat.reduceLT]) (by repeat (first | exact trivial | constructor)) (runs_eval tab_ok ?_))
  simp only [ev0, evA, evB, evP, fl, gp, tab, simprocAttr, reduceCtorEq, reduceIte]
  refine fin_run ?_ (hK _ ?_) <;> clear hK <;> clear K
  · (first | exact trivial | omega | (simp only [In64] at *; omega) | (simp [In64] at *; omega) | (simp_all; done) | skip)
  refine qa (qk ?_)
  simp only [Tryd.results116, enA, ev0, evA, evB, evP, fl, gp, tab, simprocAttr, reduceCtorEq, reduceIte]
  all_goals (rfl)
theorem right_ok {n e : Nat} {m : List Int} (h : GT n m n e) (p : Nat → Bool) (hs : Sub n (op m n) e p) : FnC Tryd.prog 56 [gp n m, .list (il (thl n p))] (.tup [.list (ll (cst n (dco n (op m n) p (onp e)))), fl (0, 0)]) := by
  have G := h.2.2
  have hb := h.2.1.big
  refine fnc_of tab_ok Tryd.func56 rfl (by kernel_rfl) (by rw [Tryd.ntmps56]; exact Nat.le_add_left 2 _) ?_; rw [Tryd.ntmps56]
  refine qm ?_
  refine hk_region fun K hK => runs_eval tab_ok ?_
  simp only [ev0, evA, evB, evP, fl, gp, tab, simprocAttr, reduceCtorEq, reduceIte]
  refine fin_run ?_ (hK _ ?_) <;> clear hK <;> clear K
  · (first | exact trivial | omega | (simp only [In64] at *; omega) | (simp [In64] at *; omega) | (simp_all; done) | skip)
  refine qa (qm (qm ?_))
  refine hk_region fun K hK => runs_eval tab_ok ?_
  simp only [ev0, evA, evB, evP, fl, gp, tab, simprocAttr, reduceCtorEq, reduceIte]
  refine fin_stop trivial (runs_call (group_ok h p true (by simp [hs])) rfl rfl rfl (by simp only [dstOk, Nat.reduceLT]) (by repeat (first | exact trivial | constructor)) (runs_eval tab_ok ?_))
  simp only [ev0, evA, evB, evP, fl, gp, tab, simprocAttr, reduceCtorEq, reduceIte, ufb]
  refine fin_run ?_ (hK _ ?_) <;> clear hK <;> clear K
  · (first | exact trivial | omega | (simp only [In64] at *; omega) | (simp [In64] at *; omega) | (simp_all; done) | skip)
  refine qa (qm ?_)
  refine hk_region fun K hK => runs_eval tab_ok ?_
  simp only [ev0, evA, evB, evP, fl, gp, tab, simprocAttr, reduceCtorEq, reduceIte]
  refine fin_run ?_ (hK _ ?_) <;> clear hK <;> clear K
  · (first | exact trivial | omega | (simp only [In64] at *; omega) | (simp [In64] at *; omega) | (simp_all; done) | skip)
  refine qa ?_
  refine hk_cond rfl (fun hC1 => ?_) (fun hC1 => ?_)
  · cases hC1
  · (try simp only [nhs] at hC1)
    refine qh (qa (qm ?_))
    refine hk_freeze 0 rfl rfl ?_
    refine hk_freeze 1 rfl rfl ?_
    simp only [hset]
    refine hk_region fun K hK => runs_eval tab_ok ?_
    simp only [ev0, evA, evB, evP, fl, gp, tab, simprocAttr, reduceCtorEq, reduceIte]
    refine fin_stop trivial (runs_call (gather_c n hb _ _ (dco n (op m n) p (onp e)) (G.dco_eqv hs G.onp_sub) (fun a ha => right1_c h p ha)) rfl rfl rfl (by simp only [dstOk, Nat.reduceLT]) (by repeat (first | exact trivial | constructor)) (runs_eval tab_ok ?_))
    simp only [ev0, evA, evB, evP, fl, gp, tab, simprocAttr, reduceCtorEq, reduceIte]
    refine fin_run ?_ (hK _ ?_) <;> clear hK <;> clear K
    · (first | exact trivial | omega | (simp only [In64] at *; omega) | (simp [In64] at *; omega) | (simp_all; done) | skip)
    refine qa (qk ?_)
    simp only [Tryd.results56, enA, ev0, evA, evB, evP, fl, gp, tab, simprocAttr, reduceCtorEq, reduceIte]
    all_goals ((first | exact rfl | exact ⟨rfl, rfl⟩ | exact ⟨rfl, rfl, rfl⟩ | exact ⟨trivial, rfl⟩ | exact ⟨Nat.le_refl _, rfl⟩ | trivial | (simp; done)))
/-! ### As the document has them -/

/-! ### An example of the document -/

def cy4 : List Int := [0, 1, 2, 3, 1, 2, 3, 0, 2, 3, 0, 1, 3, 0, 1, 2]
def ev4 (x : Nat) : Bool := x == 0 || x == 2
end Go.Proofs.YtjbfkdaodfdpcaaDoor

/-
  The quotient of a group by a congruence; by a normal subgroup. Conditions: none.
-/
set_option linter.all false
namespace Go.Proofs.YtjbfkdaodfdpcaaDoor
open Go.Pv

/-- Places for classes: of each thing its place; of each place a thing. -/
structure Qm (n : Nat) (f : Nat → Nat → Nat) (k : Nat) (cl rep : Nat → Nat) : Prop where
  lt : ∀ a, a < n → cl a < k
  rlt : ∀ i, i < k → rep i < n
  at_ : ∀ i, i < k → cl (rep i) = i
  cong : ∀ a b c d, a < n → b < n → c < n → d < n → cl a = cl b → cl c = cl d → cl (f a c) = cl (f b d)

section
variable {n : Nat} {f : Nat → Nat → Nat} {e : Nat} {p : Nat → Bool}
def qop (f : Nat → Nat → Nat) (cl rep : Nat → Nat) (i j : Nat) : Nat := cl (f (rep i) (rep j))
theorem Qm.op {k : Nat} {cl rep : Nat → Nat} (Q : Qm n f k cl rep) {a b : Nat} (ha : a < n) (hb : b < n) : qop f cl rep (cl a) (cl b) = cl (f a b) :=
  Q.cong _ _ _ _ (Q.rlt _ (Q.lt a ha)) ha (Q.rlt _ (Q.lt b hb)) hb (Q.at_ _ (Q.lt a ha)) (Q.at_ _ (Q.lt b hb))
theorem Qm.grp {k : Nat} {cl rep : Nat → Nat} (Q : Qm n f k cl rep) (G : Grp n f e) : Grp k (qop f cl rep) (cl e) where
  pos := Nat.lt_of_le_of_lt (Nat.zero_le _) (Q.lt e G.el)
  cl i j hi hj := Q.lt _ (G.cl _ _ (Q.rlt i hi) (Q.rlt j hj))
  el := Q.lt e G.el
  one_l i hi := by
    have h1 := Q.rlt i hi
    have h2 := Q.op G.el h1
    rw [Q.at_ i hi, G.one_l _ h1, Q.at_ i hi] at h2; exact h2
  one_r i hi := by
    have h1 := Q.rlt i hi
    have h2 := Q.op h1 G.el
    rw [Q.at_ i hi, G.one_r _ h1, Q.at_ i hi] at h2; exact h2
  assoc i j l hi hj hl := by
    have h1 := Q.rlt i hi
    have h2 := Q.rlt j hj
    have h3 := Q.rlt l hl
    have e1 := Q.op (G.cl _ _ h1 h2) h3
    have e2 := Q.op h1 (G.cl _ _ h2 h3)
    rw [Q.at_ l hl] at e1
    rw [Q.at_ i hi] at e2
    have e3 : qop f cl rep i j = cl (f (rep i) (rep j)) := rfl
    have e4 : qop f cl rep j l = cl (f (rep j) (rep l)) := rfl
    rw [e3, e4, e1, e2, G.assoc _ _ _ h1 h2 h3]
  inv i hi := by
    have h1 := Q.rlt i hi
    have h2 := G.iv_lt h1
    have e1 := Q.op h1 h2
    have e2 := Q.op h2 h1
    rw [Q.at_ i hi] at e1 e2
    exact ⟨_, Q.lt _ h2, by rw [e1, G.mul_iv h1], by rw [e2, G.iv_mul h1]⟩

/-- Of a normal subgroup: alike things have alike products. -/
theorem Grp.rco_cong (G : Grp n f e) (hp : Sub n f e p) (hn : Nml n f e p) {a b c d : Nat} (ha : a < n) (hb : b < n) (hc : c < n) (hd : d < n) (h1 : dco n f p (onp e) a b = true) (h2 : dco n f p (onp e) c d = true) : dco n f p (onp e) (f a c) (f b d) = true := by
  have ia := G.iv_lt ha
  have ic := G.iv_lt hc
  have h3 := G.cl _ _ hb ia
  have h4 := G.cl _ _ hd ic
  rw [G.rco_iff ha hb] at h1
  rw [G.rco_iff hc hd] at h2
  rw [G.rco_iff (G.cl _ _ ha hc) (G.cl _ _ hb hd), G.iv_prod ha hc]
  -- b d c' a' = (b a') (a (d c') a')
  have h5 := hn _ ia _ h4 h2
  unfold cjr at h5
  rw [G.iv_iv ha] at h5
  have h6 := hp.mul _ _ h3 (G.cl _ _ (G.cl _ _ ha h4) ia) h1 h5
  have e1 : f (f b (iv n f e a)) (f (f a (f d (iv n f e c))) (iv n f e a)) = f (f b d) (f (iv n f e c) (iv n f e a)) := by
    rw [G.assoc b _ _ hb ia (G.cl _ _ (G.cl _ _ ha h4) ia), G.assoc a _ _ ha h4 ia, ← G.assoc _ a _ ia ha (G.cl _ _ h4 ia), G.iv_mul ha, G.one_l _ (G.cl _ _ h4 ia), G.assoc d _ _ hd ic ia, ← G.assoc b d _ hb hd (G.cl _ _ ic ia)]
  rw [← e1]; exact h6
end
end Go.Proofs.YtjbfkdaodfdpcaaDoor

/-
  Tables by a rule. Conditions: none.
-/
set_option linter.all false
namespace Go.Proofs.YtjbfkdaodfdpcaaDoor
open Go.Pv

theorem Grp.cong' {n : Nat} {f f' : Nat → Nat → Nat} {e : Nat} (G : Grp n f e) (h : ∀ a b, a < n → b < n → f' a b = f a b) : Grp n f' e := by
  refine ⟨G.pos, fun a b ha hb => by rw [h a b ha hb]; exact G.cl a b ha hb, G.el, fun a ha => by rw [h e a G.el ha]; exact G.one_l a ha, fun a ha => by rw [h a e ha G.el]; exact G.one_r a ha, fun a b c ha hb hc => ?_, fun a ha => ?_⟩
  · rw [h a b ha hb, h _ c (G.cl a b ha hb) hc, h b c hb hc, h a _ ha (G.cl b c hb hc)]
    exact G.assoc a b c ha hb hc
  · obtain ⟨b, hb, h1, h2⟩ := G.inv a ha
    exact ⟨b, hb, by rw [h a b ha hb]; exact h1, by rw [h b a hb ha]; exact h2⟩
theorem tbl_op' (g : Nat → Nat → Nat) {n a b : Nat} (ha : a < n) (hb : b < n) : op (tbl (fun a b => (g a b : Nat)) n) n a b = g a b := by
  unfold op
  rw [tbl_get _ ha hb]; rfl
theorem tbl_Tab {n : Nat} {g : Nat → Nat → Nat} (h1 : 1 ≤ n) (hn : n ≤ 60) (hg : ∀ a b, a < n → b < n → g a b < n) : Tab n (tbl (fun a b => (g a b : Nat)) n) := by
  refine ⟨h1, hn, tbl_len _ _, fun i hi => ?_⟩
  have h1 : i / n < n := Nat.div_lt_of_lt_mul hi
  have h2 : i % n < n := Nat.mod_lt _ (by omega)
  have h3 : i / n * n + i % n = i := by rw [Nat.mul_comm]; exact Nat.div_add_mod i n
  have := tbl_get (fun a b => ((g a b : Nat) : Int)) h1 h2
  rw [h3] at this
  rw [this]
  have := hg _ _ h1 h2
  omega
theorem tbl_GT' {n e : Nat} {g : Nat → Nat → Nat} (hn : n ≤ 60) (G : Grp n g e) : GT n (tbl (fun a b => (g a b : Nat)) n) n e :=
  ⟨rfl, tbl_Tab G.pos hn G.cl, G.cong' fun a b ha hb => tbl_op' g ha hb⟩

end Go.Proofs.YtjbfkdaodfdpcaaDoor

/-
  Quotients, of the program and of the document. Conditions: none.
-/
set_option linter.all false
namespace Go.Proofs.YtjbfkdaodfdpcaaDoor
open Go.Pv

/-- The fault of a subgroup that is, or is not, normal. -/
def nfb (b : Bool) : Int × Int := bif b then (0, 0) else (4, 0)
theorem nfb_t : nfb true = (0, 0) := rfl
theorem qfault_c (c a : Int) : FnC Tryd.prog 141 [.int .i64 c, .int .i64 a] (fl (c, a)) := by
  refine fnc_of tab_ok Tryd.func141 rfl (by kernel_rfl) (by rw [Tryd.ntmps141]; exact Nat.le_add_left 2 _) ?_; rw [Tryd.ntmps141]
  refine qm ?_
  refine hk_region fun K hK => runs_eval tab_ok ?_
  simp only [ev0, evA, evB, evP, fl, gp, tab, simprocAttr, reduceCtorEq, reduceIte]
  refine fin_run ?_ (hK _ ?_) <;> clear hK <;> clear K
  · (first | exact trivial | omega | (simp only [In64] at *; omega) | (simp [In64] at *; omega) | (simp_all; done) | skip)
  refine qa (qm ?_)
  refine hk_region fun K hK => runs_eval tab_ok ?_
  simp only [ev0, evA, evB, evP, fl, gp, tab, simprocAttr, reduceCtorEq, reduceIte]
  refine fin_run ?_ (hK _ ?_) <;> clear hK <;> clear K
  · (first | exact trivial | omega | (simp only [In64] at *; omega) | (simp [In64] at *; omega) | (simp_all; done) | skip)
  refine qa (qk ?_)
  simp only [Tryd.results141, enA, ev0, evA, evB, evP, fl, gp, tab, simprocAttr, reduceCtorEq, reduceIte]
  all_goals ((first | exact rfl | exact ⟨rfl, rfl⟩ | exact ⟨rfl, rfl, rfl⟩ | exact ⟨trivial, rfl⟩ | exact ⟨Nat.le_refl _, rfl⟩ | trivial | (simp; done)))
theorem quotN_ok {n e : Nat} {m : List Int} (h : GT n m n e) (p : Nat → Bool) (hs : Sub n (op m n) e p) (b : Bool) (hb' : b = true ↔ Nml n (op m n) e p) : FnC Tryd.prog 91 [gp n m, .list (il (thl n p))] (fl (nfb b)) := by
  refine fnc_of tab_ok Tryd.func91 rfl (by kernel_rfl) (by rw [Tryd.ntmps91]; exact Nat.le_add_left 2 _) ?_; rw [Tryd.ntmps91]
  refine qm ?_
  refine hk_region fun K hK => runs_eval tab_ok ?_
  simp only [ev0, evA, evB, evP, fl, gp, tab, simprocAttr, reduceCtorEq, reduceIte]
  refine fin_run ?_ (hK _ ?_) <;> clear hK <;> clear K
  · (first | exact trivial | omega | (simp only [In64] at *; omega) | (simp [In64] at *; omega) | (simp_all; done) | skip)
  refine qa (qm ?_)
  refine hk_region fun K hK => runs_eval tab_ok ?_
  simp only [ev0, evA, evB, evP, fl, gp, tab, simprocAttr, reduceCtorEq, reduceIte]
  refine fin_stop trivial (runs_call (normal_ok h p hs b hb') rfl rfl rfl (by simp only [dstOk, Nat.reduceLT]) (by repeat (first | exact trivial | constructor)) (runs_eval tab_ok ?_))
  simp only [ev0, evA, evB, evP, fl, gp, tab, simprocAttr, reduceCtorEq, reduceIte]
  refine fin_run ?_ (hK _ ?_) <;> clear hK <;> clear K
  · (first | exact trivial | omega | (simp only [In64] at *; omega) | (simp [In64] at *; omega) | (simp_all; done) | skip)
  refine qa (qm (qm ?_))
  refine hk_region fun K hK => runs_eval tab_ok ?_
  simp only [ev0, evA, evB, evP, fl, gp, tab, simprocAttr, reduceCtorEq, reduceIte]
  refine fin_run ?_ (hK _ ?_) <;> clear hK <;> clear K
  · (first | exact trivial | omega | (simp only [In64] at *; omega) | (simp [In64] at *; omega) | (simp_all; done) | skip)
  refine qa ?_
  refine hk_cond rfl (fun hC1 => ?_) (fun hC1 => ?_)
  · (try simp only [nhs] at hC1)
    have hbf : b = false := by simpa using hC1
    refine qm ?_
    refine hk_region fun K hK => runs_eval tab_ok ?_
    simp only [ev0, evA, evB, evP, fl, gp, tab, simprocAttr, reduceCtorEq, reduceIte]
    refine fin_stop trivial (runs_call (qfault_c 4 0) rfl rfl rfl (by simp only [dstOk, Nat.reduceLT]) (by repeat (first | exact trivial | constructor)) (runs_eval tab_ok ?_))
    simp only [ev0, evA, evB, evP, fl, gp, tab, simprocAttr, reduceCtorEq, reduceIte]
    refine fin_run ?_ (hK _ ?_) <;> clear hK <;> clear K
    · (first | exact trivial | omega | (simp only [In64] at *; omega) | (simp [In64] at *; omega) | (simp_all; done) | skip)
    refine qa (qk (qb ?_))
    simp only [Tryd.results91, enA, ev0, evA, evB, evP, fl, gp, tab, simprocAttr, reduceCtorEq, reduceIte]
    all_goals (rw [hbf]; exact ⟨rfl, rfl⟩)
  · (try simp only [nhs] at hC1)
    have hbt : b = true := by simpa using hC1
    refine qh (qa (qm ?_))
    refine hk_region fun K hK => runs_eval tab_ok ?_
    simp only [ev0, evA, evB, evP, fl, gp, tab, simprocAttr, reduceCtorEq, reduceIte]
    refine fin_run ?_ (hK _ ?_) <;> clear hK <;> clear K
    · (first | exact trivial | omega | (simp only [In64] at *; omega) | (simp [In64] at *; omega) | (simp_all; done) | skip)
    refine qa (qk ?_)
    simp only [Tryd.results91, enA, ev0, evA, evB, evP, fl, gp, tab, simprocAttr, reduceCtorEq, reduceIte]
    all_goals (rw [hbt]; exact ⟨rfl, rfl⟩)
/-! ### Places of classes -/

def rpq (n : Nat) (r : Nat → Nat → Bool) (i : Nat) : Nat := (mem n (lead r)).getD i 0
def clq (n : Nat) (r : Nat → Nat → Bool) (a : Nat) : Nat := (wch (cst n r) a).toNat
section
variable {n : Nat} {r : Nat → Nat → Bool}
theorem clq_at (E : Eqv n r) {a : Nat} (ha : a < n) : clq n r a < (cst n r).length ∧ wch (cst n r) a = (clq n r a : Int) ∧ ((a : Nat) : Int) ∈ (cst n r).getD (clq n r a) [] := by
  obtain ⟨i, i1, i2⟩ := cst_in E ha
  have h1 := wch_at E i1 ha i2
  have h2 : clq n r a = i := by unfold clq; rw [h1]; rfl
  rw [h2]
  exact ⟨i1, h1, i2⟩
theorem clq_iff (E : Eqv n r) {a b : Nat} (ha : a < n) (hb : b < n) : clq n r a = clq n r b ↔ r a b = true := by
  obtain ⟨a1, a2, a3⟩ := clq_at E ha
  obtain ⟨b1, b2, b3⟩ := clq_at E hb
  obtain ⟨x, x1, x2, x3, x4⟩ := cst_get a1
  rw [x3, mem_thl_n ha] at a3
  constructor
  · intro he
    rw [← he, x3, mem_thl_n hb] at b3
    exact E.trans a x b ha x1 hb (E.symm x a x1 ha a3) b3
  · intro hr
    have : ((b : Nat) : Int) ∈ (cst n r).getD (clq n r a) [] := by rw [x3, mem_thl_n hb]; exact E.trans x a b x1 ha hb a3 hr
    exact cst_apart E a1 b1 hb this b3
theorem rpq_at (E : Eqv n r) {i : Nat} (hi : i < (cst n r).length) : rpq n r i < n ∧ clq n r (rpq n r i) = i ∧ (cst n r).getD i [] = thl n (r (rpq n r i)) ∧ lead r (rpq n r i) = true := by
  obtain ⟨x, x1, x2, x3, x4⟩ := cst_get hi
  have h1 : rpq n r i = x := x4
  rw [h1]
  have h2 : ((x : Nat) : Int) ∈ (cst n r).getD i [] := by rw [x3, mem_thl_n x1]; exact E.refl x x1
  have h3 := wch_at E hi x1 h2
  exact ⟨x1, by unfold clq; rw [h3]; rfl, x3, x2⟩
theorem whl_get (E : Eqv n r) {a : Nat} (ha : a < n) : (whl n r).getD a 0 = (clq n r a : Int) := by
  unfold whl; rw [rgz_get ha]; exact (clq_at E ha).2.1
theorem whl_len (n : Nat) (r : Nat → Nat → Bool) : (whl n r).length = n := rgz_len _ _
theorem cst_qm {f : Nat → Nat → Nat} {e : Nat} (G : Grp n f e) (E : Eqv n r) (hc : ∀ a b c d, a < n → b < n → c < n → d < n → r a b = true → r c d = true → r (f a c) (f b d) = true) : Qm n f (cst n r).length (clq n r) (rpq n r) where
  lt a ha := (clq_at E ha).1
  rlt i hi := (rpq_at E hi).1
  at_ i hi := (rpq_at E hi).2.1
  cong a b c d ha hb hc' hd h1 h2 := (clq_iff E (G.cl _ _ ha hc') (G.cl _ _ hb hd)).2 (hc a b c d ha hb hc' hd ((clq_iff E ha hb).1 h1) ((clq_iff E hc' hd).1 h2))
end
/-- The quotient's table. -/
def qtb (n : Nat) (f : Nat → Nat → Nat) (r : Nat → Nat → Bool) : List Int := tbl (fun i j => ((qop f (clq n r) (rpq n r) i j : Nat) : Int)) (cst n r).length

theorem quotient_w (N : Int) (m l : List Int) (w : Int × Int) (hG : FnC Tryd.prog 91 [gp N m, .list (il l)] (fl w)) (hw : ¬ w.1 = 0) : FnC Tryd.prog 28 [gp N m, .list (il l)] (.tup [gp 0 [], .list [], fl w]) := by
  refine fnc_of tab_ok Tryd.func28 rfl (by kernel_rfl) (by rw [Tryd.ntmps28]; exact Nat.le_add_left 2 _) ?_; rw [Tryd.ntmps28]
  refine qm ?_
  refine hk_region fun K hK => runs_eval tab_ok ?_
  simp only [ev0, evA, evB, evP, fl, gp, tab, simprocAttr, reduceCtorEq, reduceIte]
  refine fin_run ?_ (hK _ ?_) <;> clear hK <;> clear K
  · (first | exact trivial | omega | (simp only [In64] at *; omega) | (simp [In64] at *; omega) | (simp_all; done) | skip)
  refine qa (qm (qm ?_))
  refine hk_region fun K hK => runs_eval tab_ok ?_
  simp only [ev0, evA, evB, evP, fl, gp, tab, simprocAttr, reduceCtorEq, reduceIte]
  refine fin_stop trivial (runs_call (hG) rfl rfl rfl (by simp only [dstOk, Nat.reduceLT]) (by repeat (first | exact trivial | constructor)) (runs_eval tab_ok ?_))
  simp only [ev0, evA, evB, evP, fl, gp, tab, simprocAttr, reduceCtorEq, reduceIte]
  refine fin_run ?_ (hK _ ?_) <;> clear hK <;> clear K
  · (first | exact trivial | omega | (simp only [In64] at *; omega) | (simp [In64] at *; omega) | (simp_all; done) | skip)
  refine qa (qm ?_)
  refine hk_region fun K hK => runs_eval tab_ok ?_
  simp only [ev0, evA, evB, evP, fl, gp, tab, simprocAttr, reduceCtorEq, reduceIte]
  refine fin_run ?_ (hK _ ?_) <;> clear hK <;> clear K
  · (first | exact trivial | omega | (simp only [In64] at *; omega) | (simp [In64] at *; omega) | (simp_all; done) | skip)
  refine qa ?_
  refine hk_cond rfl (fun hC1 => ?_) (fun hC1 => ?_)
  · (try simp only [nhs] at hC1)
    refine qm ?_
    refine hk_draw2 mixed fun K hK => runs2_eval tab_ok ?_
    simp only [evD, ev0, evA, evB, evP, fl, gp, tab, simprocAttr, reduceCtorEq, reduceIte]
    refine fin2_run ?_ (hK _ _ (by first | kernel_rfl | rfl) ?_) <;> clear hK <;> clear K
    · (first | exact trivial | omega | (simp only [In64] at *; omega) | (simp [In64] at *; omega) | (simp_all; done) | skip)
    refine qa (qk (qb ?_))
    simp only [Tryd.results28, enA, ev0, evA, evB, evP, fl, gp, tab, simprocAttr, reduceCtorEq, reduceIte]
    all_goals (simp [il])
  · (try simp only [nhs] at hC1)
    exact absurd hC1 hw

set_option maxHeartbeats 4000000 in
theorem quotient_ok {n e : Nat} {m : List Int} (h : GT n m n e) (p : Nat → Bool) (hs : Sub n (op m n) e p) (hN : Nml n (op m n) e p) :
    FnC Tryd.prog 28 [gp n m, .list (il (thl n p))] (.tup [gp (cst n (dco n (op m n) p (onp e))).length (qtb n (op m n) (dco n (op m n) p (onp e))), .list (il (whl n (dco n (op m n) p (onp e)))), fl (0, 0)]) := by
  have G := h.2.2
  have hb := h.2.1.big
  have E := G.dco_eqv hs G.onp_sub
  have hR := right_ok h p hs
  have Q := cst_qm G E fun a b c d ha hb' hc hd h1 h2 => G.rco_cong hs hN ha hb' hc hd h1 h2
  generalize dco n (op m n) p (onp e) = r at *
  have hcl : (cst n r).length ≤ n := cstp_len _ _ _
  have hsq := sq_le (show (cst n r).length ≤ 60 by omega)
  have hlen := tbr_len (fun i j => ((qop (op m n) (clq n r) (rpq n r) i j : Nat) : Int)) (cst n r).length
  refine fnc_of tab_ok Tryd.func28 rfl (by kernel_rfl) (by rw [Tryd.ntmps28]; exact Nat.le_add_left 2 _) ?_; rw [Tryd.ntmps28]
  refine qm ?_
  refine hk_region fun K hK => runs_eval tab_ok ?_
  simp only [ev0, evA, evB, evP, fl, gp, tab, simprocAttr, reduceCtorEq, reduceIte]
  refine fin_run ?_ (hK _ ?_) <;> clear hK <;> clear K
  · (first | exact trivial | omega | (simp only [In64] at *; omega) | (simp [In64] at *; omega) | (simp_all; done) | skip)
  refine qa (qm (qm ?_))
  refine hk_region fun K hK => runs_eval tab_ok ?_
  simp only [ev0, evA, evB, evP, fl, gp, tab, simprocAttr, reduceCtorEq, reduceIte, nfb_t]
  refine fin_stop trivial (runs_call (quotN_ok h p hs true (by simp [hN])) rfl rfl rfl (by simp only [dstOk, Nat.reduceLT]) (by repeat (first | exact trivial | constructor)) (runs_eval tab_ok ?_))
  simp only [ev0, evA, evB, evP, fl, gp, tab, simprocAttr, reduceCtorEq, reduceIte, nfb_t]
  refine fin_run ?_ (hK _ ?_) <;> clear hK <;> clear K
  · (first | exact trivial | omega | (simp only [In64] at *; omega) | (simp [In64] at *; omega) | (simp_all; done) | skip)
  refine qa (qm ?_)
  refine hk_region fun K hK => runs_eval tab_ok ?_
  simp only [ev0, evA, evB, evP, fl, gp, tab, simprocAttr, reduceCtorEq, reduceIte]
  refine fin_run ?_ (hK _ ?_) <;> clear hK <;> clear K
  · (first | exact trivial | omega | (simp only [In64] at *; omega) | (simp [In64] at *; omega) | (simp_all; done) | skip)
  refine qa ?_
  refine hk_cond rfl (fun hC1 => ?_) (fun hC1 => ?_)
  · cases hC1
  · (try simp only [nhs] at hC1)
    refine qh (qa (qm ?_))
    refine hk_region fun K hK => runs_eval tab_ok ?_
    simp only [ev0, evA, evB, evP, fl, gp, tab, simprocAttr, reduceCtorEq, reduceIte]
    refine fin_stop trivial (runs_call (hR) rfl rfl rfl (by simp only [dstOk, Nat.reduceLT]) (by repeat (first | exact trivial | constructor)) (runs_eval tab_ok ?_))
    simp only [ev0, evA, evB, evP, fl, gp, tab, simprocAttr, reduceCtorEq, reduceIte]
    refine fin_run ?_ (hK _ ?_) <;> clear hK <;> clear K
    · (first | exact trivial | omega | (simp only [In64] at *; omega) | (simp [In64] at *; omega) | (simp_all; done) | skip)
    refine qa (qm (qm ?_))
    refine hk_region fun K hK => runs_eval tab_ok ?_
    simp only [ev0, evA, evB, evP, fl, gp, tab, simprocAttr, reduceCtorEq, reduceIte]
    refine fin_run ?_ (hK _ ?_) <;> clear hK <;> clear K
    · (first | exact trivial | omega | (simp only [In64] at *; omega) | (simp [In64] at *; omega) | (simp_all; done) | skip)
    refine qa ?_
    refine hk_cond rfl (fun hC2 => ?_) (fun hC2 => ?_)
    · cases hC2
    · (try simp only [nhs] at hC2)
      refine qh (qa (qm ?_))
      refine hk_region fun K hK => runs_eval tab_ok ?_
      simp only [ev0, evA, evB, evP, fl, gp, tab, simprocAttr, reduceCtorEq, reduceIte, makeSliceA.eq_def, rgz_new]
      refine fin_run ?_ (hK _ ?_) <;> clear hK <;> clear K
      · omega
      refine qa (qm (qm ?_))
      refine hk_region fun K hK => runs_eval tab_ok ?_
      simp only [ev0, evA, evB, evP, fl, gp, tab, simprocAttr, reduceCtorEq, reduceIte]
      refine fin_run trivial (hK _ ?_) <;> clear hK <;> clear K
      refine qa (ql ?_)
      refine hk_loop (ι := Nat × (Nat → Int)) (fun p => ⟨97, [(2, .ptr 0 0), (4, .ptr 1 0), (6, .ptr 2 0), (8, .p (.list (ll (cst n r)))), (9, .ptr 3 0), (10, .sl 4 0 n), (42, .p (.list (ll (cst n r)))), (43, .p (.int .i64 (cst n r).length)), (44, .p (.int .i64 p.1))], [.own [.p (.int .i64 n), .p (.list (il m))], .own [.p (.int .i64 0), .p .nil], .own [.p (.int .i64 0), .p (.int .i64 0)], .own [.p (.int .i64 0), .p (.int .i64 0)], .own (ol (rgz n p.2))]⟩) (fun p => p.1 ≤ (cst n r).length ∧ ∀ a, a < n → ∀ k, k < p.1 → ((a : Nat) : Int) ∈ (cst n r).getD k [] → p.2 a = (k : Int)) (fun p => (cst n r).length - p.1) (0, fun _ => 0) ⟨Nat.zero_le _, fun a _ k hk => by simp only at hk; omega⟩ [0, 1, 2, 4, 5] (by simp only [leq, leA, ev0, evA, evB, evP, fl, gp, tab, simprocAttr, reduceCtorEq, reduceIte, ll_length] <;> first | trivial | (simp; done)) fun p hp => ?_
      obtain ⟨i, g⟩ := p
      obtain ⟨hi1, hi2⟩ := hp
      simp only at hi1 hi2
      refine qm ?_
      refine hk_region fun K hK => runs_eval tab_ok ?_
      simp only [ev0, evA, evB, evP, fl, gp, tab, simprocAttr, reduceCtorEq, reduceIte]
      refine fin_run trivial (hK _ ?_) <;> clear hK <;> clear K
      refine qa (qm ?_)
      refine hk_cond rfl (fun hC3 => ?_) (fun hC3 => ?_)
      · (try simp only [nhs] at hC3)
        have hlt : i < (cst n r).length := by omega
        obtain ⟨x, x1, x2, x3, x4⟩ := cst_get hlt
        have l1 := thl_le n (r x)
        refine qh (qa (qm (ql (qm ?_))))
        refine hk_region fun K hK => runs_eval tab_ok ?_
        simp only [ev0, evA, evB, evP, fl, gp, tab, simprocAttr, reduceCtorEq, reduceIte, ll_length, ll_get hlt, x3]
        refine fin_run ?_ (hK _ ?_) <;> clear hK <;> clear K
        · (first | exact trivial | omega | (simp only [In64] at *; omega) | (simp [In64] at *; omega) | (simp_all; done) | skip)
        refine qa (qm ?_)
        refine hk_region fun K hK => runs_eval tab_ok ?_
        simp only [ev0, evA, evB, evP, fl, gp, tab, simprocAttr, reduceCtorEq, reduceIte, il_length]
        refine fin_run trivial (hK _ ?_) <;> clear hK <;> clear K
        refine qa (ql ?_)
        refine hk_loop (ι := Nat × (Nat → Int)) (fun p => ⟨97, [(2, .ptr 0 0), (4, .ptr 1 0), (6, .ptr 2 0), (8, .p (.list (ll (cst n r)))), (9, .ptr 3 0), (10, .sl 4 0 n), (11, .p (.int .i64 i)), (42, .p (.list (ll (cst n r)))), (43, .p (.int .i64 (cst n r).length)), (44, .p (.int .i64 i)), (49, .p (.list (il (thl n (r x))))), (50, .p (.int .i64 (thl n (r x)).length)), (51, .p (.int .i64 p.1))], [.own [.p (.int .i64 n), .p (.list (il m))], .own [.p (.int .i64 0), .p .nil], .own [.p (.int .i64 0), .p (.int .i64 0)], .own [.p (.int .i64 0), .p (.int .i64 0)], .own (ol (rgz n p.2))]⟩) (fun p => p.1 ≤ (thl n (r x)).length ∧ (∀ a, a < n → ∀ k, k < i → ((a : Nat) : Int) ∈ (cst n r).getD k [] → p.2 a = (k : Int)) ∧ ∀ a, a < n → ∀ k, k < p.1 → (thl n (r x)).getD k 0 = (a : Int) → p.2 a = (i : Int)) (fun p => (thl n (r x)).length - p.1) (0, g) ⟨Nat.zero_le _, hi2, fun a _ k hk => by simp only at hk; omega⟩ [0, 1, 2, 3, 4] (by simp only [leq, leA, ev0, evA, evB, evP, fl, gp, tab, simprocAttr, reduceCtorEq, reduceIte] <;> first | trivial | (simp; done)) fun p hp => ?_
        obtain ⟨j, g'⟩ := p
        obtain ⟨hj1, hj2, hj3⟩ := hp
        simp only at hj1 hj2 hj3
        refine qm ?_
        refine hk_region fun K hK => runs_eval tab_ok ?_
        simp only [ev0, evA, evB, evP, fl, gp, tab, simprocAttr, reduceCtorEq, reduceIte]
        refine fin_run trivial (hK _ ?_) <;> clear hK <;> clear K
        refine qa (qm ?_)
        refine hk_cond rfl (fun hC4 => ?_) (fun hC4 => ?_)
        · (try simp only [nhs] at hC4)
          have hjl : j < (thl n (r x)).length := by omega
          obtain ⟨c, c1, c2, c3⟩ := thl_get hjl
          refine qh (qa (qm (ql (qm ?_))))
          refine hk_region fun K hK => runs_eval tab_ok ?_
          simp only [ev0, evA, evB, evP, fl, gp, tab, simprocAttr, reduceCtorEq, reduceIte, il_get hjl, c3]
          refine fin_run ?_ (hK _ ?_) <;> clear hK <;> clear K
          · (first | exact trivial | omega | (simp only [In64] at *; omega) | (simp [In64] at *; omega) | (simp_all; done) | skip)
          refine qa ?_
          refine hk_region fun K hK => runs_eval tab_ok ?_
          simp only [ev0, evA, evB, evP, fl, gp, tab, simprocAttr, reduceCtorEq, reduceIte]
          refine fin_run ?_ (hK _ ?_) <;> clear hK <;> clear K
          · rw [rgz_len]; omega
          refine qd (qa ?_)
          rw [ol_set, rgz_set]
          refine hk_region fun K hK => runs_eval tab_ok ?_
          simp only [ev0, evA, evB, evP, fl, gp, tab, simprocAttr, reduceCtorEq, reduceIte]
          refine fin_run ?_ (hK _ ?_) <;> clear hK <;> clear K
          · (first | exact trivial | omega | (simp only [In64] at *; omega) | (simp [In64] at *; omega) | (simp_all; done) | skip)
          refine qa ?_
          refine ⟨(j + 1, fun a => if a = c then (i : Int) else g' a), [0, 1, 2, 3, 4], ⟨by simp only; omega, fun a ha k hk hm => ?_, fun a ha k hk hm => ?_⟩, by simp only; omega, ?_⟩
          · have hne : a ≠ c := by
              intro he
              subst he
              have h3 : ((a : Nat) : Int) ∈ (cst n r).getD i [] := by rw [x3, mem_thl_n ha]; exact c2
              have := cst_apart E hlt (by omega) ha h3 hm
              omega
            simp only [if_neg hne]
            exact hj2 a ha k hk hm
          · simp only at hk ⊢
            by_cases hac : a = c
            · rw [if_pos hac]
            · rw [if_neg hac]
              have hkj : k ≠ j := by intro he; rw [he, c3] at hm; omega
              exact hj3 a ha k (by omega) hm
          · simp only [leq, leA, ev0, evA, evB, evP, fl, gp, tab, simprocAttr, reduceCtorEq, reduceIte] <;> first | trivial | omega | (simp [rgz]; done)
        · (try simp only [nhs] at hC4)
          have hjn : j = (thl n (r x)).length := by omega
          refine qj (qc (qc (qf (qd (qa ?_)))))
          refine hk_region fun K hK => runs_eval tab_ok ?_
          simp only [ev0, evA, evB, evP, fl, gp, tab, simprocAttr, reduceCtorEq, reduceIte]
          refine fin_run ?_ (hK _ ?_) <;> clear hK <;> clear K
          · (first | exact trivial | omega | (simp only [In64] at *; omega) | (simp [In64] at *; omega) | (simp_all; done) | skip)
          refine qa ?_
          refine ⟨(i + 1, g'), [0, 1, 2, 3, 4], ⟨by simp only; omega, fun a ha k hk hm => ?_⟩, by simp only; omega, ?_⟩
          · by_cases hki : k = i
            · subst hki
              rw [x3] at hm
              obtain ⟨q, q1, q2⟩ := thl_at (n := n) (p := r x) ha ((mem_thl_n ha).1 hm)
              exact hj3 a ha q (by omega) q2
            · exact hj2 a ha k (by simp only at hk; omega) hm
          · simp only [leq, leA, ev0, evA, evB, evP, fl, gp, tab, simprocAttr, reduceCtorEq, reduceIte] <;> first | trivial | omega | (simp [rgz]; done)
      · (try simp only [nhs] at hC3)
        have hin : i = (cst n r).length := by omega
        have hfin : rgz n g = whl n r := rgz_congr fun a ha => by
          obtain ⟨k, k1, k2⟩ := cst_in E ha
          rw [hi2 a ha k (by omega) k2, wch_at E k1 ha k2]
        rw [hfin]
        have hwl := whl_len n r
        refine hk_seal 10 4 (by show AV.sl 4 0 n = AV.sl 4 0 _; rw [hwl]) rfl ?_
        refine qj (qc (qc (qf (qa (qm ?_)))))
        refine hk_region fun K hK => runs_eval tab_ok ?_
        simp only [ev0, evA, evB, evP, fl, gp, tab, simprocAttr, reduceCtorEq, reduceIte, ll_length]
        refine fin_run ?_ (hK _ ?_) <;> clear hK <;> clear K
        · (first | exact trivial | omega | (simp only [In64] at *; omega) | (simp [In64] at *; omega) | (simp_all; done) | skip)
        refine qa (qm (qm ?_))
        refine hk_own0c 5 1 rfl rfl ?_
        simp only [hset, List.cons_append, List.nil_append, List.set, List.length_cons, List.length_nil]
        refine hk_region fun K hK => runs_eval tab_ok ?_
        simp only [ev0, evA, evB, evP, fl, gp, tab, simprocAttr, reduceCtorEq, reduceIte, ll_length]
        refine fin_run trivial (hK _ ?_) <;> clear hK <;> clear K
        refine qa (ql ?_)
        refine hk_loop (ι := Nat) (fun i => ⟨97, [(2, .ptr 0 0), (4, .ptr 1 0), (6, .ptr 2 0), (8, .p (.list (ll (cst n r)))), (9, .ptr 3 0), (10, .p (.list (il (whl n r)))), (15, .ptr 4 0), (64, .p (.list (ll (cst n r)))), (65, .p (.int .i64 (cst n r).length)), (66, .p (.int .i64 i))], [.own [.p (.int .i64 n), .p (.list (il m))], .own [.p (.int .i64 0), .p .nil], .own [.p (.int .i64 0), .p (.int .i64 0)], .own [.p (.int .i64 0), .p (.int .i64 0)], .own [.p (.int .i64 (cst n r).length), .sl 5 0 (tbr (fun i j => ((qop (op m n) (clq n r) (rpq n r) i j : Nat) : Int)) (cst n r).length (i * (cst n r).length)).length], .own (ol (tbr (fun i j => ((qop (op m n) (clq n r) (rpq n r) i j : Nat) : Int)) (cst n r).length (i * (cst n r).length)))]⟩) (fun i => i ≤ (cst n r).length) (fun i => (cst n r).length - i) 0 (Nat.zero_le _) [0, 1, 2, 3, 5, 6] (by rw [Nat.zero_mul]; simp only [leq, leA, ev0, evA, evB, evP, fl, gp, tab, simprocAttr, reduceCtorEq, reduceIte] <;> first | trivial | simp [tbr, rg, ol_nil]) fun i hi => ?_
        refine qm ?_
        refine hk_region fun K hK => runs_eval tab_ok ?_
        simp only [ev0, evA, evB, evP, fl, gp, tab, simprocAttr, reduceCtorEq, reduceIte]
        refine fin_run trivial (hK _ ?_) <;> clear hK <;> clear K
        refine qa (qm ?_)
        refine hk_cond rfl (fun hC5 => ?_) (fun hC5 => ?_)
        · (try simp only [nhs] at hC5)
          have hlt : i < (cst n r).length := by omega
          obtain ⟨x1, x2, x3, x4⟩ := rpq_at E hlt
          obtain ⟨hd1, hd2⟩ := (lead_head x1).1 x4
          refine qh (qa (qm (ql (qm ?_))))
          refine hk_region fun K hK => runs_eval tab_ok ?_
          simp only [ev0, evA, evB, evP, fl, gp, tab, simprocAttr, reduceCtorEq, reduceIte, ll_length, ll_get hlt, x3]
          refine fin_run ?_ (hK _ ?_) <;> clear hK <;> clear K
          · (first | exact trivial | omega | (simp only [In64] at *; omega) | (simp [In64] at *; omega) | (simp_all; done) | skip)
          refine qa (qm ?_)
          refine hk_region fun K hK => runs_eval tab_ok ?_
          simp only [ev0, evA, evB, evP, fl, gp, tab, simprocAttr, reduceCtorEq, reduceIte, ll_length]
          refine fin_run trivial (hK _ ?_) <;> clear hK <;> clear K
          refine qa (ql ?_)
          refine hk_loop (ι := Nat) (fun j => ⟨97, [(2, .ptr 0 0), (4, .ptr 1 0), (6, .ptr 2 0), (8, .p (.list (ll (cst n r)))), (9, .ptr 3 0), (10, .p (.list (il (whl n r)))), (15, .ptr 4 0), (17, .p (.list (il (thl n (r (rpq n r i)))))), (64, .p (.list (ll (cst n r)))), (65, .p (.int .i64 (cst n r).length)), (66, .p (.int .i64 i)), (70, .p (.list (ll (cst n r)))), (71, .p (.int .i64 (cst n r).length)), (72, .p (.int .i64 j))], [.own [.p (.int .i64 n), .p (.list (il m))], .own [.p (.int .i64 0), .p .nil], .own [.p (.int .i64 0), .p (.int .i64 0)], .own [.p (.int .i64 0), .p (.int .i64 0)], .own [.p (.int .i64 (cst n r).length), .sl 5 0 (tbr (fun i j => ((qop (op m n) (clq n r) (rpq n r) i j : Nat) : Int)) (cst n r).length (i * (cst n r).length + j)).length], .own (ol (tbr (fun i j => ((qop (op m n) (clq n r) (rpq n r) i j : Nat) : Int)) (cst n r).length (i * (cst n r).length + j)))]⟩) (fun j => j ≤ (cst n r).length) (fun j => (cst n r).length - j) 0 (Nat.zero_le _) [0, 1, 2, 3, 4, 5] (by rw [Nat.add_zero]; simp only [leq, leA, ev0, evA, evB, evP, fl, gp, tab, simprocAttr, reduceCtorEq, reduceIte] <;> trivial) fun j hj => ?_
          refine qm ?_
          refine hk_region fun K hK => runs_eval tab_ok ?_
          simp only [ev0, evA, evB, evP, fl, gp, tab, simprocAttr, reduceCtorEq, reduceIte]
          refine fin_run trivial (hK _ ?_) <;> clear hK <;> clear K
          refine qa (qm ?_)
          refine hk_cond rfl (fun hC6 => ?_) (fun hC6 => ?_)
          · (try simp only [nhs] at hC6)
            have hjl : j < (cst n r).length := by omega
            obtain ⟨y1, y2, y3, y4⟩ := rpq_at E hjl
            obtain ⟨he1, he2⟩ := (lead_head y1).1 y4
            have hxy := G.cl _ _ x1 y1
            have hat := at_lt hlt hjl
            have hl := hlen (i * (cst n r).length + j)
            have hwl := whl_len n r
            have hwg := whl_get E hxy
            have hwi : op m n (rpq n r i) (rpq n r j) < (whl n r).length := by omega
            refine qh (qa (qm (ql (qm ?_))))
            refine hk_region fun K hK => runs_eval tab_ok ?_
            simp only [ev0, evA, evB, evP, fl, gp, tab, simprocAttr, reduceCtorEq, reduceIte, ll_length, ll_get hjl, y3]
            refine fin_run ?_ (hK _ ?_) <;> clear hK <;> clear K
            · (first | exact trivial | omega | (simp only [In64] at *; omega) | (simp [In64] at *; omega) | (simp_all; done) | skip)
            refine qa ?_
            refine hk_draw2 mixed fun K hK => runs2_eval tab_ok ?_
            simp only [evD, ev0, evA, evB, evP, fl, gp, tab, simprocAttr, reduceCtorEq, reduceIte, il_length, il_get hd1, hd2, il_get he1, he2, il_get hwi, hwg]
            refine fin2_stop ?_ (runs2_call (of_c h.2.1 x1 y1) rfl rfl rfl rfl (by simp only [dstOk, Nat.reduceLT]) (by repeat (first | exact trivial | constructor)) (runs2_eval tab_ok ?_))
            · (first | exact trivial | omega | (simp only [In64] at *; omega) | (simp [In64] at *; omega) | (simp_all; done) | skip)
            simp only [evD, ev0, evA, evB, evP, fl, gp, tab, simprocAttr, reduceCtorEq, reduceIte, il_length, il_get hd1, hd2, il_get he1, he2, il_get hwi, hwg]
            refine fin2_run ?_ (hK _ _ (by first | kernel_rfl | rfl) ?_) <;> clear hK <;> clear K
            · (first | exact trivial | omega | (simp only [In64] at *; omega) | (simp [In64] at *; omega) | (simp_all; done) | skip)
            refine qd (qa ?_)
            refine hk_region fun K hK => runs_eval tab_ok ?_
            simp only [ev0, evA, evB, evP, fl, gp, tab, simprocAttr, reduceCtorEq, reduceIte]
            refine fin_run ?_ (hK _ ?_) <;> clear hK <;> clear K
            · (first | exact trivial | omega | (simp only [In64] at *; omega) | (simp [In64] at *; omega) | (simp_all; done) | skip)
            refine qa ?_
            refine ⟨j + 1, [0, 1, 2, 3, 4, 6], by omega, by omega, ?_⟩
            rw [tbr_succ (fun i j => ((qop (op m n) (clq n r) (rpq n r) i j : Nat) : Int)) hjl]
            simp only [leq, leA, ev0, evA, evB, evP, fl, gp, tab, simprocAttr, reduceCtorEq, reduceIte] <;> first | trivial | omega
          · (try simp only [nhs] at hC6)
            have hjn : j = (cst n r).length := by omega
            refine qj (qc (qc (qf (qd (qa ?_)))))
            refine hk_region fun K hK => runs_eval tab_ok ?_
            simp only [ev0, evA, evB, evP, fl, gp, tab, simprocAttr, reduceCtorEq, reduceIte]
            refine fin_run ?_ (hK _ ?_) <;> clear hK <;> clear K
            · (first | exact trivial | omega | (simp only [In64] at *; omega) | (simp [In64] at *; omega) | (simp_all; done) | skip)
            refine qa ?_
            refine ⟨i + 1, [0, 1, 2, 3, 4, 5], by omega, by omega, ?_⟩
            rw [hjn, show (i + 1) * (cst n r).length = i * (cst n r).length + (cst n r).length by rw [Nat.add_mul, Nat.one_mul]]
            simp only [leq, leA, ev0, evA, evB, evP, fl, gp, tab, simprocAttr, reduceCtorEq, reduceIte] <;> first | trivial | omega
        · (try simp only [nhs] at hC5)
          have hin : i = (cst n r).length := by omega
          refine qj (qc (qc (qf (qa (qm ?_)))))
          refine hk_draw2 mixed fun K hK => runs2_eval tab_ok ?_
          simp only [evD, ev0, evA, evB, evP, fl, gp, tab, simprocAttr, reduceCtorEq, reduceIte]
          refine fin2_run ?_ (hK _ _ (by first | kernel_rfl | rfl) ?_) <;> clear hK <;> clear K
          · (first | exact trivial | omega | (simp only [In64] at *; omega) | (simp [In64] at *; omega) | (simp_all; done) | skip)
          refine qa (qk ?_)
          simp only [Tryd.results28, enA, ev0, evA, evB, evP, fl, gp, tab, simprocAttr, reduceCtorEq, reduceIte]
          all_goals (simp [hin, tbl, qtb])
end Go.Proofs.YtjbfkdaodfdpcaaDoor

/-
  Parts of a group as groups; what a group does with cosets: by maps. Conditions: none.
-/
set_option linter.all false
namespace Go.Proofs.YtjbfkdaodfdpcaaDoor
open Go.Pv

/-! ### Parts -/

/-- Where a thing stands among those of which something is so. -/
def pix (p : Nat → Bool) (x : Nat) : Nat := (thl x p).length
theorem thl_split (n x : Nat) (p : Nat → Bool) (hx : x < n) (hp : p x = true) : ∃ r, thl n p = thl x p ++ (x : Int) :: r := by
  induction n with
  | zero => omega
  | succ n ih =>
    rw [thl_succ]
    by_cases h : x = n
    · subst h
      rw [if_pos hp]; exact ⟨[], rfl⟩
    · obtain ⟨r, hr⟩ := ih (by omega)
      rw [hr]
      exact ⟨r ++ (if p n = true then [(n : Int)] else []), by simp⟩
theorem pix_at {n x : Nat} {p : Nat → Bool} (hx : x < n) (hp : p x = true) : pix p x < (thl n p).length ∧ (thl n p).getD (pix p x) 0 = (x : Int) := by
  obtain ⟨r, hr⟩ := thl_split n x p hx hp
  unfold pix
  rw [hr]
  constructor
  · simp
  · simp [List.getD]
theorem pix_get {n i x : Nat} {p : Nat → Bool} (hi : i < (thl n p).length) (hx : x < n) (hp : p x = true) (h : (thl n p).getD i 0 = (x : Int)) : pix p x = i := by
  obtain ⟨h1, h2⟩ := pix_at hx hp
  rcases Nat.lt_trichotomy (pix p x) i with h3 | h3 | h3
  · have := thl_get_asc h3 hi; omega
  · exact h3
  · have := thl_get_asc h3 h1; omega
def lat (n : Nat) (p : Nat → Bool) (i : Nat) : Nat := ((thl n p).getD i 0).toNat
theorem lat_at {n i : Nat} {p : Nat → Bool} (hi : i < (thl n p).length) : lat n p i < n ∧ p (lat n p i) = true ∧ (thl n p).getD i 0 = (lat n p i : Int) ∧ pix p (lat n p i) = i := by
  obtain ⟨x, x1, x2, x3⟩ := thl_get hi
  have : lat n p i = x := by unfold lat; rw [x3]; rfl
  rw [this]
  exact ⟨x1, x2, x3, pix_get hi x1 x2 x3⟩
/-- The part's operation, by places. -/
def pop (n : Nat) (f : Nat → Nat → Nat) (p : Nat → Bool) (i j : Nat) : Nat := pix p (f (lat n p i) (lat n p j))
def ptb (n : Nat) (f : Nat → Nat → Nat) (p : Nat → Bool) : List Int := tbl (fun i j => ((pop n f p i j : Nat) : Int)) (thl n p).length
theorem pop_at {n e : Nat} {f : Nat → Nat → Nat} {p : Nat → Bool} (G : Grp n f e) (hs : Sub n f e p) {i j : Nat} (hi : i < (thl n p).length) (hj : j < (thl n p).length) : pop n f p i j < (thl n p).length ∧ lat n p (pop n f p i j) = f (lat n p i) (lat n p j) := by
  obtain ⟨x1, x2, _, _⟩ := lat_at hi
  obtain ⟨y1, y2, _, _⟩ := lat_at hj
  obtain ⟨h1, h2⟩ := pix_at (G.cl _ _ x1 y1) (hs.mul _ _ x1 y1 x2 y2)
  exact ⟨h1, by unfold pop lat at *; rw [h2]; rfl⟩
/-- A part is a group. -/
theorem ptb_grp {n e : Nat} {f : Nat → Nat → Nat} {p : Nat → Bool} (G : Grp n f e) (hs : Sub n f e p) : Grp (thl n p).length (pop n f p) (pix p e) := by
  have le := pix_at G.el hs.one
  have hat : ∀ {i}, i < (thl n p).length → pix p (lat n p i) = i := fun hi => (lat_at hi).2.2.2
  have hle : lat n p (pix p e) = e := by unfold lat; rw [le.2]; rfl
  refine ⟨by omega, fun i j hi hj => (pop_at G hs hi hj).1, le.1, fun i hi => ?_, fun i hi => ?_, fun i j k hi hj hk => ?_, fun i hi => ?_⟩
  · unfold pop; rw [hle, G.one_l _ (lat_at hi).1, hat hi]
  · unfold pop; rw [hle, G.one_r _ (lat_at hi).1, hat hi]
  · have h1 := pop_at G hs hi hj
    have h2 := pop_at G hs hj hk
    show pix p (f (lat n p (pop n f p i j)) (lat n p k)) = pix p (f (lat n p i) (lat n p (pop n f p j k)))
    rw [h1.2, h2.2, G.assoc _ _ _ (lat_at hi).1 (lat_at hj).1 (lat_at hk).1]
  · obtain ⟨x1, x2, _, _⟩ := lat_at hi
    have h1 := pix_at (G.iv_lt x1) (hs.inv _ x1 x2)
    have h2 : lat n p (pix p (iv n f e (lat n p i))) = iv n f e (lat n p i) := by
      show ((thl n p).getD (pix p (iv n f e (lat n p i))) 0).toNat = _
      rw [h1.2]; rfl
    refine ⟨_, h1.1, ?_, ?_⟩
    · show pix p (f (lat n p i) (lat n p (pix p (iv n f e (lat n p i))))) = _
      rw [h2, G.mul_iv x1]
    · show pix p (f (lat n p (pix p (iv n f e (lat n p i)))) (lat n p i)) = _
      rw [h2, G.iv_mul x1]

theorem take_snoc {l : List Int} {i : Nat} (h : i < l.length) : l.take (i + 1) = l.take i ++ [l.getD i 0] := by
  rw [List.take_succ_eq_append_getElem h]
  simp [List.getD, List.getElem?_eq_getElem h]
/-- Where a part's thing stands, as a value. -/
def pxv (p : Nat → Bool) (u : Int) : PV := .int .i64 (pix p u.toNat)

set_option maxHeartbeats 4000000 in
theorem part_ok {n e : Nat} {m : List Int} (h : GT n m n e) (p : Nat → Bool) (hs : Sub n (op m n) e p) : FnC Tryd.prog 27 [gp n m, .list (il (thl n p))] (.tup [gp (thl n p).length (ptb n (op m n) p), fl (0, 0)]) := by
  have G := h.2.2
  have hb := h.2.1.big
  have hlp := thl_le n p
  have hsq := sq_le (show (thl n p).length ≤ 60 by omega)
  have hlen := tbr_len (fun i j => ((pop n (op m n) p i j : Nat) : Int)) (thl n p).length
  refine fnc_of tab_ok Tryd.func27 rfl (by kernel_rfl) (by rw [Tryd.ntmps27]; exact Nat.le_add_left 2 _) ?_; rw [Tryd.ntmps27]
  refine qm ?_
  refine hk_region fun K hK => runs_eval tab_ok ?_
  simp only [ev0, evA, evB, evP, fl, gp, tab, simprocAttr, reduceCtorEq, reduceIte]
  refine fin_run ?_ (hK _ ?_) <;> clear hK <;> clear K
  · (first | exact trivial | omega | (simp only [In64] at *; omega) | (simp [In64] at *; omega) | (simp_all; done) | skip)
  refine qa (qm (qm ?_))
  refine hk_region fun K hK => runs_eval tab_ok ?_
  simp only [ev0, evA, evB, evP, fl, gp, tab, simprocAttr, reduceCtorEq, reduceIte]
  refine fin_stop trivial (runs_call (group_ok h p true (by simp [hs])) rfl rfl rfl (by simp only [dstOk, Nat.reduceLT]) (by repeat (first | exact trivial | constructor)) (runs_eval tab_ok ?_))
  simp only [ev0, evA, evB, evP, fl, gp, tab, simprocAttr, reduceCtorEq, reduceIte, ufb]
  refine fin_run ?_ (hK _ ?_) <;> clear hK <;> clear K
  · (first | exact trivial | omega | (simp only [In64] at *; omega) | (simp [In64] at *; omega) | (simp_all; done) | skip)
  refine qa (qm ?_)
  refine hk_region fun K hK => runs_eval tab_ok ?_
  simp only [ev0, evA, evB, evP, fl, gp, tab, simprocAttr, reduceCtorEq, reduceIte]
  refine fin_run ?_ (hK _ ?_) <;> clear hK <;> clear K
  · (first | exact trivial | omega | (simp only [In64] at *; omega) | (simp [In64] at *; omega) | (simp_all; done) | skip)
  refine qa ?_
  refine hk_cond rfl (fun hC1 => ?_) (fun hC1 => ?_)
  · cases hC1
  · (try simp only [nhs] at hC1)
    refine qh (qa (qm ?_))
    refine hk_region fun K hK => runs_eval tab_ok ?_
    simp only [ev0, evA, evB, evP, fl, gp, tab, simprocAttr, reduceCtorEq, reduceIte]
    refine fin_run ?_ (hK _ ?_) <;> clear hK <;> clear K
    · (first | exact trivial | omega | (simp only [In64] at *; omega) | (simp [In64] at *; omega) | (simp_all; done) | skip)
    refine qa (qm (qm ?_))
    refine hk_region fun K hK => runs_eval tab_ok ?_
    simp only [ev0, evA, evB, evP, fl, gp, tab, simprocAttr, reduceCtorEq, reduceIte, il_length]
    refine fin_run trivial (hK _ ?_) <;> clear hK <;> clear K
    refine qa (ql ?_)
    refine hk_loop (ι := Nat) (fun i => ⟨65, [(1, .p (.list (il (thl n p)))), (2, .ptr 0 0), (4, .ptr 1 0), (5, .ptr 2 0), (7, .mptr 3), (24, .p (.list (il (thl n p)))), (25, .p (.int .i64 (thl n p).length)), (26, .p (.int .i64 i))], [.own [.p (.int .i64 n), .p (.list (il m))], .own [.p (.int .i64 0), .p .nil], .own [.p (.int .i64 0), .p (.int .i64 0)], .mp .i64 (mpd ((thl n p).take i)) (mpv ((thl n p).take i) (pxv p))]⟩) (fun i => i ≤ (thl n p).length) (fun i => (thl n p).length - i) 0 (Nat.zero_le _) [0, 1, 2, 4] (by simp only [leq, leA, ev0, evA, evB, evP, fl, gp, tab, simprocAttr, reduceCtorEq, reduceIte] <;> first | trivial | (rw [mpd_nil, mpv_nil]; rfl)) fun i hi => ?_
    refine qm ?_
    refine hk_region fun K hK => runs_eval tab_ok ?_
    simp only [ev0, evA, evB, evP, fl, gp, tab, simprocAttr, reduceCtorEq, reduceIte]
    refine fin_run trivial (hK _ ?_) <;> clear hK <;> clear K
    refine qa (qm ?_)
    refine hk_cond rfl (fun hC2 => ?_) (fun hC2 => ?_)
    · (try simp only [nhs] at hC2)
      have hlt : i < (thl n p).length := by omega
      obtain ⟨x1, x2, x3, x4⟩ := lat_at hlt
      refine qh (qa (qm (ql (qm ?_))))
      refine hk_region fun K hK => runs_eval tab_ok ?_
      simp only [ev0, evA, evB, evP, fl, gp, tab, simprocAttr, reduceCtorEq, reduceIte, il_get hlt, x3]
      refine fin_run ?_ (hK _ ?_) <;> clear hK <;> clear K
      · (first | exact trivial | omega | (simp only [In64] at *; omega) | (simp [In64] at *; omega) | (simp_all; done) | skip)
      refine qa ?_
      refine hk_region fun K hK => runs_eval tab_ok ?_
      simp only [ev0, evA, evB, evP, fl, gp, tab, simprocAttr, reduceCtorEq, reduceIte]
      refine fin_run ?_ (hK _ ?_) <;> clear hK <;> clear K
      · (first | exact trivial | omega | (simp only [In64] at *; omega) | (simp [In64] at *; omega) | (simp_all; done) | skip)
      refine qd (qa ?_)
      refine hk_region fun K hK => runs_eval tab_ok ?_
      simp only [ev0, evA, evB, evP, fl, gp, tab, simprocAttr, reduceCtorEq, reduceIte]
      refine fin_run ?_ (hK _ ?_) <;> clear hK <;> clear K
      · (first | exact trivial | omega | (simp only [In64] at *; omega) | (simp [In64] at *; omega) | (simp_all; done) | skip)
      refine qa ?_
      refine ⟨i + 1, [0, 1, 2, 3], by omega, by omega, ?_⟩
      have hd := mpd_set ((thl n p).take i) (lat n p i : Int)
      have hv := mpv_set ((thl n p).take i) (lat n p i : Int) (pxv p)
      have hx : pxv p (lat n p i : Int) = .int .i64 (i : Int) := by unfold pxv; rw [Int.toNat_natCast, x4]
      rw [hx] at hv
      rw [take_snoc hlt, x3]
      simp only [leq, leA, ev0, evA, evB, evP, fl, gp, tab, simprocAttr, reduceCtorEq, reduceIte] <;> first | trivial | omega | (rw [hd, hv])
    · (try simp only [nhs] at hC2)
      have hin : i = (thl n p).length := by omega
      rw [hin, List.take_length]
      refine qj (qc (qc (qf (qa (qm ?_)))))
      refine hk_region fun K hK => runs_eval tab_ok ?_
      simp only [ev0, evA, evB, evP, fl, gp, tab, simprocAttr, reduceCtorEq, reduceIte, il_length]
      refine fin_run ?_ (hK _ ?_) <;> clear hK <;> clear K
      · (first | exact trivial | omega | (simp only [In64] at *; omega) | (simp [In64] at *; omega) | (simp_all; done) | skip)
      refine qa (qm (qm ?_))
      refine hk_own0c 4 1 rfl rfl ?_
      simp only [hset, List.cons_append, List.nil_append, List.set, List.length_cons, List.length_nil]
      refine hk_region fun K hK => runs_eval tab_ok ?_
      simp only [ev0, evA, evB, evP, fl, gp, tab, simprocAttr, reduceCtorEq, reduceIte, il_length]
      refine fin_run trivial (hK _ ?_) <;> clear hK <;> clear K
      refine qa (ql ?_)
      refine hk_loop (ι := Nat) (fun i => ⟨65, [(1, .p (.list (il (thl n p)))), (2, .ptr 0 0), (4, .ptr 1 0), (5, .ptr 2 0), (7, .mptr 3), (10, .ptr 4 0), (38, .p (.list (il (thl n p)))), (39, .p (.int .i64 (thl n p).length)), (40, .p (.int .i64 i))], [.own [.p (.int .i64 n), .p (.list (il m))], .own [.p (.int .i64 0), .p .nil], .own [.p (.int .i64 0), .p (.int .i64 0)], .mp .i64 (mpd (thl n p)) (mpv (thl n p) (pxv p)), .own [.p (.int .i64 (thl n p).length), .sl 5 0 (tbr (fun i j => ((pop n (op m n) p i j : Nat) : Int)) (thl n p).length (i * (thl n p).length)).length], .own (ol (tbr (fun i j => ((pop n (op m n) p i j : Nat) : Int)) (thl n p).length (i * (thl n p).length)))]⟩) (fun i => i ≤ (thl n p).length) (fun i => (thl n p).length - i) 0 (Nat.zero_le _) [0, 1, 2, 3, 4, 5] (by rw [Nat.zero_mul]; simp only [leq, leA, ev0, evA, evB, evP, fl, gp, tab, simprocAttr, reduceCtorEq, reduceIte] <;> first | trivial | simp [tbr, rg, ol_nil]) fun i hi => ?_
      refine qm ?_
      refine hk_region fun K hK => runs_eval tab_ok ?_
      simp only [ev0, evA, evB, evP, fl, gp, tab, simprocAttr, reduceCtorEq, reduceIte]
      refine fin_run trivial (hK _ ?_) <;> clear hK <;> clear K
      refine qa (qm ?_)
      refine hk_cond rfl (fun hC3 => ?_) (fun hC3 => ?_)
      · (try simp only [nhs] at hC3)
        have hlt : i < (thl n p).length := by omega
        obtain ⟨x1, x2, x3, x4⟩ := lat_at hlt
        refine qh (qa (qm (ql (qm ?_))))
        refine hk_region fun K hK => runs_eval tab_ok ?_
        simp only [ev0, evA, evB, evP, fl, gp, tab, simprocAttr, reduceCtorEq, reduceIte, il_get hlt, x3]
        refine fin_run ?_ (hK _ ?_) <;> clear hK <;> clear K
        · (first | exact trivial | omega | (simp only [In64] at *; omega) | (simp [In64] at *; omega) | (simp_all; done) | skip)
        refine qa (qm ?_)
        refine hk_region fun K hK => runs_eval tab_ok ?_
        simp only [ev0, evA, evB, evP, fl, gp, tab, simprocAttr, reduceCtorEq, reduceIte, il_length]
        refine fin_run trivial (hK _ ?_) <;> clear hK <;> clear K
        refine qa (ql ?_)
        refine hk_loop (ι := Nat) (fun j => ⟨65, [(1, .p (.list (il (thl n p)))), (2, .ptr 0 0), (4, .ptr 1 0), (5, .ptr 2 0), (7, .mptr 3), (10, .ptr 4 0), (12, .p (.int .i64 (lat n p i : Nat))), (38, .p (.list (il (thl n p)))), (39, .p (.int .i64 (thl n p).length)), (40, .p (.int .i64 i)), (44, .p (.list (il (thl n p)))), (45, .p (.int .i64 (thl n p).length)), (46, .p (.int .i64 j))], [.own [.p (.int .i64 n), .p (.list (il m))], .own [.p (.int .i64 0), .p .nil], .own [.p (.int .i64 0), .p (.int .i64 0)], .mp .i64 (mpd (thl n p)) (mpv (thl n p) (pxv p)), .own [.p (.int .i64 (thl n p).length), .sl 5 0 (tbr (fun i j => ((pop n (op m n) p i j : Nat) : Int)) (thl n p).length (i * (thl n p).length + j)).length], .own (ol (tbr (fun i j => ((pop n (op m n) p i j : Nat) : Int)) (thl n p).length (i * (thl n p).length + j)))]⟩) (fun j => j ≤ (thl n p).length) (fun j => (thl n p).length - j) 0 (Nat.zero_le _) [0, 1, 2, 3, 4, 5] (by rw [Nat.add_zero]; simp only [leq, leA, ev0, evA, evB, evP, fl, gp, tab, simprocAttr, reduceCtorEq, reduceIte] <;> trivial) fun j hj => ?_
        refine qm ?_
        refine hk_region fun K hK => runs_eval tab_ok ?_
        simp only [ev0, evA, evB, evP, fl, gp, tab, simprocAttr, reduceCtorEq, reduceIte]
        refine fin_run trivial (hK _ ?_) <;> clear hK <;> clear K
        refine qa (qm ?_)
        refine hk_cond rfl (fun hC4 => ?_) (fun hC4 => ?_)
        · (try simp only [nhs] at hC4)
          have hjl : j < (thl n p).length := by omega
          obtain ⟨y1, y2, y3, y4⟩ := lat_at hjl
          have hxy := G.cl _ _ x1 y1
          have hmem := (mem_thl_n hxy).2 (hs.mul _ _ x1 y1 x2 y2)
          have hin := mpd_in hmem
          have hvv := mpv_in (pxv p) hmem
          have hpx : pxv p ((op m n (lat n p i) (lat n p j) : Nat) : Int) = .int .i64 ((pop n (op m n) p i j : Nat) : Int) := by unfold pxv; rw [Int.toNat_natCast]; rfl
          have hat := at_lt hlt hjl
          have hl := hlen (i * (thl n p).length + j)
          refine qh (qa (qm (ql (qm ?_))))
          refine hk_region fun K hK => runs_eval tab_ok ?_
          simp only [ev0, evA, evB, evP, fl, gp, tab, simprocAttr, reduceCtorEq, reduceIte, il_get hjl, y3]
          refine fin_run ?_ (hK _ ?_) <;> clear hK <;> clear K
          · (first | exact trivial | omega | (simp only [In64] at *; omega) | (simp [In64] at *; omega) | (simp_all; done) | skip)
          refine qa ?_
          refine hk_draw2 mixed fun K hK => runs2_eval tab_ok ?_
          simp only [evD, ev0, evA, evB, evP, fl, gp, tab, simprocAttr, reduceCtorEq, reduceIte]
          refine fin2_stop trivial (runs2_call (of_c h.2.1 x1 y1) rfl rfl rfl rfl (by simp only [dstOk, Nat.reduceLT]) (by repeat (first | exact trivial | constructor)) (runs2_eval tab_ok ?_))
          simp only [evD, ev0, evA, evB, evP, fl, gp, tab, simprocAttr, reduceCtorEq, reduceIte, hin, cond_true, hvv, hpx]
          refine fin2_run ?_ (hK _ _ (by first | kernel_rfl | rfl) ?_) <;> clear hK <;> clear K
          · (first | exact trivial | omega | (simp only [In64] at *; omega) | (simp [In64] at *; omega) | (simp_all; done) | skip)
          refine qd (qa ?_)
          refine hk_region fun K hK => runs_eval tab_ok ?_
          simp only [ev0, evA, evB, evP, fl, gp, tab, simprocAttr, reduceCtorEq, reduceIte]
          refine fin_run ?_ (hK _ ?_) <;> clear hK <;> clear K
          · (first | exact trivial | omega | (simp only [In64] at *; omega) | (simp [In64] at *; omega) | (simp_all; done) | skip)
          refine qa ?_
          refine ⟨j + 1, [0, 1, 2, 3, 4, 6], by omega, by omega, ?_⟩
          rw [tbr_succ (fun i j => ((pop n (op m n) p i j : Nat) : Int)) hjl]
          simp only [leq, leA, ev0, evA, evB, evP, fl, gp, tab, simprocAttr, reduceCtorEq, reduceIte] <;> first | trivial | omega
        · (try simp only [nhs] at hC4)
          have hjn : j = (thl n p).length := by omega
          refine qj (qc (qc (qf (qd (qa ?_)))))
          refine hk_region fun K hK => runs_eval tab_ok ?_
          simp only [ev0, evA, evB, evP, fl, gp, tab, simprocAttr, reduceCtorEq, reduceIte]
          refine fin_run ?_ (hK _ ?_) <;> clear hK <;> clear K
          · (first | exact trivial | omega | (simp only [In64] at *; omega) | (simp [In64] at *; omega) | (simp_all; done) | skip)
          refine qa ?_
          refine ⟨i + 1, [0, 1, 2, 3, 4, 5], by omega, by omega, ?_⟩
          rw [hjn, show (i + 1) * (thl n p).length = i * (thl n p).length + (thl n p).length by rw [Nat.add_mul, Nat.one_mul]]
          simp only [leq, leA, ev0, evA, evB, evP, fl, gp, tab, simprocAttr, reduceCtorEq, reduceIte] <;> first | trivial | omega
      · (try simp only [nhs] at hC3)
        have hin : i = (thl n p).length := by omega
        refine qj (qc (qc (qf (qa (qm ?_)))))
        refine hk_region fun K hK => runs_eval tab_ok ?_
        simp only [ev0, evA, evB, evP, fl, gp, tab, simprocAttr, reduceCtorEq, reduceIte]
        refine fin_run ?_ (hK _ ?_) <;> clear hK <;> clear K
        · (first | exact trivial | omega | (simp only [In64] at *; omega) | (simp [In64] at *; omega) | (simp_all; done) | skip)
        refine qa (qk ?_)
        simp only [Tryd.results27, enA, ev0, evA, evB, evP, fl, gp, tab, simprocAttr, reduceCtorEq, reduceIte]
        all_goals (simp [hin, tbl, ptb])
end Go.Proofs.YtjbfkdaodfdpcaaDoor

/-
  Operations that are the same on a group's things: inverses, conjugates, what is made. Conditions: none.
-/
set_option linter.all false
namespace Go.Proofs.YtjbfkdaodfdpcaaDoor
open Go.Pv

section
variable {n e : Nat} {f g : Nat → Nat → Nat} {p : Nat → Bool}

theorem iv_cong (G : Grp n f e) (h : ∀ a b, a < n → b < n → g a b = f a b) {a : Nat} (ha : a < n) : iv n g e a = iv n f e a := by
  have G' := G.cong' h
  refine (G'.iv_unique ha (G.iv_lt ha) (.inl ?_)).symm
  rw [h _ _ ha (G.iv_lt ha), G.mul_iv ha]
theorem cjr_cong (G : Grp n f e) (h : ∀ a b, a < n → b < n → g a b = f a b) {x a : Nat} (hx : x < n) (ha : a < n) : cjr n g e x a = cjr n f e x a := by
  unfold cjr
  rw [iv_cong G h ha, h _ _ (G.iv_lt ha) hx, h _ _ (G.cl _ _ (G.iv_lt ha) hx) ha]
theorem cup_cong (G : Grp n f e) (h : ∀ a b, a < n → b < n → g a b = f a b) (y : Nat) : cup n g e p y = cup n f e p y := by
  rw [Bool.eq_iff_iff, cup_iff, cup_iff]
  constructor
  · rintro ⟨x, a, hx, ha, h1, h2⟩
    exact ⟨x, a, hx, ha, h1, by rw [← cjr_cong G h hx ha]; exact h2⟩
  · rintro ⟨x, a, hx, ha, h1, h2⟩
    exact ⟨x, a, hx, ha, h1, by rw [cjr_cong G h hx ha]; exact h2⟩
theorem Gen.cong_op (G : Grp n f e) (h : ∀ a b, a < n → b < n → g a b = f a b) {a : Nat} (hg : Gen n g e p a) : Gen n f e p a := by
  have G' := G.cong' h
  induction hg with
  | one => exact .one
  | step a b ha hb hp ih => rw [h a b (ih.lt G) hb]; exact .step a b ih hb hp
theorem Sub.cong_op (G : Grp n f e) (h : ∀ a b, a < n → b < n → g a b = f a b) (hs : Sub n g e p) : Sub n f e p :=
  sub_of G hs.one fun a b ha hb h1 h2 => by rw [← h a b ha hb]; exact hs.mul a b ha hb h1 h2
theorem Nml.cong_op (G : Grp n f e) (h : ∀ a b, a < n → b < n → g a b = f a b) (hs : Nml n g e p) : Nml n f e p := fun a ha x hx hp => by
  rw [← cjr_cong G h hx ha]; exact hs a ha x hx hp
theorem cong_symm {n : Nat} {f g : Nat → Nat → Nat} (h : ∀ a b, a < n → b < n → g a b = f a b) : ∀ a b, a < n → b < n → f a b = g a b := fun a b ha hb => (h a b ha hb).symm
end
end Go.Proofs.YtjbfkdaodfdpcaaDoor

/-
  Composition series: parts of parts; the greatest normal subgroup; Composition walked. Conditions: none.
-/
set_option linter.all false
namespace Go.Proofs.YtjbfkdaodfdpcaaDoor
open Go.Pv

/-! ### What a part has, in the whole -/

def lft (p q : Nat → Bool) (x : Nat) : Bool := p x && q (pix p x)
theorem lft_iff {p q : Nat → Bool} {x : Nat} : lft p q x = true ↔ p x = true ∧ q (pix p x) = true := by unfold lft; rw [Bool.and_eq_true]
theorem lat_pix {n x : Nat} {p : Nat → Bool} (hx : x < n) (hp : p x = true) : lat n p (pix p x) = x := by
  have := (pix_at hx hp).2
  unfold lat; rw [this]; rfl
theorem lat_low {n i : Nat} {p : Nat → Bool} (hi : i < (thl n p).length) : lat (n + 1) p i = lat n p i := by
  unfold lat
  rw [thl_succ, List.getD_eq_getElem?_getD, List.getElem?_append_left hi, ← List.getD_eq_getElem?_getD]
theorem lft_thl (p q : Nat → Bool) : ∀ n, (thl (thl n p).length q).map (fun z => ((lat n p z.toNat : Nat) : Int)) = thl n (lft p q)
  | 0 => rfl
  | n + 1 => by
    have ih := lft_thl p q n
    have hc : (thl (thl n p).length q).map (fun z => ((lat (n + 1) p z.toNat : Nat) : Int)) = thl n (lft p q) := by
      rw [← ih]
      refine List.map_congr_left fun z hz => ?_
      obtain ⟨i, i1, _, rfl⟩ := mem_thl.1 hz
      rw [Int.toNat_natCast, lat_low i1]
    rw [thl_succ n (lft p q)]
    by_cases hp : p n = true
    · have hl : (thl (n + 1) p).length = (thl n p).length + 1 := by rw [thl_succ, if_pos hp]; simp
      have ha : lat (n + 1) p (thl n p).length = n := by
        unfold lat
        rw [thl_succ, if_pos hp]; simp [List.getD]
      rw [hl, thl_succ, List.map_append, hc]
      have hv : lft p q n = q (thl n p).length := by unfold lft pix; rw [hp]; rfl
      rw [hv]
      by_cases hq : q (thl n p).length = true
      · rw [if_pos hq, if_pos hq]; simp [ha]
      · rw [if_neg hq, if_neg hq]; rfl
    · have hl : thl (n + 1) p = thl n p := by rw [thl_succ, if_neg hp]; simp
      have hv : lft p q n = false := by unfold lft; rw [Bool.not_eq_true] at hp; rw [hp]; rfl
      rw [hl, hv, if_neg (by simp), List.append_nil]
      exact hc

section
variable {n e : Nat} {f : Nat → Nat → Nat} {p q : Nat → Bool}

theorem pop_pix (hs : Sub n f e p) {a b : Nat} (ha : a < n) (hb : b < n) (pa : p a = true) (pb : p b = true) : pop n f p (pix p a) (pix p b) = pix p (f a b) := by
  unfold pop; rw [lat_pix ha pa, lat_pix hb pb]
theorem lft_sub (G : Grp n f e) (hs : Sub n f e p) (hq : Sub (thl n p).length (pop n f p) (pix p e) q) : Sub n f e (lft p q) :=
  sub_of G (lft_iff.2 ⟨hs.one, hq.one⟩) fun a b ha hb h1 h2 => by
    obtain ⟨a1, a2⟩ := lft_iff.1 h1
    obtain ⟨b1, b2⟩ := lft_iff.1 h2
    refine lft_iff.2 ⟨hs.mul _ _ ha hb a1 b1, ?_⟩
    rw [← pop_pix hs ha hb a1 b1]
    exact hq.mul _ _ (pix_at ha a1).1 (pix_at hb b1).1 a2 b2
theorem iv_pix (G : Grp n f e) (hs : Sub n f e p) {a : Nat} (ha : a < n) (pa : p a = true) : iv (thl n p).length (pop n f p) (pix p e) (pix p a) = pix p (iv n f e a) := by
  have Gp := ptb_grp G hs
  have hi := G.iv_lt ha
  have pi := hs.inv _ ha pa
  refine (Gp.iv_unique (pix_at ha pa).1 (pix_at hi pi).1 (.inl ?_)).symm
  rw [pop_pix hs ha hi pa pi, G.mul_iv ha]
theorem cjr_pix (G : Grp n f e) (hs : Sub n f e p) {x a : Nat} (hx : x < n) (ha : a < n) (px : p x = true) (pa : p a = true) : cjr (thl n p).length (pop n f p) (pix p e) (pix p x) (pix p a) = pix p (cjr n f e x a) := by
  unfold cjr
  have hi := G.iv_lt ha
  have pi := hs.inv _ ha pa
  rw [iv_pix G hs ha pa, pop_pix hs hi hx pi px, pop_pix hs (G.cl _ _ hi hx) ha (hs.mul _ _ hi hx pi px) pa]
theorem cjr_in (G : Grp n f e) (hs : Sub n f e p) {x a : Nat} (hx : x < n) (ha : a < n) (px : p x = true) (pa : p a = true) : p (cjr n f e x a) = true := by
  have hi := G.iv_lt ha
  have pi := hs.inv _ ha pa
  exact hs.mul _ _ (G.cl _ _ hi hx) ha (hs.mul _ _ hi hx pi px) pa

/-- A normal subgroup of a subgroup, not all of it; with any thing more, and what that is conjugated to, it is all. -/
structure Mxn (n : Nat) (f : Nat → Nat → Nat) (e : Nat) (p p' : Nat → Bool) : Prop where
  sub : Sub n f e p'
  le : ∀ x, x < n → p' x = true → p x = true
  nml : ∀ a x, a < n → x < n → p a = true → p' x = true → p' (cjr n f e x a) = true
  ne : ∃ x, x < n ∧ p x = true ∧ p' x = false
  mx : ∀ x, x < n → p x = true → p' x = false → ∀ t : Nat → Bool, Sub n f e t → (∀ y, y < n → p' y = true → t y = true) → (∀ b, b < n → p b = true → t (cjr n f e x b) = true) → ∀ y, y < n → p y = true → t y = true

def wth (q : Nat → Bool) (a x : Nat) : Bool := q x || decide (x = a)
/-- What the greatest normal subgroup is. -/
structure Grt (n : Nat) (f : Nat → Nat → Nat) (e : Nat) (q : Nat → Bool) : Prop where
  sub : Sub n f e q
  nml : Nml n f e q
  ne : ∃ x, x < n ∧ q x = false
  mx : ∀ a, a < n → q a = false → ∀ y, y < n → Gen n f e (cup n f e (wth q a)) y

theorem Grt.lift (G : Grp n f e) (hs : Sub n f e p) (hq : Grt (thl n p).length (pop n f p) (pix p e) q) : Mxn n f e p (lft p q) := by
  have Gp := ptb_grp G hs
  refine ⟨lft_sub G hs hq.sub, fun x _ h => (lft_iff.1 h).1, fun a x ha hx pa h => ?_, ?_, fun x hx px h t ht h1 h2 y hy py => ?_⟩
  · obtain ⟨x1, x2⟩ := lft_iff.1 h
    refine lft_iff.2 ⟨cjr_in G hs hx ha x1 pa, ?_⟩
    rw [← cjr_pix G hs hx ha x1 pa]
    exact hq.nml _ (pix_at ha pa).1 _ (pix_at hx x1).1 x2
  · obtain ⟨i, i1, i2⟩ := hq.ne
    obtain ⟨x1, x2, _, x4⟩ := lat_at i1
    refine ⟨_, x1, x2, ?_⟩
    unfold lft; rw [x2, x4, i2]; rfl
  · have hqx : q (pix p x) = false := by unfold lft at h; rw [px] at h; simpa using h
    have hall := hq.mx _ (pix_at hx px).1 hqx (pix p y) (pix_at hy py).1
    have hS : Sub (thl n p).length (pop n f p) (pix p e) fun i => t (lat n p i) := by
      refine sub_of Gp ?_ fun i j hi hj h1 h2 => ?_
      · rw [lat_pix G.el hs.one]; exact ht.one
      · rw [(pop_at G hs hi hj).2]
        exact ht.mul _ _ (lat_at hi).1 (lat_at hj).1 h1 h2
    have := hall.sub Gp hS fun b hb hc => by
      obtain ⟨u, v, u1, v1, u2, u3⟩ := cup_iff.1 hc
      obtain ⟨a1, a2, _, a4⟩ := lat_at u1
      obtain ⟨b1, b2, _, b4⟩ := lat_at v1
      have e1 : b = pix p (cjr n f e (lat n p u) (lat n p v)) := by
        rw [← u3, ← cjr_pix G hs a1 b1 a2 b2, a4, b4]
      rw [e1, lat_pix (G.cjr_lt a1 b1) (cjr_in G hs a1 b1 a2 b2)]
      unfold wth at u2
      rw [Bool.or_eq_true, decide_eq_true_eq] at u2
      rcases u2 with u2 | u2
      · refine h1 _ (G.cjr_lt a1 b1) (lft_iff.2 ⟨cjr_in G hs a1 b1 a2 b2, ?_⟩)
        rw [← cjr_pix G hs a1 b1 a2 b2, a4, b4]
        exact hq.nml _ v1 _ u1 u2
      · rw [u2, lat_pix hx px]
        exact h2 _ b1 b2
    rwa [lat_pix hy py] at this
theorem Mxn.lt (h : Mxn n f e p q) : (mem n q).length < (mem n p).length := mem_lt h.le fun hh => by
  obtain ⟨x, x1, x2, x3⟩ := h.ne
  rw [hh x x1] at x3; rw [x3] at x2; cases x2
theorem Mxn.half (G : Grp n f e) (hs : Sub n f e p) (h : Mxn n f e p q) : 2 * (mem n q).length ≤ (mem n p).length := by
  have h1 := h.sub.dvd G (K := p) fun a b ha hb h1 h2 => hs.mul _ _ ha hb h1 (h.le _ hb h2)
  have h2 := h.lt
  obtain ⟨c, hc⟩ := h1
  rw [hc] at h2 ⊢
  rcases c with _ | _ | c
  · omega
  · simp at h2
  · rw [Nat.mul_comm 2]; exact Nat.mul_le_mul_left _ (by omega)
end

theorem cl_ex (n : Nat) (f : Nat → Nat → Nat) (e : Nat) : ∃ cl : (Nat → Bool) → Nat → Nat → Bool, ∀ p a y, y < n → (cl p a y = true ↔ Gen n f e (cup n f e (wth p a)) y) := by
  have h : ∀ p : Nat → Bool, ∃ g : Nat → Nat → Bool, ∀ a y, y < n → (g a y = true ↔ Gen n f e (cup n f e (wth p a)) y) := fun p => by
    have h2 : ∀ a, ∃ r : Nat → Bool, ∀ y, y < n → (r y = true ↔ Gen n f e (cup n f e (wth p a)) y) := fun a => gen_ex n f e _
    obtain ⟨g, hg⟩ := Classical.axiomOfChoice h2
    exact ⟨g, hg⟩
  obtain ⟨cl, hcl⟩ := Classical.axiomOfChoice h
  exact ⟨cl, hcl⟩

/-- The first thing with which a set makes not all. -/
def gfa (n : Nat) (cl : (Nat → Bool) → Nat → Nat → Bool) (p : Nat → Bool) (a : Nat) : Bool := !p a && decide ((thl n (cl p a)).length < n)
def gnx (n : Nat) (cl : (Nat → Bool) → Nat → Nat → Bool) (p : Nat → Bool) : Nat → Bool :=
  match fst' (gfa n cl p) n with
  | some a => cl p a
  | none => p
theorem gnx_some {n a : Nat} {cl : (Nat → Bool) → Nat → Nat → Bool} {p : Nat → Bool} (ha : a < n) (h : gfa n cl p a = true) (hj : ∀ j, j < a → gfa n cl p j = false) : gnx n cl p = cl p a := by
  unfold gnx; rw [fst_some ha h hj]
theorem gnx_none {n : Nat} {cl : (Nat → Bool) → Nat → Nat → Bool} {p : Nat → Bool} (hj : ∀ j, j < n → gfa n cl p j = false) : gnx n cl p = p := by
  unfold gnx; rw [fst_none hj]

section
variable {n e : Nat} {f : Nat → Nat → Nat}
theorem cl_in (G : Grp n f e) {cl : (Nat → Bool) → Nat → Nat → Bool} (hcl : ∀ p a y, y < n → (cl p a y = true ↔ Gen n f e (cup n f e (wth p a)) y)) {p : Nat → Bool} {a : Nat} (ha : a < n) : (∀ x, x < n → p x = true → cl p a x = true) ∧ cl p a a = true :=
  ⟨fun x hx h => (hcl _ _ _ hx).2 (Gen.mem G hx (G.cup_in hx (by unfold wth; rw [h]; rfl))), (hcl _ _ _ ha).2 (Gen.mem G ha (G.cup_in ha (by unfold wth; simp)))⟩
theorem full_len {p : Nat → Bool} (h : ¬ (thl n p).length < n) : ∀ y, y < n → p y = true := by
  intro y hy
  cases hp : p y with
  | true => rfl
  | false =>
    exfalso
    have := mem_lt (n := n) (p := fun _ => true) (q := p) (fun _ _ _ => rfl) (fun hh => by have := hh y hy; rw [hp] at this; cases this)
    have e1 : (thl n p).length = (mem n p).length := thl_len _ _
    have e2 : (mem n fun _ => true).length = n := by unfold mem; rw [List.filter_eq_self.2 fun _ _ => rfl, List.length_range]
    omega
theorem gnx_stop (G : Grp n f e) (h1 : 1 < n) {cl : (Nat → Bool) → Nat → Nat → Bool} (hcl : ∀ p a y, y < n → (cl p a y = true ↔ Gen n f e (cup n f e (wth p a)) y)) :
    ∃ K, K ≤ n ∧ Stp n (itr (gnx n cl) (onp e)) K ∧ (∀ j, j < n → gfa n cl (itr (gnx n cl) (onp e) K) j = false) ∧ Grt n f e (itr (gnx n cl) (onp e) K) := by
  have up : ∀ p : Nat → Bool, ∀ x, x < n → p x = true → gnx n cl p x = true := fun p x hx h => by
    unfold gnx
    cases hf : fst' (gfa n cl p) n with
    | none => exact h
    | some a => exact (cl_in G hcl (fst_spec hf).1).1 x hx h
  obtain ⟨K, hK, hS⟩ := stop_ex (n := n) (T := itr (gnx n cl) (onp e)) (fun k => n - (mem n (itr (gnx n cl) (onp e) k)).length) fun k hne => by
    have := mem_lt (n := n) (p := itr (gnx n cl) (onp e) (k + 1)) (q := itr (gnx n cl) (onp e) k) (fun x hx h => up _ x hx h) (fun hh => hne fun a ha => (hh a ha).symm)
    have h3 : (mem n (itr (gnx n cl) (onp e) (k + 1))).length ≤ n := by
      have := List.length_filter_le (itr (gnx n cl) (onp e) (k + 1)) (List.range n)
      simpa [mem] using this
    omega
  have inv : ∀ k, Sub n f e (itr (gnx n cl) (onp e) k) ∧ Nml n f e (itr (gnx n cl) (onp e) k) ∧ (thl n (itr (gnx n cl) (onp e) k)).length < n := by
    intro k
    induction k with
    | zero =>
      refine ⟨G.onp_sub, G.one_nml, ?_⟩
      show (thl n fun y => decide (y = e)).length < n
      rw [thl_one G.el]; exact h1
    | succ k ih =>
      show Sub n f e (gnx n cl (itr (gnx n cl) (onp e) k)) ∧ Nml n f e (gnx n cl (itr (gnx n cl) (onp e) k)) ∧ (thl n (gnx n cl (itr (gnx n cl) (onp e) k))).length < n
      generalize itr (gnx n cl) (onp e) k = p at *
      unfold gnx
      cases hf : fst' (gfa n cl p) n with
      | none => exact ih
      | some a =>
        have h2 := (fst_spec hf).2.1
        unfold gfa at h2
        rw [Bool.and_eq_true, decide_eq_true_eq] at h2
        exact ⟨gen_sub G (hcl p a), G.gen_nml (G.cup_nml _) (hcl p a), h2.2⟩
  have none : ∀ j, j < n → gfa n cl (itr (gnx n cl) (onp e) K) j = false := by
    intro j hj
    cases hg : gfa n cl (itr (gnx n cl) (onp e) K) j with
    | false => rfl
    | true =>
      exfalso
      have hex : ∃ a, fst' (gfa n cl (itr (gnx n cl) (onp e) K)) n = some a := by
        cases hf : fst' (gfa n cl (itr (gnx n cl) (onp e) K)) n with
        | some a => exact ⟨a, rfl⟩
        | none => have := fst_spec0 hf j hj; rw [hg] at this; cases this
      obtain ⟨a, hf⟩ := hex
      obtain ⟨a1, a2, a3⟩ := fst_spec hf
      have h3 := hS.eq a a1
      have h4 : itr (gnx n cl) (onp e) (K + 1) = cl (itr (gnx n cl) (onp e) K) a := gnx_some a1 a2 a3
      rw [h4, (cl_in G hcl a1).2] at h3
      unfold gfa at a2
      rw [← h3] at a2; simp at a2
  obtain ⟨i1, i2, i3⟩ := inv K
  have hle : K ≤ n := by
    have : n - (mem n (itr (gnx n cl) (onp e) 0)).length ≤ n := Nat.sub_le _ _
    omega
  refine ⟨K, hle, hS, none, i1, i2, ?_, fun a ha hqa y hy => ?_⟩
  · refine Classical.byContradiction fun hh => ?_
    have hall : ∀ x, x < n → itr (gnx n cl) (onp e) K x = true := fun x hx => by
      cases hv : itr (gnx n cl) (onp e) K x with
      | true => rfl
      | false => exact absurd ⟨x, hx, hv⟩ hh
    have e1 : thl n (itr (gnx n cl) (onp e) K) = thl n fun _ => true := thl_congr fun x hx => hall x hx
    have e2 : (thl n fun _ => true).length = n := by rw [thl_len]; unfold thn'; rw [List.filter_eq_self.2 fun _ _ => rfl, List.length_range]
    rw [e1] at i3; omega
  · have h3 := none a ha
    unfold gfa at h3
    rw [hqa] at h3
    simp only [Bool.not_false, Bool.true_and, decide_eq_false_iff_not] at h3
    exact (hcl _ _ _ hy).1 (full_len h3 y hy)
end

/-! ### greatest -/

theorem bo_wth {n a : Nat} (p : Nat → Bool) (ha : a < n) : bo n p ||| 2 ^ a = bo n (wth p a) := by
  refine Nat.eq_of_testBit_eq fun i => ?_
  rw [Nat.testBit_or, bo_bit, bo_bit, Nat.testBit_two_pow]
  unfold wth
  by_cases hi : i < n
  · simp [hi, eq_comm]
  · have : ¬ a = i := by omega
    simp [hi, this]
theorem bo_gen0 {n e : Nat} {f : Nat → Nat → Nat} : ∀ a, a < n → (onp e a = true ↔ Gen n f e (Nat.testBit 0) a) := fun a ha => by
  rw [onp_iff]
  constructor
  · rintro rfl; exact .one
  · intro hg
    exact Gen.least (H := fun a => a = e) rfl (fun a b _ _ hb _ => by simp at hb) hg

set_option maxHeartbeats 2000000 in
theorem greatest_ok {n e : Nat} {m : List Int} (h : GT n m n e) (h1 : 1 < n) : ∃ q, Grt n (op m n) e q ∧ FnC Tryd.prog 83 [gp n m] (.list (il (thl n q))) := by
  have G := h.2.2
  have hb := h.2.1.big
  obtain ⟨cl, hcl⟩ := cl_ex n (op m n) e
  obtain ⟨K, hK, hS, hnone, hG⟩ := gnx_stop G h1 hcl
  have hT0 : itr (gnx n cl) (onp e) 0 = onp e := rfl
  have hTs : ∀ k, itr (gnx n cl) (onp e) (k + 1) = gnx n cl (itr (gnx n cl) (onp e) k) := fun k => rfl
  refine ⟨itr (gnx n cl) (onp e) K, hG, ?_⟩
  generalize itr (gnx n cl) (onp e) = T at *
  have hbt : ∀ p, bo n p < 2 ^ 64 := fun p => bo_lt64 hb p
  refine fnc_of tab_ok Tryd.func83 rfl (by kernel_rfl) (by rw [Tryd.ntmps83]; exact Nat.le_add_left 1 _) ?_; rw [Tryd.ntmps83]
  refine qm ?_
  refine hk_region fun K hK => runs_eval tab_ok ?_
  simp only [ev0, evA, evB, evP, fl, gp, tab, simprocAttr, reduceCtorEq, reduceIte]
  refine fin_run ?_ (hK _ ?_) <;> clear hK <;> clear K
  · (first | exact trivial | omega | (simp only [In64] at *; omega) | (simp [In64] at *; omega) | (simp_all; done) | skip)
  refine qa (qs (fun _ _ h => h) (qm ?_))
  refine hk_region fun K hK => runs_eval tab_ok ?_
  simp only [ev0, evA, evB, evP, fl, gp, tab, simprocAttr, reduceCtorEq, reduceIte]
  refine fin_stop trivial (runs_call (grow_c h 0 (Nat.pow_pos (by omega)) (onp e) bo_gen0) rfl rfl rfl (by simp only [dstOk, Nat.reduceLT]) (by repeat (first | exact trivial | constructor)) (runs_eval tab_ok ?_))
  simp only [ev0, evA, evB, evP, fl, gp, tab, simprocAttr, reduceCtorEq, reduceIte]
  refine fin_run ?_ (hK _ ?_) <;> clear hK <;> clear K
  · (first | exact trivial | omega | (simp only [In64] at *; omega) | (simp [In64] at *; omega) | (simp_all; done) | skip)
  refine qa (qm (qi (qa (ql ?_))))
  refine hk_loop (ι := Nat) (fun k => ⟨37, [(1, .ptr 0 0), (3, .p (.int .u64 (bo n (T k))))], [.own [.p (.int .i64 n), .p (.list (il m))]]⟩) (fun k => k ≤ K) (fun k => K - k) 0 (Nat.zero_le _) [0] (by rw [hT0]; simp only [leq, leA, ev0, evA, evB, evP, fl, gp, tab, simprocAttr, reduceCtorEq, reduceIte] <;> trivial) fun k hk => ?_
  refine ql (qm (qm ?_))
  refine hk_region fun K hK => runs_eval tab_ok ?_
  simp only [ev0, evA, evB, evP, fl, gp, tab, simprocAttr, reduceCtorEq, reduceIte]
  refine fin_run ?_ (hK _ ?_) <;> clear hK <;> clear K
  · (first | exact trivial | omega | (simp only [In64] at *; omega) | (simp [In64] at *; omega) | (simp_all; done) | skip)
  refine qa (ql ?_)
  refine hk_loop (ι := Nat) (fun a => ⟨37, [(1, .ptr 0 0), (3, .p (.int .u64 (bo n (T k)))), (10, .p (.int .i64 n)), (11, .p (.int .i64 a))], [.own [.p (.int .i64 n), .p (.list (il m))]]⟩) (fun a => a ≤ n ∧ ∀ j, j < a → gfa n cl (T k) j = false) (fun a => n - a) 0 ⟨Nat.zero_le _, fun j hj => by omega⟩ [0] (by simp only [leq, leA, ev0, evA, evB, evP, fl, gp, tab, simprocAttr, reduceCtorEq, reduceIte] <;> trivial) fun a ha => ?_
  obtain ⟨ha, hlow⟩ := ha
  refine qm ?_
  refine hk_region fun K hK => runs_eval tab_ok ?_
  simp only [ev0, evA, evB, evP, fl, gp, tab, simprocAttr, reduceCtorEq, reduceIte]
  refine fin_run trivial (hK _ ?_) <;> clear hK <;> clear K
  refine qa (qm ?_)
  refine hk_cond rfl (fun hC1 => ?_) (fun hC1 => ?_)
  · (try simp only [nhs] at hC1)
    have hal : a < n := by omega
    have hbit : (bo n (T k)).testBit a = T k a := by rw [bo_bit]; simp [hal]
    refine qh (qa (qm (ql (qm ?_))))
    refine hk_region fun K hK => runs_eval tab_ok ?_
    simp only [ev0, evA, evB, evP, fl, gp, tab, simprocAttr, reduceCtorEq, reduceIte]
    refine fin_run trivial (hK _ ?_) <;> clear hK <;> clear K
    refine qa (qm (qm ?_))
    refine hk_region fun K hK => runs_eval tab_ok ?_
    simp only [ev0, evA, evB, evP, fl, gp, tab, simprocAttr, reduceCtorEq, reduceIte]
    refine fin_stop trivial (runs_call (has_s (bo n (T k)) a (hbt _) (by omega)) rfl rfl rfl (by simp only [dstOk, Nat.reduceLT]) (by repeat (first | exact trivial | constructor)) (runs_eval tab_ok ?_))
    simp only [ev0, evA, evB, evP, fl, gp, tab, simprocAttr, reduceCtorEq, reduceIte, hbit]
    refine fin_run trivial (hK _ ?_) <;> clear hK <;> clear K
    refine qa ?_
    refine hk_cond rfl (fun hC2 => ?_) (fun hC2 => ?_)
    · (try simp only [nhs] at hC2)
      have hga : gfa n cl (T k) a = false := by unfold gfa; rw [hC2]; rfl
      refine qj (qc (qf (qa ?_)))
      refine hk_region fun K hK => runs_eval tab_ok ?_
      simp only [ev0, evA, evB, evP, fl, gp, tab, simprocAttr, reduceCtorEq, reduceIte]
      refine fin_run ?_ (hK _ ?_) <;> clear hK <;> clear K
      · (first | exact trivial | omega | (simp only [In64] at *; omega) | (simp [In64] at *; omega) | (simp_all; done) | skip)
      refine qa ?_
      refine ⟨a + 1, [0], ⟨by omega, fun j hj => ?_⟩, by omega, ?_⟩
      · by_cases hja : j = a
        · rw [hja]; exact hga
        · exact hlow j (by omega)
      · simp only [leq, leA, ev0, evA, evB, evP, fl, gp, tab, simprocAttr, reduceCtorEq, reduceIte] <;> omega
    · (try simp only [nhs] at hC2)
      have hw := bo_wth (T k) hal
      have hp2 := pow_lt64 (b := a) (by omega)
      refine qh (qa (qm ?_))
      refine hk_draw2 mixed fun K hK => runs2_eval tab_ok ?_
      simp only [evD, ev0, evA, evB, evP, fl, gp, tab, simprocAttr, reduceCtorEq, reduceIte, shl_one (show a < 64 by omega), bv_or (hbt (T k)) hp2, hw]
      refine fin2_stop ?_ (runs2_call (list_s (bo n (wth (T k) a)) (hbt _)) rfl rfl rfl rfl (by simp only [dstOk, Nat.reduceLT]) (by repeat (first | exact trivial | constructor)) (runs2_eval tab_ok ?_))
      · omega
      simp only [evD, ev0, evA, evB, evP, fl, gp, tab, simprocAttr, reduceCtorEq, reduceIte, stl_bo hb, shl_one (show a < 64 by omega), bv_or (hbt (T k)) hp2, hw]
      refine fin2_stop trivial (runs2_call (closure_ok h (wth (T k) a) (cl (T k) a) (hcl (T k) a)) rfl rfl rfl rfl (by simp only [dstOk, Nat.reduceLT]) (by repeat (first | exact trivial | constructor)) (runs2_eval tab_ok ?_))
      simp only [evD, ev0, evA, evB, evP, fl, gp, tab, simprocAttr, reduceCtorEq, reduceIte, shl_one (show a < 64 by omega), bv_or (hbt (T k)) hp2, hw]
      refine fin2_run ?_ (hK _ _ (by first | kernel_rfl | rfl) ?_) <;> clear hK <;> clear K
      · (first | exact trivial | omega | (simp only [In64] at *; omega) | (simp [In64] at *; omega) | (simp_all; done) | skip)
      refine qa (qm ?_)
      refine hk_region fun K hK => runs_eval tab_ok ?_
      simp only [ev0, evA, evB, evP, fl, gp, tab, simprocAttr, reduceCtorEq, reduceIte, il_length]
      refine fin_run ?_ (hK _ ?_) <;> clear hK <;> clear K
      · (first | exact trivial | omega | (simp only [In64] at *; omega) | (simp [In64] at *; omega) | (simp_all; done) | skip)
      refine qa ?_
      refine hk_cond rfl (fun hC3 => ?_) (fun hC3 => ?_)
      · (try simp only [nhs] at hC3)
        have hga : gfa n cl (T k) a = true := by unfold gfa; rw [hC2, decide_eq_true (show (thl n (cl (T k) a)).length < n by omega)]; rfl
        have hnx : T (k + 1) = cl (T k) a := by rw [hTs]; exact gnx_some hal hga hlow
        have hkK : k < K := by
          rcases Nat.lt_or_eq_of_le hk with h | h
          · exact h
          · rw [h] at hga; have := hnone a hal; rw [this] at hga; cases hga
        refine qm ?_
        refine hk_region fun K hK => runs_eval tab_ok ?_
        simp only [ev0, evA, evB, evP, fl, gp, tab, simprocAttr, reduceCtorEq, reduceIte]
        refine fin_stop trivial (runs_call (of_s (thl n (cl (T k) a)) (by have := thl_le n (cl (T k) a); omega) (thl_rng hb _)) rfl rfl rfl (by simp only [dstOk, Nat.reduceLT]) (by repeat (first | exact trivial | constructor)) (runs_eval tab_ok ?_))
        simp only [ev0, evA, evB, evP, fl, gp, tab, simprocAttr, reduceCtorEq, reduceIte, msk_thl]
        refine fin_run trivial (hK _ ?_) <;> clear hK <;> clear K
        refine qa (qj (qg rfl (qc (qc (qg rfl (qc (qf (qa ?_))))))))
        refine ⟨k + 1, [0], by omega, by omega, ?_⟩
        rw [hnx]
        simp only [leq, leA, ev0, evA, evB, evP, fl, gp, tab, simprocAttr, reduceCtorEq, reduceIte] <;> trivial
      · (try simp only [nhs] at hC3)
        have hga : gfa n cl (T k) a = false := by unfold gfa; rw [hC2, decide_eq_false (show ¬ (thl n (cl (T k) a)).length < n by omega)]; rfl
        refine qh (qd (qa ?_))
        refine hk_region fun K hK => runs_eval tab_ok ?_
        simp only [ev0, evA, evB, evP, fl, gp, tab, simprocAttr, reduceCtorEq, reduceIte]
        refine fin_run ?_ (hK _ ?_) <;> clear hK <;> clear K
        · (first | exact trivial | omega | (simp only [In64] at *; omega) | (simp [In64] at *; omega) | (simp_all; done) | skip)
        refine qa ?_
        refine ⟨a + 1, [0], ⟨by omega, fun j hj => ?_⟩, by omega, ?_⟩
        · by_cases hja : j = a
          · rw [hja]; exact hga
          · exact hlow j (by omega)
        · simp only [leq, leA, ev0, evA, evB, evP, fl, gp, tab, simprocAttr, reduceCtorEq, reduceIte] <;> omega
  · (try simp only [nhs] at hC1)
    have han : a = n := by omega
    have hkK : k = K := by
      rcases Nat.lt_or_eq_of_le hk with h | h
      · exact absurd (fun x hx => by rw [hTs, gnx_none (fun j hj => hlow j (by omega))]) (hS.ne k h)
      · exact h
    refine qj (qc (qc (qf (qa (qm ?_)))))
    refine hk_region fun K hK => runs_eval tab_ok ?_
    simp only [ev0, evA, evB, evP, fl, gp, tab, simprocAttr, reduceCtorEq, reduceIte]
    refine fin_stop trivial (runs_call (list_s (bo n (T k)) (hbt _)) rfl rfl rfl (by simp only [dstOk, Nat.reduceLT]) (by repeat (first | exact trivial | constructor)) (runs_eval tab_ok ?_))
    simp only [ev0, evA, evB, evP, fl, gp, tab, simprocAttr, reduceCtorEq, reduceIte, stl_bo hb]
    refine fin_run trivial (hK _ ?_) <;> clear hK <;> clear K
    refine qa (qk (qe (qb (qe ?_))))
    simp only [Tryd.results83, enA, ev0, evA, evB, evP, fl, gp, tab, simprocAttr, reduceCtorEq, reduceIte]
    all_goals (rw [hkK])

/-! ### Composition -/

theorem Grt.cong {n e : Nat} {f g : Nat → Nat → Nat} {q : Nat → Bool} (G : Grp n f e) (h : ∀ a b, a < n → b < n → g a b = f a b) (hq : Grt n g e q) : Grt n f e q :=
  ⟨hq.sub.cong_op G h, hq.nml.cong_op G h, hq.ne, fun a ha hqa y hy => (Gen.mono (fun b _ hb => by rwa [cup_cong G h] at hb) (hq.mx a ha hqa y hy)).cong_op G h⟩

section
variable {n e : Nat} {m : List Int}
theorem ptb_GT (h : GT n m n e) {p : Nat → Bool} (hs : Sub n (op m n) e p) : GT (thl n p).length (ptb n (op m n) p) (thl n p).length (pix p e) := by
  have := thl_le n p
  have := h.2.1.big
  exact tbl_GT' (by omega) (ptb_grp h.2.2 hs)
theorem ptb_op {p : Nat → Bool} (f : Nat → Nat → Nat) : ∀ a b, a < (thl n p).length → b < (thl n p).length → op (ptb n f p) (thl n p).length a b = pop n f p a b := fun a b ha hb => tbl_op' _ ha hb

theorem part_greatest (h : GT n m n e) (p : Nat → Bool) : ∃ q : Nat → Bool, Sub n (op m n) e p → 1 < (thl n p).length → Grt (thl n p).length (pop n (op m n) p) (pix p e) q ∧
    FnC Tryd.prog 83 [gp (thl n p).length (ptb n (op m n) p)] (.list (il (thl (thl n p).length q))) := by
  by_cases hs : Sub n (op m n) e p ∧ 1 < (thl n p).length
  · obtain ⟨q, hq, hc⟩ := greatest_ok (ptb_GT h hs.1) hs.2
    exact ⟨q, fun _ _ => ⟨hq.cong (ptb_grp h.2.2 hs.1) (ptb_op _), hc⟩⟩
  · exact ⟨p, fun h1 h2 => absurd ⟨h1, h2⟩ hs⟩

/-- A composition series: from all on, to one thing. -/
structure Cps (n : Nat) (f : Nat → Nat → Nat) (e : Nat) (T : Nat → Nat → Bool) (K : Nat) : Prop where
  all : T 0 = fun _ => true
  sub : ∀ k, k ≤ K → Sub n f e (T k)
  mxn : ∀ k, k < K → Mxn n f e (T k) (T (k + 1))
  last : (thl n (T K)).length = 1
  short : K ≤ 5

theorem cps_ex (G : Grp n (op m n) e) (hb : n ≤ 60) (Q : (Nat → Bool) → Nat → Bool) (hQ : ∀ p, Sub n (op m n) e p → 1 < (thl n p).length → Mxn n (op m n) e p (lft p (Q p))) :
    ∃ K, Cps n (op m n) e (itr (fun p => lft p (Q p)) fun _ => true) K ∧ ∀ k, k < K → 1 < (thl n (itr (fun p => lft p (Q p)) (fun _ => true) k)).length := by
  have hTs : ∀ k, itr (fun p => lft p (Q p)) (fun _ => true) (k + 1) = lft (itr (fun p => lft p (Q p)) (fun _ => true) k) (Q (itr (fun p => lft p (Q p)) (fun _ => true) k)) := fun k => rfl
  have hT0 : itr (fun p => lft p (Q p)) (fun _ => true) 0 = fun _ => true := rfl
  generalize itr (fun p => lft p (Q p)) (fun _ => true) = T at *
  have step : ∀ k, Sub n (op m n) e (T k) → 1 < (thl n (T k)).length → Mxn n (op m n) e (T k) (T (k + 1)) := fun k h1 h2 => by rw [hTs]; exact hQ _ h1 h2
  have go : ∀ c k, (thl n (T k)).length ≤ c → (∀ j, j ≤ k → Sub n (op m n) e (T j)) → (∀ j, j < k → 1 < (thl n (T j)).length) → (thl n (T k)).length * 2 ^ k ≤ n →
      ∃ K, (∀ j, j ≤ K → Sub n (op m n) e (T j)) ∧ (∀ j, j < K → 1 < (thl n (T j)).length) ∧ (thl n (T K)).length = 1 ∧ 2 ^ K ≤ n := by
    intro c
    induction c with
    | zero =>
      intro k h1 h2 _ _
      have := (pix_at G.el (h2 k (Nat.le_refl _)).one).1
      omega
    | succ c ih =>
      intro k h1 h2 h3 h4
      have hpos := (pix_at G.el (h2 k (Nat.le_refl _)).one).1
      by_cases hl : (thl n (T k)).length = 1
      · exact ⟨k, h2, h3, hl, by rw [hl] at h4; omega⟩
      · have hM := step k (h2 k (Nat.le_refl _)) (by omega)
        have hh := hM.half G (h2 k (Nat.le_refl _))
        have e1 : (thl n (T k)).length = (mem n (T k)).length := thl_len _ _
        have e2 : (thl n (T (k + 1))).length = (mem n (T (k + 1))).length := thl_len _ _
        refine ih (k + 1) (by omega) (fun j hj => ?_) (fun j hj => ?_) ?_
        · by_cases hjk : j = k + 1
          · rw [hjk]; exact hM.sub
          · exact h2 j (by omega)
        · by_cases hjk : j = k
          · rw [hjk]; omega
          · exact h3 j (by omega)
        · have e3 : (thl n (T (k + 1))).length * 2 ^ (k + 1) = (2 * (thl n (T (k + 1))).length) * 2 ^ k := by rw [Nat.pow_succ, Nat.mul_comm 2, Nat.mul_assoc, Nat.mul_comm 2]
          rw [e3]
          exact Nat.le_trans (Nat.mul_le_mul_right _ (by omega)) h4
  have hall : (thl n (T 0)).length = n := by
    rw [hT0, thl_len]; unfold thn'; rw [List.filter_eq_self.2 fun _ _ => rfl, List.length_range]
  obtain ⟨K, h1, h2, h3, h4⟩ := go n 0 (by omega) (fun j hj => by rw [show j = 0 by omega, hT0]; exact G.all_sub) (fun j hj => by omega) (by rw [hall]; simp)
  refine ⟨K, ⟨hT0, h1, fun k hk => step k (h1 k (by omega)) (h2 k hk), h3, ?_⟩, h2⟩
  refine Classical.byContradiction fun hh => ?_
  have : 2 ^ 6 ≤ 2 ^ K := Nat.pow_le_pow_right (by omega) (by omega)
  omega

theorem lft_take (p q : Nat → Bool) : ((thl (thl n p).length q).map fun z => ((lat n p z.toNat : Nat) : Int)) = thl n (lft p q) := lft_thl p q n
def lml (n : Nat) (p : Nat → Bool) (l : List Int) : List Int := l.map fun z => ((lat n p z.toNat : Nat) : Int)
theorem lml_succ (n : Nat) (p : Nat → Bool) {l : List Int} {i : Nat} (hi : i < l.length) : lml n p (l.take (i + 1)) = lml n p (l.take i) ++ [((lat n p (l.getD i 0).toNat : Nat) : Int)] := by
  unfold lml
  rw [List.take_succ_eq_append_getElem hi, List.map_append]
  have : l[i] = l.getD i 0 := by simp [List.getD, List.getElem?_eq_getElem hi]
  rw [this]; rfl
theorem lml_len (n : Nat) (p : Nat → Bool) (l : List Int) : (lml n p l).length = l.length := by simp [lml]

set_option maxHeartbeats 4000000 in
theorem composition_ok (h : GT n m n e) : ∃ T K, Cps n (op m n) e T K ∧ FnC Tryd.prog 21 [gp n m] (.tup [.list (ll (cht n T K)), fl (0, 0)]) := by
  have G := h.2.2
  have hb := h.2.1.big
  have hml := h.2.1.len
  have hsq := sq_le hb
  have hbt : ∀ p, bo n p < 2 ^ 64 := fun p => bo_lt64 hb p
  have h1 : ∀ k : Nat, ((k + 1) == 0) = false := fun k => rfl
  obtain ⟨Q, hQ⟩ := Classical.axiomOfChoice (part_greatest h)
  obtain ⟨K, hC, hlong⟩ := cps_ex G hb Q fun p hs h1 => ((hQ p) hs h1).1.lift G hs
  have hTs : ∀ k, itr (fun p => lft p (Q p)) (fun _ => true) (k + 1) = lft (itr (fun p => lft p (Q p)) (fun _ => true) k) (Q (itr (fun p => lft p (Q p)) (fun _ => true) k)) := fun k => rfl
  refine ⟨_, K, hC, ?_⟩
  generalize itr (fun p => lft p (Q p)) (fun _ => true) = T at *
  have h0 := hC.all
  have hshort := hC.short
  refine fnc_of tab_ok Tryd.func21 rfl (by kernel_rfl) (by rw [Tryd.ntmps21]; exact Nat.le_add_left 1 _) ?_; rw [Tryd.ntmps21]
  refine qm ?_
  refine hk_region fun K hK => runs_eval tab_ok ?_
  simp only [ev0, evA, evB, evP, fl, gp, tab, simprocAttr, reduceCtorEq, reduceIte]
  refine fin_run ?_ (hK _ ?_) <;> clear hK <;> clear K
  · (first | exact trivial | omega | (simp only [In64] at *; omega) | (simp [In64] at *; omega) | (simp_all; done) | skip)
  refine qa (qm (qm ?_))
  refine hk_region fun K hK => runs_eval tab_ok ?_
  simp only [ev0, evA, evB, evP, fl, gp, tab, simprocAttr, reduceCtorEq, reduceIte]
  refine fin_stop trivial (runs_call (check_c n m (by omega)) rfl rfl rfl (by simp only [dstOk, Nat.reduceLT]) (by repeat (first | exact trivial | constructor)) (runs_eval tab_ok ?_))
  simp only [ev0, evA, evB, evP, fl, gp, tab, simprocAttr, reduceCtorEq, reduceIte, gf_of h]
  refine fin_run ?_ (hK _ ?_) <;> clear hK <;> clear K
  · (first | exact trivial | omega | (simp only [In64] at *; omega) | (simp [In64] at *; omega) | (simp_all; done) | skip)
  refine qa (qm ?_)
  refine hk_region fun K hK => runs_eval tab_ok ?_
  simp only [ev0, evA, evB, evP, fl, gp, tab, simprocAttr, reduceCtorEq, reduceIte]
  refine fin_run ?_ (hK _ ?_) <;> clear hK <;> clear K
  · (first | exact trivial | omega | (simp only [In64] at *; omega) | (simp [In64] at *; omega) | (simp_all; done) | skip)
  refine qa ?_
  refine hk_cond rfl (fun hC1 => ?_) (fun hC1 => ?_)
  · cases hC1
  · (try simp only [nhs] at hC1)
    refine qh (qa (qm ?_))
    refine hk_region fun K hK => runs_eval tab_ok ?_
    simp only [ev0, evA, evB, evP, fl, gp, tab, simprocAttr, reduceCtorEq, reduceIte]
    refine fin_stop trivial (runs_call (whole_s n m hb) rfl rfl rfl (by simp only [dstOk, Nat.reduceLT]) (by repeat (first | exact trivial | constructor)) (runs_eval tab_ok ?_))
    simp only [ev0, evA, evB, evP, fl, gp, tab, simprocAttr, reduceCtorEq, reduceIte]
    refine fin_stop trivial (runs_call (list_s (bo n fun _ => true) (hbt _)) rfl rfl rfl (by simp only [dstOk, Nat.reduceLT]) (by repeat (first | exact trivial | constructor)) (runs_eval tab_ok ?_))
    simp only [ev0, evA, evB, evP, fl, gp, tab, simprocAttr, reduceCtorEq, reduceIte, stl_bo hb]
    refine fin_run ?_ (hK _ ?_) <;> clear hK <;> clear K
    · (first | exact trivial | omega | (simp only [In64] at *; omega) | (simp [In64] at *; omega) | (simp_all; done) | skip)
    refine qa (qm ?_)
    refine hk_region fun K hK => runs_eval tab_ok ?_
    simp only [ev0, evA, evB, evP, fl, gp, tab, simprocAttr, reduceCtorEq, reduceIte]
    refine fin_run ?_ (hK _ ?_) <;> clear hK <;> clear K
    · (first | exact trivial | omega | (simp only [In64] at *; omega) | (simp [In64] at *; omega) | (simp_all; done) | skip)
    refine qa (qm (ql ?_))
    refine hk_loop (ι := Nat) (fun k => ⟨54, [(1, .ptr 0 0), (3, .ptr 1 0), (5, .p (.list (il (thl n (T k))))), (6, bif k == 0 then .p (.nn [.list (il (thl n (T 0)))]) else .sl 2 0 (cht n T k).length)], bif k == 0 then [.own [.p (.int .i64 n), .p (.list (il m))], .own [.p (.int .i64 0), .p (.int .i64 0)]] else [.own [.p (.int .i64 n), .p (.list (il m))], .own [.p (.int .i64 0), .p (.int .i64 0)], .own (opl (ll (cht n T k)))]⟩) (fun k => k ≤ K) (fun k => K - k) 0 (Nat.zero_le _) [0, 1] (by rw [h0]; simp only [leq, leA, ev0, evA, evB, evP, fl, gp, tab, simprocAttr, reduceCtorEq, reduceIte, beq_self_eq_true, cond_true] <;> first | trivial | (simp; done)) fun k hk => ?_
    have hl1 := thl_le n (T k)
    refine qm (qm ?_)
    by_cases hk0 : (k == 0) = true
    · simp only [hk0, cond_true]
      have hkz : k = 0 := by simpa using hk0
      refine hk_region fun K hK => runs_eval tab_ok ?_
      simp only [ev0, evA, evB, evP, fl, gp, tab, simprocAttr, reduceCtorEq, reduceIte, il_length]
      refine fin_run trivial (hK _ ?_) <;> clear hK <;> clear K
      refine qa ?_
      refine hk_cond rfl (fun hC2 => ?_) (fun hC2 => ?_)
      · (try simp only [nhs] at hC2)
        have hkK : k < K := by
          rcases Nat.lt_or_eq_of_le hk with h | h
          · exact h
          · have := hC.last; rw [← h] at this; omega
        have hs := hC.sub k hk
        obtain ⟨hgrt, hgc⟩ := hQ (T k) hs (by omega)
        have hT1 := hTs k
        have hpk := thl_le (thl n (T k)).length (Q (T k))
        refine qh (qa (ql (qm ?_)))
        refine hk_region fun K hK => runs_eval tab_ok ?_
        simp only [ev0, evA, evB, evP, fl, gp, tab, simprocAttr, reduceCtorEq, reduceIte]
        refine fin_stop trivial (runs_call (part_ok h (T k) hs) rfl rfl rfl (by simp only [dstOk, Nat.reduceLT]) (by repeat (first | exact trivial | constructor)) (runs_eval tab_ok ?_))
        simp only [ev0, evA, evB, evP, fl, gp, tab, simprocAttr, reduceCtorEq, reduceIte]
        refine fin_run ?_ (hK _ ?_) <;> clear hK <;> clear K
        · (first | exact trivial | omega | (simp only [In64] at *; omega) | (simp [In64] at *; omega) | (simp_all; done) | skip)
        refine qa (qm ?_)
        refine hk_region fun K hK => runs_eval tab_ok ?_
        simp only [ev0, evA, evB, evP, fl, gp, tab, simprocAttr, reduceCtorEq, reduceIte]
        refine fin_run trivial (hK _ ?_) <;> clear hK <;> clear K
        refine qa (qm (qm ?_))
        refine hk_own0 9 rfl ?_
        refine hk_region fun K hK => runs_eval tab_ok ?_
        simp only [ev0, evA, evB, evP, fl, gp, tab, simprocAttr, reduceCtorEq, reduceIte, il_length]
        refine fin_stop trivial (runs_call (hgc) rfl rfl rfl (by simp only [dstOk, Nat.reduceLT]) (by repeat (first | exact trivial | constructor)) (runs_eval tab_ok ?_))
        simp only [ev0, evA, evB, evP, fl, gp, tab, simprocAttr, reduceCtorEq, reduceIte, il_length]
        refine fin_run ?_ (hK _ ?_) <;> clear hK <;> clear K
        · (first | exact trivial | omega | (simp only [In64] at *; omega) | (simp [In64] at *; omega) | (simp_all; done) | skip)
        refine qa (ql ?_)
        refine hk_loop (ι := Nat) (fun i => ⟨54, [(1, .ptr 0 0), (3, .ptr 1 0), (5, .p (.list (il (thl n (T k))))), (6, .p (.nn [.list (il (thl n (T 0)))])), (9, .sl 2 0 (lml n (T k) ((thl (thl n (T k)).length (Q (T k))).take i)).length), (33, .p (.list (il (thl (thl n (T k)).length (Q (T k)))))), (34, .p (.int .i64 (thl (thl n (T k)).length (Q (T k))).length)), (35, .p (.int .i64 i))], [.own [.p (.int .i64 n), .p (.list (il m))], .own [.p (.int .i64 0), .p (.int .i64 0)], .own (ol (lml n (T k) ((thl (thl n (T k)).length (Q (T k))).take i)))]⟩) (fun i => i ≤ (thl (thl n (T k)).length (Q (T k))).length) (fun i => (thl (thl n (T k)).length (Q (T k))).length - i) 0 (Nat.zero_le _) [0, 1, 4] (by simp only [leq, leA, ev0, evA, evB, evP, fl, gp, tab, simprocAttr, reduceCtorEq, reduceIte, ll_takeL] <;> first | trivial | simp [lml, ol_nil]) fun i hi => ?_
        refine qm ?_
        refine hk_region fun K hK => runs_eval tab_ok ?_
        simp only [ev0, evA, evB, evP, fl, gp, tab, simprocAttr, reduceCtorEq, reduceIte]
        refine fin_run trivial (hK _ ?_) <;> clear hK <;> clear K
        refine qa (qm ?_)
        refine hk_cond rfl (fun hC3 => ?_) (fun hC3 => ?_)
        · (try simp only [nhs] at hC3)
          have hlt : i < (thl (thl n (T k)).length (Q (T k))).length := by omega
          obtain ⟨x, x1, x2, x3⟩ := thl_get hlt
          obtain ⟨y1, y2, y3, y4⟩ := lat_at x1
          have hll2 := lml_len n (T k) ((thl (thl n (T k)).length (Q (T k))).take i)
          rw [List.length_take] at hll2
          refine qh (qa (qm (ql (qm ?_))))
          refine hk_region fun K hK => runs_eval tab_ok ?_
          simp only [ev0, evA, evB, evP, fl, gp, tab, simprocAttr, reduceCtorEq, reduceIte, il_get hlt, x3]
          refine fin_run ?_ (hK _ ?_) <;> clear hK <;> clear K
          · (first | exact trivial | omega | (simp only [In64] at *; omega) | (simp [In64] at *; omega) | (simp_all; done) | skip)
          refine qa ?_
          refine hk_region fun K hK => runs_eval tab_ok ?_
          simp only [ev0, evA, evB, evP, fl, gp, tab, simprocAttr, reduceCtorEq, reduceIte, il_get x1, y3]
          refine fin_run ?_ (hK _ ?_) <;> clear hK <;> clear K
          · (first | exact trivial | omega | (simp only [In64] at *; omega) | (simp [In64] at *; omega) | (simp_all; done) | skip)
          refine qd (qa ?_)
          refine hk_region fun K hK => runs_eval tab_ok ?_
          simp only [ev0, evA, evB, evP, fl, gp, tab, simprocAttr, reduceCtorEq, reduceIte]
          refine fin_run ?_ (hK _ ?_) <;> clear hK <;> clear K
          · (first | exact trivial | omega | (simp only [In64] at *; omega) | (simp [In64] at *; omega) | (simp_all; done) | skip)
          refine qa ?_
          refine ⟨i + 1, [0, 1, 3], by omega, by omega, ?_⟩
          rw [lml_succ n (T k) hlt, x3]
          simp only [leq, leA, ev0, evA, evB, evP, fl, gp, tab, simprocAttr, reduceCtorEq, reduceIte, ll_takeL] <;> first | trivial | omega
        · (try simp only [nhs] at hC3)
          have hin : i = (thl (thl n (T k)).length (Q (T k))).length := by omega
          have hnew : lml n (T k) ((thl (thl n (T k)).length (Q (T k))).take i) = thl n (T (k + 1)) := by rw [hin, List.take_length, hT1]; exact lft_take _ _
          rw [hnew]
          have hl2 := thl_le n (T (k + 1))
          have hs2 := cht_succ n T k
          refine qj (qc (qc (qf (qa (qm ?_)))))
          refine hk_seal 9 2 rfl rfl ?_
          refine hk_region fun K hK => runs_eval tab_ok ?_
          simp only [ev0, evA, evB, evP, fl, gp, tab, simprocAttr, reduceCtorEq, reduceIte]
          refine fin_run trivial (hK _ ?_) <;> clear hK <;> clear K
          refine qa ?_
          refine hk_region fun K hK => runs_eval tab_ok ?_
          simp only [ev0, evA, evB, evP, fl, gp, tab, simprocAttr, reduceCtorEq, reduceIte, ll_takeL, oll_ok, ll_snoc]
          refine fin_run ?_ (hK _ ?_) <;> clear hK <;> clear K
          · first | (simp [cellOk, PV.one]; done) | (simp [cellOk, PV.one]; omega)
          refine qd (qa ?_)
          refine ⟨k + 1, [0, 1, 3], by omega, by omega, ?_⟩
          have hs0 : ll (cht n T (k + 1)) = [.list (il (thl n (T 0))), .list (il (thl n (T (k + 1))))] := by rw [hs2, hkz]; rfl
          have hl0 := cht_len n T (k + 1)
          simp only [leq, leA, ev0, evA, evB, evP, fl, gp, tab, simprocAttr, reduceCtorEq, reduceIte, h1, cond_false] <;> first | trivial | omega | (rw [hs0, hl0, hkz]; exact ⟨rfl, rfl⟩)
      · (try simp only [nhs] at hC2)
        have hkK : k = K := by
          rcases Nat.lt_or_eq_of_le hk with h | h
          · have := hlong k h; omega
          · exact h
        refine qj (qc (qc (qf (qa (qm ?_)))))
        refine hk_region fun K hK => runs_eval tab_ok ?_
        simp only [ev0, evA, evB, evP, fl, gp, tab, simprocAttr, reduceCtorEq, reduceIte]
        refine fin_run ?_ (hK _ ?_) <;> clear hK <;> clear K
        · (first | exact trivial | omega | (simp only [In64] at *; omega) | (simp [In64] at *; omega) | (simp_all; done) | skip)
        refine qa (qk ?_)
        simp only [Tryd.results21, enA, ev0, evA, evB, evP, fl, gp, tab, simprocAttr, reduceCtorEq, reduceIte]
        all_goals (rw [← hkK, hkz]; rfl)
    · rw [Bool.not_eq_true] at hk0
      simp only [hk0, cond_false]
      have hlen := cht_len n T k
      have hll := ll_length (cht n T k)
      refine hk_region fun K hK => runs_eval tab_ok ?_
      simp only [ev0, evA, evB, evP, fl, gp, tab, simprocAttr, reduceCtorEq, reduceIte, il_length]
      refine fin_run trivial (hK _ ?_) <;> clear hK <;> clear K
      refine qa ?_
      refine hk_cond rfl (fun hC2 => ?_) (fun hC2 => ?_)
      · (try simp only [nhs] at hC2)
        have hkK : k < K := by
          rcases Nat.lt_or_eq_of_le hk with h | h
          · exact h
          · have := hC.last; rw [← h] at this; omega
        have hs := hC.sub k hk
        obtain ⟨hgrt, hgc⟩ := hQ (T k) hs (by omega)
        have hT1 := hTs k
        have hpk := thl_le (thl n (T k)).length (Q (T k))
        refine qh (qa (ql (qm ?_)))
        refine hk_region fun K hK => runs_eval tab_ok ?_
        simp only [ev0, evA, evB, evP, fl, gp, tab, simprocAttr, reduceCtorEq, reduceIte]
        refine fin_stop trivial (runs_call (part_ok h (T k) hs) rfl rfl rfl (by simp only [dstOk, Nat.reduceLT]) (by repeat (first | exact trivial | constructor)) (runs_eval tab_ok ?_))
        simp only [ev0, evA, evB, evP, fl, gp, tab, simprocAttr, reduceCtorEq, reduceIte]
        refine fin_run ?_ (hK _ ?_) <;> clear hK <;> clear K
        · (first | exact trivial | omega | (simp only [In64] at *; omega) | (simp [In64] at *; omega) | (simp_all; done) | skip)
        refine qa (qm ?_)
        refine hk_region fun K hK => runs_eval tab_ok ?_
        simp only [ev0, evA, evB, evP, fl, gp, tab, simprocAttr, reduceCtorEq, reduceIte]
        refine fin_run trivial (hK _ ?_) <;> clear hK <;> clear K
        refine qa (qm (qm ?_))
        refine hk_own0 9 rfl ?_
        refine hk_region fun K hK => runs_eval tab_ok ?_
        simp only [ev0, evA, evB, evP, fl, gp, tab, simprocAttr, reduceCtorEq, reduceIte, il_length]
        refine fin_stop trivial (runs_call (hgc) rfl rfl rfl (by simp only [dstOk, Nat.reduceLT]) (by repeat (first | exact trivial | constructor)) (runs_eval tab_ok ?_))
        simp only [ev0, evA, evB, evP, fl, gp, tab, simprocAttr, reduceCtorEq, reduceIte, il_length]
        refine fin_run ?_ (hK _ ?_) <;> clear hK <;> clear K
        · (first | exact trivial | omega | (simp only [In64] at *; omega) | (simp [In64] at *; omega) | (simp_all; done) | skip)
        refine qa (ql ?_)
        refine hk_loop (ι := Nat) (fun i => ⟨54, [(1, .ptr 0 0), (3, .ptr 1 0), (5, .p (.list (il (thl n (T k))))), (6, .sl 2 0 (cht n T k).length), (9, .sl 3 0 (lml n (T k) ((thl (thl n (T k)).length (Q (T k))).take i)).length), (33, .p (.list (il (thl (thl n (T k)).length (Q (T k)))))), (34, .p (.int .i64 (thl (thl n (T k)).length (Q (T k))).length)), (35, .p (.int .i64 i))], [.own [.p (.int .i64 n), .p (.list (il m))], .own [.p (.int .i64 0), .p (.int .i64 0)], .own (opl (ll (cht n T k))), .own (ol (lml n (T k) ((thl (thl n (T k)).length (Q (T k))).take i)))]⟩) (fun i => i ≤ (thl (thl n (T k)).length (Q (T k))).length) (fun i => (thl (thl n (T k)).length (Q (T k))).length - i) 0 (Nat.zero_le _) [0, 1, 2, 5] (by simp only [leq, leA, ev0, evA, evB, evP, fl, gp, tab, simprocAttr, reduceCtorEq, reduceIte, ll_takeL] <;> first | trivial | simp [lml, ol_nil]) fun i hi => ?_
        refine qm ?_
        refine hk_region fun K hK => runs_eval tab_ok ?_
        simp only [ev0, evA, evB, evP, fl, gp, tab, simprocAttr, reduceCtorEq, reduceIte]
        refine fin_run trivial (hK _ ?_) <;> clear hK <;> clear K
        refine qa (qm ?_)
        refine hk_cond rfl (fun hC3 => ?_) (fun hC3 => ?_)
        · (try simp only [nhs] at hC3)
          have hlt : i < (thl (thl n (T k)).length (Q (T k))).length := by omega
          obtain ⟨x, x1, x2, x3⟩ := thl_get hlt
          obtain ⟨y1, y2, y3, y4⟩ := lat_at x1
          have hll2 := lml_len n (T k) ((thl (thl n (T k)).length (Q (T k))).take i)
          rw [List.length_take] at hll2
          refine qh (qa (qm (ql (qm ?_))))
          refine hk_region fun K hK => runs_eval tab_ok ?_
          simp only [ev0, evA, evB, evP, fl, gp, tab, simprocAttr, reduceCtorEq, reduceIte, il_get hlt, x3]
          refine fin_run ?_ (hK _ ?_) <;> clear hK <;> clear K
          · (first | exact trivial | omega | (simp only [In64] at *; omega) | (simp [In64] at *; omega) | (simp_all; done) | skip)
          refine qa ?_
          refine hk_region fun K hK => runs_eval tab_ok ?_
          simp only [ev0, evA, evB, evP, fl, gp, tab, simprocAttr, reduceCtorEq, reduceIte, il_get x1, y3]
          refine fin_run ?_ (hK _ ?_) <;> clear hK <;> clear K
          · (first | exact trivial | omega | (simp only [In64] at *; omega) | (simp [In64] at *; omega) | (simp_all; done) | skip)
          refine qd (qa ?_)
          refine hk_region fun K hK => runs_eval tab_ok ?_
          simp only [ev0, evA, evB, evP, fl, gp, tab, simprocAttr, reduceCtorEq, reduceIte]
          refine fin_run ?_ (hK _ ?_) <;> clear hK <;> clear K
          · (first | exact trivial | omega | (simp only [In64] at *; omega) | (simp [In64] at *; omega) | (simp_all; done) | skip)
          refine qa ?_
          refine ⟨i + 1, [0, 1, 2, 4], by omega, by omega, ?_⟩
          rw [lml_succ n (T k) hlt, x3]
          simp only [leq, leA, ev0, evA, evB, evP, fl, gp, tab, simprocAttr, reduceCtorEq, reduceIte, ll_takeL] <;> first | trivial | omega
        · (try simp only [nhs] at hC3)
          have hin : i = (thl (thl n (T k)).length (Q (T k))).length := by omega
          have hnew : lml n (T k) ((thl (thl n (T k)).length (Q (T k))).take i) = thl n (T (k + 1)) := by rw [hin, List.take_length, hT1]; exact lft_take _ _
          rw [hnew]
          have hl2 := thl_le n (T (k + 1))
          have hs2 := cht_succ n T k
          refine qj (qc (qc (qf (qa (qm ?_)))))
          refine hk_seal 9 3 rfl rfl ?_
          refine hk_region fun K hK => runs_eval tab_ok ?_
          simp only [ev0, evA, evB, evP, fl, gp, tab, simprocAttr, reduceCtorEq, reduceIte]
          refine fin_run trivial (hK _ ?_) <;> clear hK <;> clear K
          refine qa ?_
          refine hk_region fun K hK => runs_eval tab_ok ?_
          simp only [ev0, evA, evB, evP, fl, gp, tab, simprocAttr, reduceCtorEq, reduceIte, ll_takeL, oll_ok, ll_snoc]
          refine fin_run ?_ (hK _ ?_) <;> clear hK <;> clear K
          · first | (simp [cellOk, PV.one]; done) | (simp [cellOk, PV.one]; omega)
          refine qd (qa ?_)
          refine ⟨k + 1, [0, 1, 4], by omega, by omega, ?_⟩
          rw [hs2]
          simp only [leq, leA, ev0, evA, evB, evP, fl, gp, tab, simprocAttr, reduceCtorEq, reduceIte, h1, cond_false, ll_takeL, ll_snoc, ll_takeS] <;> first | trivial | omega | (simp [ll]; done)
      · (try simp only [nhs] at hC2)
        have hkK : k = K := by
          rcases Nat.lt_or_eq_of_le hk with h | h
          · have := hlong k h; omega
          · exact h
        refine qj (qc (qc (qf (qa (qm ?_)))))
        rw [← ll_length (cht n T k)]
        refine hk_sealp 6 2 (ll_all _) rfl rfl ?_
        refine hk_region fun K hK => runs_eval tab_ok ?_
        simp only [ev0, evA, evB, evP, fl, gp, tab, simprocAttr, reduceCtorEq, reduceIte]
        refine fin_run ?_ (hK _ ?_) <;> clear hK <;> clear K
        · (first | exact trivial | omega | (simp only [In64] at *; omega) | (simp [In64] at *; omega) | (simp_all; done) | skip)
        refine qa (qk ?_)
        simp only [Tryd.results21, enA, ev0, evA, evB, evP, fl, gp, tab, simprocAttr, reduceCtorEq, reduceIte]
        all_goals (rw [← hkK])
end
end Go.Proofs.YtjbfkdaodfdpcaaDoor

/-
  Direct products of subgroups. Conditions: none.
-/
set_option linter.all false
namespace Go.Proofs.YtjbfkdaodfdpcaaDoor

section
variable {n e : Nat} {f : Nat → Nat → Nat} {p q : Nat → Bool}
/-- All things of one commute with all of the other. -/
def Cmm (n : Nat) (f : Nat → Nat → Nat) (p q : Nat → Bool) : Prop := ∀ a b, a < n → b < n → p a = true → q b = true → f a b = f b a
theorem Grp.pr2_mk (G : Grp n f e) {a b : Nat} (ha : a < n) (hb : b < n) (h1 : p a = true) (h2 : q b = true) : pr2 n f e p q (f a b) = true :=
  pr2_iff.2 ⟨a, ha, h1, by rwa [← G.assoc _ _ _ (G.iv_lt ha) ha hb, G.iv_mul ha, G.one_l b hb]⟩
theorem Grp.pr2_un (G : Grp n f e) {x : Nat} (hx : x < n) (h : pr2 n f e p q x = true) : ∃ a b, a < n ∧ b < n ∧ p a = true ∧ q b = true ∧ x = f a b := by
  obtain ⟨a, a1, a2, a3⟩ := pr2_iff.1 h
  refine ⟨a, _, a1, G.cl _ _ (G.iv_lt a1) hx, a2, a3, ?_⟩
  rw [← G.assoc _ _ _ a1 (G.iv_lt a1) hx, G.mul_iv a1, G.one_l x hx]
end
end Go.Proofs.YtjbfkdaodfdpcaaDoor

/-
  Plain law, FROBENIUS' THEOREM: what commutes with y, taken by y's powers, is a group on the least things of cosets. Conditions: none.
-/
set_option linter.all false
namespace Go.Proofs.YtjbfkdaodfdpcaaDoor
open Go.Pv

section
variable {n : Nat} {f : Nat → Nat → Nat} {e : Nat}

/-- The same but for a power of y. -/
def sm (n : Nat) (f : Nat → Nat → Nat) (e y x z : Nat) : Prop := ∃ j, j < ord n f e y ∧ z = f x (pw f e y j)
instance (n : Nat) (f : Nat → Nat → Nat) (e y x z : Nat) : Decidable (sm n f e y x z) := by unfold sm; infer_instance

/-- The least of a coset. -/
def rp (n : Nat) (f : Nat → Nat → Nat) (e y x : Nat) : Nat := (fst' (fun z => decide (sm n f e y x z)) n).getD 0

/-- The quotient's things. -/
def quo (n : Nat) (f : Nat → Nat → Nat) (e y : Nat) : List Nat := mem n fun x => cen f y x && decide (rp n f e y x = x)
end
end Go.Proofs.YtjbfkdaodfdpcaaDoor

/-
  Plain law, FROBENIUS' THEOREM: how many things the quotient of a centraliser has, and how many solutions. Conditions: none.
-/
set_option linter.all false
namespace Go.Proofs.YtjbfkdaodfdpcaaDoor
open Go.Pv

section
variable {n : Nat} {f : Nat → Nat → Nat} {e : Nat}

end
end Go.Proofs.YtjbfkdaodfdpcaaDoor

/-
  Plain law, FROBENIUS' THEOREM: of a divisor m of n so many things are, m times, the one, as a multiple of m. Conditions: none.
-/
set_option linter.all false
namespace Go.Proofs.YtjbfkdaodfdpcaaDoor
open Go.Pv

def sol (n : Nat) (f : Nat → Nat → Nat) (e s : Nat) : Nat := ((List.range n).filter fun x => decide (pw f e x s = e)).length

section
variable {n : Nat} {f : Nat → Nat → Nat} {e : Nat}

/-- Conjugated. -/
def cj (n : Nat) (f : Nat → Nat → Nat) (e g x : Nat) : Nat := f (f g x) (iv n f e g)
/-! ### Primes -/

theorem prime_cop {p s : Nat} (hp : ∀ d, d ∣ p → d = 1 ∨ d = p) (h : ¬ p ∣ s) : Nat.gcd p s = 1 := by
  rcases hp _ (Nat.gcd_dvd_left p s) with h1 | h1
  · exact h1
  · exact absurd (h1 ▸ Nat.gcd_dvd_right p s) h
theorem dvd_ppow {p : Nat} (hp2 : 2 ≤ p) (hp : ∀ d, d ∣ p → d = 1 ∨ d = p) : ∀ {k d : Nat}, d ∣ p ^ (k + 1) → d = p ^ (k + 1) ∨ d ∣ p ^ k
  | k, d, h => by
    by_cases hpd : p ∣ d
    · obtain ⟨c, rfl⟩ := hpd
      rw [Nat.pow_succ, Nat.mul_comm _ p] at h
      have h1 := Nat.dvd_of_mul_dvd_mul_left (by omega) h
      match k, h1 with
      | 0, h1 =>
        have : c = 1 := Nat.dvd_one.1 (by simpa using h1)
        left; simp [this]
      | k + 1, h1 =>
        rcases dvd_ppow hp2 hp h1 with h2 | h2
        · left; rw [h2, Nat.pow_succ p (k + 1), Nat.mul_comm]
        · right; rw [Nat.pow_succ, Nat.mul_comm _ p]; exact Nat.mul_dvd_mul (Nat.dvd_refl p) h2
    · right
      have hc : Nat.Coprime d p := Nat.Coprime.symm (prime_cop hp hpd)
      rw [Nat.pow_succ] at h
      exact Nat.Coprime.dvd_of_dvd_mul_right hc h

end
end Go.Proofs.YtjbfkdaodfdpcaaDoor

/-
  Plain law, SYLOW'S THEOREMS: subgroups of a power of a prime of things. Conditions: none.
-/
set_option linter.all false
namespace Go.Proofs.YtjbfkdaodfdpcaaDoor
open Go.Pv

section
variable {n : Nat} {f : Nat → Nat → Nat} {e : Nat} {p q s : Nat → Bool} {P : Nat}

theorem isPr.pow_div (hP : isPr P) : ∀ {k d : Nat}, d ∣ P ^ k → ∃ i, i ≤ k ∧ d = P ^ i
  | 0, d, h => ⟨0, Nat.le_refl _, by simpa using h⟩
  | k + 1, d, h => by
    rcases dvd_ppow hP.1 (fun d hd => hP.div hd) h with h | h
    · exact ⟨k + 1, Nat.le_refl _, h⟩
    · obtain ⟨i, hi, h⟩ := hP.pow_div h
      exact ⟨i, by omega, h⟩
theorem isPr.pos (hP : isPr P) (k : Nat) : 0 < P ^ k := Nat.pow_pos (by have := hP.1; omega)
theorem isPr.le_of_dvd (hP : isPr P) {i j : Nat} (h : P ^ i ∣ P ^ j) : i ≤ j := by
  have h1 := Nat.le_of_dvd (hP.pos j) h
  exact (Nat.pow_le_pow_iff_right hP.1).1 h1
theorem isPr.mul (hP : isPr P) {a b : Nat} (h : P ∣ a * b) : P ∣ a ∨ P ∣ b := by
  by_cases ha : P ∣ a
  · exact .inl ha
  · exact .inr (Nat.Coprime.dvd_of_dvd_mul_left (hP.cop ha) h)

/-- What a thing's powers are. -/
def cyp (n : Nat) (f : Nat → Nat → Nat) (e b x : Nat) : Bool := decide (∃ i, i < n ∧ pw f e b i = x)
theorem Grp.nzr_cj (G : Grp n f e) (hp : Sub n f e p) {a : Nat} (ha : a < n) : nzr n f e p a = true ↔ ∀ x, x < n → (p (cjr n f e x a) = true ↔ p x = true) := by
  rw [nzr_iff]
  constructor
  · intro h x hx
    have h1 := h (cjr n f e x a) (G.cjr_lt hx ha)
    rw [G.shf_back ha (G.cjr_lt hx ha), G.cjr_iv hx ha] at h1
    rw [h1]
  · intro h y hy
    rw [G.shf_back ha hy, Bool.eq_iff_iff]
    have h1 := h (cjr n f e y (iv n f e a)) (G.cjr_lt hy (G.iv_lt ha))
    rw [G.cjr_vi hy ha] at h1
    exact h1.symm
/-- What lets a set stay, by one way of the two. -/
theorem Grp.nzr_of (G : Grp n f e) (hp : Sub n f e p) {a : Nat} (ha : a < n) (h : ∀ y, y < n → shf n f e p a y = true → p y = true) : nzr n f e p a = true := by
  have h1 := G.shf_len (p := p) ha
  refine nzr_iff.2 fun y hy => ?_
  by_cases hy2 : shf n f e p a y = p y
  · exact hy2
  · exfalso
    have := mem_lt (n := n) h (fun hh => hy2 (hh y hy))
    omega

/-- A subgroup, and a thing that lets it stay: their products are one. -/
theorem Grp.nz_prod (G : Grp n f e) (hp : Sub n f e p) (hq : Sub n f e q) (h : ∀ a, a < n → q a = true → nzr n f e p a = true) : Sub n f e (pr2 n f e p q) :=
  sub_of G (pr2_iff.2 ⟨e, G.el, hp.one, by rw [G.iv_one, G.one_l e G.el]; exact hq.one⟩) fun x y hx hy h1 h2 => by
    obtain ⟨a, ha, pa, qb⟩ := pr2_iff.1 h1
    obtain ⟨c, hc, pc, qd⟩ := pr2_iff.1 h2
    have ia := G.iv_lt ha
    have ic := G.iv_lt hc
    have hb := G.cl _ _ ia hx
    have ib := G.iv_lt hb
    have hd := G.cl _ _ ic hy
    -- x = a b, y = c d; x y = a (b c b^-1) (b d)
    have hcb := G.cjr_lt hc ib
    have hk : p (cjr n f e c (iv n f e (f (iv n f e a) x))) = true := ((G.nzr_cj hp ib).1 (h _ ib (hq.inv _ hb qb)) c hc).2 pc
    have hac := G.cl _ _ ha hcb
    refine pr2_iff.2 ⟨f a (cjr n f e c (iv n f e (f (iv n f e a) x))), hac, hp.mul _ _ ha hcb pa hk, ?_⟩
    have e1 : f (iv n f e (f a (cjr n f e c (iv n f e (f (iv n f e a) x))))) (f x y) = f (f (iv n f e a) x) (f (iv n f e c) y) := by
      have hbc := G.cl _ _ hb hc
      have e2 : cjr n f e c (iv n f e (f (iv n f e a) x)) = f (f (f (iv n f e a) x) c) (iv n f e (f (iv n f e a) x)) := by
        unfold cjr; rw [G.iv_iv hb]
      have e3 : f x y = f (f a (cjr n f e c (iv n f e (f (iv n f e a) x)))) (f (f (iv n f e a) x) (f (iv n f e c) y)) := by
        rw [G.assoc a _ _ ha hcb (G.cl _ _ hb hd), e2, G.assoc _ _ _ hbc ib (G.cl _ _ hb hd), ← G.assoc (iv n f e (f (iv n f e a) x)) _ _ ib hb hd, G.iv_mul hb, G.one_l _ hd, G.assoc _ _ _ hb hc hd, ← G.assoc c _ y hc ic hy, G.mul_iv hc, G.one_l y hy, ← G.assoc a _ y ha hb hy, ← G.assoc a _ x ha ia hx, G.mul_iv ha, G.one_l x hx]
      rw [e3, ← G.assoc _ _ _ (G.iv_lt hac) hac (G.cl _ _ hb hd), G.iv_mul hac, G.one_l _ (G.cl _ _ hb hd)]
    rw [e1]
    exact hq.mul _ _ hb hd qb qd

/-- THE COUNT: of a subgroup of a power of P things, and another: things that bring not the first into the second. -/
theorem Grp.syl_count (G : Grp n f e) (hP : isPr P) (hq : Sub n f e q) {i : Nat} (hi : (mem n q).length = P ^ i) (hs : Sub n f e s) :
    ∃ c, n = (mem n fun a => decide (∀ y, y < n → shf n f e q a y = true → s y = true)).length + P * (mem n s).length * c := by
  obtain ⟨K, hK⟩ : ∃ K : Nat → Bool, K = fun a => decide (∀ y, y < n → shf n f e q a y = true → s y = true) := ⟨_, rfl⟩
  have hKi : ∀ a, K a = true ↔ ∀ y, y < n → shf n f e q a y = true → s y = true := fun a => by rw [hK]; exact decide_eq_true_iff
  have E := G.dco_eqv hq hs
  have inv : ∀ x y, x < n → y < n → dco n f q s x y = true → K x = true → K y = true := by
    intro x y hx hy h hk
    obtain ⟨u, v, hu, hv, qu, sv, rfl⟩ := dco_iff.1 h
    refine (hKi _).2 fun z hz hzs => ?_
    obtain ⟨w, hw, qw, rfl⟩ := shf_iff.1 hzs
    have hux := G.cl _ _ hu hx
    rw [← G.cjr_cjr hw hux hv, ← G.cjr_cjr hw hu hx]
    have hwu := G.cjr_lt hw hu
    have h1 : q (cjr n f e w u) = true := hq.mul _ _ (G.cl _ _ (G.iv_lt hu) hw) hu (hq.mul _ _ (G.iv_lt hu) hw (hq.inv _ hu qu) qw) qu
    have h2 : s (cjr n f e (cjr n f e w u) x) = true := (hKi x).1 hk _ (G.cjr_lt hwu hx) (shf_iff.2 ⟨_, hwu, h1, rfl⟩)
    have hwx := G.cjr_lt hwu hx
    exact hs.mul _ _ (G.cl _ _ (G.iv_lt hv) hwx) hv (hs.mul _ _ (G.iv_lt hv) hwx (hs.inv _ hv sv) h2) sv
  have inv2 : ∀ x y, x < n → y < n → dco n f q s x y = true → (!K x) = true → (!K y) = true := by
    intro x y hx hy h hk
    cases hky : K y with
    | false => rfl
    | true => rw [inv y x hy hx (E.symm x y hx hy h) hky] at hk; cases hk
  have hsum := E.part (K := fun a => !K a) inv2
  have hdv : ∀ l : List Nat, (∀ x ∈ l, P * (mem n s).length ∣ (mem n (dco n f q s x)).length) → P * (mem n s).length ∣ (l.map fun x => (mem n (dco n f q s x)).length).sum := by
    intro l
    induction l with
    | nil => intro _; exact ⟨0, rfl⟩
    | cons x r ih =>
      intro h
      rw [List.map_cons, List.sum_cons]
      exact Nat.dvd_add (h x (by simp)) (ih fun y hy => h y (by simp [hy]))
  have hd := hdv (mem n fun x => lead (dco n f q s) x && !K x) (fun x hx => by
    obtain ⟨x1, x2⟩ := mem_mem.1 hx
    rw [Bool.and_eq_true] at x2
    have hc := G.dco_count hq hs x1
    have hsh := G.shf_sub hq x1
    have hm := hsh.and hs
    have hlen := G.shf_len (p := q) x1
    obtain ⟨i2, hi2, hmi⟩ := hP.pow_div (k := i) (d := (mem n fun y => shf n f e q x y && s y).length) (by
      rw [← hi, ← hlen]
      exact hm.dvd G fun a b ha hb h1 h2 => hsh.mul a b ha hb h1 (by rw [Bool.and_eq_true] at h2; exact h2.1))
    have hne : i2 ≠ i := fun h => by
      have hk : K x = true := (hKi x).2 fun y hy hys => by
        cases hsy : s y with
        | true => rfl
        | false =>
          exfalso
          have := mem_lt (n := n) (p := shf n f e q x) (q := fun y => shf n f e q x y && s y) (fun a _ h => by rw [Bool.and_eq_true] at h; exact h.1) (fun hh => by
            have := hh y hy
            rw [hys, hsy] at this; cases this)
          rw [hlen, hi, hmi, h] at this
          omega
      rw [hk] at x2; cases x2.2
    rw [hmi, hi] at hc
    obtain ⟨t, ht⟩ : ∃ t, i = i2 + 1 + t := ⟨i - i2 - 1, by omega⟩
    refine ⟨P ^ t, Nat.eq_of_mul_eq_mul_right (hP.pos i2) ?_⟩
    rw [hc, ht, Nat.pow_add, Nat.pow_succ]
    ac_rfl)
  rw [hsum] at hd
  obtain ⟨c, hc⟩ := hd
  refine ⟨c, ?_⟩
  have hsp : (mem n K).length + (mem n fun a => !K a).length = n := by
    have h := List.length_eq_countP_add_countP K (l := List.range n)
    rw [List.length_range, List.countP_eq_length_filter, List.countP_eq_length_filter] at h
    unfold mem
    rw [show (List.filter (fun a => !K a) (List.range n)) = List.filter (fun a => decide ¬K a = true) (List.range n) from List.filter_congr fun a _ => by cases K a <;> rfl]
    exact h.symm
  rw [hK] at hsp hc
  omega

/-- Some of Sylow's subgroups. -/
structure Syl (n : Nat) (f : Nat → Nat → Nat) (e P : Nat) (s : Nat → Bool) (j t : Nat) : Prop where
  sub : Sub n f e s
  len : (mem n s).length = P ^ j
  num : n = P ^ j * t
  non : ¬ P ∣ t

/-- ALL ARE IN ONE, CONJUGATED. -/
theorem Syl.holds {j t : Nat} (hS : Syl n f e P s j t) (G : Grp n f e) (hP : isPr P) (hq : Sub n f e q) {i : Nat} (hi : (mem n q).length = P ^ i) : ∃ a, a < n ∧ ∀ y, y < n → q y = true → shf n f e s a y = true := by
  obtain ⟨c, hc⟩ := G.syl_count hP hq hi hS.sub
  by_cases h0 : (mem n fun a => decide (∀ y, y < n → shf n f e q a y = true → s y = true)) = []
  · exfalso
    rw [h0, hS.len] at hc
    have h1 := hS.num
    rw [List.length_nil, Nat.zero_add] at hc
    have : P ^ j * t = P ^ j * (P * c) := by rw [← h1, ← show P * P ^ j * c = P ^ j * (P * c) by ac_rfl]; exact hc
    have := Nat.eq_of_mul_eq_mul_left (hP.pos j) this
    exact hS.non ⟨c, this⟩
  · obtain ⟨a, ha⟩ := List.exists_mem_of_ne_nil _ h0
    obtain ⟨a1, a2⟩ := mem_mem.1 ha
    rw [decide_eq_true_eq] at a2
    refine ⟨iv n f e a, G.iv_lt a1, fun y hy hqy => ?_⟩
    rw [G.shf_back (G.iv_lt a1) hy, G.iv_iv a1]
    exact a2 _ (G.cjr_lt hy a1) (shf_iff.2 ⟨y, hy, hqy, rfl⟩)

theorem Syl.shf {j t : Nat} (hS : Syl n f e P s j t) (G : Grp n f e) {a : Nat} (ha : a < n) : Syl n f e P (shf n f e s a) j t :=
  ⟨G.shf_sub hS.sub ha, by rw [G.shf_len ha]; exact hS.len, hS.num, hS.non⟩

end
end Go.Proofs.YtjbfkdaodfdpcaaDoor

/-
  Plain law: how one of Sylow's subgroups is grown. Conditions: none.
-/
set_option linter.all false
namespace Go.Proofs.YtjbfkdaodfdpcaaDoor
open Go.Pv

/-- What is left of a number, when P is divided out. -/
noncomputable def npt (P o : Nat) : Nat := @dite Nat (∃ s k, o = P ^ k * s ∧ ¬ P ∣ s) (Classical.propDecidable _) (fun h => Classical.choose h) (fun _ => 0)
noncomputable def gn (n : Nat) (f : Nat → Nat → Nat) (e : Nat) (p : Nat → Bool) : Nat → Bool := Classical.choose (gen_ex n f e p)
section
variable {n : Nat} {f : Nat → Nat → Nat} {e : Nat} {p q s : Nat → Bool} {P : Nat}

noncomputable def swb (n : Nat) (f : Nat → Nat → Nat) (e P a : Nat) : Nat := pw f e a (npt P (ord n f e a))
/-- Something that lets the subgroup stay, whose part of a power of P is not in it. -/
noncomputable def swc (n : Nat) (f : Nat → Nat → Nat) (e P : Nat) (s : Nat → Bool) (a : Nat) : Bool := !(s a || !(nzr n f e s a)) && !(s (swb n f e P a))
noncomputable def sws (n : Nat) (f : Nat → Nat → Nat) (e P : Nat) (s : Nat → Bool) : Nat → Bool :=
  match fst' (swc n f e P s) n with
  | some a => gn n f e fun x => s x || decide (x = swb n f e P a)
  | none => s
noncomputable def swq (n : Nat) (f : Nat → Nat → Nat) (e P : Nat) : Nat → Nat → Bool
  | 0 => onp e
  | k + 1 => sws n f e P (swq n f e P k)

end
end Go.Proofs.YtjbfkdaodfdpcaaDoor

/-
  Plain: chains of subgroups whose steps are as small as can be (Jordan and Hoelder). Conditions: none.
-/
set_option linter.all false
namespace Go.Proofs.YtjbfkdaodfdpcaaDoor

section
variable {n e : Nat} {f : Nat → Nat → Nat} {p q a b : Nat → Bool}
theorem Mxn.nz (G : Grp n f e) (h : Mxn n f e p q) {c : Nat} (hc : c < n) (pc : p c = true) : nzr n f e q c = true :=
  G.nzr_of h.sub hc fun y hy hh => by
    obtain ⟨x, x1, x2, rfl⟩ := shf_iff.1 hh
    exact h.nml c x hc x1 pc x2
theorem Mxn.congr_l {p' : Nat → Bool} (h : Mxn n f e p q) (hp : ∀ x, x < n → p' x = p x) : Mxn n f e p' q where
  sub := h.sub
  le x hx hq := by rw [hp x hx]; exact h.le x hx hq
  nml c x hc hx pc := h.nml c x hc hx (by rw [← hp c hc]; exact pc)
  ne := by obtain ⟨x, x1, x2, x3⟩ := h.ne; exact ⟨x, x1, by rw [hp x x1]; exact x2, x3⟩
  mx x hx px qx t ht h1 h2 y hy py := h.mx x hx (by rwa [← hp x hx]) qx t ht h1 (fun c hc pc => h2 c hc (by rwa [hp c hc])) y hy (by rwa [← hp y hy])
theorem Mxn.congr_r {q' : Nat → Bool} (G : Grp n f e) (h : Mxn n f e p q) (hs : Sub n f e q') (hq : ∀ x, x < n → q' x = q x) : Mxn n f e p q' where
  sub := hs
  le x hx hh := h.le x hx (by rwa [← hq x hx])
  nml c x hc hx pc hh := by
    rw [hq _ (G.cjr_lt hx hc)]
    exact h.nml c x hc hx pc (by rwa [← hq x hx])
  ne := by obtain ⟨x, x1, x2, x3⟩ := h.ne; exact ⟨x, x1, x2, by rw [hq x x1]; exact x3⟩
  mx x hx px qx t ht h1 h2 y hy py := h.mx x hx px (by rwa [← hq x hx]) t ht (fun y hy hh => h1 y hy (by rwa [hq y hy])) h2 y hy py

theorem Mxn.top (G : Grp n f e) (ha : Mxn n f e p a) (hb : Mxn n f e p b) (hne : ¬ ∀ x, x < n → a x = b x) {y : Nat} (hy : y < n) (py : p y = true) : pr2 n f e a b y = true := by
  by_cases hsub : ∀ x, x < n → b x = true → a x = true
  · exfalso
    have h1 : ∃ x, x < n ∧ a x = true ∧ b x = false := by
      refine Classical.byContradiction fun hh => hne fun x hx => ?_
      cases hbx : b x with
      | true => exact hsub x hx hbx
      | false =>
        cases hax : a x with
        | false => rfl
        | true => exact absurd ⟨x, hx, hax, hbx⟩ hh
    obtain ⟨x, x1, x2, x3⟩ := h1
    obtain ⟨z, z1, z2, z3⟩ := ha.ne
    have := hb.mx x x1 (ha.le x x1 x2) x3 a ha.sub hsub (fun c hc pc => ha.nml c x hc x1 pc x2) z z1 z2
    rw [this] at z3; cases z3
  · have h1 : ∃ x, x < n ∧ b x = true ∧ a x = false := by
      refine Classical.byContradiction fun hh => hsub fun x hx hbx => ?_
      cases hax : a x with
      | true => rfl
      | false => exact absurd ⟨x, hx, hbx, hax⟩ hh
    obtain ⟨x, x1, x2, x3⟩ := h1
    refine ha.mx x x1 (hb.le x x1 x2) x3 _ (G.nz_prod ha.sub hb.sub fun c hc bc => ha.nz G hc (hb.le c hc bc)) (fun z hz az => ?_) (fun c hc pc => ?_) y hy py
    · have := G.pr2_mk (p := a) (q := b) hz G.el az hb.sub.one; rwa [G.one_r z hz] at this
    · have hl := G.cjr_lt x1 hc
      have := G.pr2_mk (p := a) (q := b) G.el hl ha.sub.one (hb.nml c x hc x1 pc x2); rwa [G.one_l _ hl] at this

theorem Mxn.count (G : Grp n f e) (hp : Sub n f e p) (ha : Mxn n f e p a) (hb : Mxn n f e p b) (hne : ¬ ∀ x, x < n → a x = b x) : (mem n p).length * (mem n fun x => a x && b x).length = (mem n a).length * (mem n b).length := by
  rw [← G.prod_count ha.sub hb.sub]
  congr 2
  refine mem_congr fun y hy => ?_
  rw [Bool.eq_iff_iff]
  refine ⟨fun py => ha.top G hb hne hy py, fun h => ?_⟩
  obtain ⟨u, v, u1, v1, u2, v2, rfl⟩ := G.pr2_un hy h
  exact hp.mul _ _ u1 v1 (ha.le u u1 u2) (hb.le v v1 v2)

theorem Mxn.meet (G : Grp n f e) (hp : Sub n f e p) (ha : Mxn n f e p a) (hb : Mxn n f e p b) (hne : ¬ ∀ x, x < n → a x = b x) : Mxn n f e a fun x => a x && b x where
  sub := ha.sub.and hb.sub
  le x hx h := by rw [Bool.and_eq_true] at h; exact h.1
  nml c x hc hx ac h := by
    rw [Bool.and_eq_true] at h ⊢
    exact ⟨ha.nml c x hc hx (ha.le c hc ac) h.1, hb.nml c x hc hx (ha.le c hc ac) h.2⟩
  ne := by
    refine Classical.byContradiction fun hh => ?_
    have hab : ∀ x, x < n → a x = true → b x = true := fun x hx ax => by
      cases hbx : b x with
      | true => rfl
      | false => exact absurd ⟨x, hx, ax, by rw [hbx, Bool.and_false]⟩ hh
    obtain ⟨z, z1, z2, z3⟩ := hb.ne
    have h1 := ha.top G hb hne z1 z2
    obtain ⟨u, v, u1, v1, u2, v2, rfl⟩ := G.pr2_un z1 h1
    rw [hb.sub.mul _ _ u1 v1 (hab u u1 u2) v2] at z3
    cases z3
  mx x hx ax hdx t ht h1 h2 y hy ay := by
    have bx : b x = false := by rw [ax, Bool.true_and] at hdx; exact hdx
    have hs := ht.and ha.sub
    have hpr : Sub n f e (pr2 n f e b fun x => t x && a x) := G.nz_prod hb.sub hs fun c hc tc => by
      rw [Bool.and_eq_true] at tc
      exact hb.nz G hc (ha.le c hc tc.2)
    have hall := hb.mx x hx (ha.le x hx ax) bx _ hpr (fun z hz bz => by
      have := G.pr2_mk (p := b) (q := fun x => t x && a x) hz G.el bz hs.one; rwa [G.one_r z hz] at this) (fun c hc pc => ?_) y hy (ha.le y hy ay)
    · obtain ⟨w, v, w1, v1, w2, v2, rfl⟩ := G.pr2_un hy hall
      rw [Bool.and_eq_true] at v2
      have iv := G.iv_lt v1
      have h3 : a w = true := by
        have := ha.sub.mul _ _ hy iv ay (ha.sub.inv v v1 v2.2)
        rwa [G.assoc _ _ _ w1 v1 iv, G.mul_iv v1, G.one_r w w1] at this
      exact ht.mul _ _ w1 v1 (h1 w w1 (by rw [h3, w2]; rfl)) v2.1
    · obtain ⟨u, v, u1, v1, u2, v2, rfl⟩ := G.pr2_un hc (ha.top G hb hne hc pc)
      have hyl := G.cjr_lt hx u1
      have ty := h2 u u1 u2
      have ayy := ha.nml u x u1 hx (ha.le u u1 u2) ax
      have iyv := G.iv_lt v1
      have iyy := G.iv_lt hyl
      have hcv := G.cjr_lt v1 iyy
      have e1 : cjr n f e x (f u v) = f (f (iv n f e v) (cjr n f e v (iv n f e (cjr n f e x u)))) (cjr n f e x u) := by
        rw [← G.cjr_cjr hx u1 v1]
        show f (f (iv n f e v) (cjr n f e x u)) v = _
        have : cjr n f e v (iv n f e (cjr n f e x u)) = f (f (cjr n f e x u) v) (iv n f e (cjr n f e x u)) := by
          show f (f (iv n f e (iv n f e (cjr n f e x u))) v) (iv n f e (cjr n f e x u)) = _
          rw [G.iv_iv hyl]
        rw [this, G.assoc _ _ _ iyv (G.cl _ _ (G.cl _ _ hyl v1) iyy) hyl, G.assoc _ _ _ (G.cl _ _ hyl v1) iyy hyl, G.iv_mul hyl, G.one_r _ (G.cl _ _ hyl v1), G.assoc _ _ _ iyv hyl v1]
      rw [e1]
      refine G.pr2_mk (G.cl _ _ iyv hcv) hyl (hb.sub.mul _ _ iyv hcv (hb.sub.inv v v1 v2) ?_) (by rw [ty, ayy]; rfl)
      exact hb.nml _ v iyy v1 (hp.inv _ hyl (ha.le _ hyl ayy)) v2

/-- A chain from a subgroup down to the one. -/
def Chn (n : Nat) (f : Nat → Nat → Nat) (e : Nat) : (Nat → Bool) → List (Nat → Bool) → Prop
  | p, [] => ∀ x, x < n → p x = true → x = e
  | p, q :: l => Mxn n f e p q ∧ Chn n f e q l
def idx (n : Nat) : (Nat → Bool) → List (Nat → Bool) → List Nat
  | _, [] => []
  | p, q :: l => (mem n p).length / (mem n q).length :: idx n q l
theorem Chn.congr {p' : Nat → Bool} (hp : ∀ x, x < n → p' x = p x) : ∀ {l : List (Nat → Bool)}, Chn n f e p l → Chn n f e p' l ∧ idx n p' l = idx n p l
  | [], h => ⟨fun x hx hh => h x hx (by rwa [← hp x hx]), rfl⟩
  | q :: l, h => ⟨⟨h.1.congr_l hp, h.2⟩, by show _ / _ :: _ = _ / _ :: _; rw [mem_congr hp]⟩
theorem Mxn.le_len (G : Grp n f e) (hp : Sub n f e p) (h : Mxn n f e p q) : (mem n p).length / (mem n q).length * (mem n q).length = (mem n p).length :=
  Nat.div_mul_cancel (h.sub.dvd G fun x y hx hy h1 h2 => hp.mul _ _ hx hy h1 (h.le y hy h2))
theorem Chn.prod (G : Grp n f e) : ∀ {l : List (Nat → Bool)} {p : Nat → Bool}, Sub n f e p → Chn n f e p l → (idx n p l).foldl (· * ·) 1 = (mem n p).length := by
  have key : ∀ (l : List (Nat → Bool)) (p : Nat → Bool) (c : Nat), Sub n f e p → Chn n f e p l → (idx n p l).foldl (· * ·) c = c * (mem n p).length := by
    intro l
    induction l with
    | nil =>
      intro p c hp h
      show c = _
      rw [mem_one G.el fun x hx => ⟨h x hx, fun hh => by rw [hh]; exact hp.one⟩, Nat.mul_one]
    | cons q l ih =>
      intro p c hp h
      show (idx n q l).foldl _ (c * _) = _
      rw [ih q _ h.1.sub h.2, Nat.mul_assoc, h.1.le_len G hp]
  intro l p hp h
  rw [key l p 1 hp h, Nat.one_mul]

/-- A step that is as small as can be. -/
theorem mxn_ex (G : Grp n f e) (hp : Sub n f e p) (hne : ∃ x, x < n ∧ p x = true ∧ x ≠ e) : ∃ q, Mxn n f e p q := by
  let S : (Nat → Bool) → Prop := fun q => Sub n f e q ∧ (∀ x, x < n → q x = true → p x = true) ∧ (∀ c x, c < n → x < n → p c = true → q x = true → q (cjr n f e x c) = true) ∧ ∃ x, x < n ∧ p x = true ∧ q x = false
  have h0 : S (onp e) := by
    obtain ⟨x, x1, x2, x3⟩ := hne
    refine ⟨G.onp_sub, fun x hx h => by rw [onp_iff.1 h]; exact hp.one, fun c x hc hx _ h => by rw [onp_iff.1 h, G.cjr_one hc]; exact onp_iff.2 rfl, x, x1, x2, ?_⟩
    cases hh : onp e x with
    | false => rfl
    | true => exact absurd (onp_iff.1 hh) x3
  -- the greatest of them
  have hbound : ∀ q, S q → (mem n q).length ≤ n := fun q _ => Nat.le_trans (List.length_filter_le _ _) (by rw [List.length_range]; exact Nat.le_refl _)
  have hmax : ∃ q, S q ∧ ∀ t, S t → (mem n t).length ≤ (mem n q).length := by
    have key : ∀ k, (∃ q, S q ∧ n - (mem n q).length ≤ k) → ∃ q, S q ∧ ∀ t, S t → (mem n t).length ≤ (mem n q).length := by
      intro k
      induction k with
      | zero => rintro ⟨q, hq, hk⟩; exact ⟨q, hq, fun t ht => by have := hbound t ht; have := hbound q hq; omega⟩
      | succ k ih =>
        rintro ⟨q, hq, hk⟩
        by_cases hb : ∃ t, S t ∧ (mem n q).length < (mem n t).length
        · obtain ⟨t, ht, hlt⟩ := hb
          exact ih ⟨t, ht, by have := hbound t ht; omega⟩
        · exact ⟨q, hq, fun t ht => Nat.le_of_not_lt fun hlt => hb ⟨t, ht, hlt⟩⟩
    exact key _ ⟨_, h0, Nat.le_refl _⟩
  obtain ⟨q, ⟨q1, q2, q3, q4⟩, hm⟩ := hmax
  refine ⟨q, q1, q2, q3, q4, fun x hx px qx t ht h1 h2 => ?_⟩
  -- what q and the conjugated x make
  let P : Nat → Bool := fun z => q z || decide (∃ c, c < n ∧ p c = true ∧ cjr n f e x c = z)
  obtain ⟨u, hu⟩ := gen_ex n f e P
  have us := gen_sub G hu
  have hP : ∀ z, z < n → P z = true → q z = true ∨ ∃ c, c < n ∧ p c = true ∧ cjr n f e x c = z := fun z hz h => by
    rwa [Bool.or_eq_true, decide_eq_true_eq] at h
  have hqu : ∀ z, z < n → q z = true → u z = true := fun z hz h => (hu z hz).2 (Gen.mem G hz (by show (_ || _) = true; rw [h]; rfl))
  have hxu : u x = true := (hu x hx).2 (Gen.mem G hx (by
    show (_ || _) = true
    rw [Bool.or_eq_true, decide_eq_true_eq]
    exact .inr ⟨e, G.el, hp.one, G.cjr_e hx⟩))
  have hup : ∀ z, z < n → u z = true → p z = true := fun z hz h => ((hu z hz).1 h).sub G hp fun w hw h => by
    rcases hP w hw h with h | ⟨c, c1, c2, rfl⟩
    · exact q2 w hw h
    · exact cjr_in G hp hx c1 px c2
  have hun : ∀ c z, c < n → z < n → p c = true → u z = true → u (cjr n f e z c) = true := fun c z hc hz pc h => by
    have key : ∀ w, Gen n f e P w → u (cjr n f e w c) = true := fun w hw => by
      refine Gen.least (H := fun w => u (cjr n f e w c) = true) (by rw [G.cjr_one hc]; exact us.one) (fun w v gw hv pv hw => ?_) hw
      rw [G.cjr_hom (gw.lt G) hv hc]
      refine us.mul _ _ (G.cjr_lt (gw.lt G) hc) (G.cjr_lt hv hc) hw ?_
      rcases hP v hv pv with h | ⟨d, d1, d2, rfl⟩
      · exact hqu _ (G.cjr_lt hv hc) (q3 c v hc hv pc h)
      · have hl := G.cjr_lt hv hc
        refine (hu _ hl).2 (Gen.mem G hl ?_)
        show (_ || _) = true
        rw [Bool.or_eq_true, decide_eq_true_eq]
        exact .inr ⟨f d c, G.cl _ _ d1 hc, hp.mul _ _ d1 hc d2 pc, (G.cjr_cjr hx d1 hc).symm⟩
    exact key z ((hu z hz).1 h)
  have hlt : (mem n q).length < (mem n u).length := mem_lt hqu fun hh => by rw [hh x hx, hxu] at qx; cases qx
  have hall : ∀ y, y < n → p y = true → u y = true := fun y hy py => by
    cases huy : u y with
    | true => rfl
    | false => exact absurd (hm u ⟨us, hup, hun, y, hy, py, huy⟩) (by omega)
  exact fun y hy py => ((hu y hy).1 (hall y hy py)).sub G ht fun w hw h => by
    rcases hP w hw h with h | ⟨c, c1, c2, rfl⟩
    · exact h1 w hw h
    · exact h2 c c1 c2

theorem chn_ex (G : Grp n f e) : ∀ (k : Nat) (p : Nat → Bool), Sub n f e p → (mem n p).length ≤ k → ∃ l, Chn n f e p l := by
  intro k
  induction k with
  | zero => intro p hp hk; have := hp.pos G.el; omega
  | succ k ih =>
    intro p hp hk
    by_cases h : ∃ x, x < n ∧ p x = true ∧ x ≠ e
    · obtain ⟨q, hq⟩ := mxn_ex G hp h
      obtain ⟨l, hl⟩ := ih q hq.sub (by have := hq.lt; omega)
      exact ⟨q :: l, hq, hl⟩
    · exact ⟨[], fun x hx px => Classical.byContradiction fun hh => h ⟨x, hx, px, hh⟩⟩

/-- JORDAN AND HOELDER. -/
theorem jordan (G : Grp n f e) : ∀ (k : Nat) (p : Nat → Bool) (l l' : List (Nat → Bool)), Sub n f e p → (mem n p).length ≤ k → Chn n f e p l → Chn n f e p l' → (idx n p l).Perm (idx n p l') := by
  intro k
  induction k with
  | zero => intro p _ _ hp hk; have := hp.pos G.el; omega
  | succ k ih =>
    intro p l l' hp hk h h'
    have hno : ∀ q r, Chn n f e p [] → Chn n f e p (q :: r) → False := fun q r h1 h2 => by
      obtain ⟨x, x1, x2, x3⟩ := h2.1.ne
      rw [h1 x x1 x2, h2.1.sub.one] at x3; cases x3
    cases l with
    | nil =>
      cases l' with
      | nil => exact List.Perm.refl _
      | cons b l' => exact absurd h' (hno b l' h)
    | cons a l =>
      cases l' with
      | nil => exact absurd h (hno a l h')
      | cons b l' =>
        obtain ⟨ha, hl⟩ := h
        obtain ⟨hb, hl'⟩ := h'
        have ka := ha.lt
        have kb := hb.lt
        show (_ / _ :: idx n a l).Perm (_ / _ :: idx n b l')
        by_cases hab : ∀ x, x < n → a x = b x
        · obtain ⟨h1, h2⟩ := Chn.congr hab hl'
          rw [mem_congr hab, ← h2]
          exact (ih a l l' ha.sub (by omega) hl h1).cons _
        · have hba : ¬ ∀ x, x < n → b x = a x := fun hh => hab fun x hx => (hh x hx).symm
          have md := ha.meet G hp hb hab
          have me := (hb.meet G hp ha hba).congr_r G md.sub fun x _ => Bool.and_comm _ _
          obtain ⟨ld, hd⟩ := chn_ex G _ _ md.sub (Nat.le_refl _)
          have h1 := ih a l ((fun x => a x && b x) :: ld) ha.sub (by omega) hl ⟨md, hd⟩
          have h2 := ih b l' ((fun x => a x && b x) :: ld) hb.sub (by omega) hl' ⟨me, hd⟩
          have hc := ha.count G hp hb hab
          have pd := md.sub.pos G.el
          have pa := ha.sub.pos G.el
          have pb := hb.sub.pos G.el
          have e1 := ha.le_len G hp
          have e2 := hb.le_len G hp
          have e3 := md.le_len G ha.sub
          have e4 := me.le_len G hb.sub
          have g1 : (mem n p).length / (mem n a).length = (mem n b).length / (mem n fun x => a x && b x).length := by
            refine Nat.eq_of_mul_eq_mul_right (Nat.mul_pos pa pd) ?_
            calc _ = (mem n p).length * (mem n fun x => a x && b x).length := by rw [← Nat.mul_assoc, e1]
              _ = (mem n a).length * (mem n b).length := hc
              _ = _ := by rw [Nat.mul_comm (mem n a).length (mem n fun x => a x && b x).length, ← Nat.mul_assoc, e4, Nat.mul_comm]
          have g2 : (mem n p).length / (mem n b).length = (mem n a).length / (mem n fun x => a x && b x).length := by
            refine Nat.eq_of_mul_eq_mul_right (Nat.mul_pos pb pd) ?_
            calc _ = (mem n p).length * (mem n fun x => a x && b x).length := by rw [← Nat.mul_assoc, e2]
              _ = (mem n a).length * (mem n b).length := hc
              _ = _ := by rw [Nat.mul_comm (mem n b).length (mem n fun x => a x && b x).length, ← Nat.mul_assoc, e3]
          refine (h1.cons _).trans (List.Perm.trans ?_ (h2.cons _).symm)
          show (_ :: _ :: _).Perm (_ :: _ :: _)
          rw [g1, g2]
          exact List.Perm.swap _ _ _
end
end Go.Proofs.YtjbfkdaodfdpcaaDoor

/-
  Plain: homomorphisms of a subgroup onto a group; chains go there and back; steps in which things commute. Conditions: none.
-/
set_option linter.all false
namespace Go.Proofs.YtjbfkdaodfdpcaaDoor

/-- A homomorphism of a subgroup onto a group. -/
structure Hm (n : Nat) (f : Nat → Nat → Nat) (e : Nat) (p : Nat → Bool) (k : Nat) (g : Nat → Nat → Nat) (d : Nat) (φ : Nat → Nat) : Prop where
  grp : Grp k g d
  sub : Sub n f e p
  lt : ∀ x, x < n → p x = true → φ x < k
  mul : ∀ x y, x < n → y < n → p x = true → p y = true → φ (f x y) = g (φ x) (φ y)
  onto : ∀ i, i < k → ∃ x, x < n ∧ p x = true ∧ φ x = i

section
variable {n e k d : Nat} {f g : Nat → Nat → Nat} {p : Nat → Bool} {φ : Nat → Nat}
theorem Hm.one (H : Hm n f e p k g d φ) (G : Grp n f e) : φ e = d := by
  have h1 := H.mul e e G.el G.el H.sub.one H.sub.one
  have hl := H.lt e G.el H.sub.one
  rw [G.one_l e G.el] at h1
  have h2 : g (φ e) d = g (φ e) (φ e) := by rw [← h1, H.grp.one_r _ hl]
  exact (H.grp.cancel_l hl H.grp.el hl h2).symm
theorem Hm.iv (H : Hm n f e p k g d φ) (G : Grp n f e) {x : Nat} (hx : x < n) (px : p x = true) : φ (Go.Proofs.YtjbfkdaodfdpcaaDoor.iv n f e x) = Go.Proofs.YtjbfkdaodfdpcaaDoor.iv k g d (φ x) := by
  have ix := G.iv_lt hx
  have pix := H.sub.inv x hx px
  refine H.grp.iv_unique (H.lt x hx px) (H.lt _ ix pix) (.inl ?_)
  rw [← H.mul _ _ hx ix px pix, G.mul_iv hx, H.one G]
theorem Hm.cjr (H : Hm n f e p k g d φ) (G : Grp n f e) {x c : Nat} (hx : x < n) (hc : c < n) (px : p x = true) (pc : p c = true) : φ (Go.Proofs.YtjbfkdaodfdpcaaDoor.cjr n f e x c) = Go.Proofs.YtjbfkdaodfdpcaaDoor.cjr k g d (φ x) (φ c) := by
  have ic := G.iv_lt hc
  have pi := H.sub.inv c hc pc
  show φ (f (f _ _) _) = g (g _ _) _
  rw [H.mul _ _ (G.cl _ _ ic hx) hc (H.sub.mul _ _ ic hx pi px) pc, H.mul _ _ ic hx pi px, H.iv G hc pc]
theorem Hm.cmt (H : Hm n f e p k g d φ) (G : Grp n f e) {x c : Nat} (hx : x < n) (hc : c < n) (px : p x = true) (pc : p c = true) : φ (Go.Proofs.YtjbfkdaodfdpcaaDoor.cmt n f e x c) = Go.Proofs.YtjbfkdaodfdpcaaDoor.cmt k g d (φ x) (φ c) := by
  have ic := G.iv_lt hc
  have ix := G.iv_lt hx
  have pic := H.sub.inv c hc pc
  have pix := H.sub.inv x hx px
  show φ (f (f _ _) (f _ _)) = g (g _ _) (g _ _)
  rw [H.mul _ _ (G.cl _ _ ix ic) (G.cl _ _ hx hc) (H.sub.mul _ _ ix ic pix pic) (H.sub.mul _ _ hx hc px pc), H.mul _ _ ix ic pix pic, H.mul _ _ hx hc px pc, H.iv G hc pc, H.iv G hx px]
/-- What goes into a set. -/
def pre (p : Nat → Bool) (φ : Nat → Nat) (b : Nat → Bool) (x : Nat) : Bool := p x && b (φ x)
theorem pre_iff {b : Nat → Bool} {x : Nat} : pre p φ b x = true ↔ p x = true ∧ b (φ x) = true := by unfold pre; rw [Bool.and_eq_true]
theorem Hm.pre_sub (H : Hm n f e p k g d φ) (G : Grp n f e) {b : Nat → Bool} (hb : Sub k g d b) : Sub n f e (pre p φ b) :=
  sub_of G (pre_iff.2 ⟨H.sub.one, by rw [H.one G]; exact hb.one⟩) fun x y hx hy h1 h2 => by
    obtain ⟨h1, h3⟩ := pre_iff.1 h1
    obtain ⟨h2, h4⟩ := pre_iff.1 h2
    exact pre_iff.2 ⟨H.sub.mul x y hx hy h1 h2, by rw [H.mul x y hx hy h1 h2]; exact hb.mul _ _ (H.lt x hx h1) (H.lt y hy h2) h3 h4⟩
theorem Hm.pre_mxn (H : Hm n f e p k g d φ) (G : Grp n f e) {a b : Nat → Bool} (ha : Sub k g d a) (h : Mxn k g d a b) : Mxn n f e (pre p φ a) (pre p φ b) where
  sub := H.pre_sub G h.sub
  le x hx hh := by obtain ⟨h1, h2⟩ := pre_iff.1 hh; exact pre_iff.2 ⟨h1, h.le _ (H.lt x hx h1) h2⟩
  nml c x hc hx hcc hh := by
    obtain ⟨h1, h2⟩ := pre_iff.1 hh
    obtain ⟨h3, h4⟩ := pre_iff.1 hcc
    exact pre_iff.2 ⟨cjr_in G H.sub hx hc h1 h3, by rw [H.cjr G hx hc h1 h3]; exact h.nml _ _ (H.lt c hc h3) (H.lt x hx h1) h4 h2⟩
  ne := by
    obtain ⟨i, i1, i2, i3⟩ := h.ne
    obtain ⟨x, x1, x2, rfl⟩ := H.onto i i1
    exact ⟨x, x1, pre_iff.2 ⟨x2, i2⟩, by unfold pre; rw [i3, Bool.and_false]⟩
  mx x hx hax hbx t ht h1 h2 y hy hay := by
    obtain ⟨px, ax⟩ := pre_iff.1 hax
    obtain ⟨py, ay⟩ := pre_iff.1 hay
    have bx : b (φ x) = false := by unfold pre at hbx; rwa [px, Bool.true_and] at hbx
    -- where t goes
    let T : Nat → Bool := fun i => decide (∃ z, z < n ∧ p z = true ∧ a (φ z) = true ∧ t z = true ∧ φ z = i)
    have hT : ∀ i, T i = true ↔ ∃ z, z < n ∧ p z = true ∧ a (φ z) = true ∧ t z = true ∧ φ z = i := fun i => decide_eq_true_iff
    have ts : Sub k g d T := sub_of H.grp ((hT d).2 ⟨e, G.el, H.sub.one, by rw [H.one G]; exact ha.one, ht.one, H.one G⟩) fun i j hi hj h3 h4 => by
      obtain ⟨z, z1, z2, z3, z4, rfl⟩ := (hT i).1 h3
      obtain ⟨w, w1, w2, w3, w4, rfl⟩ := (hT j).1 h4
      exact (hT _).2 ⟨f z w, G.cl _ _ z1 w1, H.sub.mul _ _ z1 w1 z2 w2, by rw [H.mul _ _ z1 w1 z2 w2]; exact ha.mul _ _ hi hj z3 w3, ht.mul _ _ z1 w1 z4 w4, H.mul _ _ z1 w1 z2 w2⟩
    have hTa := h.mx (φ x) (H.lt x hx px) ax bx T ts (fun i hi bi => by
      obtain ⟨z, z1, z2, rfl⟩ := H.onto i hi
      exact (hT _).2 ⟨z, z1, z2, h.le _ hi bi, h1 z z1 (pre_iff.2 ⟨z2, bi⟩), rfl⟩) (fun i hi ai => by
      obtain ⟨z, z1, z2, rfl⟩ := H.onto i hi
      rw [← H.cjr G hx z1 px z2]
      have hz := h2 z z1 (pre_iff.2 ⟨z2, ai⟩)
      refine (hT _).2 ⟨_, G.cjr_lt hx z1, cjr_in G H.sub hx z1 px z2, ?_, hz, rfl⟩
      rw [H.cjr G hx z1 px z2]
      exact cjr_in H.grp ha (H.lt x hx px) hi ax ai) (φ y) (H.lt y hy py) ay
    obtain ⟨z, z1, z2, z3, z4, z5⟩ := (hT _).1 hTa
    -- y = z (z^-1 y), and this goes to the one
    have iz := G.iv_lt z1
    have hw := G.cl _ _ iz hy
    have pw := H.sub.mul _ _ iz hy (H.sub.inv z z1 z2) py
    have hφ : φ (f (Go.Proofs.YtjbfkdaodfdpcaaDoor.iv n f e z) y) = d := by
      rw [H.mul _ _ iz hy (H.sub.inv z z1 z2) py, H.iv G z1 z2, z5, H.grp.iv_mul (H.lt y hy py)]
    have ht2 := h1 _ hw (pre_iff.2 ⟨pw, by rw [hφ]; exact h.sub.one⟩)
    have := ht.mul _ _ z1 hw z4 ht2
    rwa [← G.assoc _ _ _ z1 iz hy, G.mul_iv z1, G.one_l y hy] at this
theorem Hm.of_pre (H : Hm n f e p k g d φ) (G : Grp n f e) {a b : Nat → Bool} (hb : Sub k g d b) (h : Mxn n f e (pre p φ a) (pre p φ b)) : Mxn k g d a b where
  sub := hb
  le i hi bi := by
    obtain ⟨x, x1, x2, rfl⟩ := H.onto i hi
    exact (pre_iff.1 (h.le x x1 (pre_iff.2 ⟨x2, bi⟩))).2
  nml c i hc hi ac bi := by
    obtain ⟨x, x1, x2, rfl⟩ := H.onto i hi
    obtain ⟨y, y1, y2, rfl⟩ := H.onto c hc
    have := (pre_iff.1 (h.nml y x y1 x1 (pre_iff.2 ⟨y2, ac⟩) (pre_iff.2 ⟨x2, bi⟩))).2
    rwa [H.cjr G x1 y1 x2 y2] at this
  ne := by
    obtain ⟨x, x1, x2, x3⟩ := h.ne
    obtain ⟨px, ax⟩ := pre_iff.1 x2
    unfold pre at x3
    rw [px, Bool.true_and] at x3
    exact ⟨_, H.lt x x1 px, ax, x3⟩
  mx i hi ai bi t ht h1 h2 j hj aj := by
    obtain ⟨x, x1, x2, rfl⟩ := H.onto i hi
    obtain ⟨y, y1, y2, rfl⟩ := H.onto j hj
    refine (pre_iff.1 (h.mx x x1 (pre_iff.2 ⟨x2, ai⟩) (by unfold pre; rw [bi, Bool.and_false]) (pre p φ t) (H.pre_sub G ht) (fun z hz hh => ?_) (fun c hc hh => ?_) y y1 (pre_iff.2 ⟨y2, aj⟩))).2
    · obtain ⟨pz, bz⟩ := pre_iff.1 hh
      exact pre_iff.2 ⟨pz, h1 _ (H.lt z hz pz) bz⟩
    · obtain ⟨pc, ac⟩ := pre_iff.1 hh
      exact pre_iff.2 ⟨cjr_in G H.sub x1 hc x2 pc, by rw [H.cjr G x1 hc x2 pc]; exact h2 _ (H.lt c hc pc) ac⟩

/-- Things of the first commute, up to the second. -/
def Abl (n : Nat) (f : Nat → Nat → Nat) (e : Nat) (p q : Nat → Bool) : Prop := ∀ x y, x < n → y < n → p x = true → p y = true → q (cmt n f e x y) = true
def AbC (n : Nat) (f : Nat → Nat → Nat) (e : Nat) : (Nat → Bool) → List (Nat → Bool) → Prop
  | _, [] => True
  | p, q :: l => Abl n f e p q ∧ AbC n f e q l
theorem AbC.congr {p' : Nat → Bool} (hp : ∀ x, x < n → p' x = p x) : ∀ {l : List (Nat → Bool)}, AbC n f e p l → AbC n f e p' l
  | [], _ => trivial
  | q :: l, h => ⟨fun x y hx hy h1 h2 => h.1 x y hx hy (by rwa [← hp x hx]) (by rwa [← hp y hy]), h.2⟩
end
end Go.Proofs.YtjbfkdaodfdpcaaDoor

/-
  Plain law, FRATTINI'S ARGUMENT. Conditions: none.
-/
set_option linter.all false
namespace Go.Proofs.YtjbfkdaodfdpcaaDoor
open Go.Pv

section
variable {n e P : Nat} {f : Nat → Nat → Nat} {q s : Nat → Bool}

theorem Syl.cong {f g : Nat → Nat → Nat} {j t : Nat} (hY : Syl n g e P s j t) (G : Grp n f e) (h : ∀ a b, a < n → b < n → g a b = f a b) : Syl n f e P s j t :=
  ⟨hY.sub.cong_op G h, hY.len, hY.num, hY.non⟩

/-- A part's set, as a set of the whole. -/
def upt (q s : Nat → Bool) (y : Nat) : Bool := q y && s (pix q y)
end
end Go.Proofs.YtjbfkdaodfdpcaaDoor

/-
  Nilpotent groups; classes of a quotient; the quotient by commutators. Conditions: none.
-/
set_option linter.all false
namespace Go.Proofs.YtjbfkdaodfdpcaaDoor
open Go.Pv

section
variable {n : Nat} {f : Nat → Nat → Nat} {e : Nat}
/-! ### Classes of a quotient -/

theorem lead_le {k : Nat} {r1 r2 : Nat → Nat → Bool} (E1 : Eqv n r1) (E2 : Eqv k r2) (rep : Nat → Nat) (hr : ∀ i, i < k → rep i < n) (h : ∀ i j, i < k → j < k → r1 (rep i) (rep j) = true → r2 i j = true) : (mem k (lead r2)).length ≤ (mem n (lead r1)).length := by
  have hex : ∀ i, ∃ x, i < k → x < n ∧ lead r1 x = true ∧ r1 x (rep i) = true := fun i => by
    by_cases hi : i < k
    · obtain ⟨x, h1, h2, h3⟩ := E1.least (hr i hi)
      exact ⟨x, fun _ => ⟨h1, h2, h3⟩⟩
    · exact ⟨0, fun h => absurd h hi⟩
  obtain ⟨g, hg⟩ := Classical.axiomOfChoice hex
  rw [← List.length_map (f := g) («as» := mem k (lead r2))]
  refine List.Nodup.length_le_of_subset (nodup_map (List.nodup_range.filter _) fun i hi j hj he => ?_) fun x hx => ?_
  · obtain ⟨i1, i2⟩ := mem_mem.1 hi
    obtain ⟨j1, j2⟩ := mem_mem.1 hj
    obtain ⟨a1, a2, a3⟩ := hg i i1
    obtain ⟨b1, b2, b3⟩ := hg j j1
    rw [← he] at b3
    exact E2.lead_eq i1 j1 i2 j2 (h i j i1 j1 (E1.trans _ _ _ (hr i i1) a1 (hr j j1) (E1.symm _ _ a1 (hr i i1) a3) b3))
  · obtain ⟨i, hi, rfl⟩ := List.mem_map.1 hx
    obtain ⟨i1, i2⟩ := mem_mem.1 hi
    exact mem_mem.2 ⟨(hg i i1).1, (hg i i1).2.1⟩
theorem Qm.iv {k : Nat} {cl rep : Nat → Nat} (Q : Qm n f k cl rep) (G : Grp n f e) {a : Nat} (ha : a < n) : iv k (qop f cl rep) (cl e) (cl a) = cl (Go.Proofs.YtjbfkdaodfdpcaaDoor.iv n f e a) :=
  ((Q.grp G).iv_unique (Q.lt a ha) (Q.lt _ (G.iv_lt ha)) (.inl (by rw [Q.op ha (G.iv_lt ha), G.mul_iv ha]))).symm
theorem Qm.cjb {k : Nat} {cl rep : Nat → Nat} (Q : Qm n f k cl rep) (G : Grp n f e) {x y : Nat} (hx : x < n) (hy : y < n) (h : cjb n f e x y = true) : cjb k (qop f cl rep) (cl e) (cl x) (cl y) = true := by
  obtain ⟨a, ha, rfl⟩ := cjb_iff.1 h
  have ia := G.iv_lt ha
  refine cjb_iff.2 ⟨cl a, Q.lt a ha, ?_⟩
  rw [Q.iv G ha, Q.op ia hx, Q.op (G.cl _ _ ia hx) ha]
/-- A quotient has no more classes. -/
theorem Qm.classes {k : Nat} {cl rep : Nat → Nat} (Q : Qm n f k cl rep) (G : Grp n f e) : (mem k (lead (Go.Proofs.YtjbfkdaodfdpcaaDoor.cjb k (qop f cl rep) (cl e)))).length ≤ (mem n (lead (Go.Proofs.YtjbfkdaodfdpcaaDoor.cjb n f e))).length :=
  lead_le G.cjb_eqv (Q.grp G).cjb_eqv rep Q.rlt fun i j hi hj h => by
    have := Q.cjb G (Q.rlt i hi) (Q.rlt j hj) h
    rwa [Q.at_ i hi, Q.at_ j hj] at this
end
end Go.Proofs.YtjbfkdaodfdpcaaDoor

/-
  Plain law: nilpotent is just where all of Sylow's subgroups are normal; both central series are as long. Conditions: none.
-/
set_option linter.all false
namespace Go.Proofs.YtjbfkdaodfdpcaaDoor
open Go.Pv

section
variable {n e P : Nat} {f : Nat → Nat → Nat} {p q s : Nat → Bool}

/-! ### Both series -/
section
variable {nl : (Nat → Bool) → Nat → Bool}
theorem Stp.le {T : Nat → Nat → Bool} {K k : Nat} (h : Stp n T K) (he : ∀ a, a < n → T (k + 1) a = T k a) : K ≤ k :=
  Nat.le_of_not_lt fun hh => h.ne k hh he
end

/-! ### Sylow's subgroups of what is nilpotent -/
/-! ### A group of a power of P things, and a normal subgroup that is not all -/
/-! ### Where all of Sylow's subgroups are normal -/
/-- What commutes with a thing, up to a normal subgroup. -/
def ctz (n : Nat) (f : Nat → Nat → Nat) (e : Nat) (z : Nat → Bool) (x y : Nat) : Bool := z (cmt n f e x y)
end
end Go.Proofs.YtjbfkdaodfdpcaaDoor

/-
  Plain: each step of a chain has its quotient; it is of a prime where things commute; what is solvable. Conditions: none.
-/
set_option linter.all false
namespace Go.Proofs.YtjbfkdaodfdpcaaDoor

section
variable {n e : Nat} {f : Nat → Nat → Nat} {p q : Nat → Bool}
theorem mem_true (n : Nat) : (mem n fun _ => true).length = n := by unfold mem; rw [List.filter_eq_self.2 fun _ _ => rfl, List.length_range]
/-- The quotient of a group. -/
theorem quot_hm (G : Grp n f e) (hq : Sub n f e q) (hN : Nml n f e q) : Hm n f e (fun _ => true) (cst n (dco n f q (onp e))).length (qop f (clq n (dco n f q (onp e))) (rpq n (dco n f q (onp e)))) (clq n (dco n f q (onp e)) e) (clq n (dco n f q (onp e))) := by
  have E := G.dco_eqv hq G.onp_sub
  have Q := cst_qm G E fun a b c d ha hb hc hd h1 h2 => G.rco_cong hq hN ha hb hc hd h1 h2
  exact ⟨Q.grp G, G.all_sub, fun x hx _ => Q.lt x hx, fun x y hx hy _ _ => (Q.op hx hy).symm, fun i hi => ⟨_, Q.rlt i hi, rfl, Q.at_ i hi⟩⟩
theorem quot_ker (G : Grp n f e) (hq : Sub n f e q) {x : Nat} (hx : x < n) : clq n (dco n f q (onp e)) x = clq n (dco n f q (onp e)) e ↔ q x = true := by
  have E := G.dco_eqv hq G.onp_sub
  rw [clq_iff E hx G.el, G.rco_iff hx G.el, G.one_l _ (G.iv_lt hx)]
  exact ⟨fun h => by have := hq.inv _ (G.iv_lt hx) h; rwa [G.iv_iv hx] at this, fun h => hq.inv x hx h⟩
theorem quot_num (G : Grp n f e) (hq : Sub n f e q) : (cst n (dco n f q (onp e))).length * (mem n q).length = n := by
  rw [cst_len]; exact G.rco_num hq
/-- The part of a group. -/
theorem part_hm (G : Grp n f e) (hp : Sub n f e p) : Hm n f e p (thl n p).length (pop n f p) (pix p e) (pix p) :=
  ⟨ptb_grp G hp, hp, fun x hx px => (pix_at hx px).1, fun x y hx hy px py => (pop_pix hp hx hy px py).symm, fun i hi => ⟨lat n p i, (lat_at hi).1, (lat_at hi).2.1, (lat_at hi).2.2.2⟩⟩
variable {k k2 d d2 : Nat} {g g2 : Nat → Nat → Nat} {φ ψ : Nat → Nat}
theorem Hm.comp (H : Hm n f e p k g d φ) (K : Hm k g d (fun _ => true) k2 g2 d2 ψ) : Hm n f e p k2 g2 d2 fun x => ψ (φ x) where
  grp := K.grp
  sub := H.sub
  lt x hx px := K.lt _ (H.lt x hx px) rfl
  mul x y hx hy px py := by
    show ψ (φ (f x y)) = _
    rw [H.mul x y hx hy px py, K.mul _ _ (H.lt x hx px) (H.lt y hy py) rfl rfl]
  onto i hi := by
    obtain ⟨y, y1, _, rfl⟩ := K.onto i hi
    obtain ⟨x, x1, x2, rfl⟩ := H.onto y y1
    exact ⟨x, x1, x2, rfl⟩
theorem Hm.cong_op (H : Hm n f e p k g d φ) (h : ∀ a b, a < k → b < k → g2 a b = g a b) (G2 : Grp k g2 d) : Hm n f e p k g2 d φ :=
  ⟨G2, H.sub, H.lt, fun x y hx hy px py => by rw [H.mul x y hx hy px py, h _ _ (H.lt x hx px) (H.lt y hy py)], H.onto⟩
/-- What stands of a smaller one in the part. -/
def dwn (n : Nat) (p q : Nat → Bool) (i : Nat) : Bool := q (lat n p i)
theorem lft_dwn (hle : ∀ x, x < n → q x = true → p x = true) : ∀ x, x < n → lft p (dwn n p q) x = q x := fun x hx => by
  unfold lft dwn
  cases px : p x with
  | false =>
    cases qx : q x with
    | false => rfl
    | true => rw [hle x hx qx] at px; cases px
  | true => rw [lat_pix hx px]; rfl
theorem dwn_sub (G : Grp n f e) (hp : Sub n f e p) (hq : Sub n f e q) : Sub (thl n p).length (pop n f p) (pix p e) (dwn n p q) :=
  sub_of (ptb_grp G hp) (by unfold dwn; rw [lat_pix G.el hp.one]; exact hq.one) fun i j hi hj h1 h2 => by
    unfold dwn at h1 h2 ⊢
    rw [(pop_at G hp hi hj).2]
    exact hq.mul _ _ (lat_at hi).1 (lat_at hj).1 h1 h2
theorem dwn_nml (G : Grp n f e) (hp : Sub n f e p) : Nml (thl n p).length (pop n f p) (pix p e) (dwn n p q) ↔ ∀ a x, a < n → x < n → p a = true → p x = true → q x = true → q (cjr n f e x a) = true := by
  have H := part_hm G hp
  constructor
  · intro h a x ha hx pa px qx
    have := h (pix p a) (pix_at ha pa).1 (pix p x) (pix_at hx px).1 (by unfold dwn; rw [lat_pix hx px]; exact qx)
    rw [← H.cjr G hx ha px pa] at this
    unfold dwn at this
    rwa [lat_pix (G.cjr_lt hx ha) (cjr_in G hp hx ha px pa)] at this
  · intro h i hi j hj hd
    obtain ⟨a1, a2, _, a4⟩ := lat_at hi
    obtain ⟨b1, b2, _, b4⟩ := lat_at hj
    have := h _ _ a1 b1 a2 b2 hd
    rw [← a4, ← b4, ← H.cjr G b1 a1 b2 a2]
    unfold dwn
    rwa [lat_pix (G.cjr_lt b1 a1) (cjr_in G hp b1 a1 b2 a2)]
theorem dwn_len (hle : ∀ x, x < n → q x = true → p x = true) : (mem (thl n p).length (dwn n p q)).length = (mem n q).length := by
  have h1 := congrArg List.length (lft_thl p (dwn n p q) n)
  rw [List.length_map] at h1
  have e1 : (thl (thl n p).length (dwn n p q)).length = (mem (thl n p).length (dwn n p q)).length := thl_len _ _
  have e2 : (thl n (lft p (dwn n p q))).length = (mem n (lft p (dwn n p q))).length := thl_len _ _
  rw [← e1, h1, e2, mem_congr (lft_dwn hle)]

/-- The quotient of a subgroup by what is normal in it. -/
theorem step_hm (G : Grp n f e) (hp : Sub n f e p) (hq : Sub n f e q) (hle : ∀ x, x < n → q x = true → p x = true) (hN : ∀ a x, a < n → x < n → p a = true → p x = true → q x = true → q (cjr n f e x a) = true) :
    ∃ k g d φ, Hm n f e p k g d φ ∧ (∀ x, x < n → pre p φ (onp d) x = q x) ∧ k * (mem n q).length = (mem n p).length := by
  have H := part_hm G hp
  have P := H.grp
  have ds := dwn_sub G hp hq
  have K := quot_hm P ds ((dwn_nml G hp).2 hN)
  refine ⟨_, _, _, _, H.comp K, fun x hx => ?_, ?_⟩
  · unfold pre
    cases px : p x with
    | false =>
      cases qx : q x with
      | false => rfl
      | true => rw [hle x hx qx] at px; cases px
    | true =>
      rw [Bool.true_and, Bool.eq_iff_iff, onp_iff, quot_ker P ds (H.lt x hx px)]
      unfold dwn
      rw [lat_pix hx px]
  · have := quot_num P ds
    rw [dwn_len hle] at this
    have e1 : (thl n p).length = (mem n p).length := thl_len _ _
    rw [← e1]; exact this
theorem Mxn.hm (G : Grp n f e) (hp : Sub n f e p) (h : Mxn n f e p q) : ∃ k g d φ, Hm n f e p k g d φ ∧ (∀ x, x < n → pre p φ (onp d) x = q x) ∧ k * (mem n q).length = (mem n p).length ∧ Mxn k g d (fun _ => true) (onp d) := by
  obtain ⟨k, g, d, φ, H, h1, h2⟩ := step_hm G hp h.sub h.le fun a x ha hx pa _ qx => h.nml a x ha hx pa qx
  refine ⟨k, g, d, φ, H, h1, h2, H.of_pre G H.grp.onp_sub ?_⟩
  refine (h.congr_r G (H.pre_sub G H.grp.onp_sub) h1).congr_l fun x hx => ?_
  show (p x && true) = p x
  rw [Bool.and_true]

end
end Go.Proofs.YtjbfkdaodfdpcaaDoor

/-
  Calls that write what is the caller's own: contracts over blocks. Conditions: none; a library text.
-/
set_option linter.all false
namespace Go.Pv
open Go.RowKit

def ancs : Nat → Nat → Heap
  | _, 0 => []
  | k, n + 1 => .anc k k :: ancs (k + 1) n

theorem ancs_get : ∀ (n k j : Nat) (b : Blk), (ancs k n)[j]? = some b → j < n ∧ b = .anc (k + j) (k + j)
  | 0, k, j, b, h => by simp [ancs] at h
  | n + 1, k, 0, b, h => by simp [ancs] at h; exact ⟨by omega, h.symm⟩
  | n + 1, k, j + 1, b, h => by
    have := ancs_get n (k + 1) j b (by simpa [ancs] using h)
    refine ⟨by omega, ?_⟩
    rw [this.2, show k + 1 + j = k + (j + 1) by omega]

theorem ancs_at : ∀ (n k j : Nat), j < n → (ancs k n)[j]? = some (.anc (k + j) (k + j))
  | n + 1, k, 0, _ => rfl
  | n + 1, k, j + 1, h => by
    rw [show ancs k (n + 1) = .anc k k :: ancs (k + 1) n from rfl, List.getElem?_cons_succ, ancs_at n (k + 1) j (by omega), show k + 1 + j = k + (j + 1) by omega]

def entA : Nat → List AV → List (Nat × AV)
  | _, [] => []
  | k, a :: r => (k, a) :: entA (k + 1) r

theorem entA_lk : ∀ (l : List AV) (k t : Nat), lk (entA k l) t = if k ≤ t then l.getD (t - k) .dead else .dead
  | [], k, t => by simp [entA, lk]
  | a :: r, k, t => by
    simp only [entA, lk]
    by_cases h : k = t
    · subst h; simp
    · rw [show (k == t) = false by simpa using h]
      simp only [cond_false]
      rw [entA_lk r (k + 1) t]
      by_cases hk : k ≤ t
      · rw [if_pos (by omega), if_pos hk, show t - k = (t - (k + 1)) + 1 by omega]; rfl
      · rw [if_neg (by omega), if_neg hk]

theorem app_get {H X : Heap} {k : Nat} {b : Blk} (h : (H ++ X)[k]? = some b) : (k < H.length ∧ H[k]? = some b) ∨ X[k - H.length]? = some b := by
  by_cases hk : k < H.length
  · exact .inl ⟨hk, by rwa [List.getElem?_append_left hk] at h⟩
  · exact .inr (by rwa [List.getElem?_append_right (by omega)] at h)

section
variable {P : Program} {T : TypeId → Option TI} {C : Ctx} {m : Map} {s : St} {tmps : Array Value} {w : World}

theorem Rel.addAnc (R : Rel C m s tmps w) {n : Nat} (hn : n ≤ s.H.length) (ha : ∀ i, i < n → m i = C.anc i) : Rel C m { s with H := s.H ++ ancs 0 n } tmps w := by
  have gen : ∀ (k : Nat) (b : Blk), (∀ i j, b ≠ .anc i j) → (s.H ++ ancs 0 n)[k]? = some b → k < s.H.length ∧ s.H[k]? = some b := by
    intro k b hb h
    rcases app_get h with h | h
    · exact h
    · exact absurd (ancs_get _ _ _ _ h).2 (hb _ _)
  have own : ∀ (k : Nat) (c : List AV), (s.H ++ ancs 0 n)[k]? = some (.own c) → k < s.H.length ∧ s.H[k]? = some (.own c) := fun k c h => gen k _ (fun _ _ h => by cases h) h
  have mps : ∀ (k : Nat) (kk : IntKind) (d : Int → Bool) (v : Int → PV), (s.H ++ ancs 0 n)[k]? = some (Blk.mp kk d v) → k < s.H.length ∧ s.H[k]? = some (Blk.mp kk d v) := fun k _ _ _ h => gen k _ (fun _ _ h => by cases h) h
  have ho : ∀ b, OK C m s.H w b → OK C m (s.H ++ ancs 0 n) w b := fun b h => ⟨h.1, h.2.1, fun k c l hk hl => h.2.2 k c l (own k c hk).2 hl⟩
  have hlen : s.H.length ≤ (s.H ++ ancs 0 n).length := by simp
  have rd : ∀ p v, Reads (OK C m s.H w) w p v → Reads (OK C m (s.H ++ ancs 0 n) w) w p v := fun p v h => h.mono ho
  refine ⟨R.laid.ext rd, R.below, R.base, R.size, fun k k' c c' l l' h1 h2 => R.inj k k' c c' l l' (own k c h1).2 (own k' c' h2).2, fun k c h => (R.blk k c (own k c h).2).ext rd hlen (fun _ _ => rfl) rfl fun _ _ => rfl,
    fun k c h => (R.fro k c (gen k _ (fun _ _ h => by cases h) h).2).ext ho (fun _ _ => rfl) rfl, fun t => (R.slot t).ext rd hlen fun _ _ => rfl, fun k kk d v h => (R.mp.1 k kk d v (mps k kk d v h).2).ext ho (fun _ _ => rfl) rfl fun _ _ => rfl,
    fun k k' kk d v kk' d' v' l l' h1 h2 => R.mp.2.1 k k' kk d v kk' d' v' l l' (mps _ _ _ _ h1).2 (mps _ _ _ _ h2).2, fun k i j h => ?_⟩
  rcases app_get h with h | h
  · obtain ⟨a1, a2⟩ := R.mp.2.2 k i j h.2
    exact ⟨by simp; omega, a2⟩
  · obtain ⟨a1, a2⟩ := ancs_get _ _ _ _ h
    cases a2
    refine ⟨by simp; omega, ?_⟩
    rw [ha _ (by omega)]

/-! ### The contract -/

/-- A CONTRACT OVER BLOCKS: called with values that are so over such blocks of the caller's own, the function returns so, over those blocks as they are then, and new ones. -/
def FnM (P : Program) (f : FuncId) (args : List AV) (H0 : Heap) (r : AV) (H1 : Heap) : Prop :=
  Fun P f ∧ ∀ (C : Ctx) (m : Map) (w : World) (vals : Array Value), Rel C m ⟨args.length, entA 0 args, H0 ++ ancs 0 H0.length⟩ vals w →
    Calls P f vals w fun e w' => ∃ v m', e = .returned v ∧ Rel C m' ⟨1, [(0, r)], H1 ++ ancs 0 H0.length⟩ #[v] w'

/-! ### Who calls it -/

theorem AVal.sig {rd rd' : PV → Value → Prop} {m m2 : Map} {H H2 : Heap} {σ : List Nat} (h1 : ∀ p v, rd p v → rd' p v) (hs : ∀ k, k < σ.length → σ.getD k 0 < H2.length ∧ m2 (σ.getD k 0) = m k) {x : AV} {v : Value} (h : AVal rd m H x v)
    (hx : scA σ.length x = true) : AVal rd' m2 H2 (Go.Pv.ren σ x) v := by
  have one : ∀ {x : AV} {v : Value}, AVal rd m H x v → sc1 σ.length x = true → AVal rd' m2 H2 (ren1 σ x) v := by
    intro x v h hsc
    cases h with
    | dead v => exact .dead v
    | p pv v h => exact .p pv v (h1 _ _ h)
    | sl k lo len v hk h =>
      obtain ⟨g1, g2⟩ := hs k (by simpa [sc1] using hsc)
      refine .sl _ lo len v g1 ?_
      unfold SlOk at *
      rw [g2]; exact h
    | ptr k i v hk h =>
      obtain ⟨g1, g2⟩ := hs k (by simpa [sc1] using hsc)
      refine .ptr _ i v g1 ?_
      unfold PtrOk at *
      rw [g2]; exact h
    | agg l vs hl hr => simp [sc1] at hsc
    | tup l vs hl hr => simp [sc1] at hsc
    | cl f l vs hl hr => simp [sc1] at hsc
    | itv r => exact .itv r
    | mptr k v hk h =>
      obtain ⟨g1, g2⟩ := hs k (by simpa [sc1] using hsc)
      refine .mptr _ v g1 ?_
      unfold MptrOk at *
      rw [g2]; exact h
  cases x with
  | agg l =>
    cases h with
    | agg _ vs hl hr =>
      refine .agg _ vs (by simpa using hl) fun c hc => ?_
      rw [List.length_map] at hc
      rw [List.getElem_map]
      exact one (hr c hc) ((List.all_eq_true.1 hx) _ (List.getElem_mem hc))
  | tup l =>
    cases h with
    | tup _ vs hl hr =>
      refine .tup _ vs (by simpa using hl) fun c hc => ?_
      rw [List.length_map] at hc
      rw [List.getElem_map]
      exact one (hr c hc) ((List.all_eq_true.1 hx) _ (List.getElem_mem hc))
  | cl f l =>
    cases h with
    | cl _ _ vs hl hr =>
      refine .cl _ _ vs (by simpa using hl) fun c hc => ?_
      rw [List.length_map] at hc
      rw [List.getElem_map]
      exact one (hr c hc) ((List.all_eq_true.1 hx) _ (List.getElem_mem hc))
  | dead => exact one h hx
  | p pv => exact one h hx
  | sl k lo len => exact one h hx
  | ptr k i => exact one h hx
  | mptr k => exact one h hx
  | itv r => exact one h hx

/-- Blocks put back: those that were lent, in their places; new ones behind. -/
def putM : Heap → List Nat → Heap → Heap
  | H, [], bs => H ++ bs
  | H, _ :: _, [] => H
  | H, k :: ks, b :: bs => putM (hset H k b) ks bs

theorem putM_get : ∀ (ks : List Nat) (bs H : Heap) (k : Nat) (b : Blk), (∀ k ∈ ks, k < H.length) → ks.length ≤ bs.length → (putM H ks bs)[k]? = some b →
    (∃ j : Nat, bs[j]? = some b ∧ (ks ++ List.range' H.length (bs.length - ks.length))[j]? = some k) ∨ (k < H.length ∧ k ∉ ks ∧ H[k]? = some b)
  | [], bs, H, k, b, _, _, h => by
    simp only [putM] at h
    by_cases hk : k < H.length
    · exact .inr ⟨hk, by simp, by rwa [List.getElem?_append_left hk] at h⟩
    · rw [List.getElem?_append_right (by omega)] at h
      · refine .inl ⟨k - H.length, h, ?_⟩
        have := (List.getElem?_eq_some_iff.1 h).1
        simp only [List.nil_append, List.length_nil, Nat.sub_zero]
        rw [List.getElem?_range' this]
        simp; omega
  | k0 :: ks, [], H, k, b, _, hl, _ => by simp at hl
  | k0 :: ks, b0 :: bs, H, k, b, hk, hl, h => by
    simp only [putM] at h
    have h0 := hk k0 (by simp)
    rcases putM_get ks bs (hset H k0 b0) k b (fun k hk' => by rw [hset_length]; exact hk k (by simp [hk'])) (by simpa using hl) h with ⟨j, h1, h2⟩ | ⟨h1, h2, h3⟩
    · rw [hset_length] at h2
      exact .inl ⟨j + 1, by simpa using h1, by simpa using h2⟩
    · rw [hset_get] at h3
      rw [hset_length] at h1
      by_cases e : k = k0
      · subst e
        rw [if_pos ⟨rfl, h0⟩] at h3
        exact .inl ⟨0, by simpa using h3, by simp⟩
      · rw [if_neg (by simp [e])] at h3
        exact .inr ⟨h1, by simp [e, h2], h3⟩

theorem putM_length : ∀ (ks : List Nat) (bs H : Heap), ks.length ≤ bs.length → (putM H ks bs).length = H.length + (bs.length - ks.length)
  | [], bs, H, _ => by simp [putM]
  | k0 :: ks, [], H, hl => by simp at hl
  | k0 :: ks, b0 :: bs, H, hl => by
    simp only [putM]
    rw [putM_length ks bs _ (by simpa using hl), hset_length]; simp

/-- Maps stay maps. -/
def mpKeep : Heap → Heap → Bool
  | .mp _ _ _ :: r, .mp _ _ _ :: t => mpKeep r t
  | .mp _ _ _ :: _, _ => false
  | _ :: r, _ :: t => mpKeep r t
  | [], _ => true
  | _ :: _, [] => false

theorem mpKeep_get : ∀ {H0 H1 : Heap}, mpKeep H0 H1 = true → ∀ (j : Nat) (kk : IntKind) (d : Int → Bool) (v : Int → PV), H0[j]? = some (.mp kk d v) → ∃ kk' d' v', H1[j]? = some (.mp kk' d' v')
  | [], _, _, j, _, _, _, h => by simp at h
  | b :: r, [], hm, _, _, _, _, _ => by cases b <;> simp [mpKeep] at hm
  | b :: r, b' :: t, hm, 0, kk, d, v, h => by
    simp at h; subst h
    cases b' <;> simp [mpKeep] at hm
    exact ⟨_, _, _, rfl⟩
  | b :: r, b' :: t, hm, j + 1, kk, d, v, h => by
    have hm2 : mpKeep r t = true := by cases b <;> cases b' <;> simp [mpKeep] at hm <;> exact hm
    simpa using mpKeep_get hm2 j kk d v (by simpa using h)

def scM (av : AV) (H0 H1 : Heap) : Bool :=
  scA H1.length av && H1.all (fun | .own c => c.all (scA H1.length) | .anc _ _ => false | _ => true) && decide (H0.length ≤ H1.length) && mpKeep H0 H1 && H0.all notAnc

/-- The frame of who is called with blocks that are lent. -/
def subC (C : Ctx) (m : Map) (H : Heap) (ks : List Nat) (H0 : Heap) (w : World) : Ctx :=
  ⟨fun b => OK C m H w b, fun b => w.heap.size ≤ b ∨ ∃ (j : Nat) (b0 : Blk) (l : Loc), H0[j]? = some b0 ∧ b0.wr = true ∧ mren m ks j = some l ∧ l.g = b, w, mren m ks⟩

theorem Rel.wrLt (R : Rel C m s tmps w) {k : Nat} {b : Blk} (hb : s.H[k]? = some b) (hw : b.wr = true) {l : Loc} (hl : m k = some l) : C.B l.g ∧ l.g < w.heap.size := by
  cases b with
  | own c =>
    rcases R.blk k c hb with ⟨_, hn⟩ | ⟨l', cur, e, a1, a2, a3, _⟩
    · rw [hl] at hn; cases hn
    · rw [hl] at a1; cases a1
      exact ⟨a2, (Array.getElem?_eq_some_iff.1 a3).1⟩
  | mp kk d v =>
    obtain ⟨l', ar, clk, vs, a1, a2, a3, _⟩ := R.mp.1 k kk d v hb
    rw [hl] at a1; cases a1
    exact ⟨a2, (Array.getElem?_eq_some_iff.1 a3).1⟩
  | _ => cases hw

theorem Rel.inj2 (R : Rel C m s tmps w) {k k' : Nat} {b b' : Blk} (hb : s.H[k]? = some b) (hw : b.wr = true) (hb' : s.H[k']? = some b') (hw' : b'.wr = true) {l l' : Loc} (hl : m k = some l) (hl' : m k' = some l') (e : l.g = l'.g) : k = k' := by
  cases b with
  | own c =>
    cases b' with
    | own c' => exact R.inj k k' c c' l l' hb hb' hl hl' e
    | mp kk d v => exact absurd e ((R.mpOK hb' hl').2.2 k c l hb hl)
    | _ => cases hw'
  | mp kk d v =>
    cases b' with
    | own c' => exact absurd e.symm ((R.mpOK hb hl).2.2 k' c' l' hb' hl')
    | mp kk' d' v' => exact R.mp.2.1 _ _ _ _ _ _ _ _ _ _ hb hb' hl hl' e
    | _ => cases hw'
  | _ => cases hw

theorem LeH.wr {π : List Nat} {H H1 : Heap} (h3 : LeH π H π H1) {j : Nat} {b0 : Blk} (h : H1[j]? = some b0) (hw : b0.wr = true) : ∃ k' b, π[j]? = some k' ∧ H[k']? = some b ∧ b.wr = true ∧ ((∃ c, b0 = .own c) → ∃ c, b = .own c) ∧ ((∃ kk d v, b0 = .mp kk d v) → ∃ kk d v, b = .mp kk d v) := by
  obtain ⟨g1, g2⟩ := h3.get
  cases b0 with
  | own c =>
    obtain ⟨k', d, a1, a2, _⟩ := LeH.own g2 j c h
    exact ⟨k', _, a1, a2, rfl, (fun _ => ⟨_, rfl⟩), fun ⟨_, _, _, h⟩ => by cases h⟩
  | mp kk d v =>
    obtain ⟨k', a, b⟩ := g2 j _ h
    exact ⟨k', _, a, hget_some b (by simp), rfl, (fun ⟨_, h⟩ => by cases h), fun _ => ⟨_, _, _, rfl⟩⟩
  | _ => cases hw

theorem Rel.joinM (R : Rel C m s tmps w) {ks : List Nat} {H0 H1 : Heap} {r : AV} {w' : World} {v : Value} {m' : Map} (hle : LeH ks s.H ks H0) (hks : ∀ k ∈ ks, k < s.H.length) (R1 : Rel (subC C m s.H ks H0 w) m' ⟨1, [(0, r)], H1 ++ ancs 0 H0.length⟩ #[v] w') (hsc : scM r H0 H1 = true) :
    ∃ m2, Rel C m2 { s with H := putM s.H ks (H1.map (Blk.ren (ks ++ List.range' s.H.length (H1.length - ks.length)))) } tmps w' ∧
      AVal (Reads (OK C m2 (putM s.H ks (H1.map (Blk.ren (ks ++ List.range' s.H.length (H1.length - ks.length))))) w') w') m2 (putM s.H ks (H1.map (Blk.ren (ks ++ List.range' s.H.length (H1.length - ks.length))))) (Go.Pv.ren (ks ++ List.range' s.H.length (H1.length - ks.length)) r) v := by
  obtain ⟨g1, g2⟩ := hle.get
  unfold scM at hsc
  rw [Bool.and_eq_true, Bool.and_eq_true, Bool.and_eq_true, Bool.and_eq_true, decide_eq_true_eq] at hsc
  obtain ⟨⟨⟨⟨s1, s2⟩, s3⟩, s4⟩, s5⟩ := hsc
  have hn : ks.length ≤ H1.length := by omega
  generalize hσe : ks ++ List.range' s.H.length (H1.length - ks.length) = σ
  have hσlen : σ.length = H1.length := by rw [← hσe]; simp; omega
  generalize hH2 : putM s.H ks (H1.map (Blk.ren σ)) = H2
  have hlen2 : H2.length = s.H.length + (H1.length - ks.length) := by rw [← hH2, putM_length _ _ _ (by simpa using hn)]; simp
  -- where the callee's blocks lie
  have hm1 : ∀ j, j < H0.length → m' j = mren m ks j := fun j hj => by
    have h : (H1 ++ ancs 0 H0.length)[H1.length + j]? = some (.anc j j) := by
      rw [List.getElem?_append_right (by omega), Nat.add_sub_cancel_left, ancs_at _ _ _ hj, Nat.zero_add]
    exact (R1.mp.2.2 _ _ _ h).2
  obtain ⟨m2, hm2⟩ : ∃ m2 : Map, m2 = fun k => if k < s.H.length then m k else m' (ks.length + (k - s.H.length)) := ⟨_, rfl⟩
  have hmo : ∀ k, k < s.H.length → m2 k = m k := fun k h => by rw [hm2]; simp [h]
  have hσ : ∀ (j k : Nat), σ[j]? = some k → k < H2.length ∧ m2 k = m' j := by
    intro j k h
    rw [← hσe] at h
    by_cases hj : j < ks.length
    · rw [List.getElem?_append_left hj] at h
      have hk := hks k (List.mem_of_getElem? h)
      refine ⟨by omega, ?_⟩
      rw [hmo k hk, hm1 j (by omega)]
      simp only [mren, h, Option.bind_some]
    · rw [List.getElem?_append_right (by omega)] at h
      have hj2 : j - ks.length < H1.length - ks.length := by
        have := (List.getElem?_eq_some_iff.1 h).1
        simpa using this
      rw [List.getElem?_range' hj2] at h
      simp only [Option.some.injEq, Nat.one_mul] at h
      subst h
      refine ⟨by omega, ?_⟩
      rw [hm2]
      simp only
      rw [if_neg (by omega)]
      congr 1
      omega
  have hσ2 : ∀ k, k < σ.length → σ.getD k 0 < H2.length ∧ m2 (σ.getD k 0) = m' k := fun k hk => by
    have : σ[k]? = some (σ.getD k 0) := by simp [List.getD, List.getElem?_eq_getElem hk]
    exact hσ k _ this
  have hget : ∀ (k : Nat) (b : Blk), H2[k]? = some b → (∃ (j : Nat) (b' : Blk), H1[j]? = some b' ∧ b = b'.ren σ ∧ σ[j]? = some k) ∨ (k < s.H.length ∧ k ∉ ks ∧ s.H[k]? = some b) := by
    intro k b h
    rw [← hH2] at h
    rcases putM_get ks _ s.H k b hks (by simpa using hn) h with ⟨j, h1, h2⟩ | h
    · rw [List.length_map, hσe] at h2
      rw [List.getElem?_map] at h1
      cases e : H1[j]? with
      | none => rw [e] at h1; cases h1
      | some b' => rw [e] at h1; exact .inl ⟨j, b', e, (Option.some.inj h1).symm, h2⟩
    · exact .inr h
  have hHc : ∀ (j : Nat) (b : Blk), H1[j]? = some b → (H1 ++ ancs 0 H0.length)[j]? = some b := fun j b h => by
    rw [List.getElem?_append_left (List.getElem?_eq_some_iff.1 h).1]; exact h
  have hown : ∀ (k : Nat) (c : List AV), H2[k]? = some (.own c) → (∃ (j : Nat) (c' : List AV), H1[j]? = some (.own c') ∧ c = c'.map (Go.Pv.ren σ) ∧ σ[j]? = some k) ∨ (k < s.H.length ∧ k ∉ ks ∧ s.H[k]? = some (.own c)) := by
    intro k c h
    rcases hget k _ h with ⟨j, b', h1, h2, h3⟩ | h
    · cases b' with
      | own c' => simp only [Blk.ren, Blk.own.injEq] at h2; exact .inl ⟨j, c', h1, h2, h3⟩
      | _ => cases h2
    · exact .inr h
  have hmps : ∀ (k : Nat) (kk : IntKind) (d : Int → Bool) (vv : Int → PV), H2[k]? = some (.mp kk d vv) → (∃ j : Nat, H1[j]? = some (.mp kk d vv) ∧ σ[j]? = some k) ∨ (k < s.H.length ∧ k ∉ ks ∧ s.H[k]? = some (.mp kk d vv)) := by
    intro k kk d vv h
    rcases hget k _ h with ⟨j, b', h1, h2, h3⟩ | h
    · cases b' with
      | mp kk' d' v' => simp only [Blk.ren, Blk.mp.injEq] at h2; obtain ⟨rfl, rfl, rfl⟩ := h2; exact .inl ⟨j, h1, h3⟩
      | _ => cases h2
    · exact .inr h
  have hfro : ∀ (k : Nat) (c : List PV), H2[k]? = some (.fro c) → (∃ j : Nat, H1[j]? = some (.fro c) ∧ σ[j]? = some k) ∨ (k < s.H.length ∧ k ∉ ks ∧ s.H[k]? = some (.fro c)) := by
    intro k c h
    rcases hget k _ h with ⟨j, b', h1, h2, h3⟩ | h
    · cases b' with
      | fro c' => simp only [Blk.ren, Blk.fro.injEq] at h2; subst h2; exact .inl ⟨j, h1, h3⟩
      | _ => cases h2
    · exact .inr h
  have lent : ∀ (j : Nat) (b0 : Blk) (l : Loc), H0[j]? = some b0 → b0.wr = true → mren m ks j = some l → ∃ k' b, k' ∈ ks ∧ s.H[k']? = some b ∧ b.wr = true ∧ m k' = some l ∧ ((∃ c, b0 = .own c) → ∃ c, b = .own c) ∧ ((∃ kk d v, b0 = .mp kk d v) → ∃ kk d v, b = .mp kk d v) := by
    intro j b0 l h hw hl
    obtain ⟨k', b, a1, a2, a3, a4, a5⟩ := hle.wr h hw
    simp only [mren, a1, Option.bind_some] at hl
    exact ⟨k', b, List.mem_of_getElem? a1, a2, a3, hl, a4, a5⟩
  have hB1 : ∀ b, (subC C m s.H ks H0 w).B b → C.B b := by
    intro b hb
    rcases hb with hb | ⟨j, b0, l, h1, h2, h3, rfl⟩
    · exact R.base b hb
    · obtain ⟨k', b, _, a2, a3, a4, _⟩ := lent j b0 l h1 h2 h3
      exact (R.wrLt a2 a3 a4).1
  have hBx : ∀ (k : Nat) (b : Blk) (l : Loc), k ∉ ks → s.H[k]? = some b → b.wr = true → m k = some l → ¬ (subC C m s.H ks H0 w).B l.g := by
    intro k b l hk hb hw hl hB
    rcases hB with hB | ⟨j, b0, l0, h1, h2, h3, h4⟩
    · have := (R.wrLt hb hw hl).2
      omega
    · obtain ⟨k', b', a1, a2, a3, a4, _⟩ := lent j b0 l0 h1 h2 h3
      have := R.inj2 hb hw a2 a3 hl a4 h4.symm
      subst this
      exact hk a1
  have hcell : ∀ b o x, OK C m s.H w b → w.cell? ⟨b, o, none⟩ = some x → w'.cell? ⟨b, o, none⟩ = some x := by
    intro b o x hb hc
    by_cases hB : (subC C m s.H ks H0 w).B b
    · exfalso
      rcases hB with hB | ⟨j, b0, l0, h1, h2, h3, h4⟩
      · have := hb.2.1; omega
      · obtain ⟨k', b', a1, a2, a3, a4, _⟩ := lent j b0 l0 h1 h2 h3
        cases b' with
        | own c => exact hb.2.2 k' c l0 a2 a4 h4
        | mp kk d vv =>
          obtain ⟨l', ar, clk, vs, c1, c2, c3, _⟩ := R.mp.1 k' kk d vv a2
          rw [a4] at c1; cases c1
          rw [h4] at c3
          unfold World.cell? at hc
          simp only [c3] at hc
          first | cases hc | simp at hc
        | _ => cases a3
    · rw [World.cell?_of_block (w := w) (R1.below.block b hB)]; exact hc
  have hOK : ∀ b, OK (subC C m s.H ks H0 w) m' (H1 ++ ancs 0 H0.length) w' b → OK C m2 H2 w' b := by
    intro b hb
    refine ⟨?_, hb.2.1, fun k c l h hl => ?_⟩
    · rcases hb.1 with h | h
      · exact h.1
      · exact .inr (hB1 b h)
    · rcases hown k c h with ⟨j, c', h1, _, h3⟩ | ⟨h1, h2, h3⟩
      · rw [(hσ j k h3).2] at hl
        exact hb.2.2 j c' l (hHc _ _ h1) hl
      · rw [hmo k h1] at hl
        rcases hb.1 with h' | h'
        · exact h'.2.2 k c l h3 hl
        · intro e
          exact hBx k _ l h2 h3 rfl hl (by rw [e]; exact h')
  have ho1 : ∀ b, OK C m s.H w b → OK C m2 H2 w' b := by
    intro b hb
    refine ⟨hb.1, Nat.lt_of_lt_of_le hb.2.1 R1.below.size, fun k c l h hl e => ?_⟩
    rcases hown k c h with ⟨j, c', h1, _, h3⟩ | ⟨h1, h2, h3⟩
    · rw [(hσ j k h3).2] at hl
      rcases (R1.wrLt (hHc _ _ h1) rfl hl).1 with hB | ⟨j0, b0, l0, a1, a2, a3, a4⟩
      · have := hb.2.1; omega
      · obtain ⟨k', b', d1, d2, d3, d4, d5, d6⟩ := lent j0 b0 l0 a1 a2 a3
        cases b0 with
        | own c0 =>
          obtain ⟨c1, rfl⟩ := d5 ⟨_, rfl⟩
          exact hb.2.2 k' c1 l0 d2 d4 (by rw [a4, e])
        | mp kk d vv =>
          obtain ⟨kk', d', v', f1⟩ := mpKeep_get s4 j0 kk d vv a1
          have hj0 : j0 < H0.length := (List.getElem?_eq_some_iff.1 a1).1
          have f2 : m' j0 = some l0 := by rw [hm1 j0 hj0]; exact a3
          exact (R1.mpOK (hHc _ _ f1) f2).2.2 j c' l (hHc _ _ h1) hl a4.symm
        | _ => cases a2
    · rw [hmo k h1] at hl
      exact hb.2.2 k c l h3 hl e
  have rd1 : ∀ p x, Reads (OK C m s.H w) w p x → Reads (OK C m2 H2 w') w' p x := fun p x h => h.extc ho1 hcell
  have rd2 : ∀ p x, Reads (OK (subC C m s.H ks H0 w) m' (H1 ++ ancs 0 H0.length) w') w' p x → Reads (OK C m2 H2 w') w' p x := fun p x h => h.mono hOK
  have hlen3 : s.H.length ≤ H2.length := by omega
  have sall : ∀ (j : Nat) (b : Blk), H1[j]? = some b → (match b with | .own c => c.all (scA H1.length) | .anc _ _ => false | _ => true) = true := fun j b h => by
    have := (List.all_eq_true.1 s2) _ (List.mem_of_getElem? h)
    cases b <;> exact this
  refine ⟨m2, ⟨R.laid.ext rd1, R.below.trans ⟨R1.below.os, R1.below.tape, R1.below.output, R1.below.size, fun k hk => R1.below.block k fun h => hk (hB1 k h), R1.below.dr⟩, fun b h => R.base b (Nat.le_trans R1.below.size h), R.size, ?_, ?_, ?_, fun t => ?_, ?_, ?_, ?_⟩, ?_⟩
  · intro k k' c c' l l' h1 h2 h3 h4 h5
    rcases hown k c h1 with ⟨j, d, a1, _, a3⟩ | ⟨a1, a2, a3⟩ <;> rcases hown k' c' h2 with ⟨j', d', b1, _, b3⟩ | ⟨b1, b2, b3⟩
    · rw [(hσ _ _ a3).2] at h3; rw [(hσ _ _ b3).2] at h4
      have := R1.inj j j' d d' l l' (hHc _ _ a1) (hHc _ _ b1) h3 h4 h5
      subst this
      rw [a3] at b3
      exact Option.some.inj b3
    · rw [(hσ _ _ a3).2] at h3; rw [hmo _ b1] at h4
      exact absurd (by rw [← h5]; exact (R1.wrLt (hHc _ _ a1) rfl h3).1) (hBx k' _ l' b2 b3 rfl h4)
    · rw [hmo _ a1] at h3; rw [(hσ _ _ b3).2] at h4
      exact absurd (by rw [h5]; exact (R1.wrLt (hHc _ _ b1) rfl h4).1) (hBx k _ l a2 a3 rfl h3)
    · rw [hmo _ a1] at h3; rw [hmo _ b1] at h4
      exact R.inj k k' c c' l l' a3 b3 h3 h4 h5
  · intro k c h
    rcases hown k c h with ⟨j, c', a1, rfl, a3⟩ | ⟨a1, a2, a3⟩
    · rcases R1.blk j c' (hHc _ _ a1) with ⟨e, hn⟩ | ⟨l, cur, e, b1, b2, b3, b4, b5, b6, b7⟩
      · exact .inl ⟨by rw [e]; rfl, by rw [(hσ _ _ a3).2]; exact hn⟩
      · refine .inr ⟨l, cur, e, by rw [(hσ _ _ a3).2]; exact b1, hB1 _ b2, b3, b4, b5, by simpa using b6, fun i hi => ?_⟩
        rw [List.length_map] at hi
        rw [List.getElem_map]
        have hs : scA σ.length c'[i] = true := by
          rw [hσlen]
          exact (List.all_eq_true.1 (sall j _ a1)) _ (List.getElem_mem hi)
        exact (b7 i hi).sig rd2 hσ2 hs
    · refine (R.blk k c a3).ext rd1 hlen3 hmo (hmo k a1) fun l hl => R1.below.block _ (hBx k _ l a2 a3 rfl hl)
  · intro k c h
    rcases hfro k c h with ⟨j, a1, a3⟩ | ⟨a1, a2, a3⟩
    · rcases R1.fro j c (hHc _ _ a1) with ⟨e1, e2⟩ | ⟨l, vs, e1, e2, e3, e4⟩
      · exact .inl ⟨e1, by rw [(hσ _ _ a3).2]; exact e2⟩
      · exact .inr ⟨l, vs, by rw [(hσ _ _ a3).2]; exact e1, hOK _ e2, e3, fun i hi => ⟨(e4 i hi).1, rd2 _ _ (e4 i hi).2⟩⟩
    · rcases R.fro k c a3 with ⟨e1, e2⟩ | ⟨l, vs, e1, e2, e3, e4⟩
      · exact .inl ⟨e1, by rw [hmo k a1]; exact e2⟩
      · exact .inr ⟨l, vs, by rw [hmo k a1]; exact e1, ho1 _ e2, e3, fun i hi => ⟨hcell _ _ _ e2 (e4 i hi).1, rd1 _ _ (e4 i hi).2⟩⟩
  · exact (R.slot t).ext rd1 hlen3 hmo
  · intro k kk d vv h
    rcases hmps k kk d vv h with ⟨j, a1, a3⟩ | ⟨a1, a2, a3⟩
    · obtain ⟨l, ar, clk, vs, b1, b2, b3, b4, b5, b6, b7⟩ := R1.mp.1 j kk d vv (hHc _ _ a1)
      exact ⟨l, ar, clk, vs, by rw [(hσ _ _ a3).2]; exact b1, hB1 _ b2, b3, b4, b5, b6, fun z hz => rd2 _ _ (b7 z hz)⟩
    · obtain ⟨l, ar, clk, vs, b1, b2, b3, b4, b5, b6, b7⟩ := R.mp.1 k kk d vv a3
      exact ⟨l, ar, clk, vs, by rw [hmo k a1]; exact b1, b2, by rw [R1.below.block _ (hBx k _ l a2 a3 rfl b1)]; exact b3, b4, b5, b6, fun z hz => rd1 _ _ (b7 z hz)⟩
  · intro k k' kk d vv kk' d' v' l l' h1 h2 h3 h4 h5
    rcases hmps k kk d vv h1 with ⟨j, a1, a3⟩ | ⟨a1, a2, a3⟩ <;> rcases hmps k' kk' d' v' h2 with ⟨j', b1, b3⟩ | ⟨b1, b2, b3⟩
    · rw [(hσ _ _ a3).2] at h3; rw [(hσ _ _ b3).2] at h4
      have := R1.mp.2.1 _ _ _ _ _ _ _ _ _ _ (hHc _ _ a1) (hHc _ _ b1) h3 h4 h5
      subst this
      rw [a3] at b3
      exact Option.some.inj b3
    · rw [(hσ _ _ a3).2] at h3; rw [hmo _ b1] at h4
      exact absurd (by rw [← h5]; exact (R1.wrLt (hHc _ _ a1) rfl h3).1) (hBx k' _ l' b2 b3 rfl h4)
    · rw [hmo _ a1] at h3; rw [(hσ _ _ b3).2] at h4
      exact absurd (by rw [h5]; exact (R1.wrLt (hHc _ _ b1) rfl h4).1) (hBx k _ l a2 a3 rfl h3)
    · rw [hmo _ a1] at h3; rw [hmo _ b1] at h4
      exact R.mp.2.1 _ _ _ _ _ _ _ _ _ _ a3 b3 h3 h4 h5
  · intro k i j h
    rcases hget k _ h with ⟨j', b', h1, h2, _⟩ | ⟨a1, a2, a3⟩
    · have := sall j' b' h1
      cases b' with
      | anc _ _ => cases this
      | _ => cases h2
    · obtain ⟨c1, c2⟩ := R.mp.2.2 k i j a3
      exact ⟨by simp only; omega, by rw [hmo j c1]; exact c2⟩
  · have := R1.slot 0
    exact AVal.sig rd2 hσ2 this (by rw [hσlen]; exact s1)

/-! ### The call -/

def argM1 (H : Heap) (ks : List Nat) (x a : AV) : Prop :=
  match a with
  | .p pv => (match peekG H x with | some (p, pv', true) => p ∧ pv' = pv | _ => False)
  | a => x = Go.Pv.ren ks a ∧ scA ks.length a = true

def argsM (H : Heap) (ks : List Nat) : List AV → List AV → Prop
  | x :: xs, a :: avs => argM1 H ks x a ∧ argsM H ks xs avs
  | [], [] => True
  | _, _ => False

theorem argsM_val (R : Rel C m s tmps w) {rd' : PV → Value → Prop} {ks : List Nat} {H0 : Heap} (h1 : ∀ p v, Reads (OK C m s.H w) w p v → rd' p v) (hl : H0.length = ks.length) : ∀ (X avs : List AV) (f : Nat → Value), argsM s.H ks X avs → (∀ i (h : i < X.length), AVal (Reads (OK C m s.H w) w) m s.H X[i] (f i)) →
    avs.length = X.length ∧ ∀ i (h : i < avs.length), AVal rd' (mren m ks) H0 avs[i] (f i)
  | [], [], f, _, _ => ⟨rfl, fun i h => by simp at h⟩
  | x :: xs, a :: avs, f, h, hv => by
    obtain ⟨k1, k2⟩ := argsM_val R h1 hl xs avs (fun i => f (i + 1)) h.2 fun i hi => by have := hv (i + 1) (by simp; omega); rwa [List.getElem_cons_succ] at this
    refine ⟨by simp [k1], fun i hi => ?_⟩
    cases i with
    | succ i => simpa using k2 i (by simpa using hi)
    | zero =>
      have hx := hv 0 (by simp)
      simp only [List.getElem_cons_zero] at hx ⊢
      have h0 := h.1
      unfold argM1 at h0
      split at h0
      · rename_i pv
        split at h0
        · rename_i p pv' hp
          obtain ⟨g1, rfl⟩ := h0
          exact .p _ _ (h1 _ _ ((peekG_val R hx hp g1).2 rfl))
        · exact h0.elim
      · obtain ⟨rfl, hsc⟩ := h0
        exact hx.unren h1 hl hsc
  | [], _ :: _, _, h, _ => h.elim
  | _ :: _, [], _, h, _ => h.elim

theorem call_doesM {o : Oper} {fo : Operand} {args : Array Operand} {ts : Array TypeId} (ho : o.op = .call { callee := .value fo, args := args, argTypes := ts }) {g : FuncId} {cap : List PV} (hfo : s.ev fo = .p (.fn g cap)) {ks : List Nat} {avs : List AV} {H0 H1 : Heap} {r : AV}
    (hc : FnM P g avs H0 r H1) (hargs : argsM s.H ks (args.toList.map s.ev ++ cap.map .p) avs) (hle : LeH ks s.H ks H0) (hnd : ks.Nodup) (hks : ks.all (fun k => decide (k < s.H.length)) = true) (hsc : scM r H0 H1 = true) :
    DoesW P o s (Go.Pv.ren (ks ++ List.range' s.H.length (H1.length - ks.length)) r) (putM s.H ks (H1.map (Blk.ren (ks ++ List.range' s.H.length (H1.length - ks.length))))) := by
  intro C m a w K Q R hK
  have hks' : ∀ k ∈ ks, k < s.H.length := fun k hk => by simpa using (List.all_eq_true.1 hks) k hk
  have hfv := R.ev fo
  rw [hfo] at hfv
  generalize hfe : a.eval fo = fv at hfv
  have hfv := hfv.p_inv
  cases hfv with
  | fn _ _ vs hcl hcr =>
    obtain ⟨⟨fn, hfn, hnm, hbd⟩, hcalls⟩ := hc
    have hrun : (execOp a.eval o).run P w = .ok (.enter g (args.map a.eval ++ vs)) w := by
      have hnm' : ¬ fn.name = "runtime.NumGoroutine" := by simpa using hnm
      have hbd' : ¬ fn.body = none := by intro e; rw [e] at hbd; simp at hbd
      simp [execOp, ho, resolve, hfe, Deferred.ofValue, invoke, callFunc, hfn, hnm', hbd']
    unfold Oper.wp
    rw [hrun]
    simp only [Oper.upon]
    obtain ⟨g1, g2⟩ := hle.get
    have ho1 : ∀ b, OK C m s.H w b → OK (subC C m s.H ks H0 w) (mren m ks) H0 w b := by
      refine fun b h => ⟨.inl h, h.2.1, fun k c l hk hl => ?_⟩
      obtain ⟨k', d, a1, a2, _⟩ := LeH.own g2 k c hk
      simp only [mren, a1, Option.bind_some] at hl
      exact h.2.2 k' _ l a2 hl
    obtain ⟨e1, e2⟩ := argsM_val R (rd' := Reads (OK (subC C m s.H ks H0 w) (mren m ks) H0 w) w) (H0 := H0) (fun p v h => h.mono ho1) g1.symm _ avs (fun i => (args.map a.eval ++ vs).getD i undef) hargs fun i hi => by
      simp only [List.length_append, List.length_map, Array.length_toList] at hi
      by_cases hip : i < args.size
      · rw [List.getElem_append_left (by simpa using hip)]
        simp only [Array.getD_eq_getD_getElem?]
        rw [Array.getElem?_append_left (by simpa using hip)]
        have := R.ev args[i]
        simpa [Array.getElem?_eq_getElem hip] using this
      · rw [List.getElem_append_right (by simp; omega)]
        simp only [Array.getD_eq_getD_getElem?]
        rw [Array.getElem?_append_right (by simp; omega)]
        simp only [List.getElem_map, List.length_map, Array.length_toList, Array.size_map]
        have := hcr (i - args.size) (by omega)
        rw [Array.getD_eq_getD_getElem?] at this
        exact .p _ _ this
    have hsz : (args.map a.eval ++ vs).size = avs.length := by
      rw [e1]; simp; omega
    have s5 : H0.all notAnc = true := by
      unfold scM at hsc
      rw [Bool.and_eq_true] at hsc
      exact hsc.2
    have R0 : Rel (subC C m s.H ks H0 w) (mren m ks) ⟨avs.length, entA 0 avs, H0⟩ (args.map a.eval ++ vs) w := by
      refine R.weakenC (s1 := ⟨avs.length, entA 0 avs, H0⟩) hsz hnd hle ho1 (BelowP.refl _ _) (fun b h => .inl h) (fun k b l h hw hl _ => .inr ⟨k, b, l, h, hw, hl, rfl⟩) (fun k i j h => ?_) fun t => ?_
      · exact absurd rfl (notAnc_spec ((List.all_eq_true.1 s5) _ (List.mem_of_getElem? h)) i j)
      · unfold St.get
        simp only
        rw [entA_lk, if_pos (Nat.zero_le _), Nat.sub_zero]
        by_cases ht : t < avs.length
        · have := e2 t ht
          simpa [List.getD, List.getElem?_eq_getElem ht] using this
        · rw [List.getD_eq_getElem?_getD, List.getElem?_eq_none (by omega)]
          exact .dead _
    have R0' := R0.addAnc (n := H0.length) (Nat.le_refl _) fun i _ => rfl
    refine (hcalls _ _ w _ R0').mono fun e w' ⟨v, m', he, R1⟩ => ?_
    subst he
    obtain ⟨m2, R2, hv⟩ := R.joinM hle hks' R1 hsc
    exact hK v m2 w' R2 hv

/-- THE WORD OF THE WALK: a call that is lent blocks. -/
theorem runs_callM {all : Array Oper} {rest : List Oper} {K : St → Prop} {dst : Option Tmp} {ty : TypeId} {pos : String} {aft : Array Edge} {gd : Option (Nat × Bool)} {fo : Operand} {args : Array Operand} {ts : Array TypeId} {g : FuncId} {avs : List AV} {H0 H1 : Heap} {r : AV} (ks : List Nat)
    (hc : FnM P g avs H0 r H1) {cap : List PV} (hfo : s.ev fo = .p (.fn g cap)) (hg : guardA all s { dst := dst, op := .call { callee := .value fo, args := args, argTypes := ts }, type := ty, pos := pos, after := aft, guard := gd } = some true)
    (hargs : argsM s.H ks (args.toList.map s.ev ++ cap.map .p) avs) (hle : LeH ks s.H ks H0) (hnd : ks.Nodup) (hks : ks.all (fun k => decide (k < s.H.length)) = true) (hsc : scM r H0 H1 = true) (hd : dstOk s dst)
    (h : Runs P false all rest K (({ s with H := putM s.H ks (H1.map (Blk.ren (ks ++ List.range' s.H.length (H1.length - ks.length)))) } : St).put dst (Go.Pv.ren (ks ++ List.range' s.H.length (H1.length - ks.length)) r))) :
    Runs P false all ({ dst := dst, op := .call { callee := .value fo, args := args, argTypes := ts }, type := ty, pos := pos, after := aft, guard := gd } :: rest) K s := by
  obtain ⟨s', hr, hK⟩ := h
  exact ⟨s', .cons (.op s _ _ hg (dstOk_spec hd) (call_doesM rfl hfo hc hargs hle hnd hks hsc) fun h => by cases h) hr, hK⟩

/-! ### How much stands in a map -/

open Classical in
noncomputable def mpLen (d : Int → Bool) : Nat := if h : ∃ l : List Int, l.Nodup ∧ ∀ z, z ∈ l ↔ d z = true then h.choose.length else 0

def keyInt : Value → Int
  | .int _ z => z
  | _ => 0

end

end Go.Pv

/-
  Steps of a region beside those that are evaluated: literal rows as one's own, entries of literal maps. Conditions: none; a library text.
-/
set_option linter.all false

namespace Go.Pv
open Go.RowKit
section
variable {P : Program} {T : TypeId → Option TI} {s : St}
section
variable {C : Ctx} {m : Map} {tmps : Array Value} {w : World}
end
end
end Go.Pv

/-
  Walks: the law SeriesComposes. Conditions: none.
-/
set_option linter.all false

namespace Go.Proofs.YtjbfkdaodfdpcaaDoor
open Go.Pv

/-- The numbers, each put where it stands. -/
def ins (z : Int) (l : List Int) : List Int := l.takeWhile (· < z) ++ (z :: l.dropWhile (· < z))
def fac (n : Nat) (T : Nat → Nat → Bool) (k : Nat) : Int := (((thl n (T k)).length / (thl n (T (k + 1))).length : Nat) : Int)
def fos (n : Nat) (T : Nat → Nat → Bool) : Nat → List Int
  | 0 => []
  | k + 1 => ins (fac n T k) (fos n T k)
section
variable {n e : Nat} {m : List Int}

/-- Things, conjugated by the things of a list. -/
def cjs (n : Nat) (f : Nat → Nat → Nat) (e x : Nat) (l : List Int) : List Int := l.map fun z => ((cjr n f e x z.toNat : Nat) : Int)
end
end Go.Proofs.YtjbfkdaodfdpcaaDoor

/-
  The library's sort by a comparison, over a row of the caller's own: what it leaves. Conditions: none; a library text.
-/
set_option linter.all false
namespace Go.Pv
open Go.RowKit

section
variable {P : Program} {ρ : Go.Shelf.Ren}

end
end Go.Pv

/-
  The library's sort of numbers, over a row of the caller's own: what it leaves. Conditions: none; a library text.
-/
set_option linter.all false
namespace Go.Pv
open Go.RowKit

section
variable {P : Program} {ρ : Go.Shelf.Ren}
def srt (l : List Int) : List Int := l.mergeSort fun x y => decide (x ≤ y)

/-- slices.Sort of numbers: behind it the row holds them in order. -/
theorem sortI_m (L : Go.Proofs.Lays.n189 P ρ) (zs : List Int) (hlen : zs.length < 4611686018427387904) :
    FnM P (ρ.f 189) [.sl 0 0 zs.length] [.own (opl (il zs))] (.p (.tup [])) [.own (opl (il (srt zs)))] := by
  refine ⟨⟨_, L.f189, by kernel_rfl, rfl⟩, fun C m w vals R => ?_⟩
  have hsz : vals.size = 1 := R.size
  have s0 := R.slot 0
  simp only [St.get, entA, lk, BEq.rfl, cond_true] at s0
  generalize hv0 : vals.getD 0 undef = v0 at s0
  have hvals : vals = #[v0] := by
    apply Array.ext
    · simpa using hsz
    · intro i h1 h2
      simp only [Array.getD_eq_getD_getElem?] at hv0
      match i, h2 with
      | 0, _ => rw [Array.getElem?_eq_getElem h1] at hv0; simpa using hv0
  subst hvals
  cases s0 with
  | sl _ _ _ _ hk0 h0 =>
  by_cases hne : zs = []
  · subst hne
    have hcall : ∃ p cp, v0 = .slice p 0 cp := by
      rcases h0 with ⟨_, a, h0⟩ | ⟨l, cp, hm, rfl, hle, hlo⟩
      · exact ⟨a, _, h0⟩
      · exact ⟨_, _, rfl⟩
    obtain ⟨p, cp, rfl⟩ := hcall
    refine (Go.Proofs.Any.slices_Sort_int_none L p cp w).mono fun e2 w2 ⟨he, hw⟩ => ?_
    subst he hw
    rw [show srt ([] : List Int) = [] from by simp [srt]]
    exact ⟨.tuple #[], m, rfl, R.laid, R.below, R.base, rfl, R.inj, R.blk, R.fro, fun t => by
      cases t with
      | zero => exact .p _ _ (.tup [] #[] rfl fun c h => absurd h (by simp))
      | succ t => exact .dead _, R.mp⟩
  have hpos : 0 < zs.length := List.length_pos_iff.2 hne
  rcases h0 with ⟨h0, _⟩ | ⟨l, cp, hm, rfl, hle, hlo⟩
  · omega
  rcases R.blk 0 (opl (il zs)) rfl with ⟨hx, _⟩ | ⟨l', cur, e, hm', hB, hg, hcs, hmx, hol, hcell⟩
  · exact absurd (show zs = [] by simpa [opl, il] using hx) hne
  rw [hm] at hm'; cases hm'
  rw [opl_length, il_length] at hol
  have hblk : l.g < w.heap.size := (Array.getElem?_eq_some_iff.1 hg).1
  have hrd : ∀ j (h : j < zs.length), cur.getD (l.o + j) undef = .int .i64 zs[j] := fun j h => by
    have := hcell j (by rw [opl_length, il_length]; exact h)
    simp only [opl, il, List.getElem_map] at this
    have h2 := this.p_inv
    generalize cur.getD (l.o + j) undef = v at h2 ⊢
    cases h2
    rfl
  have hH : Go.Sort.Holds (Value.int .i64) w l.g (l.o + 0) zs.toArray := fun j hj => by
    have hj' : j < zs.length := by simpa using hj
    have hjc : l.o + j < cur.size := by omega
    refine ⟨?_, ?_⟩
    · rw [getElem!_pos zs.toArray j hj]
      have := hrd j hj'
      simp only [World.cell?, hg, Nat.add_zero]
      simpa [Array.getD_eq_getD_getElem?, Array.getElem?_eq_getElem hjc] using this
    · simp [World.frozen?, hg]
  have hcall := Go.Proofs.Any.slices_Sort_int L l.g (l.o + 0) cp zs w hH hblk hlen
  refine hcall.mono fun e2 w2 ⟨he, n, os, hw⟩ => ?_
  subst he
  refine ⟨.tuple #[], m, rfl, ?_⟩
  have hyl : (srt zs).length = zs.length := (List.mergeSort_perm zs _).length_eq
  have hd' : (zs.mergeSort fun x y => decide (x ≤ y)).toArray.size = zs.length := by simpa using hyl
  have R1 : Rel C m ⟨1, entA 0 [.sl 0 0 zs.length], hset ([.own (opl (il zs))] ++ ancs 0 [Blk.own (opl (il zs))].length) 0 (.own (opl (il (srt zs))))⟩ #[.slice (some ⟨l.g, l.o + 0, none⟩) zs.length cp] (Go.Sort.putRow (Value.int .i64) (Go.Sort.ahead w n) l.g (l.o + 0) (zs.mergeSort fun x y => decide (x ≤ y)).toArray) := by
    refine R.setBlk (a := { tmps := #[.slice (some ⟨l.g, l.o + 0, none⟩) zs.length cp], defers := [] }) (c := opl (il zs)) rfl hm ⟨rfl, rfl, rfl, by simp, fun k hk => ?_, by simp⟩ (fun b hb => ?_) (cur := Go.Sort.putCells (Value.int .i64) (l.o + 0) (zs.mergeSort fun x y => decide (x ≤ y)).toArray cur) (e := e) ?_ (by simp [Go.Sort.putCells, hcs]) (by rw [opl_length, il_length]; omega) fun j hj => ?_
    · simp only [Go.Sort.putRow, Go.Sort.mapBlock, Array.getElem?_modify]
      rw [if_neg (fun e => hk (by rw [← e]; exact hB))]; rfl
    · simp only [Go.Sort.putRow, Go.Sort.mapBlock, Array.getElem?_modify]
      rw [if_neg (Ne.symm hb)]; rfl
    · simp only [Go.Sort.putRow, Go.Sort.mapBlock, Array.getElem?_modify]
      rw [if_pos trivial]
      show Option.map _ (w.heap[l.g]?) = _
      rw [hg]; rfl
    · rw [opl_length, il_length] at hj
      have hjc : l.o + j < cur.size := by omega
      have hjd : j < (zs.mergeSort fun x y => decide (x ≤ y)).toArray.size := by omega
      have e3 : (Go.Sort.putCells (Value.int .i64) (l.o + 0) (zs.mergeSort fun x y => decide (x ≤ y)).toArray cur).getD (l.o + j) undef = .int .i64 ((srt zs)[j]'hj) := by
        simp only [Go.Sort.putCells, Array.getD_eq_getD_getElem?, Array.getElem?_mapIdx, Array.getElem?_eq_getElem hjc, Option.map_some, Option.getD_some]
        rw [if_pos ⟨by omega, by omega⟩, show l.o + j - (l.o + 0) = j by omega, getElem!_pos _ j hjd]
        rfl
      rw [e3]
      have e5 : (opl (il (srt zs)))[j]'(by rw [opl_length, il_length]; exact hj) = .p (.int .i64 ((srt zs)[j]'hj)) := by simp [opl, il]
      rw [e5]
      exact .p _ _ (.int _ _)
  have R2 := R1.later (w' := w2) (by
    rw [hw]
    refine ⟨rfl, rfl, rfl, by simp, fun k hk => ?_, Nat.le_refl _⟩
    exact Go.Sort.heap_grow_old _ _ hk)
  exact ⟨R2.laid, R2.below, R2.base, rfl, R2.inj, R2.blk, R2.fro, fun t => by
    cases t with
    | zero => exact .p _ _ (.tup [] #[] rfl fun c h => absurd h (by simp))
    | succ t => exact .dead _, R2.mp⟩
end
end Go.Pv

/-
  Plain: what the factors of a list of sets are; sorted lists. Conditions: none.
-/
set_option linter.all false
namespace Go.Proofs.YtjbfkdaodfdpcaaDoor

open Go.Pv
theorem srt_perm (l : List Int) : (srt l).Perm l := List.mergeSort_perm _ _
theorem srt_rise (l : List Int) : (srt l).Pairwise (· ≤ ·) := by
  have := List.pairwise_mergeSort (le := fun x y : Int => decide (x ≤ y)) (fun a b c h1 h2 => by
    simp only [decide_eq_true_eq] at *; omega) (fun a b => by
    simp only [Bool.or_eq_true, decide_eq_true_eq]; omega) l
  exact this.imp fun h => by simpa using h
theorem rise_unique : ∀ (xs ys : List Int), xs.Perm ys → xs.Pairwise (· ≤ ·) → ys.Pairwise (· ≤ ·) → xs = ys
  | [], ys, h, _, _ => h.symm.eq_nil.symm
  | x :: r, [], h, _, _ => h.eq_nil
  | x :: r, y :: s, h, h1, h2 => by
    have hxy : x = y := by
      have hx : x ∈ y :: s := h.mem_iff.1 (by simp)
      have hy : y ∈ x :: r := h.mem_iff.2 (by simp)
      rcases List.mem_cons.1 hx with hx | hx
      · exact hx
      · rcases List.mem_cons.1 hy with hy' | hy'
        · exact hy'.symm
        · have a1 := (List.pairwise_cons.1 h1).1 y hy'
          have a2 := (List.pairwise_cons.1 h2).1 x hx
          omega
    subst hxy
    rw [rise_unique r s (List.Perm.cons_inv h) (List.pairwise_cons.1 h1).2 (List.pairwise_cons.1 h2).2]
theorem srt_of {l ys : List Int} (h : ys.Perm l) (hr : ys.Pairwise (· ≤ ·)) : ys = srt l := rise_unique _ _ (h.trans (srt_perm l).symm) hr (srt_rise l)
theorem srt_len (l : List Int) : (srt l).length = l.length := (srt_perm l).length_eq
section
variable {n e : Nat} {f : Nat → Nat → Nat}
noncomputable def okR (n : Nat) (f : Nat → Nat → Nat) (e : Nat) (l : List Int) : Bool := @decide (∃ p, l = thl n p ∧ Sub n f e p) (Classical.propDecidable _)
theorem okR_iff {l : List Int} : okR n f e l = true ↔ ∃ p, l = thl n p ∧ Sub n f e p := by unfold okR; exact @decide_eq_true_iff _ (Classical.propDecidable _)
theorem okR_thl (G : Grp n f e) {p : Nat → Bool} : okR n f e (thl n p) = true ↔ Sub n f e p := by
  rw [okR_iff]
  refine ⟨fun ⟨q, h1, h2⟩ => ?_, fun h => ⟨p, rfl, h⟩⟩
  have hpq : ∀ a, a < n → p a = q a := fun a ha => by rw [Bool.eq_iff_iff, ← mem_thl_n ha, ← mem_thl_n ha, h1]
  exact sub_of G (by rw [hpq e G.el]; exact h2.one) fun a b ha hb p1 p2 => by
    rw [hpq _ (G.cl a b ha hb)]
    exact h2.mul a b ha hb (by rwa [← hpq a ha]) (by rwa [← hpq b hb])

/-- The test of a row. -/
def tsl (l : List (List Int)) (i : Nat) : Nat → Bool := tst (l.getD i [])
theorem tst_thlF {p : Nat → Bool} {a : Nat} (ha : a < n) : tst (thl n p) a = p a := by
  unfold tst
  rw [Bool.eq_iff_iff, decide_eq_true_eq, mem_thl_n ha]
theorem thl_tst (p : Nat → Bool) : thl n (tst (thl n p)) = thl n p := thl_congr fun a ha => tst_thlF ha
/-- A row that is in its form. -/
theorem okR_row (G : Grp n f e) {l : List Int} (h : okR n f e l = true) : l = thl n (tst l) ∧ Sub n f e (tst l) := by
  obtain ⟨p, rfl, hp⟩ := okR_iff.1 h
  refine ⟨(thl_tst p).symm, ?_⟩
  rw [← okR_thl G, thl_tst]
  exact okR_iff.2 ⟨p, rfl, hp⟩
noncomputable def mxR (n : Nat) (f : Nat → Nat → Nat) (e : Nat) (l : List (List Int)) (k : Nat) : Bool := @decide (Mxn n f e (tsl l k) (tsl l (k + 1))) (Classical.propDecidable _)
theorem mxR_iff {l : List (List Int)} {k : Nat} : mxR n f e l k = true ↔ Mxn n f e (tsl l k) (tsl l (k + 1)) := by unfold mxR; exact @decide_eq_true_iff _ (Classical.propDecidable _)
/-- In a subgroup; normal in it. -/
def Inn (n : Nat) (p q : Nat → Bool) : Prop := ∀ x, x < n → q x = true → p x = true
def Nin (n : Nat) (f : Nat → Nat → Nat) (e : Nat) (p q : Nat → Bool) : Prop := ∀ a x, a < n → x < n → p a = true → q x = true → q (cjr n f e x a) = true
noncomputable def stF (n : Nat) (f : Nat → Nat → Nat) (e : Nat) (p q : Nat → Bool) : Int := @ite _ (Inn n p q) (Classical.propDecidable _) (@ite _ (Nin n f e p q) (Classical.propDecidable _) 6 4) 7
def facL (l : List (List Int)) (k : Nat) : List Int := (List.range k).map fun j => (((l.getD j []).length / (l.getD (j + 1) []).length : Nat) : Int)
theorem facL_succ (l : List (List Int)) (k : Nat) : facL l (k + 1) = facL l k ++ [(((l.getD k []).length / (l.getD (k + 1) []).length : Nat) : Int)] := by
  unfold facL
  rw [List.range_succ, List.map_append]; rfl
theorem facL_len (l : List (List Int)) (k : Nat) : (facL l k).length = k := by simp [facL]

/-- What Factors tells. -/
noncomputable def fsp (n : Nat) (f : Nat → Nat → Nat) (e : Nat) (l : List (List Int)) : List Int × (Int × Int) :=
  bif decide (l.length < 1) || decide (10 < l.length) then ([], (2, 0)) else
  bif decide ((l.getD 0 []).length ≠ n) || decide ((l.getD (l.length - 1) []).length ≠ 1) then ([], (8, 0)) else
  match fst' (fun i => !okR n f e (l.getD i [])) l.length with
  | some i => ([], (5, (i : Int)))
  | none => match fst' (fun k => !mxR n f e l k) (l.length - 1) with
    | some k => ([], (stF n f e (tsl l k) (tsl l (k + 1)), ((k : Int) + 1)))
    | none => (srt (facL l (l.length - 1)), (0, 0))
variable {l : List (List Int)}
theorem fsp_many (h : l.length < 1 ∨ 10 < l.length) : fsp n f e l = ([], (2, 0)) := by
  unfold fsp
  rw [← Bool.decide_or, decide_eq_true h]; rfl
/-- As many sets as can be. -/
structure Fw (n : Nat) (l : List (List Int)) : Prop where
  lo : 1 ≤ l.length
  hi : l.length ≤ 10
theorem fsp_size (hw : Fw n l) (h : (l.getD 0 []).length ≠ n ∨ (l.getD (l.length - 1) []).length ≠ 1) : fsp n f e l = ([], (8, 0)) := by
  have := hw.lo
  have := hw.hi
  unfold fsp
  rw [← Bool.decide_or, decide_eq_false (show ¬ (l.length < 1 ∨ 10 < l.length) by omega), ← Bool.decide_or, decide_eq_true h]; rfl
structure Fz (n : Nat) (l : List (List Int)) : Prop extends Fw n l where
  first : (l.getD 0 []).length = n
  last : (l.getD (l.length - 1) []).length = 1
theorem fsp_next (hz : Fz n l) : fsp n f e l = match fst' (fun i => !okR n f e (l.getD i [])) l.length with
  | some i => ([], (5, (i : Int)))
  | none => match fst' (fun k => !mxR n f e l k) (l.length - 1) with
    | some k => ([], (stF n f e (tsl l k) (tsl l (k + 1)), ((k : Int) + 1)))
    | none => (srt (facL l (l.length - 1)), (0, 0)) := by
  have := hz.lo
  have := hz.hi
  have h1 := hz.first
  have h2 := hz.last
  unfold fsp
  rw [← Bool.decide_or, decide_eq_false (show ¬ (l.length < 1 ∨ 10 < l.length) by omega), ← Bool.decide_or, decide_eq_false (show ¬ ((l.getD 0 []).length ≠ n ∨ (l.getD (l.length - 1) []).length ≠ 1) by omega)]; rfl
theorem fsp_form (hz : Fz n l) {i : Nat} (hi : i < l.length) (h : okR n f e (l.getD i []) = false) (hj : ∀ j, j < i → okR n f e (l.getD j []) = true) : fsp n f e l = ([], (5, (i : Int))) := by
  rw [fsp_next hz, fst_some hi (by rw [h]; rfl) fun j hj2 => by rw [hj j hj2]; rfl]
/-- All in their form. -/
structure Fo (n : Nat) (f : Nat → Nat → Nat) (e : Nat) (l : List (List Int)) : Prop extends Fz n l where
  ok : ∀ i, i < l.length → okR n f e (l.getD i []) = true
theorem fsp_step (h : Fo n f e l) {k : Nat} (hk : k < l.length - 1) (hm : ¬ Mxn n f e (tsl l k) (tsl l (k + 1))) (hj : ∀ j, j < k → Mxn n f e (tsl l j) (tsl l (j + 1))) : fsp n f e l = ([], (stF n f e (tsl l k) (tsl l (k + 1)), (k : Int) + 1)) := by
  rw [fsp_next h.toFz, fst_none fun i hi => by rw [h.ok i hi]; rfl]
  show (match fst' _ _ with | some k => _ | none => _) = _
  rw [fst_some hk (by rw [Bool.not_eq_true', Bool.eq_false_iff]; exact fun hh => hm (mxR_iff.1 hh)) fun j hj2 => by rw [mxR_iff.2 (hj j hj2)]; rfl]
theorem fsp_ok (h : Fo n f e l) (hj : ∀ j, j < l.length - 1 → Mxn n f e (tsl l j) (tsl l (j + 1))) : fsp n f e l = (srt (facL l (l.length - 1)), (0, 0)) := by
  rw [fsp_next h.toFz, fst_none fun i hi => by rw [h.ok i hi]; rfl]
  show (match fst' _ _ with | some k => _ | none => _) = _
  rw [fst_none fun j hj2 => by rw [mxR_iff.2 (hj j hj2)]; rfl]
theorem stF_7 {p q : Nat → Bool} (h : ¬ Inn n p q) : stF n f e p q = 7 := by unfold stF; rw [if_neg h]
theorem stF_4 {p q : Nat → Bool} (h1 : Inn n p q) (h : ¬ Nin n f e p q) : stF n f e p q = 4 := by unfold stF; rw [if_pos h1, if_neg h]
theorem stF_6 {p q : Nat → Bool} (h1 : Inn n p q) (h : Nin n f e p q) : stF n f e p q = 6 := by unfold stF; rw [if_pos h1, if_pos h]
theorem stF_ne {p q : Nat → Bool} : ¬ stF n f e p q = 0 := by
  unfold stF
  split
  · split <;> omega
  · omega
/-- Without a fault: all steps are as small as can be. -/
theorem fsp_good (h : (fsp n f e l).2.1 = 0) : Fo n f e l ∧ (∀ j, j < l.length - 1 → Mxn n f e (tsl l j) (tsl l (j + 1))) := by
  have key : l.length < 1 ∨ 10 < l.length ∨ Fw n l := by
    by_cases h1 : l.length < 1
    · exact .inl h1
    · by_cases h2 : 10 < l.length
      · exact .inr (.inl h2)
      · exact .inr (.inr ⟨by omega, by omega⟩)
  rcases key with h1 | h1 | hw
  · rw [fsp_many (.inl h1)] at h; exact absurd h (by decide)
  · rw [fsp_many (.inr h1)] at h; exact absurd h (by decide)
  by_cases h2 : (l.getD 0 []).length ≠ n ∨ (l.getD (l.length - 1) []).length ≠ 1
  · rw [fsp_size hw h2] at h; exact absurd h (by decide)
  have hz : Fz n l := ⟨hw, by omega, by omega⟩
  rw [fsp_next hz] at h
  cases h1 : fst' (fun i => !okR n f e (l.getD i [])) l.length with
  | some i => rw [h1] at h; exact absurd h (show ¬ (5 : Int) = 0 by decide)
  | none =>
    rw [h1] at h
    have ho : Fo n f e l := ⟨hz, fun i hi => by have := fst_spec0 h1 i hi; simpa using this⟩
    cases h2 : fst' (fun k => !mxR n f e l k) (l.length - 1) with
    | some k => rw [h2] at h; exact absurd h stF_ne
    | none => exact ⟨ho, fun j hj => mxR_iff.1 (by have := fst_spec0 h2 j hj; simpa using this)⟩
end
end Go.Proofs.YtjbfkdaodfdpcaaDoor

/-
  Walks: the law QuotMakes. Conditions: none.
-/
set_option linter.all false
namespace Go.Proofs.YtjbfkdaodfdpcaaDoor
open Go.Pv

theorem qtb_GT {n e : Nat} {m : List Int} (h : GT n m n e) {p : Nat → Bool} (hs : Sub n (op m n) e p) (hN : Nml n (op m n) e p) : GT (cst n (dco n (op m n) p (onp e))).length (qtb n (op m n) (dco n (op m n) p (onp e))) (cst n (dco n (op m n) p (onp e))).length (clq n (dco n (op m n) p (onp e)) e) := by
  have G := h.2.2
  have E := G.dco_eqv hs G.onp_sub
  have Q := cst_qm G E fun a b c d ha hb' hc hd h1 h2 => G.rco_cong hs hN ha hb' hc hd h1 h2
  have hcl : (cst n (dco n (op m n) p (onp e))).length ≤ n := cstp_len _ _ _
  have hb := h.2.1.big
  exact tbl_GT' (by omega) (Q.grp G)
theorem qtb_op {n : Nat} {f : Nat → Nat → Nat} {r : Nat → Nat → Bool} {i j : Nat} (hi : i < (cst n r).length) (hj : j < (cst n r).length) : op (qtb n f r) (cst n r).length i j = qop f (clq n r) (rpq n r) i j := tbl_op' _ hi hj

end Go.Proofs.YtjbfkdaodfdpcaaDoor

/-
  Walks: the law QuotSimple. Conditions: none.
-/
set_option linter.all false
namespace Go.Proofs.YtjbfkdaodfdpcaaDoor
open Go.Pv

/-- A group whose things make it, each with its conjugates. -/
def SimP (n e : Nat) (cw : Nat → Nat → Bool) (k : Nat) : Prop := 1 < n ∧ ∀ a, a < k → a = e ∨ (thl n (cw a)).length = n

theorem simple_ok {n e : Nat} {m : List Int} (h : GT n m n e) (cw : Nat → Nat → Bool) (hqa : ∀ a x, x < n → (cw a x = true ↔ Gen n (op m n) e (cup n (op m n) e (onp a)) x)) (b : Bool) (hbs : b = true ↔ SimP n e cw n) :
    FnC Tryd.prog 76 [gp n m] (.tup [.bool b, fl (0, 0)]) := by
  have G := h.2.2
  have hb := h.2.1.big
  have hml := h.2.1.len
  have hsq := sq_le hb
  refine fnc_of tab_ok Tryd.func76 rfl (by kernel_rfl) (by rw [Tryd.ntmps76]; exact Nat.le_add_left 1 _) ?_; rw [Tryd.ntmps76]
  refine qm ?_
  refine hk_region fun K hK => runs_eval tab_ok ?_
  simp only [ev0, evA, evB, evP, fl, gp, tab, simprocAttr, reduceCtorEq, reduceIte]
  refine fin_run ?_ (hK _ ?_) <;> clear hK <;> clear K
  · (first | exact trivial | omega | (simp only [In64] at *; omega) | (simp [In64] at *; omega) | (simp_all; done) | skip)
  refine qa (qm (qm ?_))
  refine hk_region fun K hK => runs_eval tab_ok ?_
  simp only [ev0, evA, evB, evP, fl, gp, tab, simprocAttr, reduceCtorEq, reduceIte]
  refine fin_stop trivial (runs_call (check_c n m (by omega)) rfl rfl rfl (by simp only [dstOk, Nat.reduceLT]) (by repeat (first | exact trivial | constructor)) (runs_eval tab_ok ?_))
  simp only [ev0, evA, evB, evP, fl, gp, tab, simprocAttr, reduceCtorEq, reduceIte, gf_of h]
  refine fin_run ?_ (hK _ ?_) <;> clear hK <;> clear K
  · (first | exact trivial | omega | (simp only [In64] at *; omega) | (simp [In64] at *; omega) | (simp_all; done) | skip)
  refine qa (qm ?_)
  refine hk_region fun K hK => runs_eval tab_ok ?_
  simp only [ev0, evA, evB, evP, fl, gp, tab, simprocAttr, reduceCtorEq, reduceIte]
  refine fin_run ?_ (hK _ ?_) <;> clear hK <;> clear K
  · (first | exact trivial | omega | (simp only [In64] at *; omega) | (simp [In64] at *; omega) | (simp_all; done) | skip)
  refine qa ?_
  refine hk_cond rfl (fun hC1 => ?_) (fun hC1 => ?_)
  · cases hC1
  · (try simp only [nhs] at hC1)
    refine qh (qa (qm (qm ?_)))
    refine hk_region fun K hK => runs_eval tab_ok ?_
    simp only [ev0, evA, evB, evP, fl, gp, tab, simprocAttr, reduceCtorEq, reduceIte]
    refine fin_run ?_ (hK _ ?_) <;> clear hK <;> clear K
    · (first | exact trivial | omega | (simp only [In64] at *; omega) | (simp [In64] at *; omega) | (simp_all; done) | skip)
    refine qa (ql ?_)
    refine hk_loop (ι := Nat) (fun a => ⟨41, [(1, .ptr 0 0), (3, .ptr 1 0), (15, .p (.int .i64 n)), (16, .p (.int .i64 a))], [.own [.p (.int .i64 n), .p (.list (il m))], .own [.p (.int .i64 0), .p (.int .i64 0)]]⟩) (fun a => a ≤ n ∧ ∀ c, c < a → c = e ∨ (thl n (cw c)).length = n) (fun a => n - a) 0 ⟨Nat.zero_le _, fun j hj => by omega⟩ [0, 1] (by simp only [leq, leA, ev0, evA, evB, evP, fl, gp, tab, simprocAttr, reduceCtorEq, reduceIte] <;> trivial) fun a ha => ?_
    obtain ⟨ha1, ha2⟩ := ha
    refine qm ?_
    refine hk_region fun K hK => runs_eval tab_ok ?_
    simp only [ev0, evA, evB, evP, fl, gp, tab, simprocAttr, reduceCtorEq, reduceIte]
    refine fin_run trivial (hK _ ?_) <;> clear hK <;> clear K
    refine qa (qm ?_)
    refine hk_cond rfl (fun hC2 => ?_) (fun hC2 => ?_)
    · (try simp only [nhs] at hC2)
      have hal : a < n := by omega
      refine qh (qa (qm (ql (qm ?_))))
      refine hk_region fun K hK => runs_eval tab_ok ?_
      simp only [ev0, evA, evB, evP, fl, gp, tab, simprocAttr, reduceCtorEq, reduceIte]
      refine fin_run trivial (hK _ ?_) <;> clear hK <;> clear K
      refine qa (qm (qm ?_))
      refine hk_region fun K hK => runs_eval tab_ok ?_
      simp only [ev0, evA, evB, evP, fl, gp, tab, simprocAttr, reduceCtorEq, reduceIte]
      refine fin_stop trivial (runs_call (oneOf_c h) rfl rfl rfl (by simp only [dstOk, Nat.reduceLT]) (by repeat (first | exact trivial | constructor)) (runs_eval tab_ok ?_))
      simp only [ev0, evA, evB, evP, fl, gp, tab, simprocAttr, reduceCtorEq, reduceIte]
      refine fin_run ?_ (hK _ ?_) <;> clear hK <;> clear K
      · (first | exact trivial | omega | (simp only [In64] at *; omega) | (simp [In64] at *; omega) | (simp_all; done) | skip)
      refine qa ?_
      refine hk_cond rfl (fun hC3 => ?_) (fun hC3 => ?_)
      · (try simp only [nhs] at hC3)
        refine qj (qc (qf (qa ?_)))
        refine hk_region fun K hK => runs_eval tab_ok ?_
        simp only [ev0, evA, evB, evP, fl, gp, tab, simprocAttr, reduceCtorEq, reduceIte]
        refine fin_run ?_ (hK _ ?_) <;> clear hK <;> clear K
        · (first | exact trivial | omega | (simp only [In64] at *; omega) | (simp [In64] at *; omega) | (simp_all; done) | skip)
        refine qa ?_
        have hae : a = e := by omega
        refine ⟨a + 1, [0, 1], ⟨by omega, fun c hc => ?_⟩, by omega, ?_⟩
        · by_cases hca : c = a
          · rw [hca]; exact .inl hae
          · exact ha2 c (by omega)
        · simp only [leq, leA, ev0, evA, evB, evP, fl, gp, tab, simprocAttr, reduceCtorEq, reduceIte] <;> first | trivial | omega
      · (try simp only [nhs] at hC3)
        have hae : a ≠ e := fun he => hC3 (by rw [he])
        have hcl := closure_ok h (onp a) (cw a) (hqa a)
        have h1 : thl n (onp a) = [(a : Int)] := thl_one hal
        rw [h1] at hcl
        have hlq := thl_le n (cw a)
        refine qh (qa (qm ?_))
        refine hk_region fun K hK => runs_eval tab_ok ?_
        simp only [ev0, evA, evB, evP, fl, gp, tab, simprocAttr, reduceCtorEq, reduceIte]
        refine fin_stop ?_ (runs_call (FnC.sub (args' := [gp n m, .nn (il [(a : Int)])]) hcl (And.intro (.same _) (And.intro (.nn _) trivial))) rfl rfl rfl (by simp only [dstOk, Nat.reduceLT]) (by repeat (first | exact trivial | constructor)) (runs_eval tab_ok ?_))
        · (first | exact trivial | omega | (simp only [In64] at *; omega) | (simp [In64] at *; omega) | (simp_all; done) | skip)
        simp only [ev0, evA, evB, evP, fl, gp, tab, simprocAttr, reduceCtorEq, reduceIte]
        refine fin_run ?_ (hK _ ?_) <;> clear hK <;> clear K
        · (first | exact trivial | omega | (simp only [In64] at *; omega) | (simp [In64] at *; omega) | (simp_all; done) | skip)
        refine qa (qm ?_)
        refine hk_region fun K hK => runs_eval tab_ok ?_
        simp only [ev0, evA, evB, evP, fl, gp, tab, simprocAttr, reduceCtorEq, reduceIte, il_length]
        refine fin_run ?_ (hK _ ?_) <;> clear hK <;> clear K
        · (first | exact trivial | omega | (simp only [In64] at *; omega) | (simp [In64] at *; omega) | (simp_all; done) | skip)
        refine qa ?_
        refine hk_cond rfl (fun hC4 => ?_) (fun hC4 => ?_)
        · (try simp only [nhs] at hC4)
          refine qm ?_
          refine hk_region fun K hK => runs_eval tab_ok ?_
          simp only [ev0, evA, evB, evP, fl, gp, tab, simprocAttr, reduceCtorEq, reduceIte]
          refine fin_run ?_ (hK _ ?_) <;> clear hK <;> clear K
          · (first | exact trivial | omega | (simp only [In64] at *; omega) | (simp [In64] at *; omega) | (simp_all; done) | skip)
          refine qa (qk (qe (qb (qb (qe (qb ?_))))))
          simp only [Tryd.results76, enA, ev0, evA, evB, evP, fl, gp, tab, simprocAttr, reduceCtorEq, reduceIte]
          have hbf : b = false := by
            cases b with
            | false => rfl
            | true =>
              rcases (hbs.1 rfl).2 a hal with h' | h'
              · exact absurd h' hae
              · omega
          rw [hbf]
        · (try simp only [nhs] at hC4)
          have hfull : (thl n (cw a)).length = n := by omega
          refine qh (qd (qa ?_))
          refine hk_region fun K hK => runs_eval tab_ok ?_
          simp only [ev0, evA, evB, evP, fl, gp, tab, simprocAttr, reduceCtorEq, reduceIte]
          refine fin_run ?_ (hK _ ?_) <;> clear hK <;> clear K
          · (first | exact trivial | omega | (simp only [In64] at *; omega) | (simp [In64] at *; omega) | (simp_all; done) | skip)
          refine qa ?_
          refine ⟨a + 1, [0, 1], ⟨by omega, fun c hc => ?_⟩, by omega, ?_⟩
          · by_cases hca : c = a
            · rw [hca]; exact .inr hfull
            · exact ha2 c (by omega)
          · simp only [leq, leA, ev0, evA, evB, evP, fl, gp, tab, simprocAttr, reduceCtorEq, reduceIte] <;> first | trivial | omega
    · (try simp only [nhs] at hC2)
      refine qj (qc (qc (qf (qa (qm ?_)))))
      refine hk_region fun K hK => runs_eval tab_ok ?_
      simp only [ev0, evA, evB, evP, fl, gp, tab, simprocAttr, reduceCtorEq, reduceIte]
      refine fin_run ?_ (hK _ ?_) <;> clear hK <;> clear K
      · (first | exact trivial | omega | (simp only [In64] at *; omega) | (simp [In64] at *; omega) | (simp_all; done) | skip)
      refine qa (qk ?_)
      simp only [Tryd.results76, enA, ev0, evA, evB, evP, fl, gp, tab, simprocAttr, reduceCtorEq, reduceIte]
      have hbt : decide ((n : Int) > 1) = b := by
        rw [Bool.eq_iff_iff, decide_eq_true_eq, hbs]
        exact ⟨fun h' => ⟨by omega, fun c hc => ha2 c (by omega)⟩, fun h' => by have := h'.1; omega⟩
      rw [hbt]

/-- What a thing is conjugated to. -/
def conl (n : Nat) (f : Nat → Nat → Nat) (e a b : Nat) : List Int := (List.range b).map fun c => ((cjr n f e a c : Nat) : Int)
end Go.Proofs.YtjbfkdaodfdpcaaDoor
