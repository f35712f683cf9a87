/-
  Texts of this proof, one behind the other: what each says stands at its head. Conditions: none.
-/
import Derived.Test.YtjbfkdaodfdpcaaDoorB7
import Derived.Test.YtjbfkdaodfdpcaaDoorRows
import Derived.Test.YtjbfkdaodfdpcaaDoorB4
import Derived.ProofKit
import Derived.LaidMore
import Derived.OpenShut
import Derived.Stop.Joined

/-
  The law HomComposes. Conditions: none.
-/
set_option linter.all false
namespace Go.Proofs.YtjbfkdaodfdpcaaDoor
open Go.Pv

section
variable {n e n' e' : Nat} {m m' l k : List Int}
theorem homf_of (h : GT n m n e) (h' : GT n' m' n' e') (hH : Hom m m' l n n') : homf n m n' m' l = (0, 0) := by
  rw [homf_2 (by rw [tg_ok h h']) (by rw [hH.1]) fun j hj => decide_eq_false fun hb => by
    obtain ⟨h1, h2⟩ := hH.2.1 j (by rw [← hH.1]; exact hj)
    rw [h1] at hb; omega]
  exact homf2_0 fun j hj => hH.2.2 j hj
theorem Hom.hmo (hH : Hom m m' l n n') : Hmo n (op m n) n' (op m' n') (hv l) := ⟨fun a ha => (hH.2.1 a ha).2, fun a b ha hb => (hH.2.2 a ha b hb).symm⟩
theorem cmpl_hv (hH : Hom m m' l n n') (hk : k.length = n') {a : Nat} (ha : a < n) : hv (cmpl l k) a = hv k (hv l a) := by
  obtain ⟨h1, h2⟩ := hH.2.1 a ha
  have hal : a < l.length := by rw [hH.1]; exact ha
  unfold hv cmpl
  simp [List.getD, List.getElem?_eq_getElem hal]
theorem cmpl_hom (hH : Hom m m' l n n') (hJ : Hom m' m' k n' n') (G : Grp n (op m n) e) : Hom m m' (cmpl l k) n n' := by
  have hl : (cmpl l k).length = n := by rw [cmpl, List.length_map, hH.1]
  have hc := fun a (ha : a < n) => cmpl_hv hH hJ.1 ha
  refine ⟨hl, fun a ha => ?_, fun a ha b hb => ?_⟩
  · obtain ⟨h1, h2⟩ := hH.2.1 a ha
    obtain ⟨h3, h4⟩ := hJ.2.1 _ h2
    rw [hc a ha]
    refine ⟨?_, h4⟩
    have hal : a < l.length := by rw [hH.1]; exact ha
    have : (cmpl l k).getD a 0 = k.getD (hv l a) 0 := by
      unfold hv cmpl
      simp [List.getD, List.getElem?_eq_getElem hal]
    rw [this, h3]
  · rw [hc a ha, hc b hb, hc _ (G.cl _ _ ha hb), ← hH.2.2 a ha b hb, ← hJ.2.2 _ (hH.2.1 a ha).2 _ (hH.2.1 b hb).2]
theorem Hom.rng (hH : Hom m m' l n n') : ∀ x ∈ l, 0 ≤ x ∧ x < (n' : Int) := fun x hx => by
  obtain ⟨i, hi, rfl⟩ := List.getElem_of_mem hx
  obtain ⟨h1, h2⟩ := hH.2.1 i (by rw [← hH.1]; exact hi)
  rw [show l.getD i 0 = l[i] by simp [List.getD, List.getElem?_eq_getElem hi]] at h1
  rw [h1]; omega
end
theorem homComposes_c (N : Int) (m : List Int) (N' : Int) (m' l k : List Int) (hm : m.length ≤ 17592186043904) (hm' : m'.length ≤ 17592186043904) (hl : l.length ≤ 17592186043904) (hk : k.length ≤ 17592186043904) : FnC Tryd.prog 9 [gp N m, gp N' m', .list (il l), .list (il k)] (.bool true) := by
  have hc := homCheck_c N m N' m' l (by omega) (by omega)
  have hr := homFault_c N m N' m' l (by omega) (by omega)
  have hc2 := homCheck_c N' m' N' m' k (by omega) (by omega)
  have hr2 := homFault_c N' m' N' m' k (by omega) (by omega)
  refine fnc_of tab_ok Tryd.func9 rfl (by kernel_rfl) (by rw [Tryd.ntmps9]; exact Nat.le_add_left 4 _) ?_; rw [Tryd.ntmps9]
  refine qm ?_
  refine hk_region fun K hK => runs_eval tab_ok ?_
  simp only [ev0, evA, evB, evP, fl, gp, tab, simprocAttr, reduceCtorEq, reduceIte]
  refine fin_run ?_ (hK _ ?_) <;> clear hK <;> clear K
  · (first | exact trivial | omega | (simp only [In64] at *; omega) | (simp [In64] at *; omega) | (simp_all; done) | skip)
  refine qa (qm (qm ?_))
  refine hk_region fun K hK => runs_eval tab_ok ?_
  simp only [ev0, evA, evB, evP, fl, gp, tab, simprocAttr, reduceCtorEq, reduceIte]
  refine fin_stop trivial (runs_call (homBegun_c) rfl rfl rfl (by simp only [dstOk, Nat.reduceLT]) (by repeat (first | exact trivial | constructor)) (runs_eval tab_ok ?_))
  simp only [ev0, evA, evB, evP, fl, gp, tab, simprocAttr, reduceCtorEq, reduceIte]
  refine fin_run trivial (hK _ ?_) <;> clear hK <;> clear K
  refine qa ?_
  refine hk_cond rfl (fun hC1 => ?_) (fun hC1 => ?_)
  · cases hC1
  · (try simp only [nhs] at hC1)
    refine qh (qa (qm (qm ?_)))
    rcases two0 (homf N m N' m' l).1 (homf N' m' N' m' k).1 with ⟨hf, hf2⟩ | ⟨hf, hf2⟩ | hf
    · obtain ⟨n, e, n', e', h, h', hH, hf⟩ := homf_ok hf
      obtain ⟨n2, e2, n3, e3, g2, g3, hJ, hf2⟩ := homf_ok hf2
      obtain rfl := h.1
      obtain rfl := h'.1
      obtain rfl : n' = n2 := by have := g2.1; omega
      obtain rfl : n' = n3 := by have := g3.1; omega
      have hcH := cmpl_hom hH hJ h.2.2
      have hcf := homf_of h h' hcH
      rw [hf] at hc hr
      rw [hf2] at hc2 hr2
      have hc3 := homCheck_c n m n' m' (cmpl l k) (by omega) (by omega)
      rw [hcf] at hc3
      have hn := h.2.1.big
      have hn' := h'.2.1.big
      have hp1 : ∀ a, a < n → kerp l e' a = true → kerp (cmpl l k) e' a = true := fun a ha hp => by
        unfold kerp at hp ⊢
        rw [decide_eq_true_eq] at hp ⊢
        rw [cmpl_hv hH hJ.1 ha, hp, hJ.hmo.one h'.2.2 h'.2.2]
      have hp2 : ∀ b, b < n' → imgp (cmpl l k) n b = true → imgp k n' b = true := fun b hb hp => by
        obtain ⟨a, ha, rfl⟩ := imgp_iff.1 hp
        exact imgp_iff.2 ⟨hv l a, (hH.2.1 a ha).2, (cmpl_hv hH hJ.1 ha).symm⟩
      refine hk_region fun K hK => runs_eval tab_ok ?_
      simp only [ev0, evA, evB, evP, fl, gp, tab, simprocAttr, reduceCtorEq, reduceIte]
      refine fin_stop trivial (runs_call (hc) rfl rfl rfl (by simp only [dstOk, Nat.reduceLT]) (by repeat (first | exact trivial | constructor)) (runs_eval tab_ok ?_))
      simp only [ev0, evA, evB, evP, fl, gp, tab, simprocAttr, reduceCtorEq, reduceIte]
      refine fin_stop trivial (runs_call (hc2) rfl rfl rfl (by simp only [dstOk, Nat.reduceLT]) (by repeat (first | exact trivial | constructor)) (runs_eval tab_ok ?_))
      simp only [ev0, evA, evB, evP, fl, gp, tab, simprocAttr, reduceCtorEq, reduceIte]
      refine fin_stop trivial (runs_call (hr) rfl rfl rfl (by simp only [dstOk, Nat.reduceLT]) (by repeat (first | exact trivial | constructor)) (runs_eval tab_ok ?_))
      simp only [ev0, evA, evB, evP, fl, gp, tab, simprocAttr, reduceCtorEq, reduceIte]
      refine fin_stop trivial (runs_call (hr2) rfl rfl rfl (by simp only [dstOk, Nat.reduceLT]) (by repeat (first | exact trivial | constructor)) (runs_eval tab_ok ?_))
      simp only [ev0, evA, evB, evP, fl, gp, tab, simprocAttr, reduceCtorEq, reduceIte]
      refine fin_run ?_ (hK _ ?_) <;> clear hK <;> clear K
      · (first | exact trivial | omega | (simp only [In64] at *; omega) | (simp [In64] at *; omega) | (simp_all; done) | skip)
      refine qa ?_
      refine hk_cond rfl (fun hC2 => ?_) (fun hC2 => ?_)
      · cases hC2
      · (try simp only [nhs] at hC2)
        refine qh (qa (qm ?_))
        refine hk_region fun K hK => runs_eval tab_ok ?_
        simp only [ev0, evA, evB, evP, fl, gp, tab, simprocAttr, reduceCtorEq, reduceIte]
        refine fin_stop trivial (runs_call (thenR_c l k (by rw [hJ.1]; exact hH.rng) (by rw [hH.1]; omega) (by rw [hJ.1]; omega)) rfl rfl rfl (by simp only [dstOk, Nat.reduceLT]) (by repeat (first | exact trivial | constructor)) (runs_eval tab_ok ?_))
        simp only [ev0, evA, evB, evP, fl, gp, tab, simprocAttr, reduceCtorEq, reduceIte]
        refine fin_run trivial (hK _ ?_) <;> clear hK <;> clear K
        refine qa (qm ?_)
        refine hk_region fun K hK => runs_eval tab_ok ?_
        simp only [ev0, evA, evB, evP, fl, gp, tab, simprocAttr, reduceCtorEq, reduceIte]
        refine fin_stop trivial (runs_call (kernel_ok h h' (by omega) (by omega) hH hf) rfl rfl rfl (by simp only [dstOk, Nat.reduceLT]) (by repeat (first | exact trivial | constructor)) (runs_eval tab_ok ?_))
        simp only [ev0, evA, evB, evP, fl, gp, tab, simprocAttr, reduceCtorEq, reduceIte]
        refine fin_run ?_ (hK _ ?_) <;> clear hK <;> clear K
        · (first | exact trivial | omega | (simp only [In64] at *; omega) | (simp [In64] at *; omega) | (simp_all; done) | skip)
        refine qa (qm ?_)
        refine hk_region fun K hK => runs_eval tab_ok ?_
        simp only [ev0, evA, evB, evP, fl, gp, tab, simprocAttr, reduceCtorEq, reduceIte]
        refine fin_stop trivial (runs_call (kernel_ok h h' (by omega) (by omega) hcH hcf) rfl rfl rfl (by simp only [dstOk, Nat.reduceLT]) (by repeat (first | exact trivial | constructor)) (runs_eval tab_ok ?_))
        simp only [ev0, evA, evB, evP, fl, gp, tab, simprocAttr, reduceCtorEq, reduceIte]
        refine fin_run ?_ (hK _ ?_) <;> clear hK <;> clear K
        · (first | exact trivial | omega | (simp only [In64] at *; omega) | (simp [In64] at *; omega) | (simp_all; done) | skip)
        refine qa (qm ?_)
        refine hk_region fun K hK => runs_eval tab_ok ?_
        simp only [ev0, evA, evB, evP, fl, gp, tab, simprocAttr, reduceCtorEq, reduceIte]
        refine fin_stop trivial (runs_call (image_ok h' h' (by omega) (by omega) hJ hf2) rfl rfl rfl (by simp only [dstOk, Nat.reduceLT]) (by repeat (first | exact trivial | constructor)) (runs_eval tab_ok ?_))
        simp only [ev0, evA, evB, evP, fl, gp, tab, simprocAttr, reduceCtorEq, reduceIte]
        refine fin_run ?_ (hK _ ?_) <;> clear hK <;> clear K
        · (first | exact trivial | omega | (simp only [In64] at *; omega) | (simp [In64] at *; omega) | (simp_all; done) | skip)
        refine qa (qm ?_)
        refine hk_region fun K hK => runs_eval tab_ok ?_
        simp only [ev0, evA, evB, evP, fl, gp, tab, simprocAttr, reduceCtorEq, reduceIte]
        refine fin_stop trivial (runs_call (image_ok h h' (by omega) (by omega) hcH hcf) rfl rfl rfl (by simp only [dstOk, Nat.reduceLT]) (by repeat (first | exact trivial | constructor)) (runs_eval tab_ok ?_))
        simp only [ev0, evA, evB, evP, fl, gp, tab, simprocAttr, reduceCtorEq, reduceIte]
        refine fin_run ?_ (hK _ ?_) <;> clear hK <;> clear K
        · (first | exact trivial | omega | (simp only [In64] at *; omega) | (simp [In64] at *; omega) | (simp_all; done) | skip)
        refine qa (qm ?_)
        refine hk_region fun K hK => runs_eval tab_ok ?_
        simp only [ev0, evA, evB, evP, fl, gp, tab, simprocAttr, reduceCtorEq, reduceIte]
        refine fin_stop trivial (runs_call (hc3) rfl rfl rfl (by simp only [dstOk, Nat.reduceLT]) (by repeat (first | exact trivial | constructor)) (runs_eval tab_ok ?_))
        simp only [ev0, evA, evB, evP, fl, gp, tab, simprocAttr, reduceCtorEq, reduceIte]
        refine fin_stop trivial (runs_call (parted_r n _ _ hn true ⟨fun _ => hp1, fun _ => rfl⟩) rfl rfl rfl (by simp only [dstOk, Nat.reduceLT]) (by repeat (first | exact trivial | constructor)) (runs_eval tab_ok ?_))
        simp only [ev0, evA, evB, evP, fl, gp, tab, simprocAttr, reduceCtorEq, reduceIte]
        refine fin_stop trivial (runs_call (parted_r n' _ _ hn' true ⟨fun _ => hp2, fun _ => rfl⟩) rfl rfl rfl (by simp only [dstOk, Nat.reduceLT]) (by repeat (first | exact trivial | constructor)) (runs_eval tab_ok ?_))
        simp only [ev0, evA, evB, evP, fl, gp, tab, simprocAttr, reduceCtorEq, reduceIte]
        refine fin_run ?_ (hK _ ?_) <;> clear hK <;> clear K
        · (first | exact trivial | omega | (simp only [In64] at *; omega) | (simp [In64] at *; omega) | (simp_all; done) | skip)
        refine qa (qk ?_)
        simp only [Tryd.results9, enA, ev0, evA, evB, evP, fl, gp, tab, simprocAttr, reduceCtorEq, reduceIte]
        all_goals (rfl)
    · refine hk_region fun K hK => runs_eval tab_ok ?_
      simp only [ev0, evA, evB, evP, fl, gp, tab, simprocAttr, reduceCtorEq, reduceIte, decide_eq_true hf, decide_eq_false hf2, Bool.not_false, Bool.not_true]
      refine fin_stop trivial (runs_call (hc) rfl rfl rfl (by simp only [dstOk, Nat.reduceLT]) (by repeat (first | exact trivial | constructor)) (runs_eval tab_ok ?_))
      simp only [ev0, evA, evB, evP, fl, gp, tab, simprocAttr, reduceCtorEq, reduceIte, decide_eq_true hf, decide_eq_false hf2, Bool.not_false, Bool.not_true]
      refine fin_stop trivial (runs_call (hc2) rfl rfl rfl (by simp only [dstOk, Nat.reduceLT]) (by repeat (first | exact trivial | constructor)) (runs_eval tab_ok ?_))
      simp only [ev0, evA, evB, evP, fl, gp, tab, simprocAttr, reduceCtorEq, reduceIte, decide_eq_true hf, decide_eq_false hf2, Bool.not_false, Bool.not_true]
      refine fin_run ?_ (hK _ ?_) <;> clear hK <;> clear K
      · (first | exact trivial | omega | (simp only [In64] at *; omega) | (simp [In64] at *; omega) | (simp_all; done) | skip)
      refine qa ?_
      refine hk_cond rfl (fun hC2 => ?_) (fun hC2 => ?_)
      · refine qm ?_
        refine hk_region fun K hK => runs_eval tab_ok ?_
        simp only [ev0, evA, evB, evP, fl, gp, tab, simprocAttr, reduceCtorEq, reduceIte]
        refine fin_run trivial (hK _ ?_) <;> clear hK <;> clear K
        refine qa (qk (qb ?_))
        simp only [Tryd.results9, enA, ev0, evA, evB, evP, fl, gp, tab, simprocAttr, reduceCtorEq, reduceIte]
        all_goals (rfl)
      · cases hC2
    · refine hk_region fun K hK => runs_eval tab_ok ?_
      simp only [ev0, evA, evB, evP, fl, gp, tab, simprocAttr, reduceCtorEq, reduceIte, decide_eq_false hf, Bool.not_false]
      refine fin_stop trivial (runs_call (hc) rfl rfl rfl (by simp only [dstOk, Nat.reduceLT]) (by repeat (first | exact trivial | constructor)) (runs_eval tab_ok ?_))
      simp only [ev0, evA, evB, evP, fl, gp, tab, simprocAttr, reduceCtorEq, reduceIte, decide_eq_false hf, Bool.not_false]
      refine fin_run ?_ (hK _ ?_) <;> clear hK <;> clear K
      · (first | exact trivial | omega | (simp only [In64] at *; omega) | (simp [In64] at *; omega) | (simp_all; done) | skip)
      refine qa ?_
      refine hk_cond rfl (fun hC2 => ?_) (fun hC2 => ?_)
      · refine qm ?_
        refine hk_region fun K hK => runs_eval tab_ok ?_
        simp only [ev0, evA, evB, evP, fl, gp, tab, simprocAttr, reduceCtorEq, reduceIte]
        refine fin_run trivial (hK _ ?_) <;> clear hK <;> clear K
        refine qa (qk (qb ?_))
        simp only [Tryd.results9, enA, ev0, evA, evB, evP, fl, gp, tab, simprocAttr, reduceCtorEq, reduceIte]
        all_goals (rfl)
      · cases hC2
end Go.Proofs.YtjbfkdaodfdpcaaDoor

/-
  What the listed package-level variable gives a walk: a table of numbers. Conditions: none; written by a program of this repo.
-/
set_option linter.all false
namespace Go.Proofs.YtjbfkdaodfdpcaaDoor
open Go.Pv Go.ChangeShapes Go.WideShapes Go.ChangeAt Go.WideElems Go.RowKit

theorem own : ownKnob Tryd.prog.godebug = none := by kernel_rfl
theorem laidOut : laidOutB Tryd.prog = true := by kernel_rfl
theorem gG : Tryd.prog.globalNamed "math/bits.deBruijn64tab" = some 0 := by kernel_rfl
theorem tG : (Tryd.prog.globals[0]?).map (·.type) = some 145 := by kernel_rfl
theorem cG : Tryd.prog.cellsOf 5 = 1 := by kernel_rfl
/-- The door's own heap meets the condition. -/
theorem door_met (os : Os) (args : Array Value) : laidMetH Tryd.prog [("math/bits.deBruijn64tab", Rows.laid_math_bits_deBruijn64tab)] ((World.doorLaid Tryd.prog 4000 os).forCall (fun _ _ => 0) ⟨#[], args, []⟩).memory :=
  laidMetH_of_parts3 (fuel := 8) (laidMet_of_run' 8 (by kernel_rfl) (by kernel_rfl)) (by kernel_rfl) (by kernel_rfl)

def convD : DataW Unit → PV
  | .lit (.int k n) => .int k n
  | _ => .nil
def datum : List (DataW Unit) → List PV := List.map convD
theorem glob_datum : (match (Rows.laid_math_bits_deBruijn64tab : DataW Unit) with | .agg l => datum l | _ => []) = glob0 := rfl

theorem laid_ok {W : World} (h : laidMetH Tryd.prog [("math/bits.deBruijn64tab", Rows.laid_math_bits_deBruijn64tab)] W) : LaidW (fun b => b < W.heap.size) W := by
  refine ⟨fun b h => h, fun g l hg => ?_⟩
  have hg2 : g = 0 ∧ l = glob0 := by
    unfold gv at hg
    by_cases e : g = 0
    · subst e; exact ⟨rfl, (Option.some.inj hg).symm⟩
    · have : (g == 0) = false := by simpa using e
      rw [this] at hg; simp at hg
  obtain ⟨rfl, rfl⟩ := hg2
  rw [MakeChecks.laidMetH_plain _ _ _ (by kernel_rfl)] at h
  obtain ⟨ps, ⟨g0, t0, cs0, f0, p0, q0, hg0, ht0, hv0, hd0, _, _⟩, _, _⟩ := h
  obtain rfl := Option.some.inj (gG.symm.trans hg0)
  obtain rfl := Option.some.inj (tG.symm.trans ht0)
  obtain ⟨xs, m1, rfl, hx1, hlen, hn3, hel⟩ := DataW.trod_array Tryd.underlying145 hd0
  have hd1 : Rows.laid_math_bits_deBruijn64tab = DataW.agg (xs.map (·.1)) := congrArg Prod.fst hx1
  have hgl : glob0 = datum (xs.map (·.1)) := by
    rw [← glob_datum, hd1]
  have key : ∀ c (h : c < glob0.length), W.cell? ⟨0, 0 + c, none⟩ = some ((cs0[c]?).getD undef) ∧ Reads (fun b => b < W.heap.size) W glob0[c] ((cs0[c]?).getD undef) := by
    intro c hc
    have hc2 : c < 64 := Nat.lt_of_lt_of_le hc (by decide)
    have hcx : c < xs.length := by omega
    have h1 := hel c hc2
    rw [List.getElem?_eq_getElem hcx] at h1
    obtain ⟨k, e1, e2, _⟩ := DataW.trod_int Tryd.underlying5 h1
    rw [cG] at e1
    have e3 : cs0.toList[c]? = some (.int .u8 k) := by
      have := congrArg (fun l => l[0]?) e1
      simpa [List.getElem?_take, List.getElem?_drop] using this
    have e4 : cs0[c]? = some (.int .u8 k) := by simpa using e3
    have e5 : glob0[c] = .int .u8 k := by
      have : glob0[c]? = (datum (xs.map (·.1)))[c]? := by rw [hgl]
      rw [List.getElem?_eq_getElem hc] at this
      simp only [datum, List.getElem?_map, List.getElem?_eq_getElem hcx, Option.map_some, Option.some.injEq] at this
      exact this.trans (by rw [e2]; rfl)
    refine ⟨?_, ?_⟩
    · rw [e4, Nat.zero_add, World.var?_cell gG hv0 c, e4]; rfl
    · rw [e4]
      exact e5 ▸ (Reads.int .u8 k)
  refine .ptr _ _ _ (fun c => (cs0[c]?).getD undef) ?_ (fun c hc => (key c hc).1) fun c hc => (key c hc).2
  have := (key 0 (by decide)).1
  unfold World.cell? at this
  rcases Nat.lt_or_ge 0 W.heap.size with h | h
  · exact h
  · exfalso
    rw [Array.getElem?_eq_none h] at this
    simp at this
end Go.Proofs.YtjbfkdaodfdpcaaDoor
