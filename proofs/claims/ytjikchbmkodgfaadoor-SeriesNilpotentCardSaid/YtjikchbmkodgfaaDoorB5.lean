/-
  Texts of this proof, one behind the other: what each says stands at its head. Conditions: none.
-/
import Derived.Test.YtjikchbmkodgfaaDoorB4
import Derived.Test.YtjikchbmkodgfaaDoorB2
import Derived.Test.YtjikchbmkodgfaaDoorB3
import Derived.Test.YtjikchbmkodgfaaDoorRows
import Derived.ProofKit
import Derived.LaidMore
import Derived.OpenShut
import Derived.Stop.Joined

/-
  What all of Sylow's subgroups have; the document's example; numbers of a power of p. Conditions: none.
-/
set_option linter.all false
namespace Go.Proofs.YtjikchbmkodgfaaDoor
open Go.Pv

section
variable {n e P : Nat} {m : List Int}
/-- What the sets have, up to a place. -/
def cor (SL : List Nat) (i y : Nat) : Bool := (SL.getD 0 0).testBit y && decide (∀ j, j < i → (SL.getD j 0).testBit y = true)
theorem cor_succ (SL : List Nat) (i y : Nat) : cor SL (i + 1) y = (cor SL i y && (SL.getD i 0).testBit y) := by
  unfold cor
  rw [Bool.and_assoc]
  congr 1
  rw [Bool.eq_iff_iff, Bool.and_eq_true, decide_eq_true_eq, decide_eq_true_eq]
  constructor
  · exact fun h => ⟨fun b hb => h b (by omega), h i (by omega)⟩
  · rintro ⟨h1, h2⟩ b hb
    by_cases hba : b = i
    · rw [hba]; exact h2
    · exact h1 b (by omega)
theorem getD_memK {L : List Nat} {j : Nat} (hj : j < L.length) : L.getD j 0 ∈ L := by
  rw [List.getD_eq_getElem?_getD, List.getElem?_eq_getElem hj]; exact List.getElem_mem hj
theorem SyS.at {f : Nat → Nat → Nat} {s : Nat → Bool} {SL : List Nat} (h : SyS n f e s SL) (hn : n ≤ 60) {i : Nat} (hi : i < SL.length) : ∃ a, a < n ∧ SL.getD i 0 = bo n (shf n f e s a) ∧ (sql SL).getD i [] = thl n (shf n f e s a) := by
  obtain ⟨a, h1, h2⟩ := (h.all _).1 (getD_memK hi)
  exact ⟨a, h1, h2, by rw [sql_get hi, h2, stl_bo hn]⟩
theorem SyS.idx {f : Nat → Nat → Nat} {s : Nat → Bool} {SL : List Nat} (h : SyS n f e s SL) (hn : n ≤ 60) {a : Nat} (ha : a < n) : ∃ i, i < SL.length ∧ SL.getD i 0 = bo n (shf n f e s a) ∧ (sql SL).getD i [] = thl n (shf n f e s a) := by
  obtain ⟨i, h1, h2⟩ := List.getElem_of_mem ((h.all _).2 ⟨a, ha, rfl⟩)
  have h3 : SL.getD i 0 = bo n (shf n f e s a) := by rw [List.getD_eq_getElem?_getD, List.getElem?_eq_getElem h1, Option.getD_some, h2]
  exact ⟨i, h1, h3, by rw [sql_get h1, h3, stl_bo hn]⟩
theorem SyS.cor {f : Nat → Nat → Nat} {s : Nat → Bool} {SL : List Nat} (h : SyS n f e s SL) (G : Grp n f e) (hn : n ≤ 60) {y : Nat} (hy : y < n) : Go.Proofs.YtjikchbmkodgfaaDoor.cor SL SL.length y = crp n f e s y := by
  have hp := h.pos G
  have hb : ∀ p : Nat → Bool, (bo n p).testBit y = p y := fun p => by rw [bo_bit]; simp [hy]
  rw [Bool.eq_iff_iff, G.crp_back hy]
  unfold Go.Proofs.YtjikchbmkodgfaaDoor.cor
  rw [Bool.and_eq_true, decide_eq_true_eq]
  constructor
  · rintro ⟨_, h2⟩
    have h3 : ∀ a, a < n → shf n f e s a y = true := fun a ha => by
      obtain ⟨i, i1, i2, _⟩ := h.idx hn ha
      have := h2 i i1
      rwa [i2, hb] at this
    refine ⟨?_, h3⟩
    have := h3 e G.el
    rw [G.shf_back G.el hy, G.iv_one, G.cjr_e hy] at this
    exact this
  · rintro ⟨_, h2⟩
    have h3 : ∀ i, i < SL.length → (SL.getD i 0).testBit y = true := fun i hi => by
      obtain ⟨a, a1, a2, _⟩ := h.at hn hi
      rw [a2, hb]; exact h2 a a1
    exact ⟨h3 0 hp, h3⟩

theorem syCore_ok (h : GT n m n e) {s : Nat → Bool} {SL : List Nat} (hS : SyS n (op m n) e s SL) (hA : FnC Tryd.prog 45 [gp n m, .int .i64 P] (.tup [.list (ll (sql SL)), fl (0, 0)])) : FnC Tryd.prog 47 [gp n m, .int .i64 P] (.tup [.list (il (thl n (crp n (op m n) e s))), fl (0, 0)]) := by
  have G := h.2.2
  have hb := h.2.1.big
  have hpos := hS.pos G
  have hsl := sql_len SL
  have hSl := hS.len
  obtain ⟨b0, hb0, hv0, hr0⟩ := hS.at hb hpos
  have hg0 := ll_get (ls := sql SL) (i := 0) (by omega)
  rw [hr0] at hg0
  have hl0 := thl_le n (shf n (op m n) e s b0)
  have h0 : bo n (shf n (op m n) e s b0) = bo n (cor SL 0) := bo_congr fun y hy => by
    unfold cor
    rw [hv0, bo_bit]; simp [hy]
  refine fnc_of tab_ok Tryd.func47 rfl (by kernel_rfl) (by rw [Tryd.ntmps47]; exact Nat.le_add_left 2 _) ?_; rw [Tryd.ntmps47]
  refine qm ?_
  refine hk_region fun K hK => runs_eval tab_ok ?_
  simp only [ev0, evA, evB, evP, fl, gp, tab, simprocAttr, reduceCtorEq, reduceIte]
  refine fin_run ?_ (hK _ ?_) <;> clear hK <;> clear K
  · (first | exact trivial | omega | (simp only [In64] at *; omega) | (simp [In64] at *; omega) | (simp_all; done) | skip)
  refine qa (qm ?_)
  refine hk_region fun K hK => runs_eval tab_ok ?_
  simp only [ev0, evA, evB, evP, fl, gp, tab, simprocAttr, reduceCtorEq, reduceIte]
  refine fin_stop trivial (runs_call (hA) rfl rfl rfl (by simp only [dstOk, Nat.reduceLT]) (by repeat (first | exact trivial | constructor)) (runs_eval tab_ok ?_))
  simp only [ev0, evA, evB, evP, fl, gp, tab, simprocAttr, reduceCtorEq, reduceIte]
  refine fin_run ?_ (hK _ ?_) <;> clear hK <;> clear K
  · (first | exact trivial | omega | (simp only [In64] at *; omega) | (simp [In64] at *; omega) | (simp_all; done) | skip)
  refine qa (qm (qm ?_))
  refine hk_region fun K hK => runs_eval tab_ok ?_
  simp only [ev0, evA, evB, evP, fl, gp, tab, simprocAttr, reduceCtorEq, reduceIte]
  refine fin_run ?_ (hK _ ?_) <;> clear hK <;> clear K
  · (first | exact trivial | omega | (simp only [In64] at *; omega) | (simp [In64] at *; omega) | (simp_all; done) | skip)
  refine qa ?_
  refine hk_cond rfl (fun hC1 => ?_) (fun hC1 => ?_)
  · cases hC1
  · (try simp only [nhs] at hC1)
    refine qh (qa (qm ?_))
    refine hk_region fun K hK => runs_eval tab_ok ?_
    simp only [ev0, evA, evB, evP, fl, gp, tab, simprocAttr, reduceCtorEq, reduceIte, hg0, ll_length, hsl]
    refine fin_stop ?_ (runs_call (of_s (thl n (shf n (op m n) e s b0)) (by omega) (thl_rng hb _)) rfl rfl rfl (by simp only [dstOk, Nat.reduceLT]) (by repeat (first | exact trivial | constructor)) (runs_eval tab_ok ?_))
    · omega
    simp only [ev0, evA, evB, evP, fl, gp, tab, simprocAttr, reduceCtorEq, reduceIte, msk_thl, hg0, ll_length, hsl]
    refine fin_run ?_ (hK _ ?_) <;> clear hK <;> clear K
    · (first | exact trivial | omega | (simp only [In64] at *; omega) | (simp [In64] at *; omega) | (simp_all; done) | skip)
    refine qa (qm (qm ?_))
    refine hk_region fun K hK => runs_eval tab_ok ?_
    simp only [ev0, evA, evB, evP, fl, gp, tab, simprocAttr, reduceCtorEq, reduceIte, ll_length, hsl]
    refine fin_run trivial (hK _ ?_) <;> clear hK <;> clear K
    refine qa (ql ?_)
    refine hk_loop (ι := Nat) (fun i => ⟨39, [(5, .ptr 0 0), (7, .ptr 1 0), (8, .p (.int .u64 (bo n (cor SL i)))), (25, .p (.list (ll (sql SL)))), (26, .p (.int .i64 SL.length)), (27, .p (.int .i64 i))], [.own [.p (.int .i64 0), .p (.int .i64 0)], .own [.p (.int .i64 0), .p (.int .i64 0)]]⟩) (fun i => i ≤ SL.length) (fun i => SL.length - i) 0 (Nat.zero_le _) [1, 2] (by rw [← h0]; simp only [leq, leA, ev0, evA, evB, evP, fl, gp, tab, simprocAttr, reduceCtorEq, reduceIte] <;> trivial) fun i hi => ?_
    refine qm ?_
    refine hk_region fun K hK => runs_eval tab_ok ?_
    simp only [ev0, evA, evB, evP, fl, gp, tab, simprocAttr, reduceCtorEq, reduceIte]
    refine fin_run trivial (hK _ ?_) <;> clear hK <;> clear K
    refine qa (qm ?_)
    refine hk_cond rfl (fun hC2 => ?_) (fun hC2 => ?_)
    · (try simp only [nhs] at hC2)
      have hlt : i < SL.length := by omega
      obtain ⟨b, hbl, hv, hr⟩ := hS.at hb hlt
      have hg := ll_get (ls := sql SL) (i := i) (by omega)
      rw [hr] at hg
      have hl := thl_le n (shf n (op m n) e s b)
      have hb1 := bo_lt64 hb (cor SL i)
      have hb2 := bo_lt64 hb (shf n (op m n) e s b)
      have hs1 : bo n (cor SL (i + 1)) = bo n fun y => cor SL i y && shf n (op m n) e s b y := bo_congr fun y hy => by
        rw [cor_succ, hv, bo_bit]; simp [hy]
      refine qh (qa (qm (ql (qm ?_))))
      refine hk_region fun K hK => runs_eval tab_ok ?_
      simp only [ev0, evA, evB, evP, fl, gp, tab, simprocAttr, reduceCtorEq, reduceIte, hg, ll_length, hsl]
      refine fin_run ?_ (hK _ ?_) <;> clear hK <;> clear K
      · (first | exact trivial | omega | (simp only [In64] at *; omega) | (simp [In64] at *; omega) | (simp_all; done) | skip)
      refine qa ?_
      refine hk_region fun K hK => runs_eval tab_ok ?_
      simp only [ev0, evA, evB, evP, fl, gp, tab, simprocAttr, reduceCtorEq, reduceIte]
      refine fin_stop trivial (runs_call (of_s (thl n (shf n (op m n) e s b)) (by omega) (thl_rng hb _)) rfl rfl rfl (by simp only [dstOk, Nat.reduceLT]) (by repeat (first | exact trivial | constructor)) (runs_eval tab_ok ?_))
      simp only [ev0, evA, evB, evP, fl, gp, tab, simprocAttr, reduceCtorEq, reduceIte, msk_thl, bv_and hb1 hb2, bo_and]
      refine fin_run ?_ (hK _ ?_) <;> clear hK <;> clear K
      · (first | exact trivial | omega | (simp only [In64] at *; omega) | (simp [In64] at *; omega) | (simp_all; done) | skip)
      refine qd (qa ?_)
      refine hk_region fun K hK => runs_eval tab_ok ?_
      simp only [ev0, evA, evB, evP, fl, gp, tab, simprocAttr, reduceCtorEq, reduceIte]
      refine fin_run ?_ (hK _ ?_) <;> clear hK <;> clear K
      · (first | exact trivial | omega | (simp only [In64] at *; omega) | (simp [In64] at *; omega) | (simp_all; done) | skip)
      refine qa ?_
      refine ⟨i + 1, [0, 1], by omega, by omega, ?_⟩
      rw [hs1]
      simp only [leq, leA, ev0, evA, evB, evP, fl, gp, tab, simprocAttr, reduceCtorEq, reduceIte] <;> first | trivial | omega
    · (try simp only [nhs] at hC2)
      have hin : i = SL.length := by omega
      have hfin : bo n (cor SL i) = bo n (crp n (op m n) e s) := bo_congr fun y hy => by rw [hin]; exact hS.cor G hb hy
      rw [hfin]
      refine qj (qc (qc (qf (qa (qm ?_)))))
      refine hk_draw mixed (by kernel_rfl) fun K hK => runs_eval tab_ok ?_
      simp only [ev0, evA, evB, evP, fl, gp, tab, simprocAttr, reduceCtorEq, reduceIte]
      refine fin_stop trivial (runs_call (list_s (bo n (crp n (op m n) e s)) (bo_lt64 hb _)) rfl rfl rfl (by simp only [dstOk, Nat.reduceLT]) (by repeat (first | exact trivial | constructor)) (runs_eval tab_ok ?_))
      simp only [ev0, evA, evB, evP, fl, gp, tab, simprocAttr, reduceCtorEq, reduceIte, stl_bo hb]
      refine fin_run ?_ (hK _ ?_) <;> clear hK <;> clear K
      · (first | exact trivial | omega | (simp only [In64] at *; omega) | (simp [In64] at *; omega) | (simp_all; done) | skip)
      refine qa (qk ?_)
      simp only [Tryd.results47, enA, ev0, evA, evB, evP, fl, gp, tab, simprocAttr, reduceCtorEq, reduceIte]
      all_goals ((first | exact rfl | exact ⟨rfl, rfl⟩ | exact ⟨rfl, rfl, rfl⟩ | exact ⟨trivial, rfl⟩ | exact ⟨Nat.le_refl _, rfl⟩ | trivial | (simp; done)))

/-- ALL THAT THE LAWS NEED. -/
theorem sy_ex (h : GT n m n e) (hP : isPr P) : ∃ (s : Nat → Bool) (SL : List Nat) (j t : Nat), Syl n (op m n) e P s j t ∧ SyS n (op m n) e s SL ∧
    FnC Tryd.prog 45 [gp n m, .int .i64 P] (.tup [.list (ll (sql SL)), fl (0, 0)]) := by
  obtain ⟨K, k1, k2⟩ := h.2.2.swq_stop (P := P)
  obtain ⟨j, t, hS⟩ := h.2.2.swq_syl hP k1
  obtain ⟨SL, hL⟩ := sys_ex n (op m n) e (swq n (op m n) e P K) h.2.1.big
  exact ⟨_, SL, j, t, hS, hL, syAll_ok h hP k1 k2 hL⟩

end
end Go.Proofs.YtjikchbmkodgfaaDoor

/-
  What all of Sylow's subgroups have: what the laws need. Conditions: none.
-/
set_option linter.all false
namespace Go.Proofs.YtjikchbmkodgfaaDoor
open Go.Pv

section
variable {n e P : Nat} {f : Nat → Nat → Nat} {s : Nat → Bool} {SL : List Nat}
theorem Grp.shf_shf (G : Grp n f e) {a b y : Nat} (ha : a < n) (hb : b < n) (hy : y < n) : shf n f e (shf n f e s a) b y = shf n f e s (f a b) y := by
  have ib := G.iv_lt hb
  rw [G.shf_back hb hy, G.shf_back ha (G.cjr_lt hy ib), G.shf_back (G.cl _ _ ha hb) hy, G.iv_prod ha hb, G.cjr_cjr hy ib (G.iv_lt ha)]
theorem SyS.shf (h : SyS n f e s SL) (G : Grp n f e) {a : Nat} (ha : a < n) : SyS n f e (Go.Proofs.YtjikchbmkodgfaaDoor.shf n f e s a) SL where
  rise := h.rise
  all x := by
    rw [h.all x]
    constructor
    · rintro ⟨b, hb, rfl⟩
      exact ⟨f (iv n f e a) b, G.cl _ _ (G.iv_lt ha) hb, bo_congr fun y hy => by
        rw [G.shf_shf ha (G.cl _ _ (G.iv_lt ha) hb) hy, ← G.assoc a _ b ha (G.iv_lt ha) hb, G.mul_iv ha, G.one_l b hb]⟩
    · rintro ⟨b, hb, rfl⟩
      exact ⟨f a b, G.cl _ _ ha hb, bo_congr fun y hy => G.shf_shf ha hb hy⟩
theorem bo_eqs {p q : Nat → Bool} (h : bo n p = bo n q) : ∀ y, y < n → p y = q y := fun y hy => by
  have := congrArg (fun x => Nat.testBit x y) h
  simpa [bo_bit, hy] using this
/-- One alone is normal. -/
theorem SyS.one_nml (h : SyS n f e s SL) (G : Grp n f e) (hs : Sub n f e s) (hp : 0 < SL.length) : SL.length = 1 ↔ Nml n f e s := by
  have hse : ∀ y, y < n → Go.Proofs.YtjikchbmkodgfaaDoor.shf n f e s e y = s y := fun y hy => by rw [G.shf_back G.el hy, G.iv_one, G.cjr_e hy]
  constructor
  · intro h1
    obtain ⟨x, hx⟩ := List.length_eq_one_iff.1 h1
    have hm : ∀ a, a < n → bo n (Go.Proofs.YtjikchbmkodgfaaDoor.shf n f e s a) = x := fun a ha => by
      have := (h.all _).2 ⟨a, ha, rfl⟩
      rw [hx, List.mem_singleton] at this; exact this
    refine G.nml_iff.2 fun a ha => nzr_iff.2 fun y hy => ?_
    rw [bo_eqs ((hm a ha).trans (hm e G.el).symm) y hy, hse y hy]
  · intro h1
    have hall : ∀ x ∈ SL, x = bo n s := fun x hx => by
      obtain ⟨a, ha, rfl⟩ := (h.all x).1 hx
      exact bo_congr fun y hy => nzr_iff.1 (G.nml_iff.1 h1 a ha) y hy
    have := List.Nodup.length_le_of_subset h.nodup (l₂ := [bo n s]) fun x hx => by rw [List.mem_singleton]; exact hall x hx
    simp at this
    omega
end

section
variable {n e P : Nat} {m : List Int}
/-- ALL THAT THE LAWS NEED, with the first one. -/
theorem sy_all (h : GT n m n e) (hP : isPr P) : ∃ (s : Nat → Bool) (SL : List Nat) (j t : Nat), Syl n (op m n) e P s j t ∧ SyS n (op m n) e s SL ∧ 0 < SL.length ∧ SL.getD 0 0 = bo n s ∧ (sql SL).getD 0 [] = thl n s ∧
    FnC Tryd.prog 45 [gp n m, .int .i64 P] (.tup [.list (ll (sql SL)), fl (0, 0)]) ∧ FnC Tryd.prog 47 [gp n m, .int .i64 P] (.tup [.list (il (thl n (crp n (op m n) e s))), fl (0, 0)]) := by
  obtain ⟨s, SL, j, t, h1, h2, h3⟩ := sy_ex h hP
  have G := h.2.2
  have hp := h2.pos G
  obtain ⟨a, ha, h4, h5⟩ := h2.at h.2.1.big hp
  exact ⟨_, SL, j, t, h1.shf G ha, h2.shf G ha, hp, h4, h5, h3, syCore_ok h (h2.shf G ha) h3⟩
end
end Go.Proofs.YtjikchbmkodgfaaDoor

/-
  What reads as one value reads as another. Conditions: none.
-/
set_option linter.all false
namespace Go.Proofs.YtjikchbmkodgfaaDoor
open Go.Pv

/-! ### What reads as one reads as another -/

def Rle (a b : PV) : Prop := ∀ (ok : Nat → Prop) (w : World) (v : Value), Reads ok w a v → Reads ok w b v
theorem Rle.rfl {a : PV} : Rle a a := fun _ _ _ h => h
theorem Rle.nn {l : List PV} : Rle (.nn l) (.list l) := fun _ _ _ h => h.nn_list
def Rles : List PV → List PV → Prop
  | [], [] => True
  | a :: r, b :: s => Rle a b ∧ Rles r s
  | _, _ => False
theorem Rles.len : ∀ {l r : List PV}, Rles l r → l.length = r.length
  | [], [], _ => by rfl
  | a :: l, b :: r, h => by simp [Rles.len h.2]
  | [], _ :: _, h => h.elim
  | _ :: _, [], h => h.elim
theorem Rles.get : ∀ {l r : List PV}, Rles l r → ∀ (i : Nat) (h : i < l.length) (h' : i < r.length), Rle l[i] r[i]
  | a :: l, b :: r, h, 0, _, _ => h.1
  | a :: l, b :: r, h, i + 1, h1, h2 => by simpa using Rles.get h.2 i (by simpa using h1) (by simpa using h2)
  | [], [], _, i, h, _ => by simp at h
  | [], _ :: _, h, _, _, _ => h.elim
  | _ :: _, [], h, _, _, _ => h.elim
end Go.Proofs.YtjikchbmkodgfaaDoor

/-
  Classes: by what is alike; of conjugate things. Conditions: none.
-/
set_option linter.all false
namespace Go.Proofs.YtjikchbmkodgfaaDoor
open Go.Pv

/-- The classes whose least things are below a. -/
def cstp (n : Nat) (r : Nat → Nat → Bool) (a : Nat) : List (List Int) := ((List.range a).filter (lead r)).map fun x => thl n (r x)
def cst (n : Nat) (r : Nat → Nat → Bool) : List (List Int) := cstp n r n
/-- The class at a place: its least thing. -/
theorem cst_get {n : Nat} {r : Nat → Nat → Bool} {i : Nat} (hi : i < (cst n r).length) : ∃ x, x < n ∧ lead r x = true ∧ (cst n r).getD i [] = thl n (r x) ∧ (mem n (lead r)).getD i 0 = x := by
  unfold cst cstp at hi ⊢
  rw [List.length_map] at hi
  have hm := List.getElem_mem hi
  obtain ⟨h1, h2⟩ := List.mem_filter.1 hm
  refine ⟨_, List.mem_range.1 h1, h2, ?_, ?_⟩
  · simp [List.getD, List.getElem?_eq_getElem hi]
  · unfold mem
    simp [List.getD, List.getElem?_eq_getElem hi]
/-! ### Rows of rows, compared -/

/-- Rows of rows, typed. -/
def lln (ls : List (List Int)) : List PV := ls.map fun w => .nn (il w)
/-! ### Classes of conjugate things -/

theorem bo_upd {n : Nat} {p : Nat → Bool} {c : Nat} (hc : c < n) : bo n p ||| 2 ^ c = bo n (upd p c) := by
  refine Nat.eq_of_testBit_eq fun i => ?_
  rw [or_bit, bo_bit, bo_bit]
  unfold upd
  by_cases hi : i = c
  · subst hi; simp [hc]
  · have h1 : decide (c = i) = false := by simp; omega
    have h2 : decide (i = c) = false := by simpa using hi
    rw [h1, h2]; simp

/-- What is in a class of an earlier thing. -/
def hadp (r : Nat → Nat → Bool) (x y : Nat) : Bool := decide (∃ z, z < x ∧ r z y = true)
/-- What is x, conjugated by an earlier thing. -/
def sp (n : Nat) (f : Nat → Nat → Nat) (e x a y : Nat) : Bool := decide (∃ b, b < a ∧ cjr n f e x b = y)
theorem sq8_e : GT (8 : Nat) sq8 8 0 := by
  obtain ⟨e, h⟩ := sq8_gt
  have h1 := h.eI
  have h2 : eI sq8 8 = 0 := by decide +kernel
  have : e = 0 := by omega
  subst this
  exact h

end Go.Proofs.YtjikchbmkodgfaaDoor

/-
  Classes: where things stand; powers of classes; pairs that commute. Conditions: none.
-/
set_option linter.all false
namespace Go.Proofs.YtjikchbmkodgfaaDoor
open Go.Pv

theorem cst_len (n : Nat) (r : Nat → Nat → Bool) : (cst n r).length = (mem n (lead r)).length := by
  unfold cst cstp mem
  rw [List.length_map]

/-- The place of the first list that has a thing; -1: none has. -/
def wch (l : List (List Int)) (x : Int) : Int := match fst' (fun i => decide (x ∈ l.getD i [])) l.length with | some i => (i : Int) | none => -1

/-- A row by a rule. -/
def rgz (n : Nat) (g : Nat → Int) : List Int := (List.range n).map g
/-- Where each thing's class stands. -/
def whl (n : Nat) (r : Nat → Nat → Bool) : List Int := rgz n fun a => wch (cst n r) a

theorem cst_apart {n : Nat} {r : Nat → Nat → Bool} (h : Eqv n r) {i j a : Nat} (hi : i < (cst n r).length) (hj : j < (cst n r).length) (ha : a < n) (h1 : ((a : Nat) : Int) ∈ (cst n r).getD i []) (h2 : ((a : Nat) : Int) ∈ (cst n r).getD j []) : i = j := by
  obtain ⟨x, x1, x2, x3, x4⟩ := cst_get hi
  obtain ⟨y, y1, y2, y3, y4⟩ := cst_get hj
  rw [x3, mem_thl_n ha] at h1
  rw [y3, mem_thl_n ha] at h2
  have hxy : x = y := h.lead_eq x1 y1 x2 y2 (h.trans x a y x1 ha y1 h1 (h.symm y a y1 ha h2))
  subst hxy
  have hn : (mem n (lead r)).Nodup := List.nodup_range.filter _
  have hl := cst_len n r
  exact at_inj hn (by omega) (by omega) (x4.trans y4.symm)
theorem cst_in {n : Nat} {r : Nat → Nat → Bool} (h : Eqv n r) {a : Nat} (ha : a < n) : ∃ i, i < (cst n r).length ∧ ((a : Nat) : Int) ∈ (cst n r).getD i [] := by
  obtain ⟨x, x1, x2, x3⟩ := h.least ha
  obtain ⟨i, hi, e⟩ := List.getElem_of_mem (mem_mem.2 ⟨x1, x2⟩ : x ∈ mem n (lead r))
  have hl := cst_len n r
  refine ⟨i, by omega, ?_⟩
  obtain ⟨y, y1, y2, y3, y4⟩ := cst_get (n := n) (r := r) (i := i) (by omega)
  rw [y3, mem_thl_n ha]
  have : y = x := by rw [← y4]; simp [List.getD, List.getElem?_eq_getElem hi, e]
  rw [this]; exact x3
theorem wch_at {n : Nat} {r : Nat → Nat → Bool} (h : Eqv n r) {i a : Nat} (hi : i < (cst n r).length) (ha : a < n) (h1 : ((a : Nat) : Int) ∈ (cst n r).getD i []) : wch (cst n r) a = (i : Int) := by
  have e : fst' (fun k => decide (((a : Nat) : Int) ∈ (cst n r).getD k [])) (cst n r).length = some i := fst_some hi (decide_eq_true h1) fun j hj => decide_eq_false fun h2 => by
    have := cst_apart h hi (by omega) ha h1 h2
    omega
  simp only [wch, e]

end Go.Proofs.YtjikchbmkodgfaaDoor

/-
  Cosets: right, left and double, of the program and of the document. Conditions: none.
-/
set_option linter.all false
namespace Go.Proofs.YtjikchbmkodgfaaDoor
open Go.Pv

/-! ### Gathered -/

/-! ### Products of a set, a thing and a set -/

def pdr (f : Nat → Nat → Nat) (x a : Nat) (lm : List Int) : List Int := lm.map fun y => ((f (f x a) y.toNat : Nat) : Int)
def pdl (f : Nat → Nat → Nat) (a : Nat) (l lm : List Int) : List Int := l.flatMap fun x => pdr f x.toNat a lm
/-! ### As the document has them -/

/-! ### An example of the document -/

def cy4 : List Int := [0, 1, 2, 3, 1, 2, 3, 0, 2, 3, 0, 1, 3, 0, 1, 2]
def ev4 (x : Nat) : Bool := x == 0 || x == 2
end Go.Proofs.YtjikchbmkodgfaaDoor

/-
  The quotient of a group by a congruence; by a normal subgroup. Conditions: none.
-/
set_option linter.all false
namespace Go.Proofs.YtjikchbmkodgfaaDoor
open Go.Pv

/-- Places for classes: of each thing its place; of each place a thing. -/
structure Qm (n : Nat) (f : Nat → Nat → Nat) (k : Nat) (cl rep : Nat → Nat) : Prop where
  lt : ∀ a, a < n → cl a < k
  rlt : ∀ i, i < k → rep i < n
  at_ : ∀ i, i < k → cl (rep i) = i
  cong : ∀ a b c d, a < n → b < n → c < n → d < n → cl a = cl b → cl c = cl d → cl (f a c) = cl (f b d)

section
variable {n : Nat} {f : Nat → Nat → Nat} {e : Nat} {p : Nat → Bool}
def qop (f : Nat → Nat → Nat) (cl rep : Nat → Nat) (i j : Nat) : Nat := cl (f (rep i) (rep j))
theorem Qm.op {k : Nat} {cl rep : Nat → Nat} (Q : Qm n f k cl rep) {a b : Nat} (ha : a < n) (hb : b < n) : qop f cl rep (cl a) (cl b) = cl (f a b) :=
  Q.cong _ _ _ _ (Q.rlt _ (Q.lt a ha)) ha (Q.rlt _ (Q.lt b hb)) hb (Q.at_ _ (Q.lt a ha)) (Q.at_ _ (Q.lt b hb))
theorem Qm.grp {k : Nat} {cl rep : Nat → Nat} (Q : Qm n f k cl rep) (G : Grp n f e) : Grp k (qop f cl rep) (cl e) where
  pos := Nat.lt_of_le_of_lt (Nat.zero_le _) (Q.lt e G.el)
  cl i j hi hj := Q.lt _ (G.cl _ _ (Q.rlt i hi) (Q.rlt j hj))
  el := Q.lt e G.el
  one_l i hi := by
    have h1 := Q.rlt i hi
    have h2 := Q.op G.el h1
    rw [Q.at_ i hi, G.one_l _ h1, Q.at_ i hi] at h2; exact h2
  one_r i hi := by
    have h1 := Q.rlt i hi
    have h2 := Q.op h1 G.el
    rw [Q.at_ i hi, G.one_r _ h1, Q.at_ i hi] at h2; exact h2
  assoc i j l hi hj hl := by
    have h1 := Q.rlt i hi
    have h2 := Q.rlt j hj
    have h3 := Q.rlt l hl
    have e1 := Q.op (G.cl _ _ h1 h2) h3
    have e2 := Q.op h1 (G.cl _ _ h2 h3)
    rw [Q.at_ l hl] at e1
    rw [Q.at_ i hi] at e2
    have e3 : qop f cl rep i j = cl (f (rep i) (rep j)) := rfl
    have e4 : qop f cl rep j l = cl (f (rep j) (rep l)) := rfl
    rw [e3, e4, e1, e2, G.assoc _ _ _ h1 h2 h3]
  inv i hi := by
    have h1 := Q.rlt i hi
    have h2 := G.iv_lt h1
    have e1 := Q.op h1 h2
    have e2 := Q.op h2 h1
    rw [Q.at_ i hi] at e1 e2
    exact ⟨_, Q.lt _ h2, by rw [e1, G.mul_iv h1], by rw [e2, G.iv_mul h1]⟩

/-- Of a normal subgroup: alike things have alike products. -/
theorem Grp.rco_cong (G : Grp n f e) (hp : Sub n f e p) (hn : Nml n f e p) {a b c d : Nat} (ha : a < n) (hb : b < n) (hc : c < n) (hd : d < n) (h1 : dco n f p (onp e) a b = true) (h2 : dco n f p (onp e) c d = true) : dco n f p (onp e) (f a c) (f b d) = true := by
  have ia := G.iv_lt ha
  have ic := G.iv_lt hc
  have h3 := G.cl _ _ hb ia
  have h4 := G.cl _ _ hd ic
  rw [G.rco_iff ha hb] at h1
  rw [G.rco_iff hc hd] at h2
  rw [G.rco_iff (G.cl _ _ ha hc) (G.cl _ _ hb hd), G.iv_prod ha hc]
  -- b d c' a' = (b a') (a (d c') a')
  have h5 := hn _ ia _ h4 h2
  unfold cjr at h5
  rw [G.iv_iv ha] at h5
  have h6 := hp.mul _ _ h3 (G.cl _ _ (G.cl _ _ ha h4) ia) h1 h5
  have e1 : f (f b (iv n f e a)) (f (f a (f d (iv n f e c))) (iv n f e a)) = f (f b d) (f (iv n f e c) (iv n f e a)) := by
    rw [G.assoc b _ _ hb ia (G.cl _ _ (G.cl _ _ ha h4) ia), G.assoc a _ _ ha h4 ia, ← G.assoc _ a _ ia ha (G.cl _ _ h4 ia), G.iv_mul ha, G.one_l _ (G.cl _ _ h4 ia), G.assoc d _ _ hd ic ia, ← G.assoc b d _ hb hd (G.cl _ _ ic ia)]
  rw [← e1]; exact h6
end
end Go.Proofs.YtjikchbmkodgfaaDoor

/-
  Quotients, of the program and of the document. Conditions: none.
-/
set_option linter.all false
namespace Go.Proofs.YtjikchbmkodgfaaDoor
open Go.Pv

/-- The fault of a subgroup that is, or is not, normal. -/
def nfb (b : Bool) : Int × Int := bif b then (0, 0) else (4, 0)
/-! ### Places of classes -/

def rpq (n : Nat) (r : Nat → Nat → Bool) (i : Nat) : Nat := (mem n (lead r)).getD i 0
def clq (n : Nat) (r : Nat → Nat → Bool) (a : Nat) : Nat := (wch (cst n r) a).toNat
section
variable {n : Nat} {r : Nat → Nat → Bool}
theorem clq_at (E : Eqv n r) {a : Nat} (ha : a < n) : clq n r a < (cst n r).length ∧ wch (cst n r) a = (clq n r a : Int) ∧ ((a : Nat) : Int) ∈ (cst n r).getD (clq n r a) [] := by
  obtain ⟨i, i1, i2⟩ := cst_in E ha
  have h1 := wch_at E i1 ha i2
  have h2 : clq n r a = i := by unfold clq; rw [h1]; rfl
  rw [h2]
  exact ⟨i1, h1, i2⟩
theorem clq_iff (E : Eqv n r) {a b : Nat} (ha : a < n) (hb : b < n) : clq n r a = clq n r b ↔ r a b = true := by
  obtain ⟨a1, a2, a3⟩ := clq_at E ha
  obtain ⟨b1, b2, b3⟩ := clq_at E hb
  obtain ⟨x, x1, x2, x3, x4⟩ := cst_get a1
  rw [x3, mem_thl_n ha] at a3
  constructor
  · intro he
    rw [← he, x3, mem_thl_n hb] at b3
    exact E.trans a x b ha x1 hb (E.symm x a x1 ha a3) b3
  · intro hr
    have : ((b : Nat) : Int) ∈ (cst n r).getD (clq n r a) [] := by rw [x3, mem_thl_n hb]; exact E.trans x a b x1 ha hb a3 hr
    exact cst_apart E a1 b1 hb this b3
theorem rpq_at (E : Eqv n r) {i : Nat} (hi : i < (cst n r).length) : rpq n r i < n ∧ clq n r (rpq n r i) = i ∧ (cst n r).getD i [] = thl n (r (rpq n r i)) ∧ lead r (rpq n r i) = true := by
  obtain ⟨x, x1, x2, x3, x4⟩ := cst_get hi
  have h1 : rpq n r i = x := x4
  rw [h1]
  have h2 : ((x : Nat) : Int) ∈ (cst n r).getD i [] := by rw [x3, mem_thl_n x1]; exact E.refl x x1
  have h3 := wch_at E hi x1 h2
  exact ⟨x1, by unfold clq; rw [h3]; rfl, x3, x2⟩
theorem cst_qm {f : Nat → Nat → Nat} {e : Nat} (G : Grp n f e) (E : Eqv n r) (hc : ∀ a b c d, a < n → b < n → c < n → d < n → r a b = true → r c d = true → r (f a c) (f b d) = true) : Qm n f (cst n r).length (clq n r) (rpq n r) where
  lt a ha := (clq_at E ha).1
  rlt i hi := (rpq_at E hi).1
  at_ i hi := (rpq_at E hi).2.1
  cong a b c d ha hb hc' hd h1 h2 := (clq_iff E (G.cl _ _ ha hc') (G.cl _ _ hb hd)).2 (hc a b c d ha hb hc' hd ((clq_iff E ha hb).1 h1) ((clq_iff E hc' hd).1 h2))
end
/-- The quotient's table. -/
def qtb (n : Nat) (f : Nat → Nat → Nat) (r : Nat → Nat → Bool) : List Int := tbl (fun i j => ((qop f (clq n r) (rpq n r) i j : Nat) : Int)) (cst n r).length

end Go.Proofs.YtjikchbmkodgfaaDoor

/-
  Parts of a group as groups; what a group does with cosets: by maps. Conditions: none.
-/
set_option linter.all false
namespace Go.Proofs.YtjikchbmkodgfaaDoor
open Go.Pv

/-! ### Parts -/

/-- Where a thing stands among those of which something is so. -/
def pix (p : Nat → Bool) (x : Nat) : Nat := (thl x p).length
theorem thl_split (n x : Nat) (p : Nat → Bool) (hx : x < n) (hp : p x = true) : ∃ r, thl n p = thl x p ++ (x : Int) :: r := by
  induction n with
  | zero => omega
  | succ n ih =>
    rw [thl_succ]
    by_cases h : x = n
    · subst h
      rw [if_pos hp]; exact ⟨[], rfl⟩
    · obtain ⟨r, hr⟩ := ih (by omega)
      rw [hr]
      exact ⟨r ++ (if p n = true then [(n : Int)] else []), by simp⟩
theorem pix_at {n x : Nat} {p : Nat → Bool} (hx : x < n) (hp : p x = true) : pix p x < (thl n p).length ∧ (thl n p).getD (pix p x) 0 = (x : Int) := by
  obtain ⟨r, hr⟩ := thl_split n x p hx hp
  unfold pix
  rw [hr]
  constructor
  · simp
  · simp [List.getD]
theorem pix_get {n i x : Nat} {p : Nat → Bool} (hi : i < (thl n p).length) (hx : x < n) (hp : p x = true) (h : (thl n p).getD i 0 = (x : Int)) : pix p x = i := by
  obtain ⟨h1, h2⟩ := pix_at hx hp
  rcases Nat.lt_trichotomy (pix p x) i with h3 | h3 | h3
  · have := thl_get_asc h3 hi; omega
  · exact h3
  · have := thl_get_asc h3 h1; omega
def lat (n : Nat) (p : Nat → Bool) (i : Nat) : Nat := ((thl n p).getD i 0).toNat
theorem lat_at {n i : Nat} {p : Nat → Bool} (hi : i < (thl n p).length) : lat n p i < n ∧ p (lat n p i) = true ∧ (thl n p).getD i 0 = (lat n p i : Int) ∧ pix p (lat n p i) = i := by
  obtain ⟨x, x1, x2, x3⟩ := thl_get hi
  have : lat n p i = x := by unfold lat; rw [x3]; rfl
  rw [this]
  exact ⟨x1, x2, x3, pix_get hi x1 x2 x3⟩
/-- The part's operation, by places. -/
def pop (n : Nat) (f : Nat → Nat → Nat) (p : Nat → Bool) (i j : Nat) : Nat := pix p (f (lat n p i) (lat n p j))
def ptb (n : Nat) (f : Nat → Nat → Nat) (p : Nat → Bool) : List Int := tbl (fun i j => ((pop n f p i j : Nat) : Int)) (thl n p).length
theorem pop_at {n e : Nat} {f : Nat → Nat → Nat} {p : Nat → Bool} (G : Grp n f e) (hs : Sub n f e p) {i j : Nat} (hi : i < (thl n p).length) (hj : j < (thl n p).length) : pop n f p i j < (thl n p).length ∧ lat n p (pop n f p i j) = f (lat n p i) (lat n p j) := by
  obtain ⟨x1, x2, _, _⟩ := lat_at hi
  obtain ⟨y1, y2, _, _⟩ := lat_at hj
  obtain ⟨h1, h2⟩ := pix_at (G.cl _ _ x1 y1) (hs.mul _ _ x1 y1 x2 y2)
  exact ⟨h1, by unfold pop lat at *; rw [h2]; rfl⟩
/-- A part is a group. -/
theorem ptb_grp {n e : Nat} {f : Nat → Nat → Nat} {p : Nat → Bool} (G : Grp n f e) (hs : Sub n f e p) : Grp (thl n p).length (pop n f p) (pix p e) := by
  have le := pix_at G.el hs.one
  have hat : ∀ {i}, i < (thl n p).length → pix p (lat n p i) = i := fun hi => (lat_at hi).2.2.2
  have hle : lat n p (pix p e) = e := by unfold lat; rw [le.2]; rfl
  refine ⟨by omega, fun i j hi hj => (pop_at G hs hi hj).1, le.1, fun i hi => ?_, fun i hi => ?_, fun i j k hi hj hk => ?_, fun i hi => ?_⟩
  · unfold pop; rw [hle, G.one_l _ (lat_at hi).1, hat hi]
  · unfold pop; rw [hle, G.one_r _ (lat_at hi).1, hat hi]
  · have h1 := pop_at G hs hi hj
    have h2 := pop_at G hs hj hk
    show pix p (f (lat n p (pop n f p i j)) (lat n p k)) = pix p (f (lat n p i) (lat n p (pop n f p j k)))
    rw [h1.2, h2.2, G.assoc _ _ _ (lat_at hi).1 (lat_at hj).1 (lat_at hk).1]
  · obtain ⟨x1, x2, _, _⟩ := lat_at hi
    have h1 := pix_at (G.iv_lt x1) (hs.inv _ x1 x2)
    have h2 : lat n p (pix p (iv n f e (lat n p i))) = iv n f e (lat n p i) := by
      show ((thl n p).getD (pix p (iv n f e (lat n p i))) 0).toNat = _
      rw [h1.2]; rfl
    refine ⟨_, h1.1, ?_, ?_⟩
    · show pix p (f (lat n p i) (lat n p (pix p (iv n f e (lat n p i))))) = _
      rw [h2, G.mul_iv x1]
    · show pix p (f (lat n p (pix p (iv n f e (lat n p i)))) (lat n p i)) = _
      rw [h2, G.iv_mul x1]

/-- Where a part's thing stands, as a value. -/
def pxv (p : Nat → Bool) (u : Int) : PV := .int .i64 (pix p u.toNat)

end Go.Proofs.YtjikchbmkodgfaaDoor

/-
  Plain law, FRATTINI'S ARGUMENT. Conditions: none.
-/
set_option linter.all false
namespace Go.Proofs.YtjikchbmkodgfaaDoor
open Go.Pv

section
variable {n e P : Nat} {f : Nat → Nat → Nat} {q s : Nat → Bool}

theorem Syl.cong {f g : Nat → Nat → Nat} {j t : Nat} (hY : Syl n g e P s j t) (G : Grp n f e) (h : ∀ a b, a < n → b < n → g a b = f a b) : Syl n f e P s j t :=
  ⟨hY.sub.cong_op G h, hY.len, hY.num, hY.non⟩

/-- A part's set, as a set of the whole. -/
def upt (q s : Nat → Bool) (y : Nat) : Bool := q y && s (pix q y)
theorem lat_of {y : Nat} (hy : y < n) (hq : q y = true) : pix q y < (thl n q).length ∧ lat n q (pix q y) = y := by
  obtain ⟨h1, h2⟩ := pix_at hy hq
  exact ⟨h1, by unfold lat; rw [h2]; rfl⟩

theorem lat_iv (G : Grp n f e) (hq : Sub n f e q) {i : Nat} (hi : i < (thl n q).length) : lat n q (iv (thl n q).length (pop n f q) (pix q e) i) = iv n f e (lat n q i) := by
  have H := ptb_grp G hq
  have h1 := H.iv_lt hi
  have h2 := (pop_at G hq hi h1).2
  rw [H.mul_iv hi, (lat_of G.el hq.one).2] at h2
  exact G.iv_unique (lat_at hi).1 (lat_at h1).1 (.inl h2.symm)
theorem lat_cjr (G : Grp n f e) (hq : Sub n f e q) {i k : Nat} (hi : i < (thl n q).length) (hk : k < (thl n q).length) : lat n q (cjr (thl n q).length (pop n f q) (pix q e) i k) = cjr n f e (lat n q i) (lat n q k) := by
  have H := ptb_grp G hq
  have h1 := H.iv_lt hk
  unfold cjr
  rw [(pop_at G hq (H.cl _ _ h1 hi) hk).2, (pop_at G hq h1 hi).2, lat_iv G hq hk]
end
end Go.Proofs.YtjikchbmkodgfaaDoor

/-
  Nilpotent groups; classes of a quotient; the quotient by commutators. Conditions: none.
-/
set_option linter.all false
namespace Go.Proofs.YtjikchbmkodgfaaDoor
open Go.Pv

/-- The last place at which something is so. -/
theorem last_ex {K : Nat} (P : Nat → Prop) (h0 : P 0) (hK : ¬ P K) : ∃ k, k < K ∧ P k ∧ ¬ P (k + 1) := by
  induction K with
  | zero => exact absurd h0 hK
  | succ K ih =>
    by_cases h : P K
    · exact ⟨K, by omega, h, hK⟩
    · obtain ⟨k, k1, k2, k3⟩ := ih h
      exact ⟨k, by omega, k2, k3⟩

section
variable {n : Nat} {f : Nat → Nat → Nat} {e : Nat}
theorem Grp.cmt_iv (G : Grp n f e) {a b : Nat} (ha : a < n) (hb : b < n) : iv n f e (cmt n f e a b) = cmt n f e b a := by
  have ia := G.iv_lt ha
  have ib := G.iv_lt hb
  unfold cmt
  rw [G.iv_prod (G.cl _ _ ia ib) (G.cl _ _ ha hb), G.iv_prod ia ib, G.iv_prod ha hb, G.iv_iv ha, G.iv_iv hb]

/-- In what is nilpotent a subgroup that is not all is less than its normaliser. -/
theorem Grp.nil_grow (G : Grp n f e) {nl : (Nat → Bool) → Nat → Bool} (hl : ∀ p a, a < n → (nl p a = true ↔ Gen n f e (dnp n f e p fun _ => true) a)) {K : Nat} (hK : ∀ a, a < n → itr nl (fun _ => true) K a = true → a = e) {s : Nat → Bool} (hs : Sub n f e s) (hne : ¬ ∀ a, a < n → s a = true) : (mem n s).length < (mem n (nzr n f e s)).length := by
  obtain ⟨k, k1, k2, k3⟩ := last_ex (K := K) (fun k => ¬ ∀ a, a < n → itr nl (fun _ => true) k a = true → s a = true) (fun h => hne fun a ha => h a ha rfl) (fun h => h fun a ha h1 => by rw [hK a ha h1]; exact hs.one)
  have k4 : ∀ a, a < n → itr nl (fun _ => true) (k + 1) a = true → s a = true := Classical.not_not.1 k3
  obtain ⟨x, hx⟩ := Classical.not_forall.1 k2
  have hx1 : x < n := Classical.byContradiction fun h => hx fun h' => absurd h' h
  have hx2 : itr nl (fun _ => true) k x = true := Classical.byContradiction fun h => hx fun _ h' => absurd h' h
  have hx3 : ¬ s x = true := fun h => hx fun _ _ => h
  obtain ⟨hT, _⟩ := G.fall hl G.da_nml k
  -- what is conjugated by a thing of the k-th set stays
  have key : ∀ z, z < n → itr nl (fun _ => true) k z = true → ∀ y, y < n → s y = true → s (cjr n f e y z) = true := fun z hz hTz y hy hsy => by
    have h1 : itr nl (fun _ => true) (k + 1) (cmt n f e z y) = true := (hl _ _ (G.cmt_lt hz hy)).2 (.mem G (G.cmt_lt hz hy) (dnp_iff.2 ⟨z, y, hz, hy, hTz, rfl, rfl⟩))
    have h2 := hs.inv _ (G.cmt_lt hz hy) (k4 _ (G.cmt_lt hz hy) h1)
    rw [G.cmt_iv hz hy] at h2
    have h3 := hs.mul _ _ hy (G.cmt_lt hy hz) hsy h2
    rwa [G.cmt_cjr hy hz, ← G.assoc _ _ _ hy (G.iv_lt hy) (G.cjr_lt hy hz), G.mul_iv hy, G.one_l _ (G.cjr_lt hy hz)] at h3
  have ix := G.iv_lt hx1
  have hnx : nzr n f e s x = true := nzr_iff.2 fun y hy => by
    rw [G.shf_back hx1 hy, Bool.eq_iff_iff]
    constructor
    · intro h1
      have := key x hx1 hx2 _ (G.cjr_lt hy ix) h1
      rwa [G.cjr_vi hy hx1] at this
    · intro h1; exact key _ ix (hT.inv x hx1 hx2) y hy h1
  refine mem_lt (fun a ha h => G.nzr_in hs ha h) fun h => hx3 ?_
  rw [h x hx1]; exact hnx
/-! ### Classes of a quotient -/

theorem lead_le {k : Nat} {r1 r2 : Nat → Nat → Bool} (E1 : Eqv n r1) (E2 : Eqv k r2) (rep : Nat → Nat) (hr : ∀ i, i < k → rep i < n) (h : ∀ i j, i < k → j < k → r1 (rep i) (rep j) = true → r2 i j = true) : (mem k (lead r2)).length ≤ (mem n (lead r1)).length := by
  have hex : ∀ i, ∃ x, i < k → x < n ∧ lead r1 x = true ∧ r1 x (rep i) = true := fun i => by
    by_cases hi : i < k
    · obtain ⟨x, h1, h2, h3⟩ := E1.least (hr i hi)
      exact ⟨x, fun _ => ⟨h1, h2, h3⟩⟩
    · exact ⟨0, fun h => absurd h hi⟩
  obtain ⟨g, hg⟩ := Classical.axiomOfChoice hex
  rw [← List.length_map (f := g) («as» := mem k (lead r2))]
  refine List.Nodup.length_le_of_subset (nodup_map (List.nodup_range.filter _) fun i hi j hj he => ?_) fun x hx => ?_
  · obtain ⟨i1, i2⟩ := mem_mem.1 hi
    obtain ⟨j1, j2⟩ := mem_mem.1 hj
    obtain ⟨a1, a2, a3⟩ := hg i i1
    obtain ⟨b1, b2, b3⟩ := hg j j1
    rw [← he] at b3
    exact E2.lead_eq i1 j1 i2 j2 (h i j i1 j1 (E1.trans _ _ _ (hr i i1) a1 (hr j j1) (E1.symm _ _ a1 (hr i i1) a3) b3))
  · obtain ⟨i, hi, rfl⟩ := List.mem_map.1 hx
    obtain ⟨i1, i2⟩ := mem_mem.1 hi
    exact mem_mem.2 ⟨(hg i i1).1, (hg i i1).2.1⟩
theorem Qm.iv {k : Nat} {cl rep : Nat → Nat} (Q : Qm n f k cl rep) (G : Grp n f e) {a : Nat} (ha : a < n) : iv k (qop f cl rep) (cl e) (cl a) = cl (Go.Proofs.YtjikchbmkodgfaaDoor.iv n f e a) :=
  ((Q.grp G).iv_unique (Q.lt a ha) (Q.lt _ (G.iv_lt ha)) (.inl (by rw [Q.op ha (G.iv_lt ha), G.mul_iv ha]))).symm
theorem Qm.cjb {k : Nat} {cl rep : Nat → Nat} (Q : Qm n f k cl rep) (G : Grp n f e) {x y : Nat} (hx : x < n) (hy : y < n) (h : cjb n f e x y = true) : cjb k (qop f cl rep) (cl e) (cl x) (cl y) = true := by
  obtain ⟨a, ha, rfl⟩ := cjb_iff.1 h
  have ia := G.iv_lt ha
  refine cjb_iff.2 ⟨cl a, Q.lt a ha, ?_⟩
  rw [Q.iv G ha, Q.op ia hx, Q.op (G.cl _ _ ia hx) ha]
/-- A quotient has no more classes. -/
theorem Qm.classes {k : Nat} {cl rep : Nat → Nat} (Q : Qm n f k cl rep) (G : Grp n f e) : (mem k (lead (Go.Proofs.YtjikchbmkodgfaaDoor.cjb k (qop f cl rep) (cl e)))).length ≤ (mem n (lead (Go.Proofs.YtjikchbmkodgfaaDoor.cjb n f e))).length :=
  lead_le G.cjb_eqv (Q.grp G).cjb_eqv rep Q.rlt fun i j hi hj h => by
    have := Q.cjb G (Q.rlt i hi) (Q.rlt j hj) h
    rwa [Q.at_ i hi, Q.at_ j hj] at this
end
end Go.Proofs.YtjikchbmkodgfaaDoor

/-
  Series of subgroups, as the program has them. Conditions: none.
-/
set_option linter.all false
namespace Go.Proofs.YtjikchbmkodgfaaDoor
open Go.Pv

/-- A series, as lists, up to the one at K. -/
def cht (n : Nat) (T : Nat → Nat → Bool) (K : Nat) : List (List Int) := (List.range (K + 1)).map fun k => thl n (T k)
theorem cht_succ (n : Nat) (T : Nat → Nat → Bool) (k : Nat) : cht n T (k + 1) = cht n T k ++ [thl n (T (k + 1))] := by
  unfold cht
  rw [List.range_succ, List.map_append]; rfl
theorem cht_len (n : Nat) (T : Nat → Nat → Bool) (k : Nat) : (cht n T k).length = k + 1 := by simp [cht]
theorem cht_get {n : Nat} {T : Nat → Nat → Bool} {K i : Nat} (hi : i ≤ K) : (cht n T K).getD i [] = thl n (T i) := by
  unfold cht
  simp [List.getD, List.getElem?_map, List.getElem?_range (show i < K + 1 by omega)]
theorem tst_cml {n e : Nat} {f : Nat → Nat → Nat} (p q : Nat → Bool) : tst (cml n f e (thl n p) (thl n q)) = dnp n f e p q := by
  funext x
  rw [Bool.eq_iff_iff, dnp_iff]
  unfold tst
  rw [decide_eq_true_eq, mem_cml]
  constructor
  · rintro ⟨a, b, a1, b1, a2, b2, h⟩
    exact ⟨a, b, a1, b1, a2, b2, by omega⟩
  · rintro ⟨a, b, a1, b1, a2, b2, h⟩
    exact ⟨a, b, a1, b1, a2, b2, by omega⟩
theorem Stp.at {n : Nat} {T : Nat → Nat → Bool} {K k : Nat} (h : Stp n T K) (hk : k ≤ K) : bo n (T (k + 1)) = bo n (T k) ↔ k = K := by
  constructor
  · intro he
    rcases Nat.lt_or_eq_of_le hk with h1 | h1
    · exact absurd (fun a ha => bo_inj he ha) (h.ne k h1)
    · exact h1
  · rintro rfl
    exact bo_congr h.eq
theorem whole_bo (n : Nat) : 2 ^ n - 1 = bo n fun _ => true := by
  refine Nat.eq_of_testBit_eq fun i => ?_
  rw [bo_bit, Nat.testBit_two_pow_sub_one]; simp
theorem whole_s (n : Nat) (m : List Int) (hb : n ≤ 60) : FnC Tryd.prog 103 [gp n m] (.int .u64 (bo n fun _ => true)) := by
  have h1 : IntKind.u64.wrap (((2 ^ n : Nat) : Int) - 1) = ((bo n fun _ => true : Nat) : Int) := by
    rw [← whole_bo, wrap_u]
    have h2 := pow_lt64 (b := n) (by omega)
    have h3 : 0 < 2 ^ n := Nat.pow_pos (by omega)
    omega
  refine fnc_of tab_ok Tryd.func103 rfl (by kernel_rfl) (by rw [Tryd.ntmps103]; exact Nat.le_add_left 1 _) ?_; rw [Tryd.ntmps103]
  refine qm ?_
  refine hk_region fun K hK => runs_eval tab_ok ?_
  simp only [ev0, evA, evB, evP, fl, gp, tab, simprocAttr, reduceCtorEq, reduceIte]
  refine fin_run ?_ (hK _ ?_) <;> clear hK <;> clear K
  · (first | exact trivial | omega | (simp only [In64] at *; omega) | (simp [In64] at *; omega) | (simp_all; done) | skip)
  refine qa (qm ?_)
  refine hk_region fun K hK => runs_eval tab_ok ?_
  simp only [ev0, evA, evB, evP, fl, gp, tab, simprocAttr, reduceCtorEq, reduceIte, shl_one (show n < 64 by omega), h1]
  refine fin_run ?_ (hK _ ?_) <;> clear hK <;> clear K
  · (first | exact trivial | omega | (simp only [In64] at *; omega) | (simp [In64] at *; omega) | (simp_all; done) | skip)
  refine qa (qk ?_)
  simp only [Tryd.results103, enA, ev0, evA, evB, evP, fl, gp, tab, simprocAttr, reduceCtorEq, reduceIte]
  all_goals (rfl)

set_option maxHeartbeats 2000000 in
theorem down_ok {n e : Nat} {m : List Int} (h : GT n m n e) (F : FuncId) (caps : List PV) (T : Nat → Nat → Bool) (K : Nat) (hK : K ≤ n) (hS : Stp n T K) (h0 : T 0 = fun _ => true) (hF : ∀ k, FnC Tryd.prog F (.int .u64 (bo n (T k)) :: caps) (.int .u64 (bo n (T (k + 1))))) :
    FnC Tryd.prog 100 [gp n m, .fn F caps] (.tup [.list (ll (cht n T K)), fl (0, 0)]) := by
  have hb := h.2.1.big
  have hml := h.2.1.len
  have hsq := sq_le hb
  have hbt : ∀ p, bo n p < 2 ^ 64 := fun p => bo_lt64 hb p
  have h1 : ∀ k : Nat, ((k + 1) == 0) = false := fun k => rfl
  refine fnc_of tab_ok Tryd.func100 rfl (by kernel_rfl) (by rw [Tryd.ntmps100]; exact Nat.le_add_left 2 _) ?_; rw [Tryd.ntmps100]
  refine qm ?_
  refine hk_region fun K hK => runs_eval tab_ok ?_
  simp only [ev0, evA, evB, evP, fl, gp, tab, simprocAttr, reduceCtorEq, reduceIte]
  refine fin_run ?_ (hK _ ?_) <;> clear hK <;> clear K
  · (first | exact trivial | omega | (simp only [In64] at *; omega) | (simp [In64] at *; omega) | (simp_all; done) | skip)
  refine qa (qm (qm ?_))
  refine hk_region fun K hK => runs_eval tab_ok ?_
  simp only [ev0, evA, evB, evP, fl, gp, tab, simprocAttr, reduceCtorEq, reduceIte]
  refine fin_stop trivial (runs_call (check_c n m (by omega)) rfl rfl rfl (by simp only [dstOk, Nat.reduceLT]) (by repeat (first | exact trivial | constructor)) (runs_eval tab_ok ?_))
  simp only [ev0, evA, evB, evP, fl, gp, tab, simprocAttr, reduceCtorEq, reduceIte, gf_of h]
  refine fin_run ?_ (hK _ ?_) <;> clear hK <;> clear K
  · (first | exact trivial | omega | (simp only [In64] at *; omega) | (simp [In64] at *; omega) | (simp_all; done) | skip)
  refine qa (qm ?_)
  refine hk_region fun K hK => runs_eval tab_ok ?_
  simp only [ev0, evA, evB, evP, fl, gp, tab, simprocAttr, reduceCtorEq, reduceIte]
  refine fin_run ?_ (hK _ ?_) <;> clear hK <;> clear K
  · (first | exact trivial | omega | (simp only [In64] at *; omega) | (simp [In64] at *; omega) | (simp_all; done) | skip)
  refine qa ?_
  refine hk_cond rfl (fun hC1 => ?_) (fun hC1 => ?_)
  · cases hC1
  · (try simp only [nhs] at hC1)
    refine qh (qa (qm ?_))
    refine hk_region fun K hK => runs_eval tab_ok ?_
    simp only [ev0, evA, evB, evP, fl, gp, tab, simprocAttr, reduceCtorEq, reduceIte]
    refine fin_stop trivial (runs_call (whole_s n m hb) rfl rfl rfl (by simp only [dstOk, Nat.reduceLT]) (by repeat (first | exact trivial | constructor)) (runs_eval tab_ok ?_))
    simp only [ev0, evA, evB, evP, fl, gp, tab, simprocAttr, reduceCtorEq, reduceIte]
    refine fin_run ?_ (hK _ ?_) <;> clear hK <;> clear K
    · (first | exact trivial | omega | (simp only [In64] at *; omega) | (simp [In64] at *; omega) | (simp_all; done) | skip)
    refine qa (qm ?_)
    refine hk_region fun K hK => runs_eval tab_ok ?_
    simp only [ev0, evA, evB, evP, fl, gp, tab, simprocAttr, reduceCtorEq, reduceIte]
    refine fin_stop trivial (runs_call (list_s (bo n fun _ => true) (hbt _)) rfl rfl rfl (by simp only [dstOk, Nat.reduceLT]) (by repeat (first | exact trivial | constructor)) (runs_eval tab_ok ?_))
    simp only [ev0, evA, evB, evP, fl, gp, tab, simprocAttr, reduceCtorEq, reduceIte, stl_bo hb]
    refine fin_run ?_ (hK _ ?_) <;> clear hK <;> clear K
    · (first | exact trivial | omega | (simp only [In64] at *; omega) | (simp [In64] at *; omega) | (simp_all; done) | skip)
    refine qa (ql ?_)
    refine hk_loop (ι := Nat) (fun k => ⟨35, [(1, .p (.fn F caps)), (5, .ptr 0 0), (7, .p (.int .u64 (bo n (T k)))), (8, bif k == 0 then .p (.nn [.list (il (thl n (T 0)))]) else .sl 1 0 (cht n T k).length)], bif k == 0 then [.own [.p (.int .i64 0), .p (.int .i64 0)]] else [.own [.p (.int .i64 0), .p (.int .i64 0)], .own (opl (ll (cht n T k)))]⟩) (fun k => k ≤ K) (fun k => K - k) 0 (Nat.zero_le _) [1] (by rw [h0]; simp only [leq, leA, ev0, evA, evB, evP, fl, gp, tab, simprocAttr, reduceCtorEq, reduceIte, beq_self_eq_true, cond_true] <;> first | trivial | (simp; done)) fun k hk => ?_
    refine ql (qm ?_)
    by_cases hk0 : (k == 0) = true
    · simp only [hk0, cond_true]
      have hkz : k = 0 := by simpa using hk0
      refine hk_region fun K hK => runs_eval tab_ok ?_
      simp only [ev0, evA, evB, evP, fl, gp, tab, simprocAttr, reduceCtorEq, reduceIte]
      refine fin_stop trivial (runs_call (hF k) rfl rfl rfl (by simp only [dstOk, Nat.reduceLT]) (by repeat (first | exact trivial | constructor)) (runs_eval tab_ok ?_))
      simp only [ev0, evA, evB, evP, fl, gp, tab, simprocAttr, reduceCtorEq, reduceIte]
      refine fin_run trivial (hK _ ?_) <;> clear hK <;> clear K
      refine qa (qm (qm ?_))
      refine hk_region fun K hK => runs_eval tab_ok ?_
      simp only [ev0, evA, evB, evP, fl, gp, tab, simprocAttr, reduceCtorEq, reduceIte]
      refine fin_run trivial (hK _ ?_) <;> clear hK <;> clear K
      refine qa ?_
      refine hk_cond rfl (fun hC2 => ?_) (fun hC2 => ?_)
      · (try simp only [nhs] at hC2)
        have hkK : k = K := (hS.at hk).1 (by omega)
        refine qm ?_
        refine hk_region fun K hK => runs_eval tab_ok ?_
        simp only [ev0, evA, evB, evP, fl, gp, tab, simprocAttr, reduceCtorEq, reduceIte]
        refine fin_run ?_ (hK _ ?_) <;> clear hK <;> clear K
        · (first | exact trivial | omega | (simp only [In64] at *; omega) | (simp [In64] at *; omega) | (simp_all; done) | skip)
        refine qa (qk (qb (qe (qb (qe ?_)))))
        simp only [Tryd.results100, enA, ev0, evA, evB, evP, fl, gp, tab, simprocAttr, reduceCtorEq, reduceIte]
        all_goals (rw [← hkK, hkz]; rfl)
      · (try simp only [nhs] at hC2)
        have hkK : k < K := by
          rcases Nat.lt_or_eq_of_le hk with h | h
          · exact h
          · exact absurd (by rw [(hS.at hk).2 h]) hC2
        have hs := cht_succ n T k
        refine qh (qa (qm ?_))
        refine hk_region fun K hK => runs_eval tab_ok ?_
        simp only [ev0, evA, evB, evP, fl, gp, tab, simprocAttr, reduceCtorEq, reduceIte]
        refine fin_run trivial (hK _ ?_) <;> clear hK <;> clear K
        refine qa ?_
        refine hk_region fun K hK => runs_eval tab_ok ?_
        simp only [ev0, evA, evB, evP, fl, gp, tab, simprocAttr, reduceCtorEq, reduceIte, ll_takeL, oll_ok, ll_snoc]
        refine fin_stop trivial (runs_call (list_s (bo n (T (k + 1))) (hbt _)) rfl rfl rfl (by simp only [dstOk, Nat.reduceLT]) (by repeat (first | exact trivial | constructor)) (runs_eval tab_ok ?_))
        simp only [ev0, evA, evB, evP, fl, gp, tab, simprocAttr, reduceCtorEq, reduceIte, stl_bo hb, ll_takeL, oll_ok, ll_snoc]
        refine fin_run ?_ (hK _ ?_) <;> clear hK <;> clear K
        · first | (simp [cellOk, PV.one]; done) | (simp [cellOk, PV.one]; omega)
        refine qd (qa ?_)
        refine ⟨k + 1, [0, 1], by omega, by omega, ?_⟩
        have hs0 : ll (cht n T (k + 1)) = [.list (il (thl n (T 0))), .list (il (thl n (T (k + 1))))] := by rw [hs, hkz]; rfl
        have hl0 := cht_len n T (k + 1)
        simp only [leq, leA, ev0, evA, evB, evP, fl, gp, tab, simprocAttr, reduceCtorEq, reduceIte, h1, cond_false] <;> first | trivial | omega | (rw [hs0, hl0, hkz]; exact ⟨rfl, rfl⟩)
    · rw [Bool.not_eq_true] at hk0
      simp only [hk0, cond_false]
      have hlen := cht_len n T k
      have hll := ll_length (cht n T k)
      refine hk_region fun K hK => runs_eval tab_ok ?_
      simp only [ev0, evA, evB, evP, fl, gp, tab, simprocAttr, reduceCtorEq, reduceIte]
      refine fin_stop trivial (runs_call (hF k) rfl rfl rfl (by simp only [dstOk, Nat.reduceLT]) (by repeat (first | exact trivial | constructor)) (runs_eval tab_ok ?_))
      simp only [ev0, evA, evB, evP, fl, gp, tab, simprocAttr, reduceCtorEq, reduceIte]
      refine fin_run trivial (hK _ ?_) <;> clear hK <;> clear K
      refine qa (qm (qm ?_))
      refine hk_region fun K hK => runs_eval tab_ok ?_
      simp only [ev0, evA, evB, evP, fl, gp, tab, simprocAttr, reduceCtorEq, reduceIte]
      refine fin_run trivial (hK _ ?_) <;> clear hK <;> clear K
      refine qa ?_
      refine hk_cond rfl (fun hC2 => ?_) (fun hC2 => ?_)
      · (try simp only [nhs] at hC2)
        have hkK : k = K := (hS.at hk).1 (by omega)
        refine qm ?_
        rw [← ll_length (cht n T k)]
        refine hk_sealp 8 1 (ll_all _) rfl rfl ?_
        refine hk_region fun K hK => runs_eval tab_ok ?_
        simp only [ev0, evA, evB, evP, fl, gp, tab, simprocAttr, reduceCtorEq, reduceIte]
        refine fin_run ?_ (hK _ ?_) <;> clear hK <;> clear K
        · (first | exact trivial | omega | (simp only [In64] at *; omega) | (simp [In64] at *; omega) | (simp_all; done) | skip)
        refine qa (qk (qb (qe (qb (qe ?_)))))
        simp only [Tryd.results100, enA, ev0, evA, evB, evP, fl, gp, tab, simprocAttr, reduceCtorEq, reduceIte]
        all_goals (rw [← hkK])
      · (try simp only [nhs] at hC2)
        have hkK : k < K := by
          rcases Nat.lt_or_eq_of_le hk with h | h
          · exact h
          · exact absurd (by rw [(hS.at hk).2 h]) hC2
        have hs := cht_succ n T k
        refine qh (qa (qm ?_))
        refine hk_region fun K hK => runs_eval tab_ok ?_
        simp only [ev0, evA, evB, evP, fl, gp, tab, simprocAttr, reduceCtorEq, reduceIte]
        refine fin_run trivial (hK _ ?_) <;> clear hK <;> clear K
        refine qa ?_
        refine hk_region fun K hK => runs_eval tab_ok ?_
        simp only [ev0, evA, evB, evP, fl, gp, tab, simprocAttr, reduceCtorEq, reduceIte, ll_takeL, oll_ok, ll_snoc]
        refine fin_stop trivial (runs_call (list_s (bo n (T (k + 1))) (hbt _)) rfl rfl rfl (by simp only [dstOk, Nat.reduceLT]) (by repeat (first | exact trivial | constructor)) (runs_eval tab_ok ?_))
        simp only [ev0, evA, evB, evP, fl, gp, tab, simprocAttr, reduceCtorEq, reduceIte, stl_bo hb, ll_takeL, oll_ok, ll_snoc]
        refine fin_run ?_ (hK _ ?_) <;> clear hK <;> clear K
        · first | (simp [cellOk, PV.one]; done) | (simp [cellOk, PV.one]; omega)
        refine qd (qa ?_)
        refine ⟨k + 1, [0, 2], by omega, by omega, ?_⟩
        rw [hs]
        simp only [leq, leA, ev0, evA, evB, evP, fl, gp, tab, simprocAttr, reduceCtorEq, reduceIte, h1, cond_false, ll_takeL, ll_snoc, ll_takeS] <;> first | trivial | omega | (simp [ll]; done)
theorem down_no (N : Int) (m : List Int) (F : FuncId) (caps : List PV) (hm : m.length ≤ 1000000000000000) (hf : ¬ (gf N m).1 = 0) : FnC Tryd.prog 100 [gp N m, .fn F caps] (.tup [.list (ll []), fl (gf N m)]) := by
  refine fnc_of tab_ok Tryd.func100 rfl (by kernel_rfl) (by rw [Tryd.ntmps100]; exact Nat.le_add_left 2 _) ?_; rw [Tryd.ntmps100]
  refine qm ?_
  refine hk_region fun K hK => runs_eval tab_ok ?_
  simp only [ev0, evA, evB, evP, fl, gp, tab, simprocAttr, reduceCtorEq, reduceIte]
  refine fin_run ?_ (hK _ ?_) <;> clear hK <;> clear K
  · (first | exact trivial | omega | (simp only [In64] at *; omega) | (simp [In64] at *; omega) | (simp_all; done) | skip)
  refine qa (qm (qm ?_))
  refine hk_region fun K hK => runs_eval tab_ok ?_
  simp only [ev0, evA, evB, evP, fl, gp, tab, simprocAttr, reduceCtorEq, reduceIte]
  refine fin_stop trivial (runs_call (check_c N m hm) rfl rfl rfl (by simp only [dstOk, Nat.reduceLT]) (by repeat (first | exact trivial | constructor)) (runs_eval tab_ok ?_))
  simp only [ev0, evA, evB, evP, fl, gp, tab, simprocAttr, reduceCtorEq, reduceIte]
  refine fin_run ?_ (hK _ ?_) <;> clear hK <;> clear K
  · (first | exact trivial | omega | (simp only [In64] at *; omega) | (simp [In64] at *; omega) | (simp_all; done) | skip)
  refine qa (qm ?_)
  refine hk_region fun K hK => runs_eval tab_ok ?_
  simp only [ev0, evA, evB, evP, fl, gp, tab, simprocAttr, reduceCtorEq, reduceIte]
  refine fin_run ?_ (hK _ ?_) <;> clear hK <;> clear K
  · (first | exact trivial | omega | (simp only [In64] at *; omega) | (simp [In64] at *; omega) | (simp_all; done) | skip)
  refine qa ?_
  refine hk_cond rfl (fun hC1 => ?_) (fun hC1 => ?_)
  · (try simp only [nhs] at hC1)
    refine qm ?_
    refine hk_draw mixed (by kernel_rfl) fun K hK => runs_eval tab_ok ?_
    simp only [ev0, evA, evB, evP, fl, gp, tab, simprocAttr, reduceCtorEq, reduceIte]
    refine fin_run ?_ (hK _ ?_) <;> clear hK <;> clear K
    · (first | exact trivial | omega | (simp only [In64] at *; omega) | (simp [In64] at *; omega) | (simp_all; done) | skip)
    refine qa (qk (qb ?_))
    simp only [Tryd.results100, enA, ev0, evA, evB, evP, fl, gp, tab, simprocAttr, reduceCtorEq, reduceIte]
    all_goals (simp [ll])
  · (try simp only [nhs] at hC1)
    exact absurd hC1 hf

/-! ### Derived, Lower -/

section
variable {n e : Nat} {m : List Int}
theorem derived1_c (h : GT n m n e) (p r : Nat → Bool) (hr : ∀ a, a < n → (r a = true ↔ Gen n (op m n) e (dnp n (op m n) e p p) a)) : FnC Tryd.prog 127 [.int .u64 (bo n p), .ptr [.int .i64 n, .list (il m)]] (.int .u64 (bo n r)) := by
  refine fnc_of tab_ok Tryd.func127 rfl (by kernel_rfl) (by rw [Tryd.ntmps127]; exact Nat.le_add_left 2 _) ?_; rw [Tryd.ntmps127]
  refine qm ?_
  refine hk_region fun K hK => runs_eval tab_ok ?_
  simp only [ev0, evA, evB, evP, fl, gp, tab, simprocAttr, reduceCtorEq, reduceIte]
  refine fin_run trivial (hK _ ?_) <;> clear hK <;> clear K
  refine qa (qm ?_)
  refine hk_region fun K hK => runs_eval tab_ok ?_
  simp only [ev0, evA, evB, evP, fl, gp, tab, simprocAttr, reduceCtorEq, reduceIte]
  refine fin_stop trivial (runs_call (derive_s h p p r (fun a ha => by rw [tst_cml]; exact hr a ha)) rfl rfl rfl (by simp only [dstOk, Nat.reduceLT]) (by repeat (first | exact trivial | constructor)) (runs_eval tab_ok ?_))
  simp only [ev0, evA, evB, evP, fl, gp, tab, simprocAttr, reduceCtorEq, reduceIte]
  refine fin_run ?_ (hK _ ?_) <;> clear hK <;> clear K
  · (first | exact trivial | omega | (simp only [In64] at *; omega) | (simp [In64] at *; omega) | (simp_all; done) | skip)
  refine qa (qk ?_)
  simp only [Tryd.results127, enA, ev0, evA, evB, evP, fl, gp, tab, simprocAttr, reduceCtorEq, reduceIte]
  all_goals (rfl)
theorem lower1_c (h : GT n m n e) (p r : Nat → Bool) (hr : ∀ a, a < n → (r a = true ↔ Gen n (op m n) e (dnp n (op m n) e p fun _ => true) a)) : FnC Tryd.prog 101 [.int .u64 (bo n p), .ptr [.int .i64 n, .list (il m)]] (.int .u64 (bo n r)) := by
  refine fnc_of tab_ok Tryd.func101 rfl (by kernel_rfl) (by rw [Tryd.ntmps101]; exact Nat.le_add_left 2 _) ?_; rw [Tryd.ntmps101]
  refine qm ?_
  refine hk_region fun K hK => runs_eval tab_ok ?_
  simp only [ev0, evA, evB, evP, fl, gp, tab, simprocAttr, reduceCtorEq, reduceIte]
  refine fin_run trivial (hK _ ?_) <;> clear hK <;> clear K
  refine qa (qm ?_)
  refine hk_draw mixed (by kernel_rfl) fun K hK => runs_eval tab_ok ?_
  simp only [ev0, evA, evB, evP, fl, gp, tab, simprocAttr, reduceCtorEq, reduceIte]
  refine fin_stop trivial (runs_call (whole_s n m h.2.1.big) rfl rfl rfl (by simp only [dstOk, Nat.reduceLT]) (by repeat (first | exact trivial | constructor)) (runs_eval tab_ok ?_))
  simp only [ev0, evA, evB, evP, fl, gp, tab, simprocAttr, reduceCtorEq, reduceIte]
  refine fin_stop trivial (runs_call (derive_s h p (fun _ => true) r (fun a ha => by rw [tst_cml]; exact hr a ha)) rfl rfl rfl (by simp only [dstOk, Nat.reduceLT]) (by repeat (first | exact trivial | constructor)) (runs_eval tab_ok ?_))
  simp only [ev0, evA, evB, evP, fl, gp, tab, simprocAttr, reduceCtorEq, reduceIte]
  refine fin_run ?_ (hK _ ?_) <;> clear hK <;> clear K
  · (first | exact trivial | omega | (simp only [In64] at *; omega) | (simp [In64] at *; omega) | (simp_all; done) | skip)
  refine qa (qk ?_)
  simp only [Tryd.results101, enA, ev0, evA, evB, evP, fl, gp, tab, simprocAttr, reduceCtorEq, reduceIte]
  all_goals (rfl)
theorem derived_ok (h : GT n m n e) (nx : (Nat → Bool) → Nat → Bool) (hnx : ∀ p a, a < n → (nx p a = true ↔ Gen n (op m n) e (dnp n (op m n) e p p) a)) (Z : Nat) (hZ : Z ≤ n) (hS : Stp n (itr nx fun _ => true) Z) :
    FnC Tryd.prog 99 [gp n m] (.tup [.list (ll (cht n (itr nx fun _ => true) Z)), fl (0, 0)]) := by
  refine fnc_of tab_ok Tryd.func99 rfl (by kernel_rfl) (by rw [Tryd.ntmps99]; exact Nat.le_add_left 1 _) ?_; rw [Tryd.ntmps99]
  refine qm ?_
  refine hk_region fun K hK => runs_eval tab_ok ?_
  simp only [ev0, evA, evB, evP, fl, gp, tab, simprocAttr, reduceCtorEq, reduceIte]
  refine fin_run ?_ (hK _ ?_) <;> clear hK <;> clear K
  · (first | exact trivial | omega | (simp only [In64] at *; omega) | (simp [In64] at *; omega) | (simp_all; done) | skip)
  refine qa (qm ?_)
  refine hk_freeze 0 rfl rfl ?_
  simp only [hset]
  refine hk_region fun K hK => runs_eval tab_ok ?_
  simp only [ev0, evA, evB, evP, fl, gp, tab, simprocAttr, reduceCtorEq, reduceIte]
  refine fin_stop trivial (runs_call (down_ok h _ _ (itr nx fun _ => true) Z hZ hS rfl (fun k => derived1_c h _ _ (hnx _))) rfl rfl rfl (by simp only [dstOk, Nat.reduceLT]) (by repeat (first | exact trivial | constructor)) (runs_eval tab_ok ?_))
  simp only [ev0, evA, evB, evP, fl, gp, tab, simprocAttr, reduceCtorEq, reduceIte]
  refine fin_run ?_ (hK _ ?_) <;> clear hK <;> clear K
  · (first | exact trivial | omega | (simp only [In64] at *; omega) | (simp [In64] at *; omega) | (simp_all; done) | skip)
  refine qa (qk ?_)
  simp only [Tryd.results99, enA, ev0, evA, evB, evP, fl, gp, tab, simprocAttr, reduceCtorEq, reduceIte]
  all_goals ((first | exact rfl | exact ⟨rfl, rfl⟩ | exact ⟨rfl, rfl, rfl⟩ | exact ⟨trivial, rfl⟩ | exact ⟨Nat.le_refl _, rfl⟩ | trivial | (simp; done)))
theorem lower_ok (h : GT n m n e) (nx : (Nat → Bool) → Nat → Bool) (hnx : ∀ p a, a < n → (nx p a = true ↔ Gen n (op m n) e (dnp n (op m n) e p fun _ => true) a)) (Z : Nat) (hZ : Z ≤ n) (hS : Stp n (itr nx fun _ => true) Z) :
    FnC Tryd.prog 61 [gp n m] (.tup [.list (ll (cht n (itr nx fun _ => true) Z)), fl (0, 0)]) := by
  refine fnc_of tab_ok Tryd.func61 rfl (by kernel_rfl) (by rw [Tryd.ntmps61]; exact Nat.le_add_left 1 _) ?_; rw [Tryd.ntmps61]
  refine qm ?_
  refine hk_region fun K hK => runs_eval tab_ok ?_
  simp only [ev0, evA, evB, evP, fl, gp, tab, simprocAttr, reduceCtorEq, reduceIte]
  refine fin_run ?_ (hK _ ?_) <;> clear hK <;> clear K
  · (first | exact trivial | omega | (simp only [In64] at *; omega) | (simp [In64] at *; omega) | (simp_all; done) | skip)
  refine qa (qm ?_)
  refine hk_freeze 0 rfl rfl ?_
  simp only [hset]
  refine hk_region fun K hK => runs_eval tab_ok ?_
  simp only [ev0, evA, evB, evP, fl, gp, tab, simprocAttr, reduceCtorEq, reduceIte]
  refine fin_stop trivial (runs_call (down_ok h _ _ (itr nx fun _ => true) Z hZ hS rfl (fun k => lower1_c h _ _ (hnx _))) rfl rfl rfl (by simp only [dstOk, Nat.reduceLT]) (by repeat (first | exact trivial | constructor)) (runs_eval tab_ok ?_))
  simp only [ev0, evA, evB, evP, fl, gp, tab, simprocAttr, reduceCtorEq, reduceIte]
  refine fin_run ?_ (hK _ ?_) <;> clear hK <;> clear K
  · (first | exact trivial | omega | (simp only [In64] at *; omega) | (simp [In64] at *; omega) | (simp_all; done) | skip)
  refine qa (qk ?_)
  simp only [Tryd.results61, enA, ev0, evA, evB, evP, fl, gp, tab, simprocAttr, reduceCtorEq, reduceIte]
  all_goals ((first | exact rfl | exact ⟨rfl, rfl⟩ | exact ⟨rfl, rfl, rfl⟩ | exact ⟨trivial, rfl⟩ | exact ⟨Nat.le_refl _, rfl⟩ | trivial | (simp; done)))
end
theorem derived_no (N : Int) (m : List Int) (hm : m.length ≤ 1000000000000000) (hf : ¬ (gf N m).1 = 0) : FnC Tryd.prog 99 [gp N m] (.tup [.list (ll []), fl (gf N m)]) := by
  refine fnc_of tab_ok Tryd.func99 rfl (by kernel_rfl) (by rw [Tryd.ntmps99]; exact Nat.le_add_left 1 _) ?_; rw [Tryd.ntmps99]
  refine qm ?_
  refine hk_region fun K hK => runs_eval tab_ok ?_
  simp only [ev0, evA, evB, evP, fl, gp, tab, simprocAttr, reduceCtorEq, reduceIte]
  refine fin_run ?_ (hK _ ?_) <;> clear hK <;> clear K
  · (first | exact trivial | omega | (simp only [In64] at *; omega) | (simp [In64] at *; omega) | (simp_all; done) | skip)
  refine qa (qm ?_)
  refine hk_freeze 0 rfl rfl ?_
  simp only [hset]
  refine hk_region fun K hK => runs_eval tab_ok ?_
  simp only [ev0, evA, evB, evP, fl, gp, tab, simprocAttr, reduceCtorEq, reduceIte]
  refine fin_stop trivial (runs_call (down_no N m _ _ hm hf) rfl rfl rfl (by simp only [dstOk, Nat.reduceLT]) (by repeat (first | exact trivial | constructor)) (runs_eval tab_ok ?_))
  simp only [ev0, evA, evB, evP, fl, gp, tab, simprocAttr, reduceCtorEq, reduceIte]
  refine fin_run ?_ (hK _ ?_) <;> clear hK <;> clear K
  · (first | exact trivial | omega | (simp only [In64] at *; omega) | (simp [In64] at *; omega) | (simp_all; done) | skip)
  refine qa (qk ?_)
  simp only [Tryd.results99, enA, ev0, evA, evB, evP, fl, gp, tab, simprocAttr, reduceCtorEq, reduceIte]
  all_goals ((first | exact rfl | exact ⟨rfl, rfl⟩ | exact ⟨rfl, rfl, rfl⟩ | exact ⟨trivial, rfl⟩ | exact ⟨Nat.le_refl _, rfl⟩ | trivial | (simp; done)))
theorem lower_no (N : Int) (m : List Int) (hm : m.length ≤ 1000000000000000) (hf : ¬ (gf N m).1 = 0) : FnC Tryd.prog 61 [gp N m] (.tup [.list (ll []), fl (gf N m)]) := by
  refine fnc_of tab_ok Tryd.func61 rfl (by kernel_rfl) (by rw [Tryd.ntmps61]; exact Nat.le_add_left 1 _) ?_; rw [Tryd.ntmps61]
  refine qm ?_
  refine hk_region fun K hK => runs_eval tab_ok ?_
  simp only [ev0, evA, evB, evP, fl, gp, tab, simprocAttr, reduceCtorEq, reduceIte]
  refine fin_run ?_ (hK _ ?_) <;> clear hK <;> clear K
  · (first | exact trivial | omega | (simp only [In64] at *; omega) | (simp [In64] at *; omega) | (simp_all; done) | skip)
  refine qa (qm ?_)
  refine hk_freeze 0 rfl rfl ?_
  simp only [hset]
  refine hk_region fun K hK => runs_eval tab_ok ?_
  simp only [ev0, evA, evB, evP, fl, gp, tab, simprocAttr, reduceCtorEq, reduceIte]
  refine fin_stop trivial (runs_call (down_no N m _ _ hm hf) rfl rfl rfl (by simp only [dstOk, Nat.reduceLT]) (by repeat (first | exact trivial | constructor)) (runs_eval tab_ok ?_))
  simp only [ev0, evA, evB, evP, fl, gp, tab, simprocAttr, reduceCtorEq, reduceIte]
  refine fin_run ?_ (hK _ ?_) <;> clear hK <;> clear K
  · (first | exact trivial | omega | (simp only [In64] at *; omega) | (simp [In64] at *; omega) | (simp_all; done) | skip)
  refine qa (qk ?_)
  simp only [Tryd.results61, enA, ev0, evA, evB, evP, fl, gp, tab, simprocAttr, reduceCtorEq, reduceIte]
  all_goals ((first | exact rfl | exact ⟨rfl, rfl⟩ | exact ⟨rfl, rfl, rfl⟩ | exact ⟨trivial, rfl⟩ | exact ⟨Nat.le_refl _, rfl⟩ | trivial | (simp; done)))

/-! ### Upper -/

theorem upper_no (N : Int) (m : List Int) (hm : m.length ≤ 1000000000000000) (hf : ¬ (gf N m).1 = 0) : FnC Tryd.prog 62 [gp N m] (.tup [.list (ll []), fl (gf N m)]) := by
  refine fnc_of tab_ok Tryd.func62 rfl (by kernel_rfl) (by rw [Tryd.ntmps62]; exact Nat.le_add_left 1 _) ?_; rw [Tryd.ntmps62]
  refine qm ?_
  refine hk_region fun K hK => runs_eval tab_ok ?_
  simp only [ev0, evA, evB, evP, fl, gp, tab, simprocAttr, reduceCtorEq, reduceIte]
  refine fin_run ?_ (hK _ ?_) <;> clear hK <;> clear K
  · (first | exact trivial | omega | (simp only [In64] at *; omega) | (simp [In64] at *; omega) | (simp_all; done) | skip)
  refine qa (qm (qm ?_))
  refine hk_region fun K hK => runs_eval tab_ok ?_
  simp only [ev0, evA, evB, evP, fl, gp, tab, simprocAttr, reduceCtorEq, reduceIte]
  refine fin_stop trivial (runs_call (check_c N m hm) rfl rfl rfl (by simp only [dstOk, Nat.reduceLT]) (by repeat (first | exact trivial | constructor)) (runs_eval tab_ok ?_))
  simp only [ev0, evA, evB, evP, fl, gp, tab, simprocAttr, reduceCtorEq, reduceIte]
  refine fin_run ?_ (hK _ ?_) <;> clear hK <;> clear K
  · (first | exact trivial | omega | (simp only [In64] at *; omega) | (simp [In64] at *; omega) | (simp_all; done) | skip)
  refine qa (qm ?_)
  refine hk_region fun K hK => runs_eval tab_ok ?_
  simp only [ev0, evA, evB, evP, fl, gp, tab, simprocAttr, reduceCtorEq, reduceIte]
  refine fin_run ?_ (hK _ ?_) <;> clear hK <;> clear K
  · (first | exact trivial | omega | (simp only [In64] at *; omega) | (simp [In64] at *; omega) | (simp_all; done) | skip)
  refine qa ?_
  refine hk_cond rfl (fun hC1 => ?_) (fun hC1 => ?_)
  · (try simp only [nhs] at hC1)
    refine qm ?_
    refine hk_draw mixed (by kernel_rfl) fun K hK => runs_eval tab_ok ?_
    simp only [ev0, evA, evB, evP, fl, gp, tab, simprocAttr, reduceCtorEq, reduceIte]
    refine fin_run ?_ (hK _ ?_) <;> clear hK <;> clear K
    · (first | exact trivial | omega | (simp only [In64] at *; omega) | (simp [In64] at *; omega) | (simp_all; done) | skip)
    refine qa (qk (qb ?_))
    simp only [Tryd.results62, enA, ev0, evA, evB, evP, fl, gp, tab, simprocAttr, reduceCtorEq, reduceIte]
    all_goals (simp [ll])
  · (try simp only [nhs] at hC1)
    exact absurd hC1 hf
/-- Of what is below a: what commutes with all, up to a set. -/
def upl (n : Nat) (f : Nat → Nat → Nat) (e : Nat) (p : Nat → Bool) (a x : Nat) : Bool := decide (x < a) && unx n f e p x
theorem upl_succ (n : Nat) (f : Nat → Nat → Nat) (e : Nat) (p : Nat → Bool) (a : Nat) : upl n f e p (a + 1) = if unx n f e p a = true then upd (upl n f e p a) a else upl n f e p a := by
  funext x
  unfold upl
  by_cases h : unx n f e p a = true
  · rw [if_pos h]
    unfold upd
    by_cases hx : x = a
    · subst hx; simp [h]
    · have h1 : decide (x < a + 1) = decide (x < a) := decide_eq_decide.2 (by omega)
      rw [h1]; simp [hx]
  · rw [if_neg h]
    by_cases hx : x = a
    · subst hx
      rw [Bool.not_eq_true] at h
      rw [h]; simp
    · have h1 : decide (x < a + 1) = decide (x < a) := decide_eq_decide.2 (by omega)
      rw [h1]

set_option maxHeartbeats 4000000 in
theorem upper_ok {n e : Nat} {m : List Int} (h : GT n m n e) (K : Nat) (hK : K ≤ n) (hS : Stp n (itr (unx n (op m n) e) (onp e)) K) :
    FnC Tryd.prog 62 [gp n m] (.tup [.list (ll (cht n (itr (unx n (op m n) e) (onp e)) K)), fl (0, 0)]) := by
  have G := h.2.2
  have hb := h.2.1.big
  have hml := h.2.1.len
  have hsq := sq_le hb
  have hbt : ∀ p, bo n p < 2 ^ 64 := fun p => bo_lt64 hb p
  have h1 : ∀ k : Nat, ((k + 1) == 0) = false := fun k => rfl
  have hT0 : itr (unx n (op m n) e) (onp e) 0 = onp e := rfl
  have hgen : ∀ a, a < n → (onp e a = true ↔ Gen n (op m n) e (Nat.testBit 0) a) := fun a ha => by
    rw [onp_iff]
    constructor
    · rintro rfl; exact .one
    · intro hg
      exact Gen.least (H := fun a => a = e) rfl (fun a b _ _ hb _ => by simp at hb) hg
  have hup0 : ∀ p, bo n (upl n (op m n) e p 0) = 0 := fun p => by
    refine Nat.eq_of_testBit_eq fun i => ?_
    rw [bo_bit]; simp [upl]
  have hupn : ∀ p, bo n (upl n (op m n) e p n) = bo n (unx n (op m n) e p) := fun p => bo_congr fun x hx => by simp [upl, hx]
  have hTs : ∀ k, itr (unx n (op m n) e) (onp e) (k + 1) = unx n (op m n) e (itr (unx n (op m n) e) (onp e) k) := fun k => rfl
  have hbit : ∀ (p : Nat → Bool) (a b : Nat), a < n → b < n → (bo n p).testBit (cmt n (op m n) e a b) = p (cmt n (op m n) e a b) := fun p a b ha hb' => by
    rw [bo_bit]; simp [G.cmt_lt ha hb']
  generalize hTT : itr (unx n (op m n) e) (onp e) = T at *
  refine fnc_of tab_ok Tryd.func62 rfl (by kernel_rfl) (by rw [Tryd.ntmps62]; exact Nat.le_add_left 1 _) ?_; rw [Tryd.ntmps62]
  refine qm ?_
  refine hk_region fun K hK => runs_eval tab_ok ?_
  simp only [ev0, evA, evB, evP, fl, gp, tab, simprocAttr, reduceCtorEq, reduceIte]
  refine fin_run ?_ (hK _ ?_) <;> clear hK <;> clear K
  · (first | exact trivial | omega | (simp only [In64] at *; omega) | (simp [In64] at *; omega) | (simp_all; done) | skip)
  refine qa (qm (qm ?_))
  refine hk_region fun K hK => runs_eval tab_ok ?_
  simp only [ev0, evA, evB, evP, fl, gp, tab, simprocAttr, reduceCtorEq, reduceIte]
  refine fin_stop trivial (runs_call (check_c n m (by omega)) rfl rfl rfl (by simp only [dstOk, Nat.reduceLT]) (by repeat (first | exact trivial | constructor)) (runs_eval tab_ok ?_))
  simp only [ev0, evA, evB, evP, fl, gp, tab, simprocAttr, reduceCtorEq, reduceIte, gf_of h]
  refine fin_run ?_ (hK _ ?_) <;> clear hK <;> clear K
  · (first | exact trivial | omega | (simp only [In64] at *; omega) | (simp [In64] at *; omega) | (simp_all; done) | skip)
  refine qa (qm ?_)
  refine hk_region fun K hK => runs_eval tab_ok ?_
  simp only [ev0, evA, evB, evP, fl, gp, tab, simprocAttr, reduceCtorEq, reduceIte]
  refine fin_run ?_ (hK _ ?_) <;> clear hK <;> clear K
  · (first | exact trivial | omega | (simp only [In64] at *; omega) | (simp [In64] at *; omega) | (simp_all; done) | skip)
  refine qa ?_
  refine hk_cond rfl (fun hC1 => ?_) (fun hC1 => ?_)
  · cases hC1
  · (try simp only [nhs] at hC1)
    refine qh (qa (qm ?_))
    refine hk_region fun K hK => runs_eval tab_ok ?_
    simp only [ev0, evA, evB, evP, fl, gp, tab, simprocAttr, reduceCtorEq, reduceIte]
    refine fin_stop trivial (runs_call (grow_c h 0 (Nat.pow_pos (by omega)) (onp e) hgen) rfl rfl rfl (by simp only [dstOk, Nat.reduceLT]) (by repeat (first | exact trivial | constructor)) (runs_eval tab_ok ?_))
    simp only [ev0, evA, evB, evP, fl, gp, tab, simprocAttr, reduceCtorEq, reduceIte]
    refine fin_run ?_ (hK _ ?_) <;> clear hK <;> clear K
    · (first | exact trivial | omega | (simp only [In64] at *; omega) | (simp [In64] at *; omega) | (simp_all; done) | skip)
    refine qa (qm ?_)
    refine hk_region fun K hK => runs_eval tab_ok ?_
    simp only [ev0, evA, evB, evP, fl, gp, tab, simprocAttr, reduceCtorEq, reduceIte]
    refine fin_stop trivial (runs_call (list_s (bo n (onp e)) (hbt _)) rfl rfl rfl (by simp only [dstOk, Nat.reduceLT]) (by repeat (first | exact trivial | constructor)) (runs_eval tab_ok ?_))
    simp only [ev0, evA, evB, evP, fl, gp, tab, simprocAttr, reduceCtorEq, reduceIte, stl_bo hb]
    refine fin_run ?_ (hK _ ?_) <;> clear hK <;> clear K
    · (first | exact trivial | omega | (simp only [In64] at *; omega) | (simp [In64] at *; omega) | (simp_all; done) | skip)
    refine qa (ql ?_)
    refine hk_loop (ι := Nat) (fun k => ⟨59, [(1, .ptr 0 0), (3, .ptr 1 0), (5, .p (.int .u64 (bo n (T k)))), (6, bif k == 0 then .p (.nn [.list (il (thl n (T 0)))]) else .sl 2 0 (cht n T k).length)], bif k == 0 then [.own [.p (.int .i64 n), .p (.list (il m))], .own [.p (.int .i64 0), .p (.int .i64 0)]] else [.own [.p (.int .i64 n), .p (.list (il m))], .own [.p (.int .i64 0), .p (.int .i64 0)], .own (opl (ll (cht n T k)))]⟩) (fun k => k ≤ K) (fun k => K - k) 0 (Nat.zero_le _) [0, 1] (by rw [hT0]; simp only [leq, leA, ev0, evA, evB, evP, fl, gp, tab, simprocAttr, reduceCtorEq, reduceIte, beq_self_eq_true, cond_true] <;> first | trivial | (simp; done)) fun k hk => ?_
    refine ql (qm ?_)
    by_cases hk0 : (k == 0) = true
    · simp only [hk0, cond_true]
      have hkz : k = 0 := by simpa using hk0
      refine hk_region fun K hK => runs_eval tab_ok ?_
      simp only [ev0, evA, evB, evP, fl, gp, tab, simprocAttr, reduceCtorEq, reduceIte]
      refine fin_run trivial (hK _ ?_) <;> clear hK <;> clear K
      refine qa (qm (qm ?_))
      refine hk_region fun K hK => runs_eval tab_ok ?_
      simp only [ev0, evA, evB, evP, fl, gp, tab, simprocAttr, reduceCtorEq, reduceIte]
      refine fin_run ?_ (hK _ ?_) <;> clear hK <;> clear K
      · (first | exact trivial | omega | (simp only [In64] at *; omega) | (simp [In64] at *; omega) | (simp_all; done) | skip)
      refine qa (ql ?_)
      refine hk_loop (ι := Nat) (fun a => ⟨59, [(1, .ptr 0 0), (3, .ptr 1 0), (5, .p (.int .u64 (bo n (T k)))), (6, .p (.nn [.list (il (thl n (T 0)))])), (7, .p (.int .u64 (bo n (upl n (op m n) e (T k) a)))), (23, .p (.int .i64 n)), (24, .p (.int .i64 a))], [.own [.p (.int .i64 n), .p (.list (il m))], .own [.p (.int .i64 0), .p (.int .i64 0)]]⟩) (fun a => a ≤ n) (fun a => n - a) 0 (Nat.zero_le _) [0, 1] (by rw [hup0]; simp only [leq, leA, ev0, evA, evB, evP, fl, gp, tab, simprocAttr, reduceCtorEq, reduceIte] <;> first | trivial | (simp; done)) fun a ha => ?_
      refine qm ?_
      refine hk_region fun K hK => runs_eval tab_ok ?_
      simp only [ev0, evA, evB, evP, fl, gp, tab, simprocAttr, reduceCtorEq, reduceIte]
      refine fin_run trivial (hK _ ?_) <;> clear hK <;> clear K
      refine qa (qm ?_)
      refine hk_cond rfl (fun hC2 => ?_) (fun hC2 => ?_)
      · (try simp only [nhs] at hC2)
        have hal : a < n := by omega
        refine qh (qa (qm (ql (qm ?_))))
        refine hk_region fun K hK => runs_eval tab_ok ?_
        simp only [ev0, evA, evB, evP, fl, gp, tab, simprocAttr, reduceCtorEq, reduceIte]
        refine fin_run trivial (hK _ ?_) <;> clear hK <;> clear K
        refine qa (qm ?_)
        refine hk_region fun K hK => runs_eval tab_ok ?_
        simp only [ev0, evA, evB, evP, fl, gp, tab, simprocAttr, reduceCtorEq, reduceIte]
        refine fin_run trivial (hK _ ?_) <;> clear hK <;> clear K
        refine qa (qm (qm ?_))
        refine hk_region fun K hK => runs_eval tab_ok ?_
        simp only [ev0, evA, evB, evP, fl, gp, tab, simprocAttr, reduceCtorEq, reduceIte]
        refine fin_run ?_ (hK _ ?_) <;> clear hK <;> clear K
        · (first | exact trivial | omega | (simp only [In64] at *; omega) | (simp [In64] at *; omega) | (simp_all; done) | skip)
        refine qa (ql ?_)
        refine hk_loop (ι := Nat) (fun b => ⟨59, [(1, .ptr 0 0), (3, .ptr 1 0), (5, .p (.int .u64 (bo n (T k)))), (6, .p (.nn [.list (il (thl n (T 0)))])), (7, .p (.int .u64 (bo n (upl n (op m n) e (T k) a)))), (8, .p (.int .i64 a)), (9, .p (.bool (decide (∀ c, c < b → T k (cmt n (op m n) e a c) = true)))), (23, .p (.int .i64 n)), (24, .p (.int .i64 a)), (28, .p (.int .i64 n)), (29, .p (.int .i64 b))], [.own [.p (.int .i64 n), .p (.list (il m))], .own [.p (.int .i64 0), .p (.int .i64 0)]]⟩) (fun b => b ≤ n) (fun b => n - b) 0 (Nat.zero_le _) [0, 1] (by simp only [leq, leA, ev0, evA, evB, evP, fl, gp, tab, simprocAttr, reduceCtorEq, reduceIte] <;> first | trivial | (simp; done)) fun b hb' => ?_
        refine qm ?_
        refine hk_region fun K hK => runs_eval tab_ok ?_
        simp only [ev0, evA, evB, evP, fl, gp, tab, simprocAttr, reduceCtorEq, reduceIte]
        refine fin_run trivial (hK _ ?_) <;> clear hK <;> clear K
        refine qa (qm ?_)
        refine hk_cond rfl (fun hC3 => ?_) (fun hC3 => ?_)
        · (try simp only [nhs] at hC3)
          have hbl : b < n := by omega
          have hcl := G.cmt_lt hal hbl
          refine qh (qa (qm (ql (qm ?_))))
          refine hk_region fun K hK => runs_eval tab_ok ?_
          simp only [ev0, evA, evB, evP, fl, gp, tab, simprocAttr, reduceCtorEq, reduceIte]
          refine fin_run trivial (hK _ ?_) <;> clear hK <;> clear K
          refine qa ?_
          by_cases hv : ∀ c, c < b → T k (cmt n (op m n) e a c) = true
          · have hn : decide (∀ c, c < b + 1 → T k (cmt n (op m n) e a c) = true) = T k (cmt n (op m n) e a b) := by
              rw [Bool.eq_iff_iff, decide_eq_true_eq]
              refine ⟨fun hh => hh b (by omega), fun hh c hc => ?_⟩
              by_cases hcb : c = b
              · subst hcb; exact hh
              · exact hv c (by omega)
            refine hk_region fun K hK => runs_eval tab_ok ?_
            simp only [ev0, evA, evB, evP, fl, gp, tab, simprocAttr, reduceCtorEq, reduceIte, decide_eq_true hv]
            refine fin_stop trivial (runs_call (commOf_s h hal hbl) rfl rfl rfl (by simp only [dstOk, Nat.reduceLT]) (by repeat (first | exact trivial | constructor)) (runs_eval tab_ok ?_))
            simp only [ev0, evA, evB, evP, fl, gp, tab, simprocAttr, reduceCtorEq, reduceIte, decide_eq_true hv]
            refine fin_stop trivial (runs_call (has_s (bo n (T k)) (cmt n (op m n) e a b) (hbt _) (by omega)) rfl rfl rfl (by simp only [dstOk, Nat.reduceLT]) (by repeat (first | exact trivial | constructor)) (runs_eval tab_ok ?_))
            simp only [ev0, evA, evB, evP, fl, gp, tab, simprocAttr, reduceCtorEq, reduceIte, hbit _ _ _ hal hbl, decide_eq_true hv]
            refine fin_run ?_ (hK _ ?_) <;> clear hK <;> clear K
            · (first | exact trivial | omega | (simp only [In64] at *; omega) | (simp [In64] at *; omega) | (simp_all; done) | skip)
            refine qd (qa ?_)
            refine hk_region fun K hK => runs_eval tab_ok ?_
            simp only [ev0, evA, evB, evP, fl, gp, tab, simprocAttr, reduceCtorEq, reduceIte]
            refine fin_run ?_ (hK _ ?_) <;> clear hK <;> clear K
            · (first | exact trivial | omega | (simp only [In64] at *; omega) | (simp [In64] at *; omega) | (simp_all; done) | skip)
            refine qa ?_
            refine ⟨b + 1, [0, 1], by omega, by omega, ?_⟩
            rw [hn]
            simp only [leq, leA, ev0, evA, evB, evP, fl, gp, tab, simprocAttr, reduceCtorEq, reduceIte] <;> first | trivial | omega
          · have hn : decide (∀ c, c < b + 1 → T k (cmt n (op m n) e a c) = true) = false := decide_eq_false fun hh => hv fun c hc => hh c (by omega)
            refine hk_region fun K hK => runs_eval tab_ok ?_
            simp only [ev0, evA, evB, evP, fl, gp, tab, simprocAttr, reduceCtorEq, reduceIte, decide_eq_false hv]
            refine fin_run trivial (hK _ ?_) <;> clear hK <;> clear K
            refine qd (qa ?_)
            refine hk_region fun K hK => runs_eval tab_ok ?_
            simp only [ev0, evA, evB, evP, fl, gp, tab, simprocAttr, reduceCtorEq, reduceIte]
            refine fin_run ?_ (hK _ ?_) <;> clear hK <;> clear K
            · (first | exact trivial | omega | (simp only [In64] at *; omega) | (simp [In64] at *; omega) | (simp_all; done) | skip)
            refine qa ?_
            refine ⟨b + 1, [0, 1], by omega, by omega, ?_⟩
            rw [hn]
            simp only [leq, leA, ev0, evA, evB, evP, fl, gp, tab, simprocAttr, reduceCtorEq, reduceIte] <;> first | trivial | omega
        · (try simp only [nhs] at hC3)
          have hbn : b = n := by omega
          have hun : decide (∀ c, c < b → T k (cmt n (op m n) e a c) = true) = unx n (op m n) e (T k) a := by rw [hbn]; rfl
          rw [hun]
          have hps := upl_succ n (op m n) e (T k) a
          have hbu := hbt (upl n (op m n) e (T k) a)
          have hp := pow_lt64 (b := a) (by omega)
          refine qj (qc (qc (qf (qa (qm ?_)))))
          refine hk_region fun K hK => runs_eval tab_ok ?_
          simp only [ev0, evA, evB, evP, fl, gp, tab, simprocAttr, reduceCtorEq, reduceIte]
          refine fin_run trivial (hK _ ?_) <;> clear hK <;> clear K
          refine qa ?_
          refine hk_cond rfl (fun hC4 => ?_) (fun hC4 => ?_)
          · (try simp only [nhs] at hC4)
            rw [if_pos hC4] at hps
            refine hk_region fun K hK => runs_eval tab_ok ?_
            simp only [ev0, evA, evB, evP, fl, gp, tab, simprocAttr, reduceCtorEq, reduceIte, shl_one (show a < 64 by omega), bv_or hbu hp, bo_upd hal]
            refine fin_run ?_ (hK _ ?_) <;> clear hK <;> clear K
            · (first | exact trivial | omega | (simp only [In64] at *; omega) | (simp [In64] at *; omega) | (simp_all; done) | skip)
            refine qd (qa ?_)
            refine hk_region fun K hK => runs_eval tab_ok ?_
            simp only [ev0, evA, evB, evP, fl, gp, tab, simprocAttr, reduceCtorEq, reduceIte]
            refine fin_run ?_ (hK _ ?_) <;> clear hK <;> clear K
            · (first | exact trivial | omega | (simp only [In64] at *; omega) | (simp [In64] at *; omega) | (simp_all; done) | skip)
            refine qa ?_
            refine ⟨a + 1, [0, 1], by omega, by omega, ?_⟩
            rw [hps]
            simp only [leq, leA, ev0, evA, evB, evP, fl, gp, tab, simprocAttr, reduceCtorEq, reduceIte] <;> first | trivial | omega
          · (try simp only [nhs] at hC4)
            rw [if_neg (by rw [hC4]; simp)] at hps
            refine qh (qd (qa ?_))
            refine hk_region fun K hK => runs_eval tab_ok ?_
            simp only [ev0, evA, evB, evP, fl, gp, tab, simprocAttr, reduceCtorEq, reduceIte]
            refine fin_run ?_ (hK _ ?_) <;> clear hK <;> clear K
            · (first | exact trivial | omega | (simp only [In64] at *; omega) | (simp [In64] at *; omega) | (simp_all; done) | skip)
            refine qa ?_
            refine ⟨a + 1, [0, 1], by omega, by omega, ?_⟩
            rw [hps]
            simp only [leq, leA, ev0, evA, evB, evP, fl, gp, tab, simprocAttr, reduceCtorEq, reduceIte] <;> first | trivial | omega
      · (try simp only [nhs] at hC2)
        have han : a = n := by omega
        rw [han, hupn, ← hTs k]
        refine qj (qc (qc (qf (qa (qm (qm ?_))))))
        refine hk_region fun K hK => runs_eval tab_ok ?_
        simp only [ev0, evA, evB, evP, fl, gp, tab, simprocAttr, reduceCtorEq, reduceIte]
        refine fin_run trivial (hK _ ?_) <;> clear hK <;> clear K
        refine qa ?_
        refine hk_cond rfl (fun hC5 => ?_) (fun hC5 => ?_)
        · (try simp only [nhs] at hC5)
          have hkK : k = K := (hS.at hk).1 (by omega)
          refine qm ?_
          refine hk_region fun K hK => runs_eval tab_ok ?_
          simp only [ev0, evA, evB, evP, fl, gp, tab, simprocAttr, reduceCtorEq, reduceIte]
          refine fin_run ?_ (hK _ ?_) <;> clear hK <;> clear K
          · (first | exact trivial | omega | (simp only [In64] at *; omega) | (simp [In64] at *; omega) | (simp_all; done) | skip)
          refine qa (qk (qb (qe (qb (qe ?_)))))
          simp only [Tryd.results62, enA, ev0, evA, evB, evP, fl, gp, tab, simprocAttr, reduceCtorEq, reduceIte]
          all_goals (rw [← hkK, hkz]; rfl)
        · (try simp only [nhs] at hC5)
          have hkK : k < K := by
            rcases Nat.lt_or_eq_of_le hk with h | h
            · exact h
            · exact absurd (by rw [(hS.at hk).2 h]) hC5
          have hs := cht_succ n T k
          refine qh (qa (qm ?_))
          refine hk_region fun K hK => runs_eval tab_ok ?_
          simp only [ev0, evA, evB, evP, fl, gp, tab, simprocAttr, reduceCtorEq, reduceIte]
          refine fin_run trivial (hK _ ?_) <;> clear hK <;> clear K
          refine qa ?_
          refine hk_region fun K hK => runs_eval tab_ok ?_
          simp only [ev0, evA, evB, evP, fl, gp, tab, simprocAttr, reduceCtorEq, reduceIte, ll_takeL, oll_ok, ll_snoc]
          refine fin_stop trivial (runs_call (list_s (bo n (T (k + 1))) (hbt _)) rfl rfl rfl (by simp only [dstOk, Nat.reduceLT]) (by repeat (first | exact trivial | constructor)) (runs_eval tab_ok ?_))
          simp only [ev0, evA, evB, evP, fl, gp, tab, simprocAttr, reduceCtorEq, reduceIte, stl_bo hb, ll_takeL, oll_ok, ll_snoc]
          refine fin_run ?_ (hK _ ?_) <;> clear hK <;> clear K
          · first | (simp [cellOk, PV.one]; done) | (simp [cellOk, PV.one]; omega)
          refine qd (qa ?_)
          refine ⟨k + 1, [0, 1, 2], by omega, by omega, ?_⟩
          have hs0 : ll (cht n T (k + 1)) = [.list (il (thl n (T 0))), .list (il (thl n (T (k + 1))))] := by rw [hs, hkz]; rfl
          have hl0 := cht_len n T (k + 1)
          simp only [leq, leA, ev0, evA, evB, evP, fl, gp, tab, simprocAttr, reduceCtorEq, reduceIte, h1, cond_false] <;> first | trivial | omega | (rw [hs0, hl0, hkz]; exact ⟨rfl, rfl⟩)
    · rw [Bool.not_eq_true] at hk0
      simp only [hk0, cond_false]
      have hlen := cht_len n T k
      have hll := ll_length (cht n T k)
      refine hk_region fun K hK => runs_eval tab_ok ?_
      simp only [ev0, evA, evB, evP, fl, gp, tab, simprocAttr, reduceCtorEq, reduceIte]
      refine fin_run trivial (hK _ ?_) <;> clear hK <;> clear K
      refine qa (qm (qm ?_))
      refine hk_region fun K hK => runs_eval tab_ok ?_
      simp only [ev0, evA, evB, evP, fl, gp, tab, simprocAttr, reduceCtorEq, reduceIte]
      refine fin_run ?_ (hK _ ?_) <;> clear hK <;> clear K
      · (first | exact trivial | omega | (simp only [In64] at *; omega) | (simp [In64] at *; omega) | (simp_all; done) | skip)
      refine qa (ql ?_)
      refine hk_loop (ι := Nat) (fun a => ⟨59, [(1, .ptr 0 0), (3, .ptr 1 0), (5, .p (.int .u64 (bo n (T k)))), (6, .sl 2 0 (cht n T k).length), (7, .p (.int .u64 (bo n (upl n (op m n) e (T k) a)))), (23, .p (.int .i64 n)), (24, .p (.int .i64 a))], [.own [.p (.int .i64 n), .p (.list (il m))], .own [.p (.int .i64 0), .p (.int .i64 0)], .own (opl (ll (cht n T k)))]⟩) (fun a => a ≤ n) (fun a => n - a) 0 (Nat.zero_le _) [0, 1, 2] (by rw [hup0]; simp only [leq, leA, ev0, evA, evB, evP, fl, gp, tab, simprocAttr, reduceCtorEq, reduceIte, ll_takeL] <;> first | trivial | (simp; done)) fun a ha => ?_
      refine qm ?_
      refine hk_region fun K hK => runs_eval tab_ok ?_
      simp only [ev0, evA, evB, evP, fl, gp, tab, simprocAttr, reduceCtorEq, reduceIte]
      refine fin_run trivial (hK _ ?_) <;> clear hK <;> clear K
      refine qa (qm ?_)
      refine hk_cond rfl (fun hC2 => ?_) (fun hC2 => ?_)
      · (try simp only [nhs] at hC2)
        have hal : a < n := by omega
        refine qh (qa (qm (ql (qm ?_))))
        refine hk_region fun K hK => runs_eval tab_ok ?_
        simp only [ev0, evA, evB, evP, fl, gp, tab, simprocAttr, reduceCtorEq, reduceIte]
        refine fin_run trivial (hK _ ?_) <;> clear hK <;> clear K
        refine qa (qm ?_)
        refine hk_region fun K hK => runs_eval tab_ok ?_
        simp only [ev0, evA, evB, evP, fl, gp, tab, simprocAttr, reduceCtorEq, reduceIte]
        refine fin_run trivial (hK _ ?_) <;> clear hK <;> clear K
        refine qa (qm (qm ?_))
        refine hk_region fun K hK => runs_eval tab_ok ?_
        simp only [ev0, evA, evB, evP, fl, gp, tab, simprocAttr, reduceCtorEq, reduceIte]
        refine fin_run ?_ (hK _ ?_) <;> clear hK <;> clear K
        · (first | exact trivial | omega | (simp only [In64] at *; omega) | (simp [In64] at *; omega) | (simp_all; done) | skip)
        refine qa (ql ?_)
        refine hk_loop (ι := Nat) (fun b => ⟨59, [(1, .ptr 0 0), (3, .ptr 1 0), (5, .p (.int .u64 (bo n (T k)))), (6, .sl 2 0 (cht n T k).length), (7, .p (.int .u64 (bo n (upl n (op m n) e (T k) a)))), (8, .p (.int .i64 a)), (9, .p (.bool (decide (∀ c, c < b → T k (cmt n (op m n) e a c) = true)))), (23, .p (.int .i64 n)), (24, .p (.int .i64 a)), (28, .p (.int .i64 n)), (29, .p (.int .i64 b))], [.own [.p (.int .i64 n), .p (.list (il m))], .own [.p (.int .i64 0), .p (.int .i64 0)], .own (opl (ll (cht n T k)))]⟩) (fun b => b ≤ n) (fun b => n - b) 0 (Nat.zero_le _) [0, 1, 2] (by simp only [leq, leA, ev0, evA, evB, evP, fl, gp, tab, simprocAttr, reduceCtorEq, reduceIte, ll_takeL] <;> first | trivial | (simp; done)) fun b hb' => ?_
        refine qm ?_
        refine hk_region fun K hK => runs_eval tab_ok ?_
        simp only [ev0, evA, evB, evP, fl, gp, tab, simprocAttr, reduceCtorEq, reduceIte]
        refine fin_run trivial (hK _ ?_) <;> clear hK <;> clear K
        refine qa (qm ?_)
        refine hk_cond rfl (fun hC3 => ?_) (fun hC3 => ?_)
        · (try simp only [nhs] at hC3)
          have hbl : b < n := by omega
          have hcl := G.cmt_lt hal hbl
          refine qh (qa (qm (ql (qm ?_))))
          refine hk_region fun K hK => runs_eval tab_ok ?_
          simp only [ev0, evA, evB, evP, fl, gp, tab, simprocAttr, reduceCtorEq, reduceIte]
          refine fin_run trivial (hK _ ?_) <;> clear hK <;> clear K
          refine qa ?_
          by_cases hv : ∀ c, c < b → T k (cmt n (op m n) e a c) = true
          · have hn : decide (∀ c, c < b + 1 → T k (cmt n (op m n) e a c) = true) = T k (cmt n (op m n) e a b) := by
              rw [Bool.eq_iff_iff, decide_eq_true_eq]
              refine ⟨fun hh => hh b (by omega), fun hh c hc => ?_⟩
              by_cases hcb : c = b
              · subst hcb; exact hh
              · exact hv c (by omega)
            refine hk_region fun K hK => runs_eval tab_ok ?_
            simp only [ev0, evA, evB, evP, fl, gp, tab, simprocAttr, reduceCtorEq, reduceIte, decide_eq_true hv]
            refine fin_stop trivial (runs_call (commOf_s h hal hbl) rfl rfl rfl (by simp only [dstOk, Nat.reduceLT]) (by repeat (first | exact trivial | constructor)) (runs_eval tab_ok ?_))
            simp only [ev0, evA, evB, evP, fl, gp, tab, simprocAttr, reduceCtorEq, reduceIte, decide_eq_true hv]
            refine fin_stop trivial (runs_call (has_s (bo n (T k)) (cmt n (op m n) e a b) (hbt _) (by omega)) rfl rfl rfl (by simp only [dstOk, Nat.reduceLT]) (by repeat (first | exact trivial | constructor)) (runs_eval tab_ok ?_))
            simp only [ev0, evA, evB, evP, fl, gp, tab, simprocAttr, reduceCtorEq, reduceIte, hbit _ _ _ hal hbl, decide_eq_true hv]
            refine fin_run ?_ (hK _ ?_) <;> clear hK <;> clear K
            · (first | exact trivial | omega | (simp only [In64] at *; omega) | (simp [In64] at *; omega) | (simp_all; done) | skip)
            refine qd (qa ?_)
            refine hk_region fun K hK => runs_eval tab_ok ?_
            simp only [ev0, evA, evB, evP, fl, gp, tab, simprocAttr, reduceCtorEq, reduceIte]
            refine fin_run ?_ (hK _ ?_) <;> clear hK <;> clear K
            · (first | exact trivial | omega | (simp only [In64] at *; omega) | (simp [In64] at *; omega) | (simp_all; done) | skip)
            refine qa ?_
            refine ⟨b + 1, [0, 1, 2], by omega, by omega, ?_⟩
            rw [hn]
            simp only [leq, leA, ev0, evA, evB, evP, fl, gp, tab, simprocAttr, reduceCtorEq, reduceIte, ll_takeL] <;> first | trivial | omega
          · have hn : decide (∀ c, c < b + 1 → T k (cmt n (op m n) e a c) = true) = false := decide_eq_false fun hh => hv fun c hc => hh c (by omega)
            refine hk_region fun K hK => runs_eval tab_ok ?_
            simp only [ev0, evA, evB, evP, fl, gp, tab, simprocAttr, reduceCtorEq, reduceIte, decide_eq_false hv]
            refine fin_run trivial (hK _ ?_) <;> clear hK <;> clear K
            refine qd (qa ?_)
            refine hk_region fun K hK => runs_eval tab_ok ?_
            simp only [ev0, evA, evB, evP, fl, gp, tab, simprocAttr, reduceCtorEq, reduceIte]
            refine fin_run ?_ (hK _ ?_) <;> clear hK <;> clear K
            · (first | exact trivial | omega | (simp only [In64] at *; omega) | (simp [In64] at *; omega) | (simp_all; done) | skip)
            refine qa ?_
            refine ⟨b + 1, [0, 1, 2], by omega, by omega, ?_⟩
            rw [hn]
            simp only [leq, leA, ev0, evA, evB, evP, fl, gp, tab, simprocAttr, reduceCtorEq, reduceIte, ll_takeL] <;> first | trivial | omega
        · (try simp only [nhs] at hC3)
          have hbn : b = n := by omega
          have hun : decide (∀ c, c < b → T k (cmt n (op m n) e a c) = true) = unx n (op m n) e (T k) a := by rw [hbn]; rfl
          rw [hun]
          have hps := upl_succ n (op m n) e (T k) a
          have hbu := hbt (upl n (op m n) e (T k) a)
          have hp := pow_lt64 (b := a) (by omega)
          refine qj (qc (qc (qf (qa (qm ?_)))))
          refine hk_region fun K hK => runs_eval tab_ok ?_
          simp only [ev0, evA, evB, evP, fl, gp, tab, simprocAttr, reduceCtorEq, reduceIte]
          refine fin_run trivial (hK _ ?_) <;> clear hK <;> clear K
          refine qa ?_
          refine hk_cond rfl (fun hC4 => ?_) (fun hC4 => ?_)
          · (try simp only [nhs] at hC4)
            rw [if_pos hC4] at hps
            refine hk_region fun K hK => runs_eval tab_ok ?_
            simp only [ev0, evA, evB, evP, fl, gp, tab, simprocAttr, reduceCtorEq, reduceIte, shl_one (show a < 64 by omega), bv_or hbu hp, bo_upd hal]
            refine fin_run ?_ (hK _ ?_) <;> clear hK <;> clear K
            · (first | exact trivial | omega | (simp only [In64] at *; omega) | (simp [In64] at *; omega) | (simp_all; done) | skip)
            refine qd (qa ?_)
            refine hk_region fun K hK => runs_eval tab_ok ?_
            simp only [ev0, evA, evB, evP, fl, gp, tab, simprocAttr, reduceCtorEq, reduceIte]
            refine fin_run ?_ (hK _ ?_) <;> clear hK <;> clear K
            · (first | exact trivial | omega | (simp only [In64] at *; omega) | (simp [In64] at *; omega) | (simp_all; done) | skip)
            refine qa ?_
            refine ⟨a + 1, [0, 1, 2], by omega, by omega, ?_⟩
            rw [hps]
            simp only [leq, leA, ev0, evA, evB, evP, fl, gp, tab, simprocAttr, reduceCtorEq, reduceIte, ll_takeL] <;> first | trivial | omega
          · (try simp only [nhs] at hC4)
            rw [if_neg (by rw [hC4]; simp)] at hps
            refine qh (qd (qa ?_))
            refine hk_region fun K hK => runs_eval tab_ok ?_
            simp only [ev0, evA, evB, evP, fl, gp, tab, simprocAttr, reduceCtorEq, reduceIte]
            refine fin_run ?_ (hK _ ?_) <;> clear hK <;> clear K
            · (first | exact trivial | omega | (simp only [In64] at *; omega) | (simp [In64] at *; omega) | (simp_all; done) | skip)
            refine qa ?_
            refine ⟨a + 1, [0, 1, 2], by omega, by omega, ?_⟩
            rw [hps]
            simp only [leq, leA, ev0, evA, evB, evP, fl, gp, tab, simprocAttr, reduceCtorEq, reduceIte, ll_takeL] <;> first | trivial | omega
      · (try simp only [nhs] at hC2)
        have han : a = n := by omega
        rw [han, hupn, ← hTs k]
        refine qj (qc (qc (qf (qa (qm (qm ?_))))))
        refine hk_region fun K hK => runs_eval tab_ok ?_
        simp only [ev0, evA, evB, evP, fl, gp, tab, simprocAttr, reduceCtorEq, reduceIte]
        refine fin_run trivial (hK _ ?_) <;> clear hK <;> clear K
        refine qa ?_
        refine hk_cond rfl (fun hC5 => ?_) (fun hC5 => ?_)
        · (try simp only [nhs] at hC5)
          have hkK : k = K := (hS.at hk).1 (by omega)
          refine qm ?_
          rw [← ll_length (cht n T k)]
          refine hk_sealp 6 2 (ll_all _) rfl rfl ?_
          refine hk_region fun K hK => runs_eval tab_ok ?_
          simp only [ev0, evA, evB, evP, fl, gp, tab, simprocAttr, reduceCtorEq, reduceIte]
          refine fin_run ?_ (hK _ ?_) <;> clear hK <;> clear K
          · (first | exact trivial | omega | (simp only [In64] at *; omega) | (simp [In64] at *; omega) | (simp_all; done) | skip)
          refine qa (qk (qb (qe (qb (qe ?_)))))
          simp only [Tryd.results62, enA, ev0, evA, evB, evP, fl, gp, tab, simprocAttr, reduceCtorEq, reduceIte]
          all_goals (rw [← hkK])
        · (try simp only [nhs] at hC5)
          have hkK : k < K := by
            rcases Nat.lt_or_eq_of_le hk with h | h
            · exact h
            · exact absurd (by rw [(hS.at hk).2 h]) hC5
          have hs := cht_succ n T k
          refine qh (qa (qm ?_))
          refine hk_region fun K hK => runs_eval tab_ok ?_
          simp only [ev0, evA, evB, evP, fl, gp, tab, simprocAttr, reduceCtorEq, reduceIte]
          refine fin_run trivial (hK _ ?_) <;> clear hK <;> clear K
          refine qa ?_
          refine hk_region fun K hK => runs_eval tab_ok ?_
          simp only [ev0, evA, evB, evP, fl, gp, tab, simprocAttr, reduceCtorEq, reduceIte, ll_takeL, oll_ok, ll_snoc]
          refine fin_stop trivial (runs_call (list_s (bo n (T (k + 1))) (hbt _)) rfl rfl rfl (by simp only [dstOk, Nat.reduceLT]) (by repeat (first | exact trivial | constructor)) (runs_eval tab_ok ?_))
          simp only [ev0, evA, evB, evP, fl, gp, tab, simprocAttr, reduceCtorEq, reduceIte, stl_bo hb, ll_takeL, oll_ok, ll_snoc]
          refine fin_run ?_ (hK _ ?_) <;> clear hK <;> clear K
          · first | (simp [cellOk, PV.one]; done) | (simp [cellOk, PV.one]; omega)
          refine qd (qa ?_)
          refine ⟨k + 1, [0, 1, 3], by omega, by omega, ?_⟩
          rw [hs]
          simp only [leq, leA, ev0, evA, evB, evP, fl, gp, tab, simprocAttr, reduceCtorEq, reduceIte, h1, cond_false, ll_takeL, ll_snoc, ll_takeS] <;> first | trivial | omega | (simp [ll]; done)

/-! ### An example of the document -/

theorem sq8_der (nx : (Nat → Bool) → Nat → Bool) (hnx : ∀ p a, a < 8 → (nx p a = true ↔ Gen 8 (op sq8 8) 0 (dnp 8 (op sq8 8) 0 p p) a)) : Stp 8 (itr nx fun _ => true) 2 ∧ thl 8 (itr nx (fun _ => true) 1) = [0, 2] := by
  have G := sq8_e.2.2
  have e1 : ∀ a, a < 8 → itr nx (fun _ => true) 1 a = (a == 0 || a == 2) := fun a ha => by
    rw [Bool.eq_iff_iff]
    refine (hnx _ a ha).trans ?_
    constructor
    · intro hg
      have hs : Sub 8 (op sq8 8) 0 fun a => a == 0 || a == 2 := by
        refine sub_of G rfl fun a b ha hb h1 h2 => ?_
        have key : ∀ a, a < 8 → ∀ b, b < 8 → (a == 0 || a == 2) = true → (b == 0 || b == 2) = true → (op sq8 8 a b == 0 || op sq8 8 a b == 2) = true := by decide +kernel
        exact key a ha b hb h1 h2
      refine hg.sub G hs fun b hb hc => ?_
      have key : ∀ b, b < 8 → dnp 8 (op sq8 8) 0 (fun _ => true) (fun _ => true) b = true → (b == 0 || b == 2) = true := by decide +kernel
      exact key b hb hc
    · intro h'
      have : a = 0 ∨ a = 2 := by simpa using h'
      rcases this with rfl | rfl
      · exact .one
      · exact .mem G (by omega) (by show dnp 8 (op sq8 8) 0 (fun _ => true) (fun _ => true) 2 = true; decide +kernel)
  have step : ∀ k, (∀ a, a < 8 → itr nx (fun _ => true) k a = true → (a = 0 ∨ a = 2)) → ∀ a, a < 8 → itr nx (fun _ => true) (k + 1) a = (a == 0) := fun k hk a ha => by
    rw [Bool.eq_iff_iff]
    refine (hnx _ a ha).trans ?_
    constructor
    · intro hg
      have hs := G.onp_sub
      have := hg.sub G hs fun b hb hc => by
        obtain ⟨x, y, x1, y1, x2, y2, rfl⟩ := dnp_iff.1 hc
        have key : ∀ x, x < 8 → ∀ y, y < 8 → (x = 0 ∨ x = 2) → (y = 0 ∨ y = 2) → onp 0 (cmt 8 (op sq8 8) 0 x y) = true := by decide +kernel
        exact key x x1 y y1 (hk x x1 x2) (hk y y1 y2)
      simpa [onp] using this
    · intro h'
      have : a = 0 := by simpa using h'
      subst this
      exact .one
  have e2 : ∀ a, a < 8 → itr nx (fun _ => true) 2 a = (a == 0) := step 1 fun a ha h => by rw [e1 a ha] at h; simpa using h
  have e3 : ∀ a, a < 8 → itr nx (fun _ => true) 3 a = (a == 0) := step 2 fun a ha h => by rw [e2 a ha] at h; exact .inl (by simpa using h)
  refine ⟨⟨fun a ha => by rw [e2 a ha]; exact e3 a ha, fun j hj hall => ?_⟩, ?_⟩
  · match j, hj with
    | 0, _ => have := hall 1 (by omega); rw [e1 1 (by omega)] at this; cases this
    | 1, _ => have := hall 2 (by omega); rw [e1 2 (by omega)] at this; rw [show itr nx (fun _ => true) (1 + 1) 2 = _ from e2 2 (by omega)] at this; cases this
  · rw [thl_congr e1]; decide +kernel
theorem seriesBegun_c : FnC Tryd.prog 59 [] (.bool true) := by
  obtain ⟨nx, hnx⟩ := nx_ex 8 (op sq8 8) 0 fun p => dnp 8 (op sq8 8) 0 p p
  obtain ⟨hS, h1⟩ := sq8_der nx hnx
  have hl : (cht 8 (itr nx fun _ => true) 2).length = 3 := cht_len _ _ _
  have hg : (cht 8 (itr nx fun _ => true) 2).getD 1 [] = [0, 2] := by rw [cht_get (by omega), h1]
  have hll : (ll (cht 8 (itr nx fun _ => true) 2)).getD 1 default = .list (il [0, 2]) := by rw [ll_get (by omega), hg]
  refine fnc_of tab_ok Tryd.func59 rfl (by kernel_rfl) (by rw [Tryd.ntmps59]; exact Nat.le_add_left 0 _) ?_; rw [Tryd.ntmps59]
  refine qm ?_
  refine hk_region fun K hK => runs_eval tab_ok ?_
  simp only [ev0, evA, evB, evP, fl, gp, tab, simprocAttr, reduceCtorEq, reduceIte]
  refine fin_run trivial (hK _ ?_) <;> clear hK <;> clear K
  refine qa (qm ?_)
  refine hk_region fun K hK => runs_eval tab_ok ?_
  simp only [ev0, evA, evB, evP, fl, gp, tab, simprocAttr, reduceCtorEq, reduceIte]
  refine fin_stop trivial (runs_call (square_c) rfl rfl rfl (by simp only [dstOk, Nat.reduceLT]) (by repeat (first | exact trivial | constructor)) (runs_eval tab_ok ?_))
  simp only [ev0, evA, evB, evP, fl, gp, tab, simprocAttr, reduceCtorEq, reduceIte]
  refine fin_stop trivial (runs_call (derived_ok sq8_e nx hnx 2 (by omega) hS) rfl rfl rfl (by simp only [dstOk, Nat.reduceLT]) (by repeat (first | exact trivial | constructor)) (runs_eval tab_ok ?_))
  simp only [ev0, evA, evB, evP, fl, gp, tab, simprocAttr, reduceCtorEq, reduceIte]
  refine fin_run ?_ (hK _ ?_) <;> clear hK <;> clear K
  · (first | exact trivial | omega | (simp only [In64] at *; omega) | (simp [In64] at *; omega) | (simp_all; done) | skip)
  refine qa (qm ?_)
  refine hk_region fun K hK => runs_eval tab_ok ?_
  simp only [ev0, evA, evB, evP, fl, gp, tab, simprocAttr, reduceCtorEq, reduceIte, ll_length, hl, hll]
  refine fin_stop trivial (runs_call (FnC.sub (args' := [.list (il [0, 2]), .nn (il [0, 2])]) (ints_c [0, 2] [0, 2] (by decide)) (And.intro (.same _) (And.intro (.nn _) trivial))) rfl rfl rfl (by simp only [dstOk, Nat.reduceLT]) (by repeat (first | exact trivial | constructor)) (runs_eval tab_ok ?_))
  simp only [ev0, evA, evB, evP, fl, gp, tab, simprocAttr, reduceCtorEq, reduceIte, ll_length, hl, hll]
  refine fin_run ?_ (hK _ ?_) <;> clear hK <;> clear K
  · (first | exact trivial | omega | (simp only [In64] at *; omega) | (simp [In64] at *; omega) | (simp_all; done) | skip)
  refine qa (qk ?_)
  simp only [Tryd.results59, enA, ev0, evA, evB, evP, fl, gp, tab, simprocAttr, reduceCtorEq, reduceIte]
  all_goals (rfl)
end Go.Proofs.YtjikchbmkodgfaaDoor

/-
  Plain law: nilpotent is just where all of Sylow's subgroups are normal; both central series are as long. Conditions: none.
-/
set_option linter.all false
namespace Go.Proofs.YtjikchbmkodgfaaDoor
open Go.Pv

section
variable {n e P : Nat} {f : Nat → Nat → Nat} {p q s : Nat → Bool}

/-! ### Both series -/
section
variable {nl : (Nat → Bool) → Nat → Bool}
theorem Grp.low_up (G : Grp n f e) (hl : ∀ p a, a < n → (nl p a = true ↔ Gen n f e (dnp n f e p fun _ => true) a)) {L : Nat} (hL : ∀ a, a < n → itr (unx n f e) (onp e) L a = true) : ∀ i, i ≤ L → ∀ a, a < n → itr nl (fun _ => true) i a = true → itr (unx n f e) (onp e) (L - i) a = true
  | 0, _, a, ha, _ => hL a ha
  | i + 1, hi, a, ha, h => by
    have h1 := (hl _ a ha).1 h
    refine Gen.sub G (G.rise (L - (i + 1))).1 (fun b hb hd => ?_) h1
    obtain ⟨x, y, x1, y1, x2, y2, rfl⟩ := dnp_iff.1 hd
    have h2 := G.low_up hl hL i (by omega) x x1 x2
    rw [show L - i = (L - (i + 1)) + 1 by omega] at h2
    exact unx_iff.1 h2 y y1
theorem Grp.up_low (G : Grp n f e) (hl : ∀ p a, a < n → (nl p a = true ↔ Gen n f e (dnp n f e p fun _ => true) a)) {K : Nat} (hK : ∀ a, a < n → itr nl (fun _ => true) K a = true → a = e) : ∀ i, i ≤ K → ∀ a, a < n → itr nl (fun _ => true) (K - i) a = true → itr (unx n f e) (onp e) i a = true
  | 0, _, a, ha, h => onp_iff.2 (hK a ha h)
  | i + 1, hi, a, ha, h => unx_iff.2 fun b hb => by
    have hc := G.cmt_lt ha hb
    refine G.up_low hl hK i (by omega) _ hc ?_
    rw [show K - i = (K - (i + 1)) + 1 by omega]
    exact (hl _ _ hc).2 (Gen.mem G hc (dnp_iff.2 ⟨a, b, ha, hb, h, rfl, rfl⟩))
theorem Stp.le {T : Nat → Nat → Bool} {K k : Nat} (h : Stp n T K) (he : ∀ a, a < n → T (k + 1) a = T k a) : K ≤ k :=
  Nat.le_of_not_lt fun hh => h.ne k hh he
theorem unx_cong (p q : Nat → Bool) (h : ∀ a, a < n → p a = q a) (G : Grp n f e) (a : Nat) (ha : a < n) : unx n f e p a = unx n f e q a := by
  rw [Bool.eq_iff_iff, unx_iff, unx_iff]
  exact ⟨fun h1 b hb => by rw [← h _ (G.cmt_lt ha hb)]; exact h1 b hb, fun h1 b hb => by rw [h _ (G.cmt_lt ha hb)]; exact h1 b hb⟩
/-- ONE REACHES ITS END JUST IF THE OTHER DOES; as soon. -/
theorem Grp.series (G : Grp n f e) (hl : ∀ p a, a < n → (nl p a = true ↔ Gen n f e (dnp n f e p fun _ => true) a)) {K L : Nat} (hK : Stp n (itr nl fun _ => true) K) (hL : Stp n (itr (unx n f e) (onp e)) L) :
    ((∀ a, a < n → itr nl (fun _ => true) K a = true → a = e) ↔ ∀ a, a < n → itr (unx n f e) (onp e) L a = true) ∧ ((∀ a, a < n → itr nl (fun _ => true) K a = true → a = e) → K = L) := by
  have hnx := nx_congr hl (fun p q h x hx => da_congr p q h x hx)
  have hux := fun p q h => unx_cong (n := n) (f := f) (e := e) p q h G
  have hT : ∀ k a, a < n → itr nl (fun _ => true) k a = true → a = e → True := fun _ _ _ _ _ => trivial
  have one : ∀ k, itr nl (fun _ => true) k e = true := fun k => (G.fall hl (fun p hp => G.da_nml p hp) k).1.one
  have fwd : (∀ a, a < n → itr nl (fun _ => true) K a = true → a = e) → (∀ a, a < n → itr (unx n f e) (onp e) K a = true) := fun h a ha =>
    G.up_low hl h K (Nat.le_refl _) a ha (by rw [Nat.sub_self]; rfl)
  have upall : ∀ k, (∀ a, a < n → itr (unx n f e) (onp e) k a = true) → L ≤ k := fun k h => hL.le fun a ha => by
    rw [h a ha]
    exact unx_iff.2 fun b hb => h _ (G.cmt_lt ha hb)
  have lowone : ∀ k, (∀ a, a < n → itr nl (fun _ => true) k a = true → a = e) → K ≤ k := fun k h => hK.le fun a ha => by
    rw [Bool.eq_iff_iff]
    constructor
    · intro h1; exact G.fall_le hl (fun p hp => G.da_nml p hp) (fun p hs hp x hx h => G.da_le p hs hp x hx h) k ha h1
    · intro h1; rw [h a ha h1]; exact one _
  have endU : (∀ a, a < n → itr nl (fun _ => true) K a = true → a = e) → ∀ a, a < n → itr (unx n f e) (onp e) L a = true := fun h a ha => by
    have h1 := fwd h
    have h2 := upall K h1
    have h3 := hL.after hux (K - L) a ha
    rw [← h3, show L + (K - L) = K by omega]
    exact h1 a ha
  have bwd : (∀ a, a < n → itr (unx n f e) (onp e) L a = true) → ∀ a, a < n → itr nl (fun _ => true) L a = true → a = e := fun h a ha h1 => by
    have := G.low_up hl h L (Nat.le_refl _) a ha h1
    rw [Nat.sub_self] at this
    exact onp_iff.1 this
  refine ⟨⟨endU, fun h a ha h1 => ?_⟩, fun h => ?_⟩
  · have h2 := bwd h
    have h3 := lowone L h2
    have h4 := hK.after hnx (L - K) a ha
    rw [show K + (L - K) = L by omega] at h4
    exact h2 a ha (by rw [h4]; exact h1)
  · have h1 := upall K (fwd h)
    have h2 := lowone L (bwd (endU h))
    omega
end

/-! ### Sylow's subgroups of what is nilpotent -/
theorem Syl.pow_le {j t i : Nat} (hY : Syl n f e P s j t) (hP : isPr P) (h : P ^ i ∣ n) : i ≤ j := by
  rw [hY.num] at h
  exact hP.le_of_dvd (Nat.Coprime.dvd_of_dvd_mul_right (Nat.Coprime.pow_left _ (hP.cop hY.non)) h)
/-- What lets the normaliser stay lets the subgroup stay. -/
theorem Syl.nzr_nzr {j t : Nat} (hY : Syl n f e P s j t) (G : Grp n f e) (hP : isPr P) {a : Nat} (ha : a < n) (h : nzr n f e (nzr n f e s) a = true) : nzr n f e s a = true := by
  have hs := hY.sub
  have hN := G.nzr_sub hs
  have hsa := G.shf_sub hs ha
  have hin : ∀ y, y < n → Go.Proofs.YtjikchbmkodgfaaDoor.shf n f e s a y = true → nzr n f e s y = true := fun y hy h1 => by
    obtain ⟨x, hx, h2, rfl⟩ := shf_iff.1 h1
    exact ((G.nzr_cj hN ha).1 h x hx).2 (G.nzr_in hs hx h2)
  have hpr := G.nz_prod hs hsa hin
  have hc := G.prod_count hs hsa
  rw [G.shf_len ha, hY.len, ← Nat.pow_add] at hc
  obtain ⟨i, _, hi⟩ := hP.pow_div (d := (mem n (pr2 n f e s (Go.Proofs.YtjikchbmkodgfaaDoor.shf n f e s a))).length) ⟨_, hc.symm⟩
  have hdv : (mem n (pr2 n f e s (Go.Proofs.YtjikchbmkodgfaaDoor.shf n f e s a))).length ∣ n := by
    have := hpr.dvd G (K := fun _ => true) fun _ _ _ _ _ _ => rfl
    rwa [show (mem n fun _ => true).length = n by unfold mem; rw [List.filter_eq_self.2 fun _ _ => rfl, List.length_range]] at this
  have hij := hY.pow_le hP (hi ▸ hdv)
  have hle : P ^ i ≤ P ^ j := Nat.pow_le_pow_right (by have := hP.1; omega) hij
  have hsub : ∀ x, x < n → s x = true → pr2 n f e s (Go.Proofs.YtjikchbmkodgfaaDoor.shf n f e s a) x = true := fun x hx h1 => pr2_iff.2 ⟨x, hx, h1, by rw [G.iv_mul hx]; exact hsa.one⟩
  refine G.nzr_of hs ha fun y hy h1 => ?_
  have hy2 : pr2 n f e s (Go.Proofs.YtjikchbmkodgfaaDoor.shf n f e s a) y = true := pr2_iff.2 ⟨e, G.el, hs.one, by rw [G.iv_one, G.one_l y hy]; exact h1⟩
  cases hsy : s y with
  | true => rfl
  | false =>
    exfalso
    have := mem_lt (n := n) hsub fun hh => by
      have := hh y hy
      rw [hsy, hy2] at this; cases this
    rw [hi, hY.len] at this
    omega
/-- IN WHAT IS NILPOTENT Sylow's subgroups are normal. -/
theorem Syl.nil_nml {nl : (Nat → Bool) → Nat → Bool} {j t : Nat} (hY : Syl n f e P s j t) (G : Grp n f e) (hP : isPr P) (hl : ∀ p a, a < n → (nl p a = true ↔ Gen n f e (dnp n f e p fun _ => true) a)) {K : Nat} (hK : ∀ a, a < n → itr nl (fun _ => true) K a = true → a = e) : Nml n f e s := by
  refine G.nml_iff.2 (Classical.byContradiction fun hne => ?_)
  have h1 := G.nil_grow hl hK (G.nzr_sub hY.sub) hne
  have h2 : (mem n (nzr n f e (nzr n f e s))).length ≤ (mem n (nzr n f e s)).length :=
    List.Nodup.length_le_of_subset (List.nodup_range.filter _) fun x hx => by
      obtain ⟨x1, x2⟩ := mem_mem.1 hx
      exact mem_mem.2 ⟨x1, hY.nzr_nzr G hP x1 x2⟩
  omega

/-! ### A group of a power of P things, and a normal subgroup that is not all -/
theorem Grp.pgrow (G : Grp n f e) (hP : isPr P) {j : Nat} (hn : n = P ^ j) {z : Nat → Bool} (hz : Sub n f e z) (hzn : Nml n f e z) (hne : ∃ a, a < n ∧ z a = false) :
    ∃ x, x < n ∧ z x = false ∧ ∀ y, y < n → z (cmt n f e x y) = true := by
  have E := G.dco_eqv hz G.onp_sub
  have Q := cst_qm G E fun a b c d ha hb hc hd h1 h2 => G.rco_cong hz hzn ha hb hc hd h1 h2
  have GQ := Q.grp G
  have hk : (cst n (dco n f z (onp e))).length * (mem n z).length = n := by
    rw [cst_len]; exact G.rco_num hz
  obtain ⟨c, _, hc⟩ := hP.pow_div (k := j) (d := (cst n (dco n f z (onp e))).length) ⟨_, by rw [← hn]; exact hk.symm⟩
  have hc0 : c ≠ 0 := fun h0 => by
    rw [hc, h0, Nat.pow_zero, Nat.one_mul] at hk
    obtain ⟨a, ha, h1⟩ := hne
    have h2 := mem_all.1 hk a ha
    rw [h1] at h2; cases h2
  have hpk : P ∣ (cst n (dco n f z (onp e))).length := by
    rw [hc]
    obtain ⟨c', rfl⟩ : ∃ c', c = c' + 1 := ⟨c - 1, by omega⟩
    exact ⟨P ^ c', by rw [Nat.pow_succ, Nat.mul_comm]⟩
  have hzen := GQ.pcentre hP hc hpk
  have hP2 := hP.1
  obtain ⟨i, hi, hiz, hie⟩ : ∃ i, i < (cst n (dco n f z (onp e))).length ∧ zen (cst n (dco n f z (onp e))).length (qop f (clq n (dco n f z (onp e))) (rpq n (dco n f z (onp e)))) i = true ∧ i ≠ clq n (dco n f z (onp e)) e := by
    refine Classical.byContradiction fun hh => ?_
    have h1 : (mem (cst n (dco n f z (onp e))).length (zen (cst n (dco n f z (onp e))).length (qop f (clq n (dco n f z (onp e))) (rpq n (dco n f z (onp e)))))).length = 1 :=
      mem_one (e := clq n (dco n f z (onp e)) e) GQ.el fun a ha => ⟨fun h2 => Classical.byContradiction fun h3 => hh ⟨a, ha, h2, h3⟩, fun h2 => by rw [h2]; exact GQ.zen_sub.one⟩
    rw [h1] at hzen
    have := Nat.le_of_dvd (by omega) hzen
    omega
  have hx := Q.rlt i hi
  refine ⟨_, hx, ?_, fun y hy => ?_⟩
  · cases hzx : z (rpq n (dco n f z (onp e)) i) with
    | false => rfl
    | true =>
      exfalso
      apply hie
      rw [← Q.at_ i hi, clq_iff E hx G.el, G.rco_iff hx G.el, G.one_l _ (G.iv_lt hx)]
      exact hz.inv _ hx hzx
  · have h1 := zen_iff.1 hiz (clq n (dco n f z (onp e)) y) (Q.lt y hy)
    rw [← Q.at_ i hi, Q.op hx hy, Q.op hy hx, clq_iff E (G.cl _ _ hx hy) (G.cl _ _ hy hx), G.rco_iff (G.cl _ _ hx hy) (G.cl _ _ hy hx)] at h1
    generalize rpq n (dco n f z (onp e)) i = x at hx h1 ⊢
    -- (y x) (x y)^-1; conjugated by (y x): (x y)^-1 (y x), which is cmt y x
    have hxy := G.cl _ _ hx hy
    have hyx := G.cl _ _ hy hx
    have h2 := hzn _ hyx _ (G.cl _ _ hyx (G.iv_lt hxy)) h1
    have h3 : cjr n f e (f (f y x) (iv n f e (f x y))) (f y x) = cmt n f e y x := by
      unfold cjr cmt
      rw [← G.assoc _ (f y x) _ (G.iv_lt hyx) hyx (G.iv_lt hxy), G.iv_mul hyx, G.one_l _ (G.iv_lt hxy), G.iv_prod hx hy]
    rw [h3] at h2
    rw [← G.cmt_iv hy hx]
    exact hz.inv _ (G.cmt_lt hy hx) h2

/-! ### Where all of Sylow's subgroups are normal -/
theorem prime_div {t : Nat} (ht : 2 ≤ t) (hb : t ≤ 100) : ∃ r, isPr r ∧ r ∣ t := by
  obtain ⟨r, r1, r2, r3⟩ := least_div ht
  have hr := Nat.le_of_dvd (by omega) r2
  exact ⟨r, ⟨r1, by omega, fun d hd h2 hm => by
    rcases r3 d (Nat.dvd_of_mod_eq_zero hm) with h | h <;> omega⟩, r2⟩
theorem isPr.two {P Q : Nat} (hP : isPr P) (hQ : isPr Q) (h : P ∣ Q) : P = Q := by
  rcases hQ.div h with h1 | h1
  · have := hP.1; omega
  · exact h1
theorem pow_two {P Q i j d : Nat} (hP : isPr P) (hQ : isPr Q) (hne : P ≠ Q) (h1 : d ∣ P ^ i) (h2 : d ∣ Q ^ j) : d = 1 := by
  refine Classical.byContradiction fun h => ?_
  have a1 := hP.part h1 h
  have a2 := Nat.dvd_trans a1 h2
  have a3 : Nat.Coprime P Q := hP.cop fun hd => hne (hP.two hQ hd)
  have a4 : Nat.Coprime P (Q ^ j) := Nat.Coprime.pow_right _ a3
  have a5 := Nat.dvd_gcd (Nat.dvd_refl P) a2
  rw [a4] at a5
  have := Nat.le_of_dvd (by omega) a5
  have := hP.1
  omega
/-- Normal subgroups without common things commute. -/
theorem Grp.nml_comm (G : Grp n f e) (hp : Sub n f e p) (hpn : Nml n f e p) (hq : Sub n f e q) (hqn : Nml n f e q) (h : ∀ a, a < n → p a = true → q a = true → a = e) {a b : Nat} (ha : a < n) (hb : b < n) (h1 : p a = true) (h2 : q b = true) : cmt n f e a b = e := by
  have hc := G.cmt_lt ha hb
  refine h _ hc (G.cmt_in hp hpn ha hb h1) ?_
  rw [← G.cmt_iv hb ha]
  exact hq.inv _ (G.cmt_lt hb ha) (G.cmt_in hq hqn hb ha h2)
/-- What commutes with a thing, up to a normal subgroup. -/
def ctz (n : Nat) (f : Nat → Nat → Nat) (e : Nat) (z : Nat → Bool) (x y : Nat) : Bool := z (cmt n f e x y)
theorem Grp.ctz_sub (G : Grp n f e) {z : Nat → Bool} (hz : Sub n f e z) (hzn : Nml n f e z) {x : Nat} (hx : x < n) : Sub n f e (ctz n f e z x) :=
  sub_of G (by show z (cmt n f e x e) = true; rw [(G.cmt_one hx G.el).2 (by rw [G.one_l x hx, G.one_r x hx])]; exact hz.one) fun a b ha hb h1 h2 => by
    have hab := G.cl _ _ ha hb
    have ix := G.iv_lt hx
    show z (cmt n f e x (f a b)) = true
    -- x^-1 x^(ab) = (x^-1 x^b) (x^-1 x^a)^b
    have e1 : cmt n f e x (f a b) = f (cmt n f e x b) (cjr n f e (cmt n f e x a) b) := by
      have hxa := G.cjr_lt hx ha
      have hxb := G.cjr_lt hx hb
      rw [G.cmt_cjr hx hab, G.cmt_cjr hx hb, G.cmt_cjr hx ha, G.cjr_hom ix hxa hb, G.cjr_cjr hx ha hb, ← G.iv_cjr hx hb, G.assoc _ _ _ ix hxb (G.cl _ _ (G.iv_lt hxb) (G.cjr_lt hx hab)), ← G.assoc (cjr n f e x b) _ _ hxb (G.iv_lt hxb) (G.cjr_lt hx hab), G.mul_iv hxb, G.one_l _ (G.cjr_lt hx hab)]
    rw [e1]
    exact hz.mul _ _ (G.cmt_lt hx hb) (G.cjr_lt (G.cmt_lt hx ha) hb) h2 (hzn b hb _ (G.cmt_lt hx ha) h1)
theorem sub_dvd (G : Grp n f e) (hp : Sub n f e p) : (mem n p).length ∣ n := by
  have := hp.dvd G (K := fun _ => true) fun _ _ _ _ _ _ => rfl
  rwa [show (mem n fun _ => true).length = n by unfold mem; rw [List.filter_eq_self.2 fun _ _ => rfl, List.length_range]] at this

/-- THE UPPER SERIES GOES ON: a normal subgroup that is not all has more above it. -/
theorem Grp.syl_up (G : Grp n f e) (hb : n ≤ 60) (hall : ∀ P, isPr P → P ∣ n → ∃ s j t, Syl n f e P s j t ∧ Nml n f e s) {z : Nat → Bool} (hz : Sub n f e z) (hzn : Nml n f e z) (hne : ¬ ∀ a, a < n → z a = true) :
    ∃ x, x < n ∧ z x = false ∧ unx n f e z x = true := by
  obtain ⟨k, hk⟩ := sub_dvd G hz
  have hzp := hz.pos G.el
  have hk2 : 2 ≤ k := by
    rcases Nat.lt_or_ge k 2 with h | h
    · exfalso
      have hn0 := G.pos
      have : k = 0 ∨ k = 1 := by omega
      rcases this with rfl | rfl
      · rw [Nat.mul_zero] at hk; omega
      · exact hne (mem_all.1 (by rw [Nat.mul_one] at hk; exact hk.symm))
    · exact h
  have hkn : k ≤ n := by
    have : 1 * k ≤ (mem n z).length * k := Nat.mul_le_mul_right _ hzp
    omega
  obtain ⟨P, hP, hPk⟩ := prime_div hk2 (by omega)
  have hPn : P ∣ n := by rw [hk]; exact Nat.dvd_trans hPk (Nat.dvd_mul_left _ _)
  obtain ⟨s, j, t, hY, hsn⟩ := hall P hP hPn
  have hs := hY.sub
  have hG := ptb_grp G hs
  -- something of s is not in z
  have hex : ∃ a, a < n ∧ s a = true ∧ z a = false := by
    refine Classical.byContradiction fun hh => ?_
    have h1 : ∀ a, a < n → s a = true → z a = true := fun a ha h2 => by
      cases hza : z a with
      | true => rfl
      | false => exact absurd ⟨a, ha, h2, hza⟩ hh
    have h2 : P ^ j ∣ (mem n z).length := by
      rw [← hY.len]
      exact hs.dvd G fun a b ha hb h3 h4 => hz.mul a b ha hb h3 (h1 b hb h4)
    obtain ⟨c, hc⟩ := h2
    have h3 : P ^ j * (c * k) = P ^ j * t := by rw [← hY.num, ← Nat.mul_assoc, ← hc]; exact hk.symm
    have h4 := Nat.eq_of_mul_eq_mul_left (hP.pos j) h3
    exact hY.non (h4 ▸ Nat.dvd_trans hPk (Nat.dvd_mul_left _ _))
  obtain ⟨a, ha, hsa, hza⟩ := hex
  obtain ⟨z1, hz1⟩ : ∃ z1 : Nat → Bool, z1 = fun i => z (lat n s i) := ⟨_, rfl⟩
  have hz1s : Sub (thl n s).length (pop n f s) (pix s e) z1 := sub_of hG (by rw [hz1]; simp only; rw [(lat_of G.el hs.one).2]; exact hz.one) fun i l hi hl h1 h2 => by
    rw [hz1] at h1 h2 ⊢
    simp only at h1 h2 ⊢
    rw [(pop_at G hs hi hl).2]
    exact hz.mul _ _ (lat_at hi).1 (lat_at hl).1 h1 h2
  have hz1n : Nml (thl n s).length (pop n f s) (pix s e) z1 := fun b hbl x hx h1 => by
    rw [hz1] at h1 ⊢
    simp only at h1 ⊢
    rw [lat_cjr G hs hx hbl]
    exact hzn _ (lat_at hbl).1 _ (lat_at hx).1 h1
  have hl : (thl n s).length = P ^ j := by
    have : (thl n s).length = (mem n s).length := thl_len _ _
    rw [this, hY.len]
  obtain ⟨x, hx, hx1, hx2⟩ := hG.pgrow hP hl hz1s hz1n ⟨pix s a, (lat_of ha hsa).1, by rw [hz1]; simp only; rw [(lat_of ha hsa).2]; exact hza⟩
  have lx := lat_at hx
  rw [hz1] at hx1
  simp only at hx1
  have hxs : ∀ y, y < n → s y = true → z (cmt n f e (lat n s x) y) = true := fun y hy h1 => by
    obtain ⟨y1, y2⟩ := lat_of hy h1
    have h2 := hx2 _ y1
    rw [hz1] at h2
    simp only at h2
    have h3 : lat n s (cmt (thl n s).length (pop n f s) (pix s e) x (pix s y)) = cmt n f e (lat n s x) y := by
      have a1 := hG.iv_lt hx
      rw [hG.cmt_cjr hx y1, G.cmt_cjr lx.1 hy, (pop_at G hs a1 (hG.cjr_lt hx y1)).2, lat_iv G hs hx, lat_cjr G hs hx y1, y2]
    rwa [h3] at h2
  refine ⟨lat n s x, lx.1, hx1, unx_iff.2 ?_⟩
  have hC := G.ctz_sub hz hzn lx.1
  refine (mem_all (p := ctz n f e z (lat n s x))).1 ?_
  obtain ⟨c, hc⟩ := sub_dvd G hC
  refine Classical.byContradiction fun hcn => ?_
  have hn0 := G.pos
  have hc2 : 2 ≤ c := by
    rcases Nat.lt_or_ge c 2 with h | h
    · exfalso
      have : c = 0 ∨ c = 1 := by omega
      rcases this with rfl | rfl
      · rw [Nat.mul_zero] at hc; omega
      · rw [Nat.mul_one] at hc; exact hcn hc.symm
    · exact h
  have hcl : c ≤ n := by
    have := hC.pos G.el
    have : 1 * c ≤ (mem n (ctz n f e z (lat n s x))).length * c := Nat.mul_le_mul_right _ this
    omega
  obtain ⟨r, hr, hrc⟩ := prime_div hc2 (by omega)
  have hrn : r ∣ n := by rw [hc]; exact Nat.dvd_trans hrc (Nat.dvd_mul_left _ _)
  obtain ⟨s2, j2, t2, hY2, hsn2⟩ := hall r hr hrn
  have hin : ∀ y, y < n → s2 y = true → ctz n f e z (lat n s x) y = true := fun y hy h1 => by
    by_cases hPr : P = r
    · subst hPr
      -- both are normal, of one prime: the one is in the other
      obtain ⟨b, hb1, hb2⟩ := hY.holds G hP hY2.sub hY2.len
      have h2 := hb2 y hy h1
      rw [nzr_iff.1 (G.nml_iff.1 hsn b hb1) y hy] at h2
      exact hxs y hy h2
    · have h2 : cmt n f e (lat n s x) y = e := G.nml_comm hs hsn hY2.sub hsn2 (fun a ha h3 h4 => by
        have hm := hs.and hY2.sub
        have d1 : (mem n fun a => s a && s2 a).length ∣ P ^ j := by
          rw [← hY.len]
          exact hm.dvd G fun a b ha hb h5 h6 => by
            rw [Bool.and_eq_true] at h6
            exact hs.mul a b ha hb h5 h6.1
        have d2 : (mem n fun a => s a && s2 a).length ∣ r ^ j2 := by
          rw [← hY2.len]
          exact hm.dvd G fun a b ha hb h5 h6 => by
            rw [Bool.and_eq_true] at h6
            exact hY2.sub.mul a b ha hb h5 h6.2
        exact one_mem G.el hm.one (pow_two hP hr hPr d1 d2) ha (by rw [h3, h4]; rfl)) lx.1 hy lx.2.1 h1
      show z _ = true
      rw [h2]; exact hz.one
  have h2 : r ^ j2 ∣ (mem n (ctz n f e z (lat n s x))).length := by
    rw [← hY2.len]
    exact hY2.sub.dvd G fun a b ha hb h3 h4 => hC.mul a b ha hb h3 (hin b hb h4)
  obtain ⟨d, hd⟩ := h2
  have h3 : r ^ j2 * (d * c) = r ^ j2 * t2 := by rw [← hY2.num, ← Nat.mul_assoc, ← hd]; exact hc.symm
  have h4 := Nat.eq_of_mul_eq_mul_left (hr.pos j2) h3
  exact hY2.non (h4 ▸ Nat.dvd_trans hrc (Nat.dvd_mul_left _ _))

/-- .. so it comes to all. -/
theorem Grp.syl_nil (G : Grp n f e) (hb : n ≤ 60) (hall : ∀ P, isPr P → P ∣ n → ∃ s j t, Syl n f e P s j t ∧ Nml n f e s) {L : Nat} (hL : Stp n (itr (unx n f e) (onp e)) L) : ∀ a, a < n → itr (unx n f e) (onp e) L a = true := by
  refine Classical.byContradiction fun hne => ?_
  obtain ⟨h1, h2⟩ := G.rise L
  obtain ⟨x, x1, x2, x3⟩ := G.syl_up hb hall h1 h2 hne
  have h3 := hL.eq x x1
  rw [x2] at h3
  exact absurd (h3.symm.trans x3) (by simp)
end
end Go.Proofs.YtjikchbmkodgfaaDoor

/-
  Calls that hand out fresh rows of plain values; functions with captured rows of the call's own. Conditions: none.
-/
set_option linter.all false
namespace Go.Pv
open Go.RowKit

section
variable {P : Program} {s : St}

/-- A contract whose result lies in memory that is new: whatever the arguments may be. -/
def FnF (P : Program) (f : FuncId) (args : List PV) (r : PV) : Prop :=
  Fun P f ∧ ∀ (okA : Nat → Prop) (w : World) (vals : Array Value), LaidW okA w → vals.size = args.length → (∀ i (h : i < args.length), Reads okA w args[i] (vals.getD i undef)) →
    Calls P f vals w fun e w' => ∃ v, e = .returned v ∧ Go.Pv.Below w.heap.size w w' ∧ Reads (fun b => w.heap.size ≤ b ∧ b < w'.heap.size) w' r v

/-- Plain data: no memory. -/
def PV.sc : PV → Bool
  | .int _ _ => true
  | .bool _ => true
  | .str _ => true
  | _ => false

end

end Go.Pv
namespace Go.Proofs.YtjikchbmkodgfaaDoor
open Go.Pv

end Go.Proofs.YtjikchbmkodgfaaDoor

/-
  Walks: the law SeriesGo. Conditions: none.
-/
set_option linter.all false
namespace Go.Proofs.YtjikchbmkodgfaaDoor
open Go.Pv

section
variable {n e : Nat} {m : List Int}

theorem solvable_ok (h : GT n m n e) (nx : (Nat → Bool) → Nat → Bool) (hnx : ∀ p a, a < n → (nx p a = true ↔ Gen n (op m n) e (dnp n (op m n) e p p) a)) (Z : Nat) (hZ : Z ≤ n) (hS : Stp n (itr nx fun _ => true) Z) :
    FnC Tryd.prog 63 [gp n m] (.tup [.bool (decide (((thl n (itr nx (fun _ => true) Z)).length : Int) = 1)), fl (0, 0)]) := by
  have hb := h.2.1.big
  have hl := cht_len n (itr nx fun _ => true) Z
  have hg : (cht n (itr nx fun _ => true) Z).getD Z [] = thl n (itr nx (fun _ => true) Z) := cht_get (Nat.le_refl _)
  refine fnc_of tab_ok Tryd.func63 rfl (by kernel_rfl) (by rw [Tryd.ntmps63]; exact Nat.le_add_left 1 _) ?_; rw [Tryd.ntmps63]
  refine qm ?_
  refine hk_region fun K hK => runs_eval tab_ok ?_
  simp only [ev0, evA, evB, evP, fl, gp, tab, simprocAttr, reduceCtorEq, reduceIte]
  refine fin_run ?_ (hK _ ?_) <;> clear hK <;> clear K
  · (first | exact trivial | omega | (simp only [In64] at *; omega) | (simp [In64] at *; omega) | (simp_all; done) | skip)
  refine qa (qm ?_)
  refine hk_region fun K hK => runs_eval tab_ok ?_
  simp only [ev0, evA, evB, evP, fl, gp, tab, simprocAttr, reduceCtorEq, reduceIte]
  refine fin_stop trivial (runs_call (derived_ok h nx hnx Z hZ hS) rfl rfl rfl (by simp only [dstOk, Nat.reduceLT]) (by repeat (first | exact trivial | constructor)) (runs_eval tab_ok ?_))
  simp only [ev0, evA, evB, evP, fl, gp, tab, simprocAttr, reduceCtorEq, reduceIte]
  refine fin_run ?_ (hK _ ?_) <;> clear hK <;> clear K
  · (first | exact trivial | omega | (simp only [In64] at *; omega) | (simp [In64] at *; omega) | (simp_all; done) | skip)
  refine qa (qm ?_)
  refine hk_draw mixed (by kernel_rfl) fun K hK => runs_eval tab_ok ?_
  simp only [ev0, evA, evB, evP, fl, gp, tab, simprocAttr, reduceCtorEq, reduceIte, ll_length, hl, Int.add_sub_cancel, ll_get (show Z < (cht n (itr nx fun _ => true) Z).length by omega), hg, il_length]
  refine fin_run ?_ (hK _ ?_) <;> clear hK <;> clear K
  · simp only [In64, ll_length]; omega
  refine qa (qk ?_)
  simp only [Tryd.results63, enA, ev0, evA, evB, evP, fl, gp, tab, simprocAttr, reduceCtorEq, reduceIte]
  all_goals ((first | exact rfl | exact ⟨rfl, rfl⟩ | exact ⟨rfl, rfl, rfl⟩ | exact ⟨trivial, rfl⟩ | exact ⟨Nat.le_refl _, rfl⟩ | trivial | (simp; done)))
theorem solvable_no (N : Int) (m : List Int) (hm : m.length ≤ 1000000000000000) (hf : ¬ (gf N m).1 = 0) : FnC Tryd.prog 63 [gp N m] (.tup [.bool false, fl (gf N m)]) := by
  refine fnc_of tab_ok Tryd.func63 rfl (by kernel_rfl) (by rw [Tryd.ntmps63]; exact Nat.le_add_left 1 _) ?_; rw [Tryd.ntmps63]
  refine qm ?_
  refine hk_region fun K hK => runs_eval tab_ok ?_
  simp only [ev0, evA, evB, evP, fl, gp, tab, simprocAttr, reduceCtorEq, reduceIte]
  refine fin_run ?_ (hK _ ?_) <;> clear hK <;> clear K
  · (first | exact trivial | omega | (simp only [In64] at *; omega) | (simp [In64] at *; omega) | (simp_all; done) | skip)
  refine qa (qm ?_)
  refine hk_region fun K hK => runs_eval tab_ok ?_
  simp only [ev0, evA, evB, evP, fl, gp, tab, simprocAttr, reduceCtorEq, reduceIte]
  refine fin_stop trivial (runs_call (derived_no N m hm hf) rfl rfl rfl (by simp only [dstOk, Nat.reduceLT]) (by repeat (first | exact trivial | constructor)) (runs_eval tab_ok ?_))
  simp only [ev0, evA, evB, evP, fl, gp, tab, simprocAttr, reduceCtorEq, reduceIte]
  refine fin_run ?_ (hK _ ?_) <;> clear hK <;> clear K
  · (first | exact trivial | omega | (simp only [In64] at *; omega) | (simp [In64] at *; omega) | (simp_all; done) | skip)
  refine qa (qm ?_)
  refine hk_draw mixed (by kernel_rfl) fun K hK => runs_eval tab_ok ?_
  simp only [ev0, evA, evB, evP, fl, gp, tab, simprocAttr, reduceCtorEq, reduceIte, decide_eq_false hf]
  refine fin_run ?_ (hK _ ?_) <;> clear hK <;> clear K
  · (first | exact trivial | omega | (simp only [In64] at *; omega) | (simp [In64] at *; omega) | (simp_all; done) | skip)
  refine qa (qk ?_)
  simp only [Tryd.results63, enA, ev0, evA, evB, evP, fl, gp, tab, simprocAttr, reduceCtorEq, reduceIte]
  all_goals ((first | exact rfl | exact ⟨rfl, rfl⟩ | exact ⟨rfl, rfl, rfl⟩ | exact ⟨trivial, rfl⟩ | exact ⟨Nat.le_refl _, rfl⟩ | trivial | (simp; done)))
theorem nilpotent_ok (h : GT n m n e) (nx : (Nat → Bool) → Nat → Bool) (hnx : ∀ p a, a < n → (nx p a = true ↔ Gen n (op m n) e (dnp n (op m n) e p fun _ => true) a)) (Z : Nat) (hZ : Z ≤ n) (hS : Stp n (itr nx fun _ => true) Z) :
    FnC Tryd.prog 60 [gp n m] (.tup [.bool (decide (((thl n (itr nx (fun _ => true) Z)).length : Int) = 1)), fl (0, 0)]) := by
  have hb := h.2.1.big
  have hl := cht_len n (itr nx fun _ => true) Z
  have hg : (cht n (itr nx fun _ => true) Z).getD Z [] = thl n (itr nx (fun _ => true) Z) := cht_get (Nat.le_refl _)
  refine fnc_of tab_ok Tryd.func60 rfl (by kernel_rfl) (by rw [Tryd.ntmps60]; exact Nat.le_add_left 1 _) ?_; rw [Tryd.ntmps60]
  refine qm ?_
  refine hk_region fun K hK => runs_eval tab_ok ?_
  simp only [ev0, evA, evB, evP, fl, gp, tab, simprocAttr, reduceCtorEq, reduceIte]
  refine fin_run ?_ (hK _ ?_) <;> clear hK <;> clear K
  · (first | exact trivial | omega | (simp only [In64] at *; omega) | (simp [In64] at *; omega) | (simp_all; done) | skip)
  refine qa (qm ?_)
  refine hk_region fun K hK => runs_eval tab_ok ?_
  simp only [ev0, evA, evB, evP, fl, gp, tab, simprocAttr, reduceCtorEq, reduceIte]
  refine fin_stop trivial (runs_call (lower_ok h nx hnx Z hZ hS) rfl rfl rfl (by simp only [dstOk, Nat.reduceLT]) (by repeat (first | exact trivial | constructor)) (runs_eval tab_ok ?_))
  simp only [ev0, evA, evB, evP, fl, gp, tab, simprocAttr, reduceCtorEq, reduceIte]
  refine fin_run ?_ (hK _ ?_) <;> clear hK <;> clear K
  · (first | exact trivial | omega | (simp only [In64] at *; omega) | (simp [In64] at *; omega) | (simp_all; done) | skip)
  refine qa (qm ?_)
  refine hk_draw mixed (by kernel_rfl) fun K hK => runs_eval tab_ok ?_
  simp only [ev0, evA, evB, evP, fl, gp, tab, simprocAttr, reduceCtorEq, reduceIte, ll_length, hl, Int.add_sub_cancel, ll_get (show Z < (cht n (itr nx fun _ => true) Z).length by omega), hg, il_length]
  refine fin_run ?_ (hK _ ?_) <;> clear hK <;> clear K
  · simp only [In64, ll_length]; omega
  refine qa (qk ?_)
  simp only [Tryd.results60, enA, ev0, evA, evB, evP, fl, gp, tab, simprocAttr, reduceCtorEq, reduceIte]
  all_goals ((first | exact rfl | exact ⟨rfl, rfl⟩ | exact ⟨rfl, rfl, rfl⟩ | exact ⟨trivial, rfl⟩ | exact ⟨Nat.le_refl _, rfl⟩ | trivial | (simp; done)))
theorem nilpotent_no (N : Int) (m : List Int) (hm : m.length ≤ 1000000000000000) (hf : ¬ (gf N m).1 = 0) : FnC Tryd.prog 60 [gp N m] (.tup [.bool false, fl (gf N m)]) := by
  refine fnc_of tab_ok Tryd.func60 rfl (by kernel_rfl) (by rw [Tryd.ntmps60]; exact Nat.le_add_left 1 _) ?_; rw [Tryd.ntmps60]
  refine qm ?_
  refine hk_region fun K hK => runs_eval tab_ok ?_
  simp only [ev0, evA, evB, evP, fl, gp, tab, simprocAttr, reduceCtorEq, reduceIte]
  refine fin_run ?_ (hK _ ?_) <;> clear hK <;> clear K
  · (first | exact trivial | omega | (simp only [In64] at *; omega) | (simp [In64] at *; omega) | (simp_all; done) | skip)
  refine qa (qm ?_)
  refine hk_region fun K hK => runs_eval tab_ok ?_
  simp only [ev0, evA, evB, evP, fl, gp, tab, simprocAttr, reduceCtorEq, reduceIte]
  refine fin_stop trivial (runs_call (lower_no N m hm hf) rfl rfl rfl (by simp only [dstOk, Nat.reduceLT]) (by repeat (first | exact trivial | constructor)) (runs_eval tab_ok ?_))
  simp only [ev0, evA, evB, evP, fl, gp, tab, simprocAttr, reduceCtorEq, reduceIte]
  refine fin_run ?_ (hK _ ?_) <;> clear hK <;> clear K
  · (first | exact trivial | omega | (simp only [In64] at *; omega) | (simp [In64] at *; omega) | (simp_all; done) | skip)
  refine qa (qm ?_)
  refine hk_draw mixed (by kernel_rfl) fun K hK => runs_eval tab_ok ?_
  simp only [ev0, evA, evB, evP, fl, gp, tab, simprocAttr, reduceCtorEq, reduceIte, decide_eq_false hf]
  refine fin_run ?_ (hK _ ?_) <;> clear hK <;> clear K
  · (first | exact trivial | omega | (simp only [In64] at *; omega) | (simp [In64] at *; omega) | (simp_all; done) | skip)
  refine qa (qk ?_)
  simp only [Tryd.results60, enA, ev0, evA, evB, evP, fl, gp, tab, simprocAttr, reduceCtorEq, reduceIte]
  all_goals ((first | exact rfl | exact ⟨rfl, rfl⟩ | exact ⟨rfl, rfl, rfl⟩ | exact ⟨trivial, rfl⟩ | exact ⟨Nat.le_refl _, rfl⟩ | trivial | (simp; done)))

/-! ### The document's series -/

end
end Go.Proofs.YtjikchbmkodgfaaDoor

/-
  Walks: the law SeriesNilpotent. Conditions: none.
-/
set_option linter.all false
namespace Go.Proofs.YtjikchbmkodgfaaDoor
open Go.Pv

/-- How many primes below a number divide n. -/
def pcn (n p : Nat) : Nat := ((List.range p).filter fun q => decide (isPr q ∧ n % q = 0)).length
theorem pcn_succ (n p : Nat) : pcn n (p + 1) = pcn n p + if isPr p ∧ n % p = 0 then 1 else 0 := by
  unfold pcn
  rw [List.range_succ, List.filter_append, List.length_append]
  by_cases h : isPr p ∧ n % p = 0
  · rw [if_pos h]; simp [h]
  · rw [if_neg h]; simp [h]
theorem pcn_le (n p : Nat) : pcn n p ≤ p := by
  unfold pcn
  exact Nat.le_trans (List.length_filter_le _ _) (Nat.le_of_eq List.length_range)
theorem pcn_two {n p P r : Nat} (hP : isPr P) (hr : isPr r) (h1 : n % P = 0) (h2 : n % r = 0) (h3 : P < p) (h4 : r < p) (hne : P ≠ r) : 2 ≤ pcn n p := by
  have : [P, r].length ≤ pcn n p := List.Nodup.length_le_of_subset (by simp [hne]) fun x hx => by
    rw [List.mem_filter, List.mem_range, decide_eq_true_eq]
    rcases List.mem_cons.1 hx with rfl | hx
    · exact ⟨h3, hP, h1⟩
    · rw [List.mem_singleton] at hx; subst hx; exact ⟨h4, hr, h2⟩
  simpa using this

section
variable {n e P : Nat} {m : List Int}
theorem seriesNilpotent_no (N : Int) (m : List Int) (hm : m.length ≤ 17592186043904) (hf : ¬ (gf N m).1 = 0) : FnC Tryd.prog 13 [gp N m] (.bool true) := by
  refine fnc_of tab_ok Tryd.func13 rfl (by kernel_rfl) (by rw [Tryd.ntmps13]; exact Nat.le_add_left 1 _) ?_; rw [Tryd.ntmps13]
  refine qm ?_
  refine hk_region fun K hK => runs_eval tab_ok ?_
  simp only [ev0, evA, evB, evP, fl, gp, tab, simprocAttr, reduceCtorEq, reduceIte]
  refine fin_run ?_ (hK _ ?_) <;> clear hK <;> clear K
  · (first | exact trivial | omega | (simp only [In64] at *; omega) | (simp [In64] at *; omega) | (simp_all; done) | skip)
  refine qa (qm (qm ?_))
  refine hk_region fun K hK => runs_eval tab_ok ?_
  simp only [ev0, evA, evB, evP, fl, gp, tab, simprocAttr, reduceCtorEq, reduceIte]
  refine fin_stop trivial (runs_call (seriesBegun_c) rfl rfl rfl (by simp only [dstOk, Nat.reduceLT]) (by repeat (first | exact trivial | constructor)) (runs_eval tab_ok ?_))
  simp only [ev0, evA, evB, evP, fl, gp, tab, simprocAttr, reduceCtorEq, reduceIte]
  refine fin_run trivial (hK _ ?_) <;> clear hK <;> clear K
  refine qa ?_
  refine hk_cond rfl (fun hC1 => ?_) (fun hC1 => ?_)
  · cases hC1
  · (try simp only [nhs] at hC1)
    refine qh (qa (qm ?_))
    refine hk_region fun K hK => runs_eval tab_ok ?_
    simp only [ev0, evA, evB, evP, fl, gp, tab, simprocAttr, reduceCtorEq, reduceIte]
    refine fin_stop trivial (runs_call (nilpotent_no N m (by omega) hf) rfl rfl rfl (by simp only [dstOk, Nat.reduceLT]) (by repeat (first | exact trivial | constructor)) (runs_eval tab_ok ?_))
    simp only [ev0, evA, evB, evP, fl, gp, tab, simprocAttr, reduceCtorEq, reduceIte]
    refine fin_run ?_ (hK _ ?_) <;> clear hK <;> clear K
    · (first | exact trivial | omega | (simp only [In64] at *; omega) | (simp [In64] at *; omega) | (simp_all; done) | skip)
    refine qa (qm ?_)
    refine hk_region fun K hK => runs_eval tab_ok ?_
    simp only [ev0, evA, evB, evP, fl, gp, tab, simprocAttr, reduceCtorEq, reduceIte]
    refine fin_stop trivial (runs_call (lower_no N m (by omega) hf) rfl rfl rfl (by simp only [dstOk, Nat.reduceLT]) (by repeat (first | exact trivial | constructor)) (runs_eval tab_ok ?_))
    simp only [ev0, evA, evB, evP, fl, gp, tab, simprocAttr, reduceCtorEq, reduceIte]
    refine fin_run ?_ (hK _ ?_) <;> clear hK <;> clear K
    · (first | exact trivial | omega | (simp only [In64] at *; omega) | (simp [In64] at *; omega) | (simp_all; done) | skip)
    refine qa (qm ?_)
    refine hk_region fun K hK => runs_eval tab_ok ?_
    simp only [ev0, evA, evB, evP, fl, gp, tab, simprocAttr, reduceCtorEq, reduceIte]
    refine fin_stop trivial (runs_call (upper_no N m (by omega) hf) rfl rfl rfl (by simp only [dstOk, Nat.reduceLT]) (by repeat (first | exact trivial | constructor)) (runs_eval tab_ok ?_))
    simp only [ev0, evA, evB, evP, fl, gp, tab, simprocAttr, reduceCtorEq, reduceIte]
    refine fin_run ?_ (hK _ ?_) <;> clear hK <;> clear K
    · (first | exact trivial | omega | (simp only [In64] at *; omega) | (simp [In64] at *; omega) | (simp_all; done) | skip)
    refine qa (qm ?_)
    refine hk_region fun K hK => runs_eval tab_ok ?_
    simp only [ev0, evA, evB, evP, fl, gp, tab, simprocAttr, reduceCtorEq, reduceIte]
    refine fin_stop trivial (runs_call (solvable_no N m (by omega) hf) rfl rfl rfl (by simp only [dstOk, Nat.reduceLT]) (by repeat (first | exact trivial | constructor)) (runs_eval tab_ok ?_))
    simp only [ev0, evA, evB, evP, fl, gp, tab, simprocAttr, reduceCtorEq, reduceIte]
    refine fin_run ?_ (hK _ ?_) <;> clear hK <;> clear K
    · (first | exact trivial | omega | (simp only [In64] at *; omega) | (simp [In64] at *; omega) | (simp_all; done) | skip)
    refine qa (qm (qm ?_))
    refine hk_region fun K hK => runs_eval tab_ok ?_
    simp only [ev0, evA, evB, evP, fl, gp, tab, simprocAttr, reduceCtorEq, reduceIte, decide_eq_false hf]
    refine fin_run ?_ (hK _ ?_) <;> clear hK <;> clear K
    · (first | exact trivial | omega | (simp only [In64] at *; omega) | (simp [In64] at *; omega) | (simp_all; done) | skip)
    refine qa ?_
    refine hk_cond rfl (fun hC2 => ?_) (fun hC2 => ?_)
    · (try simp only [nhs] at hC2)
      refine qm ?_
      refine hk_region fun K hK => runs_eval tab_ok ?_
      simp only [ev0, evA, evB, evP, fl, gp, tab, simprocAttr, reduceCtorEq, reduceIte, decide_eq_false hf]
      refine fin_stop trivial (runs_call (gf_c N m (by omega)) rfl rfl rfl (by simp only [dstOk, Nat.reduceLT]) (by repeat (first | exact trivial | constructor)) (runs_eval tab_ok ?_))
      simp only [ev0, evA, evB, evP, fl, gp, tab, simprocAttr, reduceCtorEq, reduceIte, decide_eq_false hf]
      refine fin_run ?_ (hK _ ?_) <;> clear hK <;> clear K
      · (first | exact trivial | omega | (simp only [In64] at *; omega) | (simp [In64] at *; omega) | (simp_all; done) | skip)
      refine qa (qk (qb ?_))
      simp only [Tryd.results13, enA, ev0, evA, evB, evP, fl, gp, tab, simprocAttr, reduceCtorEq, reduceIte]
      all_goals ((first | exact rfl | exact ⟨rfl, rfl⟩ | exact ⟨rfl, rfl, rfl⟩ | exact ⟨trivial, rfl⟩ | exact ⟨Nat.le_refl _, rfl⟩ | trivial | (simp; done)))
    · cases hC2
/-- A prime's subgroup of Sylow's is normal. -/
def syN (n : Nat) (f : Nat → Nat → Nat) (e P : Nat) : Prop := ∃ s j t, Syl n f e P s j t ∧ Nml n f e s
set_option maxHeartbeats 4000000 in
set_option maxRecDepth 100000 in
theorem seriesNilpotent_ok (h : GT n m n e) : FnC Tryd.prog 13 [gp n m] (.bool true) := by
  have G := h.2.2
  have hb := h.2.1.big
  have hn0 := G.pos
  obtain ⟨nl, hnl⟩ := nx_ex n (op m n) e fun p => dnp n (op m n) e p fun _ => true
  obtain ⟨nd, hnd⟩ := nx_ex n (op m n) e fun p => dnp n (op m n) e p p
  obtain ⟨KK, hKKn, hKK⟩ := G.fall_stop hnl (fun p hp => G.da_nml p hp) (fun p hs hp x hx h => G.da_le p hs hp x hx h)
  obtain ⟨Z, hZn, hZ⟩ := G.fall_stop hnd (fun p hp => G.dd_nml p hp) (fun p hs hp x hx h => G.dd_le p hs hp x hx h)
  obtain ⟨L, hLn, hL⟩ := G.rise_stop
  obtain ⟨hs1, hs2⟩ := G.series hnl hKK hL
  have hlK := thl_le n (itr nl (fun _ => true) KK)
  have hlZ := thl_le n (itr nd (fun _ => true) Z)
  have hlL := thl_le n (itr (unx n (op m n) e) (onp e) L)
  have hcl := cht_len n (itr nl fun _ => true) KK
  have hcu := cht_len n (itr (unx n (op m n) e) (onp e)) L
  have hgu : (cht n (itr (unx n (op m n) e) (onp e)) L).getD L [] = thl n (itr (unx n (op m n) e) (onp e) L) := cht_get (Nat.le_refl _)
  have hgu2 := ll_get (ls := cht n (itr (unx n (op m n) e) (onp e)) L) (i := L) (by omega)
  rw [hgu] at hgu2
  have lK : (thl n (itr nl (fun _ => true) KK)).length = (mem n (itr nl (fun _ => true) KK)).length := thl_len _ _
  have lZ : (thl n (itr nd (fun _ => true) Z)).length = (mem n (itr nd (fun _ => true) Z)).length := thl_len _ _
  have lL : (thl n (itr (unx n (op m n) e) (onp e) L)).length = (mem n (itr (unx n (op m n) e) (onp e) L)).length := thl_len _ _
  have oneK := (G.fall hnl (fun p hp => G.da_nml p hp) KK).1.one
  have oneZ := (G.fall hnd (fun p hp => G.dd_nml p hp) Z).1.one
  -- nilpotent
  have nilK : (thl n (itr nl (fun _ => true) KK)).length = 1 ↔ ∀ a, a < n → itr nl (fun _ => true) KK a = true → a = e := by
    rw [lK]
    exact ⟨fun h1 a ha h2 => one_mem G.el oneK h1 ha h2, fun h1 => mem_one G.el fun a ha => ⟨h1 a ha, fun h2 => by rw [h2]; exact oneK⟩⟩
  have nilL : (thl n (itr (unx n (op m n) e) (onp e) L)).length = n ↔ (thl n (itr nl (fun _ => true) KK)).length = 1 := by
    rw [nilK, hs1, lL]; exact mem_all
  have nilZ : (thl n (itr nl (fun _ => true) KK)).length = 1 → (thl n (itr nd (fun _ => true) Z)).length = 1 := fun h1 => by
    have h2 := nilK.1 h1
    have h3 : ∀ a, a < n → itr nd (fun _ => true) KK a = true → a = e := fun a ha h4 => h2 a ha (G.der_low hnd hnl KK a ha h4)
    have hz : Z ≤ KK := hZ.le fun a ha => by
      rw [Bool.eq_iff_iff]
      constructor
      · exact fun h5 => G.fall_le hnd (fun p hp => G.dd_nml p hp) (fun p hs hp x hx h => G.dd_le p hs hp x hx h) KK ha h5
      · intro h5
        rw [h3 a ha h5]
        exact (G.fall hnd (fun p hp => G.dd_nml p hp) (KK + 1)).1.one
    have hnx := nx_congr hnd (fun p q h x hx => dd_congr p q h x hx)
    rw [lZ]
    refine mem_one G.el fun a ha => ⟨fun h5 => h3 a ha ?_, fun h5 => by rw [h5]; exact oneZ⟩
    have := hZ.after hnx (KK - Z) a ha
    rw [show Z + (KK - Z) = KK by omega] at this
    rw [this]; exact h5
  have nilS : (∀ q, isPr q → n % q = 0 → syN n (op m n) e q) → (thl n (itr nl (fun _ => true) KK)).length = 1 := fun h1 =>
    nilK.2 (hs1.2 (G.syl_nil hb (fun q hq hd => h1 q hq (Nat.mod_eq_zero_of_dvd hd)) hL))
  have nilP : pcn n 61 ≤ 1 → (thl n (itr nl (fun _ => true) KK)).length = 1 := fun h1 => nilS fun q hq hd => by
    obtain ⟨s, SL, j, t, hY, _⟩ := sy_all h hq
    have ht : t = 1 := by
      refine Classical.byContradiction fun ht1 => ?_
      have hnum := hY.num
      have ht0 : t ≠ 0 := fun h0 => hY.non (h0 ▸ Nat.dvd_zero q)
      have htn : t ≤ n := by
        have : t ≤ q ^ j * t := Nat.le_mul_of_pos_left t (hq.pos j)
        omega
      obtain ⟨r, hr, hrt⟩ := prime_div (t := t) (by omega) (by omega)
      have hrn : r ∣ n := by rw [hnum]; exact Nat.dvd_trans hrt (Nat.dvd_mul_left _ _)
      have hqn : q ∣ n := Nat.dvd_of_mod_eq_zero hd
      have h2 := pcn_two (p := 61) hq hr hd (Nat.mod_eq_zero_of_dvd hrn) (by have := Nat.le_of_dvd hn0 hqn; omega) (by have := Nat.le_of_dvd hn0 hrn; omega) (fun h3 => hY.non (h3 ▸ hrt))
      omega
    refine ⟨s, j, t, hY, fun a ha x hx _ => ?_⟩
    have h2 : (mem n s).length = n := by rw [hY.len, ← Nat.mul_one (q ^ j), ← ht]; exact hY.num.symm
    exact mem_all.1 h2 _ (G.cjr_lt hx ha)
  have hdi : decide (((thl n (itr nl (fun _ => true) KK)).length : Int) = 1) = decide ((thl n (itr nl (fun _ => true) KK)).length = 1) := decide_eq_decide.2 (by omega)
  have hdz : decide (((thl n (itr nd (fun _ => true) Z)).length : Int) = 1) = decide ((thl n (itr nd (fun _ => true) Z)).length = 1) := decide_eq_decide.2 (by omega)
  obtain ⟨bN, hbN⟩ : ∃ bN, bN = decide ((thl n (itr nl (fun _ => true) KK)).length = 1) := ⟨_, rfl⟩
  obtain ⟨bS, hbS⟩ : ∃ bS, bS = decide ((thl n (itr nd (fun _ => true) Z)).length = 1) := ⟨_, rfl⟩
  refine fnc_of tab_ok Tryd.func13 rfl (by kernel_rfl) (by rw [Tryd.ntmps13]; exact Nat.le_add_left 1 _) ?_; rw [Tryd.ntmps13]
  refine qm ?_
  refine hk_region fun K hK => runs_eval tab_ok ?_
  simp only [ev0, evA, evB, evP, fl, gp, tab, simprocAttr, reduceCtorEq, reduceIte]
  refine fin_run ?_ (hK _ ?_) <;> clear hK <;> clear K
  · (first | exact trivial | omega | (simp only [In64] at *; omega) | (simp [In64] at *; omega) | (simp_all; done) | skip)
  refine qa (qm (qm ?_))
  refine hk_region fun K hK => runs_eval tab_ok ?_
  simp only [ev0, evA, evB, evP, fl, gp, tab, simprocAttr, reduceCtorEq, reduceIte]
  refine fin_stop trivial (runs_call (seriesBegun_c) rfl rfl rfl (by simp only [dstOk, Nat.reduceLT]) (by repeat (first | exact trivial | constructor)) (runs_eval tab_ok ?_))
  simp only [ev0, evA, evB, evP, fl, gp, tab, simprocAttr, reduceCtorEq, reduceIte]
  refine fin_run trivial (hK _ ?_) <;> clear hK <;> clear K
  refine qa ?_
  refine hk_cond rfl (fun hC1 => ?_) (fun hC1 => ?_)
  · cases hC1
  · (try simp only [nhs] at hC1)
    refine qh (qa (qm ?_))
    refine hk_region fun K hK => runs_eval tab_ok ?_
    simp only [ev0, evA, evB, evP, fl, gp, tab, simprocAttr, reduceCtorEq, reduceIte]
    refine fin_stop trivial (runs_call (nilpotent_ok h nl hnl KK hKKn hKK) rfl rfl rfl (by simp only [dstOk, Nat.reduceLT]) (by repeat (first | exact trivial | constructor)) (runs_eval tab_ok ?_))
    simp only [ev0, evA, evB, evP, fl, gp, tab, simprocAttr, reduceCtorEq, reduceIte]
    refine fin_run ?_ (hK _ ?_) <;> clear hK <;> clear K
    · (first | exact trivial | omega | (simp only [In64] at *; omega) | (simp [In64] at *; omega) | (simp_all; done) | skip)
    refine qa (qm ?_)
    refine hk_region fun K hK => runs_eval tab_ok ?_
    simp only [ev0, evA, evB, evP, fl, gp, tab, simprocAttr, reduceCtorEq, reduceIte]
    refine fin_stop trivial (runs_call (lower_ok h nl hnl KK hKKn hKK) rfl rfl rfl (by simp only [dstOk, Nat.reduceLT]) (by repeat (first | exact trivial | constructor)) (runs_eval tab_ok ?_))
    simp only [ev0, evA, evB, evP, fl, gp, tab, simprocAttr, reduceCtorEq, reduceIte]
    refine fin_run ?_ (hK _ ?_) <;> clear hK <;> clear K
    · (first | exact trivial | omega | (simp only [In64] at *; omega) | (simp [In64] at *; omega) | (simp_all; done) | skip)
    refine qa (qm ?_)
    refine hk_region fun K hK => runs_eval tab_ok ?_
    simp only [ev0, evA, evB, evP, fl, gp, tab, simprocAttr, reduceCtorEq, reduceIte]
    refine fin_stop trivial (runs_call (upper_ok h L hLn hL) rfl rfl rfl (by simp only [dstOk, Nat.reduceLT]) (by repeat (first | exact trivial | constructor)) (runs_eval tab_ok ?_))
    simp only [ev0, evA, evB, evP, fl, gp, tab, simprocAttr, reduceCtorEq, reduceIte]
    refine fin_run ?_ (hK _ ?_) <;> clear hK <;> clear K
    · (first | exact trivial | omega | (simp only [In64] at *; omega) | (simp [In64] at *; omega) | (simp_all; done) | skip)
    refine qa (qm ?_)
    refine hk_region fun K hK => runs_eval tab_ok ?_
    simp only [ev0, evA, evB, evP, fl, gp, tab, simprocAttr, reduceCtorEq, reduceIte]
    refine fin_stop trivial (runs_call (solvable_ok h nd hnd Z hZn hZ) rfl rfl rfl (by simp only [dstOk, Nat.reduceLT]) (by repeat (first | exact trivial | constructor)) (runs_eval tab_ok ?_))
    simp only [ev0, evA, evB, evP, fl, gp, tab, simprocAttr, reduceCtorEq, reduceIte]
    refine fin_run ?_ (hK _ ?_) <;> clear hK <;> clear K
    · (first | exact trivial | omega | (simp only [In64] at *; omega) | (simp [In64] at *; omega) | (simp_all; done) | skip)
    refine qa (qm (qm ?_))
    refine hk_region fun K hK => runs_eval tab_ok ?_
    simp only [ev0, evA, evB, evP, fl, gp, tab, simprocAttr, reduceCtorEq, reduceIte]
    refine fin_run ?_ (hK _ ?_) <;> clear hK <;> clear K
    · (first | exact trivial | omega | (simp only [In64] at *; omega) | (simp [In64] at *; omega) | (simp_all; done) | skip)
    refine qa ?_
    refine hk_cond rfl (fun hC2 => ?_) (fun hC2 => ?_)
    · cases hC2
    · (try simp only [nhs] at hC2)
      refine qh (qa (qm ?_))
      refine hk_region fun K hK => runs_eval tab_ok ?_
      simp only [ev0, evA, evB, evP, fl, gp, tab, simprocAttr, reduceCtorEq, reduceIte]
      refine fin_run trivial (hK _ ?_) <;> clear hK <;> clear K
      refine qa (qm ?_)
      refine hk_region fun K hK => runs_eval tab_ok ?_
      simp only [ev0, evA, evB, evP, fl, gp, tab, simprocAttr, reduceCtorEq, reduceIte]
      refine fin_run trivial (hK _ ?_) <;> clear hK <;> clear K
      refine qa (qm (qm ?_))
      refine hk_region fun K hK => runs_eval tab_ok ?_
      simp only [ev0, evA, evB, evP, fl, gp, tab, simprocAttr, reduceCtorEq, reduceIte]
      refine fin_run trivial (hK _ ?_) <;> clear hK <;> clear K
      refine qa (ql ?_)
      refine hk_loop (ι := Nat × Bool) (fun p => ⟨129, [(1, .ptr 0 0), (3, .p (.bool bN)), (5, .p (.list (ll (cht n (itr nl fun _ => true) KK)))), (7, .p (.list (ll (cht n (itr (unx n (op m n) e) (onp e)) L)))), (9, .p (.bool bS)), (11, .p (.bool p.2)), (12, .p (.int .i64 (pcn n p.1))), (13, .p (.int .i64 p.1))], [.own [.p (.int .i64 n), .p (.list (il m))]]⟩) (fun p => 2 ≤ p.1 ∧ p.1 ≤ 61 ∧ (p.2 = true → ∀ q, q < p.1 → isPr q → n % q = 0 → syN n (op m n) e q) ∧ (bN = true → p.2 = true)) (fun p => 61 - p.1) (2, true) ⟨Nat.le_refl _, by decide, fun _ q hq hp => by have := hp.1; have : q < 2 := hq; omega, fun _ => rfl⟩ [0] (by rw [hbN, hbS, ← hdi, ← hdz, show pcn n (2, true).1 = 0 from by unfold pcn; rw [List.filter_eq_nil_iff.2]; rfl; intro q hq; have := List.mem_range.1 hq; simp only [decide_eq_true_eq]; intro hh; have := hh.1.1; omega]; simp only [leq, leA, ev0, evA, evB, evP, fl, gp, tab, simprocAttr, reduceCtorEq, reduceIte] <;> trivial) fun p hp => ?_
      obtain ⟨q, bb⟩ := p
      obtain ⟨hq1, hq2, hq3, hq4⟩ := hp
      simp only at hq1 hq2 hq3 hq4
      have hpc := pcn_le n q
      have hps := pcn_succ n q
      refine qm (qm ?_)
      refine hk_region fun K hK => runs_eval tab_ok ?_
      simp only [ev0, evA, evB, evP, fl, gp, tab, simprocAttr, reduceCtorEq, reduceIte]
      refine fin_run trivial (hK _ ?_) <;> clear hK <;> clear K
      refine qa ?_
      refine hk_cond rfl (fun hC3 => ?_) (fun hC3 => ?_)
      · (try simp only [nhs] at hC3)
        have hq60 : q ≤ 60 := by omega
        refine qh (qa (qm (ql (qm (qm ?_)))))
        rcases (show ¬ isPr q ∨ (isPr q ∧ ¬ n % q = 0) ∨ (isPr q ∧ n % q = 0) by by_cases a1 : isPr q; by_cases a2 : n % q = 0; exact .inr (.inr ⟨a1, a2⟩); exact .inr (.inl ⟨a1, a2⟩); exact .inl a1) with hpr | ⟨hpr, hdv⟩ | ⟨hpr, hdv⟩
        · refine hk_region fun K hK => runs_eval tab_ok ?_
          simp only [ev0, evA, evB, evP, fl, gp, tab, simprocAttr, reduceCtorEq, reduceIte, decide_eq_false hpr]
          refine fin_stop trivial (runs_call (isPrime_r q) rfl rfl rfl (by simp only [dstOk, Nat.reduceLT]) (by repeat (first | exact trivial | constructor)) (runs_eval tab_ok ?_))
          simp only [ev0, evA, evB, evP, fl, gp, tab, simprocAttr, reduceCtorEq, reduceIte, decide_eq_false hpr]
          refine fin_run trivial (hK _ ?_) <;> clear hK <;> clear K
          refine qa ?_
          refine hk_cond rfl (fun hC4 => ?_) (fun hC4 => ?_)
          · refine qj (qc (qf (qa ?_)))
            refine hk_region fun K hK => runs_eval tab_ok ?_
            simp only [ev0, evA, evB, evP, fl, gp, tab, simprocAttr, reduceCtorEq, reduceIte]
            refine fin_run ?_ (hK _ ?_) <;> clear hK <;> clear K
            · (first | exact trivial | omega | (simp only [In64] at *; omega) | (simp [In64] at *; omega) | (simp_all; done) | skip)
            refine qa ?_
            refine ⟨(q + 1, bb), [0], ⟨show 2 ≤ q + 1 by omega, show q + 1 ≤ 61 by omega, fun hb1 q' hq' hp' hd' => ?_, hq4⟩, show 61 - (q + 1) < 61 - q by omega, ?_⟩
            · by_cases hqq : q' = q
              · rw [hqq] at hp'; exact absurd hp' hpr
              · exact hq3 hb1 q' (by have : q' < q + 1 := hq'
                                     omega) hp' hd'
            · rw [show pcn n (q + 1, bb).1 = pcn n q from by rw [show (q + 1, bb).1 = q + 1 from rfl, hps, if_neg (fun hh => hpr hh.1)]; rfl]
              simp only [leq, leA, ev0, evA, evB, evP, fl, gp, tab, simprocAttr, reduceCtorEq, reduceIte] <;> first | trivial | omega | exact ⟨rfl, rfl⟩
          · cases hC4
        · refine hk_region fun K hK => runs_eval tab_ok ?_
          simp only [ev0, evA, evB, evP, fl, gp, tab, simprocAttr, reduceCtorEq, reduceIte, decide_eq_true hpr, tm_nat, decide_eq_false (show ¬ ((n % q : Nat) : Int) = 0 by omega)]
          refine fin_stop trivial (runs_call (isPrime_r q) rfl rfl rfl (by simp only [dstOk, Nat.reduceLT]) (by repeat (first | exact trivial | constructor)) (runs_eval tab_ok ?_))
          simp only [ev0, evA, evB, evP, fl, gp, tab, simprocAttr, reduceCtorEq, reduceIte, decide_eq_true hpr, tm_nat, decide_eq_false (show ¬ ((n % q : Nat) : Int) = 0 by omega)]
          refine fin_run ?_ (hK _ ?_) <;> clear hK <;> clear K
          · (first | exact trivial | omega | (simp only [In64] at *; omega) | (simp [In64] at *; omega) | (simp_all; done) | skip)
          refine qa ?_
          refine hk_cond rfl (fun hC4 => ?_) (fun hC4 => ?_)
          · (try simp only [nhs] at hC4)
            refine qj (qc (qf (qa ?_)))
            refine hk_region fun K hK => runs_eval tab_ok ?_
            simp only [ev0, evA, evB, evP, fl, gp, tab, simprocAttr, reduceCtorEq, reduceIte]
            refine fin_run ?_ (hK _ ?_) <;> clear hK <;> clear K
            · (first | exact trivial | omega | (simp only [In64] at *; omega) | (simp [In64] at *; omega) | (simp_all; done) | skip)
            refine qa ?_
            refine ⟨(q + 1, bb), [0], ⟨show 2 ≤ q + 1 by omega, show q + 1 ≤ 61 by omega, fun hb1 q' hq' hp' hd' => ?_, hq4⟩, show 61 - (q + 1) < 61 - q by omega, ?_⟩
            · by_cases hqq : q' = q
              · rw [hqq] at hd'; exact absurd hd' hdv
              · exact hq3 hb1 q' (by have : q' < q + 1 := hq'
                                     omega) hp' hd'
            · rw [show pcn n (q + 1, bb).1 = pcn n q from by rw [show (q + 1, bb).1 = q + 1 from rfl, hps, if_neg (fun hh => hdv hh.2)]; rfl]
              simp only [leq, leA, ev0, evA, evB, evP, fl, gp, tab, simprocAttr, reduceCtorEq, reduceIte] <;> first | trivial | omega | exact ⟨rfl, rfl⟩
          · cases hC4
        · refine hk_region fun K hK => runs_eval tab_ok ?_
          simp only [ev0, evA, evB, evP, fl, gp, tab, simprocAttr, reduceCtorEq, reduceIte, decide_eq_true hpr, tm_nat, show ((n % q : Nat) : Int) = 0 by omega]
          refine fin_stop trivial (runs_call (isPrime_r q) rfl rfl rfl (by simp only [dstOk, Nat.reduceLT]) (by repeat (first | exact trivial | constructor)) (runs_eval tab_ok ?_))
          simp only [ev0, evA, evB, evP, fl, gp, tab, simprocAttr, reduceCtorEq, reduceIte, decide_eq_true hpr, tm_nat, show ((n % q : Nat) : Int) = 0 by omega]
          refine fin_run ?_ (hK _ ?_) <;> clear hK <;> clear K
          · (first | exact trivial | omega | (simp only [In64] at *; omega) | (simp [In64] at *; omega) | (simp_all; done) | skip)
          refine qa ?_
          refine hk_cond rfl (fun hC4 => ?_) (fun hC4 => ?_)
          · cases hC4
          · (try simp only [nhs] at hC4)
            refine qh (qa (qm ?_))
            refine hk_region fun K hK => runs_eval tab_ok ?_
            simp only [ev0, evA, evB, evP, fl, gp, tab, simprocAttr, reduceCtorEq, reduceIte]
            refine fin_run ?_ (hK _ ?_) <;> clear hK <;> clear K
            · (first | exact trivial | omega | (simp only [In64] at *; omega) | (simp [In64] at *; omega) | (simp_all; done) | skip)
            refine qa (qm ?_)
            obtain ⟨s, SL, j, t, hY, hS, hpos, hv0, hr0, hA, hC⟩ := sy_all h hpr
            have hsl := sql_len SL
            have hSl := hS.len
            have hone := hS.one_nml G hY.sub hpos
            have hnm : bN = true → Nml n (op m n) e s := fun h1 => hY.nil_nml G hpr hnl (nilK.1 (of_decide_eq_true (hbN ▸ h1)))
            have hcase : decide ((SL.length : Int) = 1) = decide (SL.length = 1) := decide_eq_decide.2 (by omega)
            refine hk_region fun K hK => runs_eval tab_ok ?_
            simp only [ev0, evA, evB, evP, fl, gp, tab, simprocAttr, reduceCtorEq, reduceIte]
            refine fin_stop trivial (runs_call (hA) rfl rfl rfl (by simp only [dstOk, Nat.reduceLT]) (by repeat (first | exact trivial | constructor)) (runs_eval tab_ok ?_))
            simp only [ev0, evA, evB, evP, fl, gp, tab, simprocAttr, reduceCtorEq, reduceIte]
            refine fin_run ?_ (hK _ ?_) <;> clear hK <;> clear K
            · (first | exact trivial | omega | (simp only [In64] at *; omega) | (simp [In64] at *; omega) | (simp_all; done) | skip)
            refine qa (qm (qm ?_))
            refine hk_region fun K hK => runs_eval tab_ok ?_
            simp only [ev0, evA, evB, evP, fl, gp, tab, simprocAttr, reduceCtorEq, reduceIte]
            refine fin_run ?_ (hK _ ?_) <;> clear hK <;> clear K
            · (first | exact trivial | omega | (simp only [In64] at *; omega) | (simp [In64] at *; omega) | (simp_all; done) | skip)
            refine qa ?_
            refine hk_cond rfl (fun hC5 => ?_) (fun hC5 => ?_)
            · cases hC5
            · (try simp only [nhs] at hC5)
              refine qh (qa ?_)
              cases bb
              · refine hk_region fun K hK => runs_eval tab_ok ?_
                simp only [ev0, evA, evB, evP, fl, gp, tab, simprocAttr, reduceCtorEq, reduceIte, ll_length, hsl, hcase]
                refine fin_run trivial (hK _ ?_) <;> clear hK <;> clear K
                refine qd (qa ?_)
                refine hk_region fun K hK => runs_eval tab_ok ?_
                simp only [ev0, evA, evB, evP, fl, gp, tab, simprocAttr, reduceCtorEq, reduceIte]
                refine fin_run ?_ (hK _ ?_) <;> clear hK <;> clear K
                · (first | exact trivial | omega | (simp only [In64] at *; omega) | (simp [In64] at *; omega) | (simp_all; done) | skip)
                refine qa ?_
                refine ⟨(q + 1, false), [0], ⟨show 2 ≤ q + 1 by omega, show q + 1 ≤ 61 by omega, (fun hb1 => by cases hb1), hq4⟩, show 61 - (q + 1) < 61 - q by omega, ?_⟩
                rw [show pcn n (q + 1, false).1 = pcn n q + 1 from by rw [show (q + 1, false).1 = q + 1 from rfl, hps, if_pos ⟨hpr, hdv⟩]]
                simp only [leq, leA, ev0, evA, evB, evP, fl, gp, tab, simprocAttr, reduceCtorEq, reduceIte] <;> first | trivial | omega | exact ⟨rfl, rfl⟩
              · refine hk_region fun K hK => runs_eval tab_ok ?_
                simp only [ev0, evA, evB, evP, fl, gp, tab, simprocAttr, reduceCtorEq, reduceIte, ll_length, hsl, hcase]
                refine fin_run trivial (hK _ ?_) <;> clear hK <;> clear K
                refine qd (qa ?_)
                refine hk_region fun K hK => runs_eval tab_ok ?_
                simp only [ev0, evA, evB, evP, fl, gp, tab, simprocAttr, reduceCtorEq, reduceIte]
                refine fin_run ?_ (hK _ ?_) <;> clear hK <;> clear K
                · (first | exact trivial | omega | (simp only [In64] at *; omega) | (simp [In64] at *; omega) | (simp_all; done) | skip)
                refine qa ?_
                refine ⟨(q + 1, decide (SL.length = 1)), [0], ⟨show 2 ≤ q + 1 by omega, show q + 1 ≤ 61 by omega, fun hb1 q' hq' hp' hd' => ?_, fun hb1 => decide_eq_true (hone.2 (hnm hb1))⟩, show 61 - (q + 1) < 61 - q by omega, ?_⟩
                · by_cases hqq : q' = q
                  · rw [hqq]; exact ⟨s, j, t, hY, hone.1 (of_decide_eq_true hb1)⟩
                  · exact hq3 rfl q' (by have : q' < q + 1 := hq'
                                         omega) hp' hd'
                · rw [show pcn n (q + 1, decide (SL.length = 1)).1 = pcn n q + 1 from by rw [show (q + 1, decide (SL.length = 1)).1 = q + 1 from rfl, hps, if_pos ⟨hpr, hdv⟩]]
                  simp only [leq, leA, ev0, evA, evB, evP, fl, gp, tab, simprocAttr, reduceCtorEq, reduceIte] <;> first | trivial | omega | exact ⟨rfl, rfl⟩
      · (try simp only [nhs] at hC3)
        have hq61 : q = 61 := by omega
        subst hq61
        have hbb : bb = bN := by
          cases hbv : bb with
          | true =>
            rw [hbN, eq_comm]
            exact decide_eq_true (nilS fun q hq hd => hq3 hbv q (by have := Nat.le_of_dvd hn0 (Nat.dvd_of_mod_eq_zero hd); omega) hq hd)
          | false =>
            cases hnv : bN with
            | false => rfl
            | true => rw [hq4 hnv] at hbv; cases hbv
        have hfin : (bN = true ∧ bS = true ∧ KK = L ∧ (thl n (itr (unx n (op m n) e) (onp e) L)).length = n ∧ pcn n 61 > 1) ∨ (bN = true ∧ bS = true ∧ KK = L ∧ (thl n (itr (unx n (op m n) e) (onp e) L)).length = n ∧ ¬ pcn n 61 > 1) ∨ (bN = false ∧ ¬ (thl n (itr (unx n (op m n) e) (onp e) L)).length = n ∧ pcn n 61 > 1) := by
          by_cases h1 : (thl n (itr nl (fun _ => true) KK)).length = 1
          · have h2 : bN = true := by rw [hbN]; exact decide_eq_true h1
            have h3 : bS = true := by rw [hbS]; exact decide_eq_true (nilZ h1)
            have h4 := hs2 (nilK.1 h1)
            have h5 := nilL.2 h1
            by_cases h6 : pcn n 61 > 1
            · exact .inl ⟨h2, h3, h4, h5, h6⟩
            · exact .inr (.inl ⟨h2, h3, h4, h5, h6⟩)
          · exact .inr (.inr ⟨by rw [hbN]; exact decide_eq_false h1, fun h2 => h1 (nilL.1 h2), Nat.lt_of_not_le fun h2 => h1 (nilP h2)⟩)
        rw [hbb]
        refine qj (qc (qc (qf (qa (qm ?_)))))
        rcases hfin with ⟨k1, k2, k3, k4, k5⟩ | ⟨k1, k2, k3, k4, k5⟩ | ⟨k1, k4, k5⟩
        · have h55 : decide (((cht n (itr nl fun _ => true) KK).length : Int) = ((L + 1 : Nat) : Int)) = true := decide_eq_true (by rw [hcl, k3])
          refine hk_draw mixed (by kernel_rfl) fun K hK => runs_eval tab_ok ?_
          simp only [ev0, evA, evB, evP, fl, gp, tab, simprocAttr, reduceCtorEq, reduceIte, k1, k2, ll_length, hcu, h55, Int.add_sub_cancel, hgu2, il_length, k4, decide_eq_true (show ((pcn n 61 : Nat) : Int) > 1 by omega)]
          refine fin_run ?_ (hK _ ?_) <;> clear hK <;> clear K
          · (first | exact trivial | omega | (simp only [In64] at *; omega) | (simp [In64] at *; omega) | (simp_all; done) | skip)
          refine qa (qk ?_)
          simp only [Tryd.results13, enA, ev0, evA, evB, evP, fl, gp, tab, simprocAttr, reduceCtorEq, reduceIte]
          all_goals (trace_state)
        · have h55 : decide (((cht n (itr nl fun _ => true) KK).length : Int) = ((L + 1 : Nat) : Int)) = true := decide_eq_true (by rw [hcl, k3])
          refine hk_draw mixed (by kernel_rfl) fun K hK => runs_eval tab_ok ?_
          simp only [ev0, evA, evB, evP, fl, gp, tab, simprocAttr, reduceCtorEq, reduceIte, k1, k2, ll_length, hcu, h55, Int.add_sub_cancel, hgu2, il_length, k4, decide_eq_false (show ¬ ((pcn n 61 : Nat) : Int) > 1 by omega)]
          refine fin_run ?_ (hK _ ?_) <;> clear hK <;> clear K
          · (first | exact trivial | omega | (simp only [In64] at *; omega) | (simp [In64] at *; omega) | (simp_all; done) | skip)
          refine qa (qk ?_)
          simp only [Tryd.results13, enA, ev0, evA, evB, evP, fl, gp, tab, simprocAttr, reduceCtorEq, reduceIte]
          all_goals (trace_state)
        · refine hk_draw mixed (by kernel_rfl) fun K hK => runs_eval tab_ok ?_
          simp only [ev0, evA, evB, evP, fl, gp, tab, simprocAttr, reduceCtorEq, reduceIte, k1, ll_length, hcl, hcu, Int.add_sub_cancel, hgu2, il_length, decide_eq_false (show ¬ ((thl n (itr (unx n (op m n) e) (onp e) L)).length : Int) = (n : Int) by omega), decide_eq_true (show ((pcn n 61 : Nat) : Int) > 1 by omega)]
          refine fin_run ?_ (hK _ ?_) <;> clear hK <;> clear K
          · (first | exact trivial | omega | (simp only [In64] at *; omega) | (simp [In64] at *; omega) | (simp_all; done) | skip)
          refine qa (qk ?_)
          simp only [Tryd.results13, enA, ev0, evA, evB, evP, fl, gp, tab, simprocAttr, reduceCtorEq, reduceIte]
          all_goals (trace_state)
theorem seriesNilpotent_c (N : Int) (m : List Int) (hm : m.length ≤ 17592186043904) : FnC Tryd.prog 13 [gp N m] (.bool true) := by
  by_cases hf : (gf N m).1 = 0
  · obtain ⟨n, e, h, _⟩ := gf_ok hf
    have := h.1; subst this
    exact seriesNilpotent_ok h
  · exact seriesNilpotent_no N m hm hf
end
end Go.Proofs.YtjikchbmkodgfaaDoor

/-
  What the listed package-level variable gives a walk: a table of numbers. Conditions: none; written by a program of this repo.
-/
set_option linter.all false
namespace Go.Proofs.YtjikchbmkodgfaaDoor
open Go.Pv Go.ChangeShapes Go.WideShapes Go.ChangeAt Go.WideElems Go.RowKit

theorem own : ownKnob Tryd.prog.godebug = none := by kernel_rfl
theorem laidOut : laidOutB Tryd.prog = true := by kernel_rfl
theorem gG : Tryd.prog.globalNamed "math/bits.deBruijn64tab" = some 0 := by kernel_rfl
theorem tG : (Tryd.prog.globals[0]?).map (·.type) = some 105 := by kernel_rfl
theorem cG : Tryd.prog.cellsOf 5 = 1 := by kernel_rfl
/-- The door's own heap meets the condition. -/
theorem door_met (os : Os) (args : Array Value) : laidMetH Tryd.prog [("math/bits.deBruijn64tab", Rows.laid_math_bits_deBruijn64tab)] ((World.doorLaid Tryd.prog 4000 os).forCall (fun _ _ => 0) ⟨#[], args, []⟩).memory :=
  laidMetH_of_parts3 (fuel := 8) (laidMet_of_run' 8 (by kernel_rfl) (by kernel_rfl)) (by kernel_rfl) (by kernel_rfl)

def convD : DataW Unit → PV
  | .lit (.int k n) => .int k n
  | _ => .nil
def datum : List (DataW Unit) → List PV := List.map convD
theorem glob_datum : (match (Rows.laid_math_bits_deBruijn64tab : DataW Unit) with | .agg l => datum l | _ => []) = glob0 := rfl

theorem laid_ok {W : World} (h : laidMetH Tryd.prog [("math/bits.deBruijn64tab", Rows.laid_math_bits_deBruijn64tab)] W) : LaidW (fun b => b < W.heap.size) W := by
  refine ⟨fun b h => h, fun g l hg => ?_⟩
  have hg2 : g = 0 ∧ l = glob0 := by
    unfold gv at hg
    by_cases e : g = 0
    · subst e; exact ⟨rfl, (Option.some.inj hg).symm⟩
    · have : (g == 0) = false := by simpa using e
      rw [this] at hg; simp at hg
  obtain ⟨rfl, rfl⟩ := hg2
  rw [MakeChecks.laidMetH_plain _ _ _ (by kernel_rfl)] at h
  obtain ⟨ps, ⟨g0, t0, cs0, f0, p0, q0, hg0, ht0, hv0, hd0, _, _⟩, _, _⟩ := h
  obtain rfl := Option.some.inj (gG.symm.trans hg0)
  obtain rfl := Option.some.inj (tG.symm.trans ht0)
  obtain ⟨xs, m1, rfl, hx1, hlen, hn3, hel⟩ := DataW.trod_array Tryd.underlying105 hd0
  have hd1 : Rows.laid_math_bits_deBruijn64tab = DataW.agg (xs.map (·.1)) := congrArg Prod.fst hx1
  have hgl : glob0 = datum (xs.map (·.1)) := by
    rw [← glob_datum, hd1]
  have key : ∀ c (h : c < glob0.length), W.cell? ⟨0, 0 + c, none⟩ = some ((cs0[c]?).getD undef) ∧ Reads (fun b => b < W.heap.size) W glob0[c] ((cs0[c]?).getD undef) := by
    intro c hc
    have hc2 : c < 64 := Nat.lt_of_lt_of_le hc (by decide)
    have hcx : c < xs.length := by omega
    have h1 := hel c hc2
    rw [List.getElem?_eq_getElem hcx] at h1
    obtain ⟨k, e1, e2, _⟩ := DataW.trod_int Tryd.underlying5 h1
    rw [cG] at e1
    have e3 : cs0.toList[c]? = some (.int .u8 k) := by
      have := congrArg (fun l => l[0]?) e1
      simpa [List.getElem?_take, List.getElem?_drop] using this
    have e4 : cs0[c]? = some (.int .u8 k) := by simpa using e3
    have e5 : glob0[c] = .int .u8 k := by
      have : glob0[c]? = (datum (xs.map (·.1)))[c]? := by rw [hgl]
      rw [List.getElem?_eq_getElem hc] at this
      simp only [datum, List.getElem?_map, List.getElem?_eq_getElem hcx, Option.map_some, Option.some.injEq] at this
      exact this.trans (by rw [e2]; rfl)
    refine ⟨?_, ?_⟩
    · rw [e4, Nat.zero_add, World.var?_cell gG hv0 c, e4]; rfl
    · rw [e4]
      exact e5 ▸ (Reads.int .u8 k)
  refine .ptr _ _ _ (fun c => (cs0[c]?).getD undef) ?_ (fun c hc => (key c hc).1) fun c hc => (key c hc).2
  have := (key 0 (by decide)).1
  unfold World.cell? at this
  rcases Nat.lt_or_ge 0 W.heap.size with h | h
  · exact h
  · exfalso
    rw [Array.getElem?_eq_none h] at this
    simp at this
end Go.Proofs.YtjikchbmkodgfaaDoor
