/-
  Texts of this proof, one behind the other: what each says stands at its head. Conditions: none.
-/
import Derived.Test.YtjikchbmkodgfaaDoorB5
import Derived.Test.YtjikchbmkodgfaaDoorB3
import Derived.Test.YtjikchbmkodgfaaDoorRows
import Derived.ProofKit
import Derived.LaidMore
import Derived.OpenShut
import Derived.Stop.Joined

/-
  What all of Sylow's subgroups have: what the laws need. Conditions: none.
-/
set_option linter.all false
namespace Go.Proofs.YtjikchbmkodgfaaDoor
open Go.Pv

section
variable {n e P : Nat} {f : Nat → Nat → Nat} {s : Nat → Bool} {SL : List Nat}
theorem Grp.shf_shf (G : Grp n f e) {a b y : Nat} (ha : a < n) (hb : b < n) (hy : y < n) : shf n f e (shf n f e s a) b y = shf n f e s (f a b) y := by
  have ib := G.iv_lt hb
  rw [G.shf_back hb hy, G.shf_back ha (G.cjr_lt hy ib), G.shf_back (G.cl _ _ ha hb) hy, G.iv_prod ha hb, G.cjr_cjr hy ib (G.iv_lt ha)]
theorem SyS.shf (h : SyS n f e s SL) (G : Grp n f e) {a : Nat} (ha : a < n) : SyS n f e (Go.Proofs.YtjikchbmkodgfaaDoor.shf n f e s a) SL where
  rise := h.rise
  all x := by
    rw [h.all x]
    constructor
    · rintro ⟨b, hb, rfl⟩
      exact ⟨f (iv n f e a) b, G.cl _ _ (G.iv_lt ha) hb, bo_congr fun y hy => by
        rw [G.shf_shf ha (G.cl _ _ (G.iv_lt ha) hb) hy, ← G.assoc a _ b ha (G.iv_lt ha) hb, G.mul_iv ha, G.one_l b hb]⟩
    · rintro ⟨b, hb, rfl⟩
      exact ⟨f a b, G.cl _ _ ha hb, bo_congr fun y hy => G.shf_shf ha hb hy⟩
theorem bo_eqs {p q : Nat → Bool} (h : bo n p = bo n q) : ∀ y, y < n → p y = q y := fun y hy => by
  have := congrArg (fun x => Nat.testBit x y) h
  simpa [bo_bit, hy] using this
/-- One alone is normal. -/
theorem SyS.one_nml (h : SyS n f e s SL) (G : Grp n f e) (hs : Sub n f e s) (hp : 0 < SL.length) : SL.length = 1 ↔ Nml n f e s := by
  have hse : ∀ y, y < n → Go.Proofs.YtjikchbmkodgfaaDoor.shf n f e s e y = s y := fun y hy => by rw [G.shf_back G.el hy, G.iv_one, G.cjr_e hy]
  constructor
  · intro h1
    obtain ⟨x, hx⟩ := List.length_eq_one_iff.1 h1
    have hm : ∀ a, a < n → bo n (Go.Proofs.YtjikchbmkodgfaaDoor.shf n f e s a) = x := fun a ha => by
      have := (h.all _).2 ⟨a, ha, rfl⟩
      rw [hx, List.mem_singleton] at this; exact this
    refine G.nml_iff.2 fun a ha => nzr_iff.2 fun y hy => ?_
    rw [bo_eqs ((hm a ha).trans (hm e G.el).symm) y hy, hse y hy]
  · intro h1
    have hall : ∀ x ∈ SL, x = bo n s := fun x hx => by
      obtain ⟨a, ha, rfl⟩ := (h.all x).1 hx
      exact bo_congr fun y hy => nzr_iff.1 (G.nml_iff.1 h1 a ha) y hy
    have := List.Nodup.length_le_of_subset h.nodup (l₂ := [bo n s]) fun x hx => by rw [List.mem_singleton]; exact hall x hx
    simp at this
    omega
end

section
variable {n e P : Nat} {m : List Int}
end
end Go.Proofs.YtjikchbmkodgfaaDoor

/-
  Walks: the law SylowAll. Conditions: none.
-/
set_option linter.all false
namespace Go.Proofs.YtjikchbmkodgfaaDoor
open Go.Pv

/-- Less, letter by letter. -/
def lsb : List Int → List Int → Bool
  | a :: r, b :: t => bif decide (a = b) then lsb r t else decide (a < b)
  | _, _ => false
theorem lsb_at {v w : List Int} : ∀ {i : Nat}, (∀ j, j < i → v.getD j 0 = w.getD j 0) → i < v.length → i < w.length → ¬ v.getD i 0 = w.getD i 0 → lsb v w = decide (v.getD i 0 < w.getD i 0) := by
  intro i
  induction i generalizing v w with
  | zero =>
    intro _ hv hw hne
    cases v with
    | nil => simp at hv
    | cons a r =>
      cases w with
      | nil => simp at hw
      | cons b t =>
        have hne' : ¬ a = b := by simpa using hne
        unfold lsb; rw [decide_eq_false hne']; simp
  | succ i ih =>
    intro hall hv hw hne
    cases v with
    | nil => simp at hv
    | cons a r =>
      cases w with
      | nil => simp at hw
      | cons b t =>
        have hab : a = b := by simpa using hall 0 (by omega)
        unfold lsb; rw [decide_eq_true hab]
        have := ih (v := r) (w := t) (fun j hj => by simpa using hall (j + 1) (by omega)) (by simpa using hv) (by simpa using hw) (by simpa using hne)
        simpa using this
theorem lsb_eq {v w : List Int} (hall : ∀ j, j < v.length → v.getD j 0 = w.getD j 0) : lsb v w = false := by
  induction v generalizing w with
  | nil => rfl
  | cons a r ih =>
    cases w with
    | nil => rfl
    | cons b t =>
      have hab : a = b := by simpa using hall 0 (by simp)
      unfold lsb; rw [decide_eq_true hab]
      exact ih fun j hj => by simpa using hall (j + 1) (by simpa using hj)
theorem less_r (v w : List Int) (hv : v.length ≤ 1000000) (hl : w.length = v.length) : FnC Tryd.prog 50 [.list (il v), .list (il w)] (.bool (lsb v w)) := by
  refine fnc_of tab_ok Tryd.func50 rfl (by kernel_rfl) (by rw [Tryd.ntmps50]; exact Nat.le_add_left 2 _) ?_; rw [Tryd.ntmps50]
  refine qm ?_
  refine hk_region fun K hK => runs_eval tab_ok ?_
  simp only [ev0, evA, evB, evP, fl, gp, tab, simprocAttr, reduceCtorEq, reduceIte]
  refine fin_run trivial (hK _ ?_) <;> clear hK <;> clear K
  refine qa (qm (qm ?_))
  refine hk_region fun K hK => runs_eval tab_ok ?_
  simp only [ev0, evA, evB, evP, fl, gp, tab, simprocAttr, reduceCtorEq, reduceIte]
  refine fin_run trivial (hK _ ?_) <;> clear hK <;> clear K
  refine qa (ql ?_)
  refine hk_loop (ι := Nat) (fun i => ⟨30, [(0, .p (.list (il v))), (1, .p (.list (il w))), (5, .p (.int .i64 i))], []⟩) (fun i => i ≤ v.length ∧ ∀ j, j < i → v.getD j 0 = w.getD j 0) (fun i => v.length - i) 0 ⟨Nat.zero_le _, fun j hj => by omega⟩ [] (by simp only [leq, leA, ev0, evA, evB, evP, fl, gp, tab, simprocAttr, reduceCtorEq, reduceIte] <;> trivial) fun i hi => ?_
  obtain ⟨hi1, hi2⟩ := hi
  refine qm (qm ?_)
  refine hk_region fun K hK => runs_eval tab_ok ?_
  simp only [ev0, evA, evB, evP, fl, gp, tab, simprocAttr, reduceCtorEq, reduceIte]
  refine fin_run trivial (hK _ ?_) <;> clear hK <;> clear K
  refine qa ?_
  refine hk_cond rfl (fun hC1 => ?_) (fun hC1 => ?_)
  · (try simp only [nhs] at hC1)
    have hlt : i < v.length := by omega
    have hlw : i < w.length := by omega
    refine qh (qa (qm (ql (qm ?_))))
    refine hk_draw mixed (by kernel_rfl) fun K hK => runs_eval tab_ok ?_
    simp only [ev0, evA, evB, evP, fl, gp, tab, simprocAttr, reduceCtorEq, reduceIte, il_get hlt, il_get hlw]
    refine fin_run ?_ (hK _ ?_) <;> clear hK <;> clear K
    · (first | exact trivial | omega | (simp only [In64] at *; omega) | (simp [In64] at *; omega) | (simp_all; done) | skip)
    refine qa ?_
    refine hk_cond rfl (fun hC2 => ?_) (fun hC2 => ?_)
    · (try simp only [nhs] at hC2)
      refine qm ?_
      refine hk_draw mixed (by kernel_rfl) fun K hK => runs_eval tab_ok ?_
      simp only [ev0, evA, evB, evP, fl, gp, tab, simprocAttr, reduceCtorEq, reduceIte, il_get hlt, il_get hlw]
      refine fin_run ?_ (hK _ ?_) <;> clear hK <;> clear K
      · (first | exact trivial | omega | (simp only [In64] at *; omega) | (simp [In64] at *; omega) | (simp_all; done) | skip)
      refine qa (qk (qe (qb (qb (qe (qb ?_))))))
      simp only [Tryd.results50, enA, ev0, evA, evB, evP, fl, gp, tab, simprocAttr, reduceCtorEq, reduceIte]
      all_goals (rw [lsb_at hi2 hlt hlw hC2])
    · (try simp only [nhs] at hC2)
      refine qh (qd (qa ?_))
      refine hk_region fun K hK => runs_eval tab_ok ?_
      simp only [ev0, evA, evB, evP, fl, gp, tab, simprocAttr, reduceCtorEq, reduceIte]
      refine fin_run ?_ (hK _ ?_) <;> clear hK <;> clear K
      · (first | exact trivial | omega | (simp only [In64] at *; omega) | (simp [In64] at *; omega) | (simp_all; done) | skip)
      refine qa ?_
      refine ⟨i + 1, [], ⟨by omega, fun j hj => ?_⟩, by omega, ?_⟩
      · by_cases hj : j = i
        · subst hj; exact hC2
        · exact hi2 j (by omega)
      · simp only [leq, leA, ev0, evA, evB, evP, fl, gp, tab, simprocAttr, reduceCtorEq, reduceIte] <;> omega
  · (try simp only [nhs] at hC1)
    refine qj (qc (qc (qf (qa (qm ?_)))))
    refine hk_region fun K hK => runs_eval tab_ok ?_
    simp only [ev0, evA, evB, evP, fl, gp, tab, simprocAttr, reduceCtorEq, reduceIte]
    refine fin_run trivial (hK _ ?_) <;> clear hK <;> clear K
    refine qa (qk ?_)
    simp only [Tryd.results50, enA, ev0, evA, evB, evP, fl, gp, tab, simprocAttr, reduceCtorEq, reduceIte]
    all_goals (rw [lsb_eq fun j hj => hi2 j (by omega)])
theorem lsb_cmp {v w : List Int} (hl : v.length = w.length) (h : cmpL v w < 0) : lsb v w = true := by
  induction v generalizing w with
  | nil =>
    cases w with
    | nil => rw [cmpL_self] at h; exact absurd h (by decide)
    | cons b t => simp at hl
  | cons a r ih =>
    cases w with
    | nil => simp at hl
    | cons b t =>
      unfold lsb
      rcases cmpL_cons_lt.1 h with h1 | ⟨h1, h2⟩
      · rw [decide_eq_false (by omega), decide_eq_true h1]; rfl
      · rw [decide_eq_true h1]; exact ih (by simpa using hl) h2

section
variable {n e P : Nat} {m : List Int}
end
end Go.Proofs.YtjikchbmkodgfaaDoor

/-
  All subgroups as the document has them. Conditions: none.
-/
set_option linter.all false
namespace Go.Proofs.YtjikchbmkodgfaaDoor
open Go.Pv

section
variable {n e : Nat} {m : List Int}
/-- Lists of codes of subgroups. -/
structure SgL (n : Nat) (f : Nat → Nat → Nat) (e : Nat) (L : List Nat) : Prop where
  nodup : L.Nodup
  subs : ∀ x ∈ L, ∃ p, Sub n f e p ∧ x = bo n p
theorem SgL.len {f : Nat → Nat → Nat} {L : List Nat} (h : SgL n f e L) (hn : n ≤ 24) : L.length ≤ 2 ^ n ∧ 2 ^ n ≤ 16777216 :=
  ⟨nodup_lt h.nodup fun x hx => by obtain ⟨p, _, rfl⟩ := h.subs x hx; exact bo_lt n p, Nat.le_trans (Nat.pow_le_pow_right (by omega) hn) (by decide)⟩
theorem SgL.rows {f : Nat → Nat → Nat} {L : List Nat} (h : SgL n f e L) (hn : n ≤ 24) : ∀ w ∈ sll L, w.length ≤ 60 := fun w hw => by
  obtain ⟨x, hx, rfl⟩ := List.mem_map.1 hw
  obtain ⟨p, _, rfl⟩ := h.subs x hx
  rw [stl_bo (by omega)]
  have := thl_le n p
  omega
theorem SgL.mem {f : Nat → Nat → Nat} {L : List Nat} (h : SgL n f e L) (hn : n ≤ 24) (p : Nat → Bool) : thl n p ∈ sll L ↔ bo n p ∈ L := by
  constructor
  · intro hm
    obtain ⟨x, hx, hxp⟩ := List.mem_map.1 hm
    obtain ⟨q, _, rfl⟩ := h.subs x hx
    rw [stl_bo (by omega)] at hxp
    have : bo n q = bo n p := bo_congr fun a ha => thl_inj hxp ha
    rwa [this] at hx
  · exact fun hm => List.mem_map.2 ⟨_, hm, stl_bo (by omega) p⟩
theorem SgL.put {f : Nat → Nat → Nat} {L : List Nat} (h : SgL n f e L) {p : Nat → Bool} (hp : Sub n f e p) (hin : bo n p ∉ L) : SgL n f e (L ++ [bo n p]) :=
  ⟨List.nodup_append.2 ⟨h.nodup, by simp, fun x hx y hy he => by rw [List.mem_singleton] at hy; rw [he, hy] at hx; exact hin hx⟩, fun x hx => by
    rcases List.mem_append.1 hx with hx | hx
    · exact h.subs x hx
    · rw [List.mem_singleton] at hx; exact ⟨p, hp, hx⟩⟩
theorem sll_app (L : List Nat) (p : Nat → Bool) (hn : n ≤ 60) : sll (L ++ [bo n p]) = sll L ++ [thl n p] := by simp [sll, stl_bo hn]

theorem tst_one (a z : Nat) : onp a z = tst [(a : Int)] z := by
  unfold onp tst
  rw [decide_eq_decide, List.mem_singleton]
  omega
/-- What two lists make is there. -/
def Jn (n : Nat) (f : Nat → Nat → Nat) (e : Nat) (x y : Nat) (M : List Nat) : Prop := ∀ p c : Nat → Bool, x = bo n p → y = bo n c → bo n (gn n f e (oru2 p c)) ∈ M
theorem gn_congr {f : Nat → Nat → Nat} {p q : Nat → Bool} (h : ∀ a, a < n → p a = q a) : bo n (gn n f e p) = bo n (gn n f e q) := bo_congr fun a ha => by
  rw [Bool.eq_iff_iff, gn_iff _ a ha, gn_iff _ a ha]
  exact Gen.congr h
theorem bo_eq2 {p q : Nat → Bool} (h : bo n p = bo n q) : ∀ y, y < n → p y = q y := fun y hy => by
  have := congrArg (fun x => Nat.testBit x y) h
  simpa [bo_bit, hy] using this
theorem Jn.of {f : Nat → Nat → Nat} {x y : Nat} {M : List Nat} {p c : Nat → Bool} (hx : x = bo n p) (hy : y = bo n c) (h : bo n (gn n f e (oru2 p c)) ∈ M) : Jn n f e x y M := fun p' c' h1 h2 => by
  have : bo n (gn n f e (oru2 p' c')) = bo n (gn n f e (oru2 p c)) := gn_congr fun a ha => by
    unfold oru2
    rw [bo_eq2 (h1.symm.trans hx) a ha, bo_eq2 (h2.symm.trans hy) a ha]
  rw [this]; exact h
theorem Jn.mono {f : Nat → Nat → Nat} {x y : Nat} {M M' : List Nat} (h : Jn n f e x y M) (hs : ∀ z ∈ M, z ∈ M') : Jn n f e x y M' := fun p c h1 h2 => hs _ (h p c h1 h2)
theorem getD_app {L R : List Nat} {j : Nat} (hj : j < L.length) : (L ++ R).getD j 0 = L.getD j 0 := by
  rw [List.getD_eq_getElem?_getD, List.getElem?_append_left hj, ← List.getD_eq_getElem?_getD]
theorem SgL.at {f : Nat → Nat → Nat} {L : List Nat} (h : SgL n f e L) (hn : n ≤ 60) {i : Nat} (hi : i < L.length) : ∃ p, Sub n f e p ∧ L.getD i 0 = bo n p ∧ (sll L).getD i [] = thl n p := by
  obtain ⟨p, hp, hx⟩ := h.subs _ (getD_memN hi)
  exact ⟨p, hp, hx, by rw [sll_get hi, hx, stl_bo hn]⟩
theorem tst_app (p c : Nat → Bool) {a : Nat} (ha : a < n) : tst (thl n p ++ thl n c) a = oru2 p c a := by
  unfold tst oru2
  rw [Bool.eq_iff_iff, decide_eq_true_eq, List.mem_append, mem_thl_n ha, mem_thl_n ha, Bool.or_eq_true]
theorem jn_rng (p c : Nat → Bool) : ∀ x ∈ thl n p ++ thl n c, ∃ a, a < n ∧ x = ((a : Nat) : Int) := fun x hx => by
  rcases List.mem_append.1 hx with hx | hx
  · exact thl_rng2 x hx
  · exact thl_rng2 x hx
theorem set_swp {U : List Nat} {i k : Nat} {p q : Nat → Bool} (hn : n ≤ 60) (hi : U.getD i 0 = bo n p) (hk : U.getD k 0 = bo n q) : opl (ll (sll (swp U i k))) = ((opl (ll (sll U))).set i (.p (.list (il (thl n q))))).set k (.p (.list (il (thl n p)))) := by
  unfold swp
  rw [hi, hk]
  simp only [sll, ll, opl, List.map_set, stl_bo hn]
theorem cmp_lsb {v w : List Int} (hl : v.length = w.length) (h : lsb v w = true) : cmpL v w < 0 := by
  induction v generalizing w with
  | nil => cases h
  | cons a r ih =>
    cases w with
    | nil => simp at hl
    | cons b t =>
      unfold lsb at h
      by_cases hab : a = b
      · rw [decide_eq_true hab] at h
        exact cmpL_cons_lt.2 (.inr ⟨hab, ih (by simpa using hl) h⟩)
      · rw [decide_eq_false hab] at h
        exact cmpL_cons_lt.2 (.inl (of_decide_eq_true h))
set_option maxHeartbeats 4000000 in
set_option maxRecDepth 100000 in
theorem subgroups_t (h : GT n m n e) (hn : n ≤ 24) {SL : List Nat} (hS : AllS n (op m n) e SL) : FnC Tryd.prog 20 [gp n m] (.list (ll (sll SL))) := by
  have G := h.2.2
  have hb := h.2.1.big
  have h24 : 2 ^ n ≤ 16777216 := Nat.le_trans (Nat.pow_le_pow_right (by omega) hn) (by decide)
  refine fnc_of tab_ok Tryd.func20 rfl (by kernel_rfl) (by rw [Tryd.ntmps20]; exact Nat.le_add_left 1 _) ?_; rw [Tryd.ntmps20]
  refine qm ?_
  refine hk_region fun K hK => runs_eval tab_ok ?_
  simp only [ev0, evA, evB, evP, fl, gp, tab, simprocAttr, reduceCtorEq, reduceIte]
  refine fin_run ?_ (hK _ ?_) <;> clear hK <;> clear K
  · (first | exact trivial | omega | (simp only [In64] at *; omega) | (simp [In64] at *; omega) | (simp_all; done) | skip)
  refine qa (qm ?_)
  refine hk_region fun K hK => runs_eval tab_ok ?_
  simp only [ev0, evA, evB, evP, fl, gp, tab, simprocAttr, reduceCtorEq, reduceIte]
  refine fin_run ?_ (hK _ ?_) <;> clear hK <;> clear K
  · (first | exact trivial | omega | (simp only [In64] at *; omega) | (simp [In64] at *; omega) | (simp_all; done) | skip)
  refine qa (qm ?_)
  refine hk_own0c 1 0 rfl rfl ?_
  simp only [hset, List.cons_append, List.nil_append, List.set, List.length_cons, List.length_nil]
  refine hk_region fun K hK => runs_eval tab_ok ?_
  simp only [ev0, evA, evB, evP, fl, gp, tab, simprocAttr, reduceCtorEq, reduceIte]
  refine fin_stop ?_ (runs_op (mkCl_does rfl rfl) rfl (by simp only [dstOk, Nat.reduceLT]) (runs_eval tab_ok ?_))
  · (first | exact trivial | omega | (simp only [In64] at *; omega) | (simp [In64] at *; omega) | (simp_all; done) | skip)
  simp only [ev0, evA, evB, evP, fl, gp, tab, simprocAttr, reduceCtorEq, reduceIte]
  refine fin_run ?_ (hK _ ?_) <;> clear hK <;> clear K
  · (first | exact trivial | omega | (simp only [In64] at *; omega) | (simp [In64] at *; omega) | (simp_all; done) | skip)
  refine qa (qm (qm ?_))
  refine hk_region fun K hK => runs_eval tab_ok ?_
  simp only [ev0, evA, evB, evP, fl, gp, tab, simprocAttr, reduceCtorEq, reduceIte]
  refine fin_run trivial (hK _ ?_) <;> clear hK <;> clear K
  refine qa (ql ?_)
  refine hk_loop (ι := Nat × List Nat) (fun p => ⟨125, [(1, .ptr 0 0), (3, .ptr 1 0), (4, .cl 76 [.ptr 1 0]), (5, .p (.int .i64 p.1))], [.own [.p (.int .i64 n), .p (.list (il m))], .own [.sl 2 0 (sll p.2).length], .own (opl (ll (sll p.2)))]⟩) (fun p => p.1 ≤ n ∧ SgL n (op m n) e p.2 ∧ ∀ b, b < p.1 → bo n (cyg n (op m n) e b) ∈ p.2) (fun p => n - p.1) (0, []) ⟨Nat.zero_le _, ⟨List.nodup_nil, by simp⟩, fun b hb => absurd hb (Nat.not_lt_zero _)⟩ [0, 1, 2] (by simp only [leq, leA, ev0, evA, evB, evP, fl, gp, tab, simprocAttr, reduceCtorEq, reduceIte] <;> first | trivial | simp [sll, ll, opl]) fun p hp => ?_
  obtain ⟨a, L⟩ := p
  obtain ⟨ha, hI, hD⟩ := hp
  simp only at ha hI hD
  have hlen := hI.len hn
  have hsl := sll_len L
  refine qm (qm ?_)
  refine hk_region fun K hK => runs_eval tab_ok ?_
  simp only [ev0, evA, evB, evP, fl, gp, tab, simprocAttr, reduceCtorEq, reduceIte]
  refine fin_run ?_ (hK _ ?_) <;> clear hK <;> clear K
  · (first | exact trivial | omega | (simp only [In64] at *; omega) | (simp [In64] at *; omega) | (simp_all; done) | skip)
  refine qa ?_
  refine hk_cond rfl (fun hC1 => ?_) (fun hC1 => ?_)
  · (try simp only [nhs] at hC1)
    have hal : a < n := by omega
    have hcs := cyg_sub G a
    have hlc := thl_le n (cyg n (op m n) e a)
    refine qh (qa (qm (ql ?_)))
    by_cases hin : bo n (cyg n (op m n) e a) ∈ L
    · refine hk_region fun K hK => runs_eval tab_ok ?_
      simp only [ev0, evA, evB, evP, fl, gp, tab, simprocAttr, reduceCtorEq, reduceIte]
      refine fin_stop ?_ (runs_call (FnC.sub (args' := [gp n m, .nn (il [(a : Int)])]) (span_c h [(a : Int)] (by simp) (fun x hx => ⟨a, hal, by simpa using hx⟩) (cyg n (op m n) e a) (fun y hy => by rw [cyg_iff y hy]; exact Gen.congr fun z _ => tst_one a z)) (And.intro (.same _) (And.intro (.nn _) trivial))) rfl rfl rfl (by simp only [dstOk, Nat.reduceLT]) (by repeat (first | exact trivial | constructor)) (runs_eval tab_ok ?_))
      · (first | exact trivial | omega | (simp only [In64] at *; omega) | (simp [In64] at *; omega) | (simp_all; done) | skip)
      simp only [ev0, evA, evB, evP, fl, gp, tab, simprocAttr, reduceCtorEq, reduceIte]
      refine fin_stop ?_ (runs_callMc [1, 2] (add_in (sll L) (thl n (cyg n (op m n) e a)) (by omega) (hI.rows hn) ((hI.mem hn _).2 hin)) rfl rfl ?_ (by simp only [leA, ev0, evA, evB, evP, fl, gp, tab, simprocAttr, reduceCtorEq, reduceIte]; first | trivial | (simp only [ll_takeL]; first | trivial | (repeat constructor; done)) | (repeat constructor)) (by decide) (by first | rfl | (simp only [List.length_cons, List.length_nil, List.length_append]; decide)) (by first | rfl | (simp only [scM, opl_sc, List.all_cons, List.all_nil, List.length_cons, List.length_nil]; first | rfl | decide) | (simp [scM, scA, sc1, mpKeep, notAnc]; done)) (by simp only [dstOk, Nat.reduceLT]) (runs_eval tab_ok ?_))
      · (first | exact trivial | omega | (simp only [In64] at *; omega) | (simp [In64] at *; omega) | (simp_all; done) | skip)
      · (simp only [argsM, argM1, peekG, peekS, scA, sc1, ren, ren1, List.map_cons, List.map_nil, List.append_nil, List.cons_append, List.nil_append, enA, ev0, evA, evB, evP, fl, gp, tab, simprocAttr, reduceCtorEq, reduceIte]; try trivial)
      simp only [putM, hset, List.range', Blk.ren, ren, ren1, List.map_cons, List.map_nil, List.cons_append, List.nil_append, List.append_nil, List.length_cons, List.length_nil, ev0, evA, evB, evP, fl, gp, tab, simprocAttr, reduceCtorEq, reduceIte]
      refine fin_run ?_ (hK _ ?_) <;> clear hK <;> clear K
      · (first | exact trivial | omega | (simp only [In64] at *; omega) | (simp [In64] at *; omega) | (simp_all; done) | skip)
      refine qd (qa ?_)
      refine hk_region fun K hK => runs_eval tab_ok ?_
      simp only [ev0, evA, evB, evP, fl, gp, tab, simprocAttr, reduceCtorEq, reduceIte]
      refine fin_run ?_ (hK _ ?_) <;> clear hK <;> clear K
      · (first | exact trivial | omega | (simp only [In64] at *; omega) | (simp [In64] at *; omega) | (simp_all; done) | skip)
      refine qa ?_
      refine ⟨(a + 1, L), [0, 1, 2], ⟨show a + 1 ≤ n by omega, hI, fun b hb2 => ?_⟩, show n - (a + 1) < n - a by omega, ?_⟩
      · by_cases hba : b = a
        · rw [hba]; exact hin
        · exact hD b (by have : b < a + 1 := hb2
                         omega)
      · simp only [leq, leA, ev0, evA, evB, evP, fl, gp, tab, simprocAttr, reduceCtorEq, reduceIte, ll_takeL] <;> first | trivial | omega
    · refine hk_region fun K hK => runs_eval tab_ok ?_
      simp only [ev0, evA, evB, evP, fl, gp, tab, simprocAttr, reduceCtorEq, reduceIte]
      refine fin_stop ?_ (runs_call (FnC.sub (args' := [gp n m, .nn (il [(a : Int)])]) (span_c h [(a : Int)] (by simp) (fun x hx => ⟨a, hal, by simpa using hx⟩) (cyg n (op m n) e a) (fun y hy => by rw [cyg_iff y hy]; exact Gen.congr fun z _ => tst_one a z)) (And.intro (.same _) (And.intro (.nn _) trivial))) rfl rfl rfl (by simp only [dstOk, Nat.reduceLT]) (by repeat (first | exact trivial | constructor)) (runs_eval tab_ok ?_))
      · (first | exact trivial | omega | (simp only [In64] at *; omega) | (simp [In64] at *; omega) | (simp_all; done) | skip)
      simp only [ev0, evA, evB, evP, fl, gp, tab, simprocAttr, reduceCtorEq, reduceIte]
      refine fin_stop ?_ (runs_callMc [1, 2] (add_new (sll L) (thl n (cyg n (op m n) e a)) (by omega) (hI.rows hn) (fun hh => hin ((hI.mem hn _).1 hh))) rfl rfl ?_ (by simp only [leA, ev0, evA, evB, evP, fl, gp, tab, simprocAttr, reduceCtorEq, reduceIte]; first | trivial | (simp only [ll_takeL]; first | trivial | (repeat constructor; done)) | (repeat constructor)) (by decide) (by first | rfl | (simp only [List.length_cons, List.length_nil, List.length_append]; decide)) (by first | rfl | (simp only [scM, opl_sc, List.all_cons, List.all_nil, List.length_cons, List.length_nil]; first | rfl | decide) | (simp [scM, scA, sc1, mpKeep, notAnc]; done)) (by simp only [dstOk, Nat.reduceLT]) (runs_eval tab_ok ?_))
      · (first | exact trivial | omega | (simp only [In64] at *; omega) | (simp [In64] at *; omega) | (simp_all; done) | skip)
      · (simp only [argsM, argM1, peekG, peekS, scA, sc1, ren, ren1, List.map_cons, List.map_nil, List.append_nil, List.cons_append, List.nil_append, enA, ev0, evA, evB, evP, fl, gp, tab, simprocAttr, reduceCtorEq, reduceIte]; try trivial)
      simp only [putM, hset, List.range', Blk.ren, ren, ren1, List.map_cons, List.map_nil, List.cons_append, List.nil_append, List.append_nil, List.length_cons, List.length_nil, ev0, evA, evB, evP, fl, gp, tab, simprocAttr, reduceCtorEq, reduceIte]
      refine fin_run ?_ (hK _ ?_) <;> clear hK <;> clear K
      · (first | exact trivial | omega | (simp only [In64] at *; omega) | (simp [In64] at *; omega) | (simp_all; done) | skip)
      refine qd (qa ?_)
      refine hk_region fun K hK => runs_eval tab_ok ?_
      simp only [ev0, evA, evB, evP, fl, gp, tab, simprocAttr, reduceCtorEq, reduceIte]
      refine fin_run ?_ (hK _ ?_) <;> clear hK <;> clear K
      · (first | exact trivial | omega | (simp only [In64] at *; omega) | (simp [In64] at *; omega) | (simp_all; done) | skip)
      refine qa ?_
      refine ⟨(a + 1, L ++ [bo n (cyg n (op m n) e a)]), [0, 1, 3], ⟨show a + 1 ≤ n by omega, hI.put hcs hin, fun b hb2 => ?_⟩, show n - (a + 1) < n - a by omega, ?_⟩
      · by_cases hba : b = a
        · rw [hba]; simp
        · exact List.mem_append_left _ (hD b (by have : b < a + 1 := hb2
                                                 omega))
      · rw [sll_app L _ hb]
        simp only [leq, leA, ev0, evA, evB, evP, fl, gp, tab, simprocAttr, reduceCtorEq, reduceIte, ll_takeL, ll_snoc, ll_takeS] <;> first | trivial | omega | (simp; done)
  · (try simp only [nhs] at hC1)
    have han : a = n := by omega
    subst han
    refine qj (qc (qc (qf (qa (qm ?_)))))
    refine hk_region fun K hK => runs_eval tab_ok ?_
    simp only [ev0, evA, evB, evP, fl, gp, tab, simprocAttr, reduceCtorEq, reduceIte]
    refine fin_run ?_ (hK _ ?_) <;> clear hK <;> clear K
    · (first | exact trivial | omega | (simp only [In64] at *; omega) | (simp [In64] at *; omega) | (simp_all; done) | skip)
    refine qa (qm (qm ?_))
    refine hk_region fun K hK => runs_eval tab_ok ?_
    simp only [ev0, evA, evB, evP, fl, gp, tab, simprocAttr, reduceCtorEq, reduceIte]
    refine fin_run trivial (hK _ ?_) <;> clear hK <;> clear K
    refine qa (ql ?_)
    refine hk_loop (ι := Nat × List Nat) (fun p => ⟨125, [(1, .ptr 0 0), (3, .ptr 1 0), (4, .cl 76 [.ptr 1 0]), (6, .p (.int .i64 (sll L).length)), (7, .p (.int .i64 p.1))], [.own [.p (.int .i64 a), .p (.list (il m))], .own [.sl 2 0 (sll p.2).length], .own (opl (ll (sll p.2)))]⟩) (fun p => p.1 ≤ p.2.length ∧ SgL a (op m a) e p.2 ∧ (∃ R, p.2 = L ++ R) ∧ ∀ j, j < p.1 → ∀ k, k < L.length → Jn a (op m a) e (p.2.getD j 0) (L.getD k 0) p.2) (fun p => 2 ^ a - p.1) (0, L) ⟨Nat.zero_le _, hI, ⟨[], by simp⟩, fun j hj => absurd hj (Nat.not_lt_zero _)⟩ [0, 1, 2] (by simp only [leq, leA, ev0, evA, evB, evP, fl, gp, tab, simprocAttr, reduceCtorEq, reduceIte, ll_takeL] <;> first | trivial | omega) fun p hp => ?_
    obtain ⟨i, M⟩ := p
    obtain ⟨hi, hM, ⟨R, hR⟩, hJ⟩ := hp
    simp only at hi hM hR hJ
    have hMlen := hM.len hn
    have hMl := sll_len M
    refine qm (qm ?_)
    refine hk_region fun K hK => runs_eval tab_ok ?_
    simp only [ev0, evA, evB, evP, fl, gp, tab, simprocAttr, reduceCtorEq, reduceIte]
    refine fin_run ?_ (hK _ ?_) <;> clear hK <;> clear K
    · (first | exact trivial | omega | (simp only [In64] at *; omega) | (simp [In64] at *; omega) | (simp_all; done) | skip)
    refine qa ?_
    refine hk_cond rfl (fun hC2 => ?_) (fun hC2 => ?_)
    · (try simp only [nhs] at hC2)
      have hil : i < M.length := by omega
      refine qh (qa (qm (ql (qm ?_))))
      refine hk_region fun K hK => runs_eval tab_ok ?_
      simp only [ev0, evA, evB, evP, fl, gp, tab, simprocAttr, reduceCtorEq, reduceIte]
      refine fin_run trivial (hK _ ?_) <;> clear hK <;> clear K
      refine qa (ql ?_)
      refine hk_loop (ι := Nat × List Nat) (fun p => ⟨125, [(1, .ptr 0 0), (3, .ptr 1 0), (4, .cl 76 [.ptr 1 0]), (6, .p (.int .i64 (sll L).length)), (7, .p (.int .i64 i)), (8, .p (.int .i64 p.1))], [.own [.p (.int .i64 a), .p (.list (il m))], .own [.sl 2 0 (sll p.2).length], .own (opl (ll (sll p.2)))]⟩) (fun p => p.1 ≤ L.length ∧ i < p.2.length ∧ SgL a (op m a) e p.2 ∧ (∃ R, p.2 = L ++ R) ∧ (∀ j, j < i → ∀ k, k < L.length → Jn a (op m a) e (p.2.getD j 0) (L.getD k 0) p.2) ∧ ∀ k, k < p.1 → Jn a (op m a) e (p.2.getD i 0) (L.getD k 0) p.2) (fun p => L.length - p.1) (0, M) ⟨Nat.zero_le _, hil, hM, ⟨R, hR⟩, hJ, fun k hk => absurd hk (Nat.not_lt_zero _)⟩ [0, 1, 2] (by simp only [leq, leA, ev0, evA, evB, evP, fl, gp, tab, simprocAttr, reduceCtorEq, reduceIte, ll_takeL] <;> first | trivial | omega) fun p hp => ?_
      obtain ⟨k, W⟩ := p
      obtain ⟨hk, hiW, hW, ⟨RW, hRW⟩, hJW, hJk⟩ := hp
      simp only at hk hiW hW hRW hJW hJk
      have hWlen := hW.len hn
      have hWl := sll_len W
      refine qm (qm ?_)
      refine hk_region fun K hK => runs_eval tab_ok ?_
      simp only [ev0, evA, evB, evP, fl, gp, tab, simprocAttr, reduceCtorEq, reduceIte]
      refine fin_run trivial (hK _ ?_) <;> clear hK <;> clear K
      refine qa ?_
      refine hk_cond rfl (fun hC3 => ?_) (fun hC3 => ?_)
      · (try simp only [nhs] at hC3)
        have hkl : k < L.length := by omega
        have hkW : k < W.length := by rw [hRW, List.length_append]; omega
        obtain ⟨pi, hpi, hvi, hri⟩ := hW.at hb hiW
        obtain ⟨pk, hpk, hvk, hrk⟩ := hW.at hb hkW
        have hvL : L.getD k 0 = bo a pk := by rw [← hvk, hRW, getD_app hkl]
        have hgi := fun d => oll_get (ls := sll W) (i := i) (by omega) d
        have hgk := fun d => oll_get (ls := sll W) (i := k) (by omega) d
        rw [hri] at hgi
        rw [hrk] at hgk
        have hli := thl_le a pi
        have hlk := thl_le a pk
        refine qh (qa (qm (ql (qm ?_))))
        refine hk_draw mixed (by kernel_rfl) fun K hK => runs_eval tab_ok ?_
        simp only [ev0, evA, evB, evP, fl, gp, tab, simprocAttr, reduceCtorEq, reduceIte, hgi, hgk, ll_length]
        refine fin_stop ?_ (runs_call (parted_r a pk pi hb (decide (∀ y, y < a → pk y = true → pi y = true)) decide_eq_true_iff) rfl rfl rfl (by simp only [dstOk, Nat.reduceLT]) (by repeat (first | exact trivial | constructor)) (runs_eval tab_ok ?_))
        · (first | exact trivial | omega | (simp only [In64] at *; omega) | (simp [In64] at *; omega) | (simp_all; done) | skip)
        simp only [ev0, evA, evB, evP, fl, gp, tab, simprocAttr, reduceCtorEq, reduceIte, hgi, hgk, ll_length]
        refine fin_run ?_ (hK _ ?_) <;> clear hK <;> clear K
        · (first | exact trivial | omega | (simp only [In64] at *; omega) | (simp [In64] at *; omega) | (simp_all; done) | skip)
        refine qa ?_
        refine hk_cond rfl (fun hC4 => ?_) (fun hC4 => ?_)
        · (try simp only [nhs] at hC4)
          by_cases hin : bo a (gn a (op m a) e (oru2 pi pk)) ∈ W
          · have hrng := jn_rng (n := a) pi pk
            refine hk_draw2L 13 mixed (by kernel_rfl) fun K hK K2 hK2 => runs2_eval tab_ok ?_
            simp only [List.take_succ_cons, List.take_zero, List.drop_succ_cons, List.drop_zero]
            simp only [evD, ev0, evA, evB, evP, fl, gp, tab, simprocAttr, reduceCtorEq, reduceIte, hgi, hgk, ll_length, il_length]
            refine fin2_stop ?_ (runs2_appendNil tab_ok rfl rfl rfl ⟨rfl, rfl⟩ rfl rfl rfl (by simp only [dstOk, Nat.reduceLT]) (il_all _) ?_ (runs2_eval tab_ok ?_))
            · (first | exact trivial | omega | (simp only [In64] at *; omega) | (simp [In64] at *; omega) | (simp_all; done) | skip)
            · refine ⟨?_, ?_⟩
              · rw [il_length]; show _ * 8 ≤ _; omega
              · rw [il_length]; omega
            simp only [evD, ev0, evA, evB, evP, fl, gp, tab, simprocAttr, reduceCtorEq, reduceIte, hgi, hgk, ll_length, il_length]
            refine fin2_stop ?_ (runs2_callK 4 (span_c h (thl a pi ++ thl a pk) (by rw [List.length_append]; omega) hrng (gn a (op m a) e (oru2 pi pk)) (fun y hy => by rw [gn_iff _ y hy]; exact Gen.congr fun z hz => (tst_app pi pk hz).symm)) rfl rfl (by rw [ol_opl, opl_append, il_append]; exact opl_allP _) (by simp only [callA, List.map_cons, List.map_nil, enA, ev0, evA, evB, evP, fl, gp, tab, simprocAttr, reduceCtorEq, reduceIte, List.drop_zero, il_append, il_take, take_app2, il_length, il_all]; rfl) rfl (by simp only [dstOk, Nat.reduceLT]) (by repeat (first | exact trivial | (simp [il_length, List.length_append]; done) | constructor)) (runs2_eval tab_ok ?_))
            · refine ⟨⟨⟨by omega, by omega⟩, by omega⟩, opl_ok (il_all _), Nat.le_refl _, by omega, by omega⟩
            (try simp only [evD, ev0, evA, evB, evP, fl, gp, tab, simprocAttr, reduceCtorEq, reduceIte, hgi, hgk, ll_length, il_length])
            refine fin2_run ?_ (hK2 _ _ (by first | kernel_rfl | rfl) ?_) <;> clear hK2 <;> clear K2
            · (first | exact trivial | omega | (simp only [In64] at *; omega) | (simp [In64] at *; omega) | (simp_all; done) | skip)
            simp only [List.take_succ_cons, List.take_zero, List.drop_succ_cons, List.drop_zero]
            refine runs_eval tab_ok ?_
            (try simp only [ev0, evA, evB, evP, fl, gp, tab, simprocAttr, reduceCtorEq, reduceIte])
            refine fin_stop ?_ (runs_callMc [1, 2] (add_in (sll W) (thl a (gn a (op m a) e (oru2 pi pk))) (by omega) (hW.rows hn) ((hW.mem hn _).2 hin)) rfl rfl ?_ (by simp only [leA, ev0, evA, evB, evP, fl, gp, tab, simprocAttr, reduceCtorEq, reduceIte]; first | trivial | (simp only [ll_takeL]; first | trivial | (repeat constructor; done)) | (repeat constructor)) (by decide) (by first | rfl | (simp only [List.length_cons, List.length_nil, List.length_append]; decide)) (by first | rfl | (simp only [scM, opl_sc, List.all_cons, List.all_nil, List.length_cons, List.length_nil]; first | rfl | decide) | (simp [scM, scA, sc1, mpKeep, notAnc]; done)) (by simp only [dstOk, Nat.reduceLT]) (runs_eval tab_ok ?_))
            · (first | exact trivial | omega | (simp only [In64] at *; omega) | (simp [In64] at *; omega) | (simp_all; done) | skip)
            · (simp only [argsM, argM1, peekG, peekS, scA, sc1, ren, ren1, List.map_cons, List.map_nil, List.append_nil, List.cons_append, List.nil_append, enA, ev0, evA, evB, evP, fl, gp, tab, simprocAttr, reduceCtorEq, reduceIte]; try trivial)
            simp only [putM, hset, List.range', Blk.ren, ren, ren1, List.map_cons, List.map_nil, List.cons_append, List.nil_append, List.append_nil, List.length_cons, List.length_nil, ev0, evA, evB, evP, fl, gp, tab, simprocAttr, reduceCtorEq, reduceIte]
            refine fin_run ?_ (hK _ ?_) <;> clear hK <;> clear K
            · (first | exact trivial | omega | (simp only [In64] at *; omega) | (simp [In64] at *; omega) | (simp_all; done) | skip)
            refine qd (qa ?_)
            refine hk_region fun K hK => runs_eval tab_ok ?_
            simp only [ev0, evA, evB, evP, fl, gp, tab, simprocAttr, reduceCtorEq, reduceIte]
            refine fin_run ?_ (hK _ ?_) <;> clear hK <;> clear K
            · (first | exact trivial | omega | (simp only [In64] at *; omega) | (simp [In64] at *; omega) | (simp_all; done) | skip)
            refine qa ?_
            refine ⟨(k + 1, W), [0, 1, 2], ⟨show k + 1 ≤ L.length by omega, hiW, hW, ⟨RW, hRW⟩, hJW, fun k' hk' => ?_⟩, show L.length - (k + 1) < L.length - k by omega, ?_⟩
            · by_cases hkk : k' = k
              · rw [hkk]; exact Jn.of hvi hvL hin
              · exact hJk k' (by have : k' < k + 1 := hk'
                                 omega)
            · simp only [leq, leA, ev0, evA, evB, evP, fl, gp, tab, simprocAttr, reduceCtorEq, reduceIte, ll_takeL] <;> first | trivial | omega
          · have hrng := jn_rng (n := a) pi pk
            refine hk_draw2L 13 mixed (by kernel_rfl) fun K hK K2 hK2 => runs2_eval tab_ok ?_
            simp only [List.take_succ_cons, List.take_zero, List.drop_succ_cons, List.drop_zero]
            simp only [evD, ev0, evA, evB, evP, fl, gp, tab, simprocAttr, reduceCtorEq, reduceIte, hgi, hgk, ll_length, il_length]
            refine fin2_stop ?_ (runs2_appendNil tab_ok rfl rfl rfl ⟨rfl, rfl⟩ rfl rfl rfl (by simp only [dstOk, Nat.reduceLT]) (il_all _) ?_ (runs2_eval tab_ok ?_))
            · (first | exact trivial | omega | (simp only [In64] at *; omega) | (simp [In64] at *; omega) | (simp_all; done) | skip)
            · refine ⟨?_, ?_⟩
              · rw [il_length]; show _ * 8 ≤ _; omega
              · rw [il_length]; omega
            simp only [evD, ev0, evA, evB, evP, fl, gp, tab, simprocAttr, reduceCtorEq, reduceIte, hgi, hgk, ll_length, il_length]
            refine fin2_stop ?_ (runs2_callK 4 (span_c h (thl a pi ++ thl a pk) (by rw [List.length_append]; omega) hrng (gn a (op m a) e (oru2 pi pk)) (fun y hy => by rw [gn_iff _ y hy]; exact Gen.congr fun z hz => (tst_app pi pk hz).symm)) rfl rfl (by rw [ol_opl, opl_append, il_append]; exact opl_allP _) (by simp only [callA, List.map_cons, List.map_nil, enA, ev0, evA, evB, evP, fl, gp, tab, simprocAttr, reduceCtorEq, reduceIte, List.drop_zero, il_append, il_take, take_app2, il_length, il_all]; rfl) rfl (by simp only [dstOk, Nat.reduceLT]) (by repeat (first | exact trivial | (simp [il_length, List.length_append]; done) | constructor)) (runs2_eval tab_ok ?_))
            · refine ⟨⟨⟨by omega, by omega⟩, by omega⟩, opl_ok (il_all _), Nat.le_refl _, by omega, by omega⟩
            (try simp only [evD, ev0, evA, evB, evP, fl, gp, tab, simprocAttr, reduceCtorEq, reduceIte, hgi, hgk, ll_length, il_length])
            refine fin2_run ?_ (hK2 _ _ (by first | kernel_rfl | rfl) ?_) <;> clear hK2 <;> clear K2
            · (first | exact trivial | omega | (simp only [In64] at *; omega) | (simp [In64] at *; omega) | (simp_all; done) | skip)
            simp only [List.take_succ_cons, List.take_zero, List.drop_succ_cons, List.drop_zero]
            refine runs_eval tab_ok ?_
            (try simp only [ev0, evA, evB, evP, fl, gp, tab, simprocAttr, reduceCtorEq, reduceIte])
            refine fin_stop ?_ (runs_callMc [1, 2] (add_new (sll W) (thl a (gn a (op m a) e (oru2 pi pk))) (by omega) (hW.rows hn) (fun hh => hin ((hW.mem hn _).1 hh))) rfl rfl ?_ (by simp only [leA, ev0, evA, evB, evP, fl, gp, tab, simprocAttr, reduceCtorEq, reduceIte]; first | trivial | (simp only [ll_takeL]; first | trivial | (repeat constructor; done)) | (repeat constructor)) (by decide) (by first | rfl | (simp only [List.length_cons, List.length_nil, List.length_append]; decide)) (by first | rfl | (simp only [scM, opl_sc, List.all_cons, List.all_nil, List.length_cons, List.length_nil]; first | rfl | decide) | (simp [scM, scA, sc1, mpKeep, notAnc]; done)) (by simp only [dstOk, Nat.reduceLT]) (runs_eval tab_ok ?_))
            · (first | exact trivial | omega | (simp only [In64] at *; omega) | (simp [In64] at *; omega) | (simp_all; done) | skip)
            · (simp only [argsM, argM1, peekG, peekS, scA, sc1, ren, ren1, List.map_cons, List.map_nil, List.append_nil, List.cons_append, List.nil_append, enA, ev0, evA, evB, evP, fl, gp, tab, simprocAttr, reduceCtorEq, reduceIte]; try trivial)
            simp only [putM, hset, List.range', Blk.ren, ren, ren1, List.map_cons, List.map_nil, List.cons_append, List.nil_append, List.append_nil, List.length_cons, List.length_nil, ev0, evA, evB, evP, fl, gp, tab, simprocAttr, reduceCtorEq, reduceIte]
            refine fin_run ?_ (hK _ ?_) <;> clear hK <;> clear K
            · (first | exact trivial | omega | (simp only [In64] at *; omega) | (simp [In64] at *; omega) | (simp_all; done) | skip)
            refine qd (qa ?_)
            refine hk_region fun K hK => runs_eval tab_ok ?_
            simp only [ev0, evA, evB, evP, fl, gp, tab, simprocAttr, reduceCtorEq, reduceIte]
            refine fin_run ?_ (hK _ ?_) <;> clear hK <;> clear K
            · (first | exact trivial | omega | (simp only [In64] at *; omega) | (simp [In64] at *; omega) | (simp_all; done) | skip)
            refine qa ?_
            have hsub : ∀ z ∈ W, z ∈ W ++ [bo a (gn a (op m a) e (oru2 pi pk))] := fun z hz => List.mem_append_left _ hz
            refine ⟨(k + 1, W ++ [bo a (gn a (op m a) e (oru2 pi pk))]), [0, 1, 5], ⟨show k + 1 ≤ L.length by omega, show i < (W ++ [bo a (gn a (op m a) e (oru2 pi pk))]).length by rw [List.length_append]; omega, hW.put (gen_sub G (gn_iff _)) hin, ⟨RW ++ [bo a (gn a (op m a) e (oru2 pi pk))], by rw [show (k + 1, W ++ [bo a (gn a (op m a) e (oru2 pi pk))]).2 = W ++ [bo a (gn a (op m a) e (oru2 pi pk))] from rfl]; conv => { lhs; rw [hRW] }; rw [List.append_assoc]⟩, fun j hj k' hk' => ?_, fun k' hk' => ?_⟩, show L.length - (k + 1) < L.length - k by omega, ?_⟩
            · show Jn a (op m a) e ((W ++ [_]).getD j 0) _ _
              rw [getD_snoc (by omega)]
              exact (hJW j hj k' hk').mono hsub
            · show Jn a (op m a) e ((W ++ [_]).getD i 0) _ _
              rw [getD_snoc hiW]
              by_cases hkk : k' = k
              · rw [hkk]; exact Jn.of hvi hvL (by simp)
              · exact (hJk k' (by have : k' < k + 1 := hk'
                                  omega)).mono hsub
            · rw [show sll (k + 1, W ++ [bo a (gn a (op m a) e (oru2 pi pk))]).2 = sll W ++ [thl a (gn a (op m a) e (oru2 pi pk))] from sll_app W _ hb]
              simp only [leq, leA, ev0, evA, evB, evP, fl, gp, tab, simprocAttr, reduceCtorEq, reduceIte, ll_takeL, ll_snoc, ll_takeS] <;> first | trivial | omega | (simp; done)
        · (try simp only [nhs] at hC4)
          refine qh (qd (qa ?_))
          refine hk_region fun K hK => runs_eval tab_ok ?_
          simp only [ev0, evA, evB, evP, fl, gp, tab, simprocAttr, reduceCtorEq, reduceIte]
          refine fin_run ?_ (hK _ ?_) <;> clear hK <;> clear K
          · (first | exact trivial | omega | (simp only [In64] at *; omega) | (simp [In64] at *; omega) | (simp_all; done) | skip)
          refine qa ?_
          refine ⟨(k + 1, W), [0, 1, 2], ⟨show k + 1 ≤ L.length by omega, hiW, hW, ⟨RW, hRW⟩, hJW, fun k' hk' => ?_⟩, show L.length - (k + 1) < L.length - k by omega, ?_⟩
          · by_cases hkk : k' = k
            · rw [hkk]
              refine Jn.of hvi hvL ?_
              rw [join_in G hpi hC4, ← hvi]
              exact getD_memN hiW
            · exact hJk k' (by have : k' < k + 1 := hk'
                               omega)
          · simp only [leq, leA, ev0, evA, evB, evP, fl, gp, tab, simprocAttr, reduceCtorEq, reduceIte, ll_takeL] <;> first | trivial | omega
      · (try simp only [nhs] at hC3)
        have hkn : k = L.length := by omega
        refine qj (qc (qc (qf (qd (qa ?_)))))
        refine hk_region fun K hK => runs_eval tab_ok ?_
        simp only [ev0, evA, evB, evP, fl, gp, tab, simprocAttr, reduceCtorEq, reduceIte]
        refine fin_run ?_ (hK _ ?_) <;> clear hK <;> clear K
        · (first | exact trivial | omega | (simp only [In64] at *; omega) | (simp [In64] at *; omega) | (simp_all; done) | skip)
        refine qa ?_
        refine ⟨(i + 1, W), [0, 1, 2], ⟨show i + 1 ≤ W.length by omega, hW, ⟨RW, hRW⟩, fun j hj k' hk' => ?_⟩, show 2 ^ a - (i + 1) < 2 ^ a - i by omega, ?_⟩
        · by_cases hji : j = i
          · rw [hji]; exact hJk k' (by omega)
          · exact hJW j (by have : j < i + 1 := hj
                            omega) k' hk'
        · simp only [leq, leA, ev0, evA, evB, evP, fl, gp, tab, simprocAttr, reduceCtorEq, reduceIte, ll_takeL] <;> first | trivial | omega
    · (try simp only [nhs] at hC2)
      have hin : i = M.length := by omega
      have hall : AllI a (op m a) e M := ⟨hM.nodup, hM.subs, by
        rw [← bo_congr (cyg_one G), hR]
        exact List.mem_append_left _ (hD e G.el)⟩
      have hperm := hS.perm G hall fun x hx b hbl => by
        obtain ⟨j, hj, rfl⟩ := mem_getDN hx
        obtain ⟨p, hp, hxp⟩ := hM.subs _ (getD_memN hj)
        obtain ⟨k, hk, hkb⟩ := mem_getDN (hD b hbl)
        exact join_dn G hbl hxp (hJ j (by omega) k hk p _ hxp hkb)
      refine qj (qc (qc (qf (qa (qm (qm ?_))))))
      refine hk_region fun K hK => runs_eval tab_ok ?_
      simp only [ev0, evA, evB, evP, fl, gp, tab, simprocAttr, reduceCtorEq, reduceIte]
      refine fin_run trivial (hK _ ?_) <;> clear hK <;> clear K
      refine qa (ql ?_)
      refine hk_loop (ι := Nat × List Nat) (fun p => ⟨125, [(3, .ptr 0 0), (9, .p (.int .i64 p.1))], [.own [.sl 1 0 (sll p.2).length], .own (opl (ll (sll p.2)))]⟩) (fun p => p.1 ≤ p.2.length ∧ p.2.Perm SL ∧ OrdI p.1 (p.1 + 1) p.2) (fun p => p.2.length - p.1) (0, M) ⟨Nat.zero_le _, hperm, ⟨fun a b h1 => absurd h1 (Nat.not_lt_zero _), fun b h1 h2 => by have : b < 0 + 1 := h2; omega⟩⟩ [1, 2] (by simp only [leq, leA, ev0, evA, evB, evP, fl, gp, tab, simprocAttr, reduceCtorEq, reduceIte, ll_takeL] <;> first | trivial | omega) fun p hp => ?_
      obtain ⟨i2, V⟩ := p
      obtain ⟨hi2, hVp, hVo⟩ := hp
      simp only at hi2 hVp hVo
      have hVl := sll_len V
      have hVs : SgL a (op m a) e V := ⟨hVp.symm.nodup hS.nodup, fun x hx => hS.subs x (hVp.subset hx)⟩
      have hVlen := hVs.len hn
      refine qm (qm ?_)
      refine hk_region fun K hK => runs_eval tab_ok ?_
      simp only [ev0, evA, evB, evP, fl, gp, tab, simprocAttr, reduceCtorEq, reduceIte]
      refine fin_run ?_ (hK _ ?_) <;> clear hK <;> clear K
      · (first | exact trivial | omega | (simp only [In64] at *; omega) | (simp [In64] at *; omega) | (simp_all; done) | skip)
      refine qa ?_
      refine hk_cond rfl (fun hC5 => ?_) (fun hC5 => ?_)
      · (try simp only [nhs] at hC5)
        have hil2 : i2 < V.length := by omega
        refine qh (qa (qm (ql (qm ?_))))
        refine hk_region fun K hK => runs_eval tab_ok ?_
        simp only [ev0, evA, evB, evP, fl, gp, tab, simprocAttr, reduceCtorEq, reduceIte]
        refine fin_run ?_ (hK _ ?_) <;> clear hK <;> clear K
        · (first | exact trivial | omega | (simp only [In64] at *; omega) | (simp [In64] at *; omega) | (simp_all; done) | skip)
        refine qa (ql ?_)
        refine hk_loop (ι := Nat × List Nat) (fun p => ⟨125, [(3, .ptr 0 0), (9, .p (.int .i64 i2)), (10, .p (.int .i64 p.1))], [.own [.sl 1 0 (sll p.2).length], .own (opl (ll (sll p.2)))]⟩) (fun p => i2 < p.1 ∧ p.1 ≤ p.2.length ∧ p.2.length = V.length ∧ p.2.Perm SL ∧ OrdI i2 p.1 p.2) (fun p => p.2.length - p.1) (i2 + 1, V) ⟨Nat.lt_succ_self _, hil2, rfl, hVp, hVo⟩ [0, 1] (by simp only [leq, leA, ev0, evA, evB, evP, fl, gp, tab, simprocAttr, reduceCtorEq, reduceIte, ll_takeL] <;> first | trivial | omega) fun p hp => ?_
        obtain ⟨k2, U⟩ := p
        obtain ⟨hk2, hk3, hUV, hUp, hUo⟩ := hp
        simp only at hk2 hk3 hUV hUp hUo
        have hUl := sll_len U
        have hUs : SgL a (op m a) e U := ⟨hUp.symm.nodup hS.nodup, fun x hx => hS.subs x (hUp.subset hx)⟩
        refine qm (qm ?_)
        refine hk_region fun K hK => runs_eval tab_ok ?_
        simp only [ev0, evA, evB, evP, fl, gp, tab, simprocAttr, reduceCtorEq, reduceIte]
        refine fin_run ?_ (hK _ ?_) <;> clear hK <;> clear K
        · (first | exact trivial | omega | (simp only [In64] at *; omega) | (simp [In64] at *; omega) | (simp_all; done) | skip)
        refine qa ?_
        refine hk_cond rfl (fun hC6 => ?_) (fun hC6 => ?_)
        · (try simp only [nhs] at hC6)
          have hkl2 : k2 < U.length := by omega
          have hiU : i2 < U.length := by omega
          obtain ⟨pi, hpi, hvi, hri⟩ := hUs.at hb hiU
          obtain ⟨pk, hpk, hvk, hrk⟩ := hUs.at hb hkl2
          have hgi := fun d => oll_get (ls := sll U) (i := i2) (by omega) d
          have hgk := fun d => oll_get (ls := sll U) (i := k2) (by omega) d
          rw [hri] at hgi
          rw [hrk] at hgk
          have hli := thl_le a pi
          have hlk := thl_le a pk
          have hlt : lts (U.getD k2 0) (U.getD i2 0) ↔ (thl a pk).length < (thl a pi).length ∨ (thl a pk).length = (thl a pi).length ∧ cmpL (thl a pk) (thl a pi) < 0 := by
            unfold lts
            rw [hvi, hvk, stl_bo hb, stl_bo hb, cmpS_lt]
          refine qh (qa (qm (ql (qm ?_))))
          rcases Nat.lt_trichotomy (thl a pk).length (thl a pi).length with hle | hle | hle
          · refine hk_draw mixed (by kernel_rfl) fun K hK => runs_eval tab_ok ?_
            simp only [ev0, evA, evB, evP, fl, gp, tab, simprocAttr, reduceCtorEq, reduceIte, hgi, hgk, ll_length, il_length, decide_eq_true (show ((thl a pk).length : Int) < ((thl a pi).length : Int) by omega)]
            refine fin_run ?_ (hK _ ?_) <;> clear hK <;> clear K
            · (first | exact trivial | omega | (simp only [In64] at *; omega) | (simp [In64] at *; omega) | (simp_all; done) | skip)
            refine qa ?_
            refine hk_cond rfl (fun hC7 => ?_) (fun hC7 => ?_)
            · refine hk_draw2 mixed fun K hK => runs2_eval tab_ok ?_
              simp only [evD, ev0, evA, evB, evP, fl, gp, tab, simprocAttr, reduceCtorEq, reduceIte, hgi, hgk, ll_length]
              refine fin2_run ?_ (hK _ _ (by first | kernel_rfl | rfl) ?_) <;> clear hK <;> clear K
              · simp only [List.length_set, opl_length, ll_length]; omega
              refine qd (qa ?_)
              refine hk_region fun K hK => runs_eval tab_ok ?_
              simp only [ev0, evA, evB, evP, fl, gp, tab, simprocAttr, reduceCtorEq, reduceIte]
              refine fin_run ?_ (hK _ ?_) <;> clear hK <;> clear K
              · (first | exact trivial | omega | (simp only [In64] at *; omega) | (simp [In64] at *; omega) | (simp_all; done) | skip)
              refine qa ?_
              refine ⟨(k2 + 1, swp U i2 k2), [0, 1], ⟨show i2 < k2 + 1 by omega, show k2 + 1 ≤ (swp U i2 k2).length by rw [swp_len]; omega, (swp_len U i2 k2).trans hUV, (swp_perm hiU hkl2).trans hUp, OrdI.swap hUo hk2 hkl2 (hlt.2 (.inl hle))⟩, show (swp U i2 k2).length - (k2 + 1) < U.length - k2 by rw [swp_len]; omega, ?_⟩
              rw [show sll (k2 + 1, swp U i2 k2).2 = sll (swp U i2 k2) from rfl, ← set_swp (n := a) hb hvi hvk, show (sll U).length = (sll (swp U i2 k2)).length by rw [sll_len, sll_len, swp_len]]
              simp only [leq, leA, ev0, evA, evB, evP, fl, gp, tab, simprocAttr, reduceCtorEq, reduceIte, ll_takeL] <;> first | trivial | omega
            · cases hC7
          · refine hk_draw mixed (by kernel_rfl) fun K hK => runs_eval tab_ok ?_
            simp only [ev0, evA, evB, evP, fl, gp, tab, simprocAttr, reduceCtorEq, reduceIte, hgi, hgk, ll_length, il_length, decide_eq_false (show ¬ ((thl a pk).length : Int) < ((thl a pi).length : Int) by omega), decide_eq_true (show ((thl a pk).length : Int) = ((thl a pi).length : Int) by omega)]
            refine fin_stop ?_ (runs_call (less_r (thl a pk) (thl a pi) (by omega) (by omega)) rfl rfl rfl (by simp only [dstOk, Nat.reduceLT]) (by repeat (first | exact trivial | constructor)) (runs_eval tab_ok ?_))
            · (first | exact trivial | omega | (simp only [In64] at *; omega) | (simp [In64] at *; omega) | (simp_all; done) | skip)
            simp only [ev0, evA, evB, evP, fl, gp, tab, simprocAttr, reduceCtorEq, reduceIte, hgi, hgk, ll_length, il_length, decide_eq_false (show ¬ ((thl a pk).length : Int) < ((thl a pi).length : Int) by omega), decide_eq_true (show ((thl a pk).length : Int) = ((thl a pi).length : Int) by omega)]
            refine fin_run ?_ (hK _ ?_) <;> clear hK <;> clear K
            · (first | exact trivial | omega | (simp only [In64] at *; omega) | (simp [In64] at *; omega) | (simp_all; done) | skip)
            refine qa ?_
            refine hk_cond rfl (fun hC7 => ?_) (fun hC7 => ?_)
            · (try simp only [nhs] at hC7)
              refine hk_draw2 mixed fun K hK => runs2_eval tab_ok ?_
              simp only [evD, ev0, evA, evB, evP, fl, gp, tab, simprocAttr, reduceCtorEq, reduceIte, hgi, hgk, ll_length]
              refine fin2_run ?_ (hK _ _ (by first | kernel_rfl | rfl) ?_) <;> clear hK <;> clear K
              · simp only [List.length_set, opl_length, ll_length]; omega
              refine qd (qa ?_)
              refine hk_region fun K hK => runs_eval tab_ok ?_
              simp only [ev0, evA, evB, evP, fl, gp, tab, simprocAttr, reduceCtorEq, reduceIte]
              refine fin_run ?_ (hK _ ?_) <;> clear hK <;> clear K
              · (first | exact trivial | omega | (simp only [In64] at *; omega) | (simp [In64] at *; omega) | (simp_all; done) | skip)
              refine qa ?_
              refine ⟨(k2 + 1, swp U i2 k2), [0, 1], ⟨show i2 < k2 + 1 by omega, show k2 + 1 ≤ (swp U i2 k2).length by rw [swp_len]; omega, (swp_len U i2 k2).trans hUV, (swp_perm hiU hkl2).trans hUp, OrdI.swap hUo hk2 hkl2 (hlt.2 (.inr ⟨hle, cmp_lsb hle hC7⟩))⟩, show (swp U i2 k2).length - (k2 + 1) < U.length - k2 by rw [swp_len]; omega, ?_⟩
              rw [show sll (k2 + 1, swp U i2 k2).2 = sll (swp U i2 k2) from rfl, ← set_swp (n := a) hb hvi hvk, show (sll U).length = (sll (swp U i2 k2)).length by rw [sll_len, sll_len, swp_len]]
              simp only [leq, leA, ev0, evA, evB, evP, fl, gp, tab, simprocAttr, reduceCtorEq, reduceIte, ll_takeL] <;> first | trivial | omega
            · (try simp only [nhs] at hC7)
              refine qh (qd (qa ?_))
              refine hk_region fun K hK => runs_eval tab_ok ?_
              simp only [ev0, evA, evB, evP, fl, gp, tab, simprocAttr, reduceCtorEq, reduceIte]
              refine fin_run ?_ (hK _ ?_) <;> clear hK <;> clear K
              · (first | exact trivial | omega | (simp only [In64] at *; omega) | (simp [In64] at *; omega) | (simp_all; done) | skip)
              refine qa ?_
              refine ⟨(k2 + 1, U), [0, 1], ⟨show i2 < k2 + 1 by omega, show k2 + 1 ≤ U.length by omega, hUV, hUp, OrdI.skip hUo fun hh => (by
                rcases hlt.1 hh with h1 | ⟨_, h1⟩
                · omega
                · rw [lsb_cmp hle h1] at hC7; cases hC7)⟩, show U.length - (k2 + 1) < U.length - k2 by omega, ?_⟩
              simp only [leq, leA, ev0, evA, evB, evP, fl, gp, tab, simprocAttr, reduceCtorEq, reduceIte, ll_takeL] <;> first | trivial | omega
          · refine hk_draw mixed (by kernel_rfl) fun K hK => runs_eval tab_ok ?_
            simp only [ev0, evA, evB, evP, fl, gp, tab, simprocAttr, reduceCtorEq, reduceIte, hgi, hgk, ll_length, il_length, decide_eq_false (show ¬ ((thl a pk).length : Int) < ((thl a pi).length : Int) by omega), decide_eq_false (show ¬ ((thl a pk).length : Int) = ((thl a pi).length : Int) by omega)]
            refine fin_run ?_ (hK _ ?_) <;> clear hK <;> clear K
            · (first | exact trivial | omega | (simp only [In64] at *; omega) | (simp [In64] at *; omega) | (simp_all; done) | skip)
            refine qa ?_
            refine hk_cond rfl (fun hC7 => ?_) (fun hC7 => ?_)
            · cases hC7
            · refine qh (qd (qa ?_))
              refine hk_region fun K hK => runs_eval tab_ok ?_
              simp only [ev0, evA, evB, evP, fl, gp, tab, simprocAttr, reduceCtorEq, reduceIte]
              refine fin_run ?_ (hK _ ?_) <;> clear hK <;> clear K
              · (first | exact trivial | omega | (simp only [In64] at *; omega) | (simp [In64] at *; omega) | (simp_all; done) | skip)
              refine qa ?_
              refine ⟨(k2 + 1, U), [0, 1], ⟨show i2 < k2 + 1 by omega, show k2 + 1 ≤ U.length by omega, hUV, hUp, OrdI.skip hUo fun hh => (by
                rcases hlt.1 hh with h1 | ⟨h1, _⟩ <;> omega)⟩, show U.length - (k2 + 1) < U.length - k2 by omega, ?_⟩
              simp only [leq, leA, ev0, evA, evB, evP, fl, gp, tab, simprocAttr, reduceCtorEq, reduceIte, ll_takeL] <;> first | trivial | omega
        · (try simp only [nhs] at hC6)
          have hkn2 : k2 = U.length := by omega
          refine qj (qc (qc (qf (qd (qa ?_)))))
          refine hk_region fun K hK => runs_eval tab_ok ?_
          simp only [ev0, evA, evB, evP, fl, gp, tab, simprocAttr, reduceCtorEq, reduceIte]
          refine fin_run ?_ (hK _ ?_) <;> clear hK <;> clear K
          · (first | exact trivial | omega | (simp only [In64] at *; omega) | (simp [In64] at *; omega) | (simp_all; done) | skip)
          refine qa ?_
          refine ⟨(i2 + 1, U), [0, 1], ⟨show i2 + 1 ≤ U.length by omega, hUp, OrdI.next (hkn2 ▸ hUo)⟩, show U.length - (i2 + 1) < V.length - i2 by omega, ?_⟩
          simp only [leq, leA, ev0, evA, evB, evP, fl, gp, tab, simprocAttr, reduceCtorEq, reduceIte, ll_takeL] <;> first | trivial | omega
      · (try simp only [nhs] at hC5)
        have hin2 : i2 = V.length := by omega
        have hVS : V = SL := ord_unique hVp hS.rise (fun x hx => by obtain ⟨p, _, rfl⟩ := hS.subs x hx; exact bo_lt64 hb p) fun c d h1 h2 => hVo.out c d (by omega) h1 h2
        subst hVS
        refine qj (qc (qc (qf (qa (qm ?_)))))
        refine hk_freeze 1 rfl (opl_allP _) ?_
        refine hk_purec 0 0 rfl rfl rfl ⟨by rw [ll_length]; omega, ?_⟩ ?_
        · rw [List.drop_zero, List.take_of_length_le (by rw [ll_length]; omega)]; exact ll_all _
        simp only [hset, List.set, List.drop_zero]
        rw [List.take_of_length_le (by rw [ll_length]; omega)]
        refine hk_region fun K hK => runs_eval tab_ok ?_
        simp only [ev0, evA, evB, evP, fl, gp, tab, simprocAttr, reduceCtorEq, reduceIte]
        refine fin_run ?_ (hK _ ?_) <;> clear hK <;> clear K
        · (first | exact trivial | omega | (simp only [In64] at *; omega) | (simp [In64] at *; omega) | (simp_all; done) | skip)
        refine qa (qk ?_)
        simp only [Tryd.results20, enA, ev0, evA, evB, evP, fl, gp, tab, simprocAttr, reduceCtorEq, reduceIte]
        all_goals ((first | exact rfl | exact ⟨rfl, rfl⟩ | exact ⟨rfl, rfl, rfl⟩ | exact ⟨trivial, rfl⟩ | exact ⟨Nat.le_refl _, rfl⟩ | trivial | (simp; done)))
end
end Go.Proofs.YtjikchbmkodgfaaDoor

/-
  Walks: the law SubAll. Conditions: none.
-/
set_option linter.all false
namespace Go.Proofs.YtjikchbmkodgfaaDoor
open Go.Pv

theorem lists_R (a b : List (List Int)) (ha : a.length ≤ 1000000000) (hx : ∀ x ∈ a, x.length ≤ 1000000) : FnC Tryd.prog 21 [.list (ll a), .list (ll b)] (.bool (decide (a = b))) := by
  refine fnc_of tab_ok Tryd.func21 rfl (by kernel_rfl) (by rw [Tryd.ntmps21]; exact Nat.le_add_left 2 _) ?_; rw [Tryd.ntmps21]
  refine qm ?_
  refine hk_region fun K hK => runs_eval tab_ok ?_
  simp only [ev0, evA, evB, evP, fl, gp, tab, simprocAttr, reduceCtorEq, reduceIte]
  refine fin_run trivial (hK _ ?_) <;> clear hK <;> clear K
  refine qa (qm (qm ?_))
  refine hk_region fun K hK => runs_eval tab_ok ?_
  simp only [ev0, evA, evB, evP, fl, gp, tab, simprocAttr, reduceCtorEq, reduceIte, ll_length]
  refine fin_run trivial (hK _ ?_) <;> clear hK <;> clear K
  refine qa ?_
  refine hk_cond rfl (fun hC1 => ?_) (fun hC1 => ?_)
  · (try simp only [nhs] at hC1)
    refine qm ?_
    refine hk_region fun K hK => runs_eval tab_ok ?_
    simp only [ev0, evA, evB, evP, fl, gp, tab, simprocAttr, reduceCtorEq, reduceIte]
    refine fin_run trivial (hK _ ?_) <;> clear hK <;> clear K
    refine qa (qk (qb ?_))
    simp only [Tryd.results21, enA, ev0, evA, evB, evP, fl, gp, tab, simprocAttr, reduceCtorEq, reduceIte]
    have : a ≠ b := by intro h; subst h; simp at hC1
    simp [this]
  · (try simp only [nhs] at hC1)
    have hn : a.length = b.length := by omega
    refine qh (qa (qm (qm ?_)))
    refine hk_region fun K hK => runs_eval tab_ok ?_
    simp only [ev0, evA, evB, evP, fl, gp, tab, simprocAttr, reduceCtorEq, reduceIte]
    refine fin_run trivial (hK _ ?_) <;> clear hK <;> clear K
    refine qa (ql ?_)
    refine hk_loop (ι := Nat) (fun i => ⟨27, [(0, .p (.list (ll a))), (1, .p (.list (ll b))), (5, .p (.int .i64 i))], []⟩) (fun i => i ≤ a.length ∧ a.take i = b.take i) (fun i => a.length - i) 0 ⟨Nat.zero_le _, rfl⟩ [] (by simp only [leq, leA, ev0, evA, evB, evP, fl, gp, tab, simprocAttr, reduceCtorEq, reduceIte] <;> trivial) fun i hi => ?_
    obtain ⟨hi1, hi2⟩ := hi
    refine qm (qm ?_)
    refine hk_region fun K hK => runs_eval tab_ok ?_
    simp only [ev0, evA, evB, evP, fl, gp, tab, simprocAttr, reduceCtorEq, reduceIte, ll_length]
    refine fin_run trivial (hK _ ?_) <;> clear hK <;> clear K
    refine qa ?_
    refine hk_cond rfl (fun hC2 => ?_) (fun hC2 => ?_)
    · (try simp only [nhs] at hC2)
      have hlt : i < a.length := by omega
      have hma : (a.getD i []).length ≤ 1000000 := hx _ (by simp [List.getD, List.getElem?_eq_getElem hlt])
      refine qh (qa (qm (ql (qm ?_))))
      refine hk_draw mixed (by kernel_rfl) fun K hK => runs_eval tab_ok ?_
      simp only [ev0, evA, evB, evP, fl, gp, tab, simprocAttr, reduceCtorEq, reduceIte, ll_length, ll_get hlt, ll_get (show i < b.length by omega)]
      refine fin_stop ?_ (runs_call (ints_c (a.getD i []) (b.getD i []) (by omega)) rfl rfl rfl (by simp only [dstOk, Nat.reduceLT]) (by repeat (first | exact trivial | constructor)) (runs_eval tab_ok ?_))
      · (first | exact trivial | omega | (simp only [In64] at *; omega) | (simp [In64] at *; omega) | (simp_all; done) | skip)
      simp only [ev0, evA, evB, evP, fl, gp, tab, simprocAttr, reduceCtorEq, reduceIte, ll_length, ll_get hlt, ll_get (show i < b.length by omega)]
      refine fin_run ?_ (hK _ ?_) <;> clear hK <;> clear K
      · (first | exact trivial | omega | (simp only [In64] at *; omega) | (simp [In64] at *; omega) | (simp_all; done) | skip)
      refine qa ?_
      refine hk_cond rfl (fun hC3 => ?_) (fun hC3 => ?_)
      · (try simp only [nhs] at hC3)
        refine qm ?_
        refine hk_region fun K hK => runs_eval tab_ok ?_
        simp only [ev0, evA, evB, evP, fl, gp, tab, simprocAttr, reduceCtorEq, reduceIte]
        refine fin_run trivial (hK _ ?_) <;> clear hK <;> clear K
        refine qa (qk (qe (qb (qb (qe (qb ?_))))))
        simp only [Tryd.results21, enA, ev0, evA, evB, evP, fl, gp, tab, simprocAttr, reduceCtorEq, reduceIte]
        have : a ≠ b := by intro h; subst h; simp at hC3
        simp [this]
      · (try simp only [nhs] at hC3)
        refine qh (qd (qa ?_))
        refine hk_region fun K hK => runs_eval tab_ok ?_
        simp only [ev0, evA, evB, evP, fl, gp, tab, simprocAttr, reduceCtorEq, reduceIte]
        refine fin_run ?_ (hK _ ?_) <;> clear hK <;> clear K
        · (first | exact trivial | omega | (simp only [In64] at *; omega) | (simp [In64] at *; omega) | (simp_all; done) | skip)
        refine qa ?_
        refine ⟨i + 1, [], ⟨by omega, ?_⟩, by omega, ?_⟩
        · rw [List.take_succ_eq_append_getElem hlt, List.take_succ_eq_append_getElem (show i < b.length by omega), hi2]
          simp [List.getD, List.getElem?_eq_getElem hlt, List.getElem?_eq_getElem (show i < b.length by omega)] at hC3
          rw [hC3]
        · simp only [leq, leA, ev0, evA, evB, evP, fl, gp, tab, simprocAttr, reduceCtorEq, reduceIte] <;> first | trivial | omega
    · (try simp only [nhs] at hC2)
      refine qj (qc (qc (qf (qa (qm ?_)))))
      refine hk_region fun K hK => runs_eval tab_ok ?_
      simp only [ev0, evA, evB, evP, fl, gp, tab, simprocAttr, reduceCtorEq, reduceIte]
      refine fin_run trivial (hK _ ?_) <;> clear hK <;> clear K
      refine qa (qk ?_)
      simp only [Tryd.results21, enA, ev0, evA, evB, evP, fl, gp, tab, simprocAttr, reduceCtorEq, reduceIte]
      have : i = a.length := by omega
      subst this
      rw [List.take_length, List.take_of_length_le (by omega)] at hi2
      simp [hi2]

theorem sownG_c (w : List Int) (hl : w.length ≤ 1000000000) : FnG Tryd.prog 26 [.list (il w)] (.sl 0 0 w.length) [.own (opl (il w))] := by
  refine fng_of tab_ok Tryd.func26 rfl (by kernel_rfl) (by rw [Tryd.ntmps26]; exact Nat.le_add_left 1 _) ?_; rw [Tryd.ntmps26]
  refine qm ?_
  refine hk_region fun K hK => runs_eval tab_ok ?_
  simp only [ev0, evA, evB, evP, fl, gp, tab, simprocAttr, reduceCtorEq, reduceIte]
  refine fin_run trivial (hK _ ?_) <;> clear hK <;> clear K
  refine qa (qm ?_)
  refine hk_region fun K hK => runs_eval tab_ok ?_
  simp only [ev0, evA, evB, evP, fl, gp, tab, simprocAttr, reduceCtorEq, reduceIte]
  refine fin_run ?_ (hK _ ?_) <;> clear hK <;> clear K
  · (first | exact trivial | omega | (simp only [In64] at *; omega) | (simp [In64] at *; omega) | (simp_all; done) | skip)
  refine qa (qk ?_)
  simp only [Tryd.results26, PostG, endG, rvsA, rvA, mkTup, ev0, evA, evB, evP, fl, gp, tab, simprocAttr, reduceCtorEq, reduceIte]
  all_goals (exact ⟨[0], rfl, rfl, by simp only [leq, leA, ev0, evA, evB, evP, fl, gp, tab, simprocAttr, reduceCtorEq, reduceIte] <;> first | trivial | omega⟩)
theorem il_snoc (w : List Int) (x : Int) : il w ++ [.int .i64 x] = il (w ++ [x]) := by
  unfold il; rw [List.map_append]; rfl
theorem take_app1 {α : Type} (w : List α) (x : α) : (w ++ [x]).take (w.length + 1) = w ++ [x] := List.take_of_length_le (by simp)
theorem soil_ok (w : List Int) : (opl (il w)).all cellOk = true := opl_ok (il_all w)

section
variable {n e : Nat} {m : List Int}
/-- What stands in all greatest subgroups: with none of the others does it make all. -/
theorem AllS.frat {f : Nat → Nat → Nat} {SL : List Nat} (G : Grp n f e) (h : AllS n f e SL) (hn : n ≤ 60) {x : Nat} (hx : x < n) :
    frp SL (SL.length - 1) x = true ↔ ∀ i p, i < SL.length - 1 → Sub n f e p → SL.getD i 0 = bo n p → ¬ ∀ a, a < n → gn n f e (wta p x) a = true := by
  have hpos := h.pos G
  have hlast := h.last G hn
  have hwin : ∀ p : Nat → Bool, gn n f e (wta p x) x = true := fun p => (gn_iff _ x hx).2 (Gen.mem G hx (by unfold wta; simp))
  have hple : ∀ p : Nat → Bool, ∀ a, a < n → p a = true → gn n f e (wta p x) a = true := fun p a ha h1 => (gn_iff _ a ha).2 (Gen.mem G ha (by unfold wta; rw [h1]; rfl))
  constructor
  · intro hf i p hi hp hxp hall
    have hne : ¬ ∀ a, a < n → p a = true := fun hh => by
      have hpq := h.pair (i := i) (j := SL.length - 1) hi (by omega)
      rw [hlast, hxp, bo_congr (q := fun _ => true) (fun a ha => hh a ha)] at hpq
      exact cmpS_self _ hpq
    obtain ⟨j, q, j1, j2, j3, j4, j5, j6⟩ := h.max G hn hp hne
    refine j6 fun a ha => ?_
    refine ((gn_iff _ a ha).1 (hall a ha)).sub G j3 fun b hb hw => ?_
    unfold wta at hw
    rw [Bool.or_eq_true, decide_eq_true_eq] at hw
    rcases hw with hw | hw
    · exact j5 b hb hw
    · unfold frp at hf
      rw [decide_eq_true_eq] at hf
      have := hf j j1 j4
      rw [j2, bo_bit] at this
      rw [hw]; simpa [hx] using this
  · intro hh
    unfold frp
    rw [decide_eq_true_eq]
    intro i hi hm
    cases hb : (SL.getD i 0).testBit x with
    | true => rfl
    | false =>
      exfalso
      obtain ⟨p, hp, hxp⟩ := h.subs _ (getD_memN (show i < SL.length by omega))
      have hpx : p x = false := by rw [hxp, bo_bit] at hb; simpa [hx] using hb
      refine hh i p hi hp hxp ?_
      have hq := gen_sub G (gn_iff (n := n) (f := f) (e := e) (wta p x))
      obtain ⟨j, hj, hjq⟩ := mem_getDN (h.all _ hq)
      have hlt := mem_lt (n := n) (hple p) (fun hh => by have := hh x hx; rw [hpx, hwin p] at this; cases this)
      have l1 : (thl n p).length = (mem n p).length := thl_len _ _
      have l2 : (thl n (gn n f e (wta p x))).length = (mem n (gn n f e (wta p x))).length := thl_len _ _
      have hij : i < j := by
        refine Nat.lt_of_not_le fun hle => ?_
        by_cases hji : j = i
        · rw [hji, hxp] at hjq
          have := bo_eq2 hjq x hx
          rw [hpx, hwin p] at this; cases this
        · have := h.pair (i := j) (j := i) (by omega) (by omega)
          rw [hjq, hxp, stl_bo hn, stl_bo hn, cmpS_lt] at this
          omega
      by_cases hjl : j < SL.length - 1
      · exfalso
        unfold mxr at hm
        rw [Bool.not_eq_true', decide_eq_false_iff_not] at hm
        refine hm ⟨j, hjl, hij, ?_⟩
        rw [hxp, hjq, ovr_bo hn]
        exact ⟨(fun hh => by have := hh x hx; rw [hpx, hwin p] at this; cases this), hple p⟩
      · have : j = SL.length - 1 := by omega
        rw [this, hlast] at hjq
        exact fun a ha => (bo_eq2 hjq a ha).symm

theorem sub_dvN {f : Nat → Nat → Nat} {p : Nat → Bool} (G : Grp n f e) (hp : Sub n f e p) : (mem n p).length ∣ n := by
  have := hp.dvd G (K := fun _ => true) fun _ _ _ _ _ _ => rfl
  rwa [show (mem n fun _ => true).length = n by unfold mem; rw [List.filter_eq_self.2 fun _ _ => rfl, List.length_range]] at this
theorem tst_put (p : Nat → Bool) (x : Nat) {a : Nat} (ha : a < n) : tst (thl n p ++ [(x : Int)]) a = wta p x a := by
  unfold tst wta
  rw [Bool.eq_iff_iff, decide_eq_true_eq, List.mem_append, mem_thl_n ha, List.mem_singleton, Bool.or_eq_true, decide_eq_true_eq]
  exact or_congr Iff.rfl ⟨fun hh => by omega, fun hh => by omega⟩
set_option maxRecDepth 20000 in
theorem subAll1_c (h : GT n m n e) (hn : n ≤ 24) {SL : List Nat} (hS : AllS n (op m n) e SL) {x : Nat} (hx : x < n) : FnC Tryd.prog 24 [.int .i64 x, .ptr [.list (ll (sll SL))], .ptr [.int .i64 n, .list (il m)]] (.bool (frp SL (SL.length - 1) x)) := by
  have G := h.2.2
  have hb := h.2.1.big
  have hpos := hS.pos G
  have hlen := hS.len hn
  have hsl := sll_len SL
  have hfr := hS.frat G hb hx
  have hm1 : ((SL.length : Int) - 1) = ((SL.length - 1 : Nat) : Int) := by omega
  refine fnc_of tab_ok Tryd.func24 rfl (by kernel_rfl) (by rw [Tryd.ntmps24]; exact Nat.le_add_left 3 _) ?_; rw [Tryd.ntmps24]
  refine qm ?_
  refine hk_region fun K hK => runs_eval tab_ok ?_
  simp only [ev0, evA, evB, evP, fl, gp, tab, simprocAttr, reduceCtorEq, reduceIte]
  refine fin_run trivial (hK _ ?_) <;> clear hK <;> clear K
  refine qa (qm (qm ?_))
  refine hk_region fun K hK => runs_eval tab_ok ?_
  simp only [ev0, evA, evB, evP, fl, gp, tab, simprocAttr, reduceCtorEq, reduceIte]
  refine fin_run trivial (hK _ ?_) <;> clear hK <;> clear K
  refine qa (ql ?_)
  refine hk_loop (ι := Nat) (fun i => ⟨27, [(0, .p (.int .i64 x)), (1, .p (.ptr [.list (ll (sll SL))])), (2, .p (.ptr [.int .i64 n, .list (il m)])), (5, .p (.int .i64 i))], []⟩) (fun i => i ≤ SL.length - 1 ∧ ∀ j p, j < i → Sub n (op m n) e p → SL.getD j 0 = bo n p → ¬ ∀ a, a < n → gn n (op m n) e (wta p x) a = true) (fun i => SL.length - i) 0 ⟨Nat.zero_le _, fun j p hj => by omega⟩ [] (by simp only [leq, leA, ev0, evA, evB, evP, fl, gp, tab, simprocAttr, reduceCtorEq, reduceIte] <;> trivial) fun i hi => ?_
  obtain ⟨hi1, hi2⟩ := hi
  refine qm (qm ?_)
  refine hk_region fun K hK => runs_eval tab_ok ?_
  simp only [ev0, evA, evB, evP, fl, gp, tab, simprocAttr, reduceCtorEq, reduceIte, ll_length, hsl, hm1]
  refine fin_run ?_ (hK _ ?_) <;> clear hK <;> clear K
  · simp only [In64]; omega
  refine qa ?_
  refine hk_cond rfl (fun hC1 => ?_) (fun hC1 => ?_)
  · (try simp only [nhs] at hC1)
    have hil : i < SL.length := by omega
    obtain ⟨p, hp, hxp⟩ := hS.subs _ (getD_memN hil)
    have hr : (sll SL).getD i [] = thl n p := by rw [sll_get hil, hxp, stl_bo hb]
    have hgi := ll_get (ls := sll SL) (i := i) (by omega)
    rw [hr] at hgi
    have hlp := thl_le n p
    have hlq := thl_le n (gn n (op m n) e (wta p x))
    have hrng : ∀ y ∈ thl n p ++ [(x : Int)], ∃ a, a < n ∧ y = ((a : Nat) : Int) := fun y hy => by
      rcases List.mem_append.1 hy with hy | hy
      · exact thl_rng2 y hy
      · exact ⟨x, hx, by simpa using hy⟩
    have hgl : (thl n (gn n (op m n) e (wta p x))).length = n ↔ ∀ a, a < n → gn n (op m n) e (wta p x) a = true := by
      have : (thl n (gn n (op m n) e (wta p x))).length = (mem n (gn n (op m n) e (wta p x))).length := thl_len _ _
      rw [this]; exact mem_all
    refine qh (qa (qm (ql (qm ?_))))
    refine hk_draw2 mixed fun K hK => runs2_eval tab_ok ?_
    simp only [evD, ev0, evA, evB, evP, fl, gp, tab, simprocAttr, reduceCtorEq, reduceIte, hgi, ll_length, hsl, il_length, ol_opl, soil_ok]
    refine fin2_stop ?_ (runs2_callG (sownG_c (thl n p) (by omega)) rfl rfl rfl (by simp only [dstOk, Nat.reduceLT]) (by repeat (first | exact trivial | constructor)) (runs2_eval tab_ok ?_))
    · (first | exact trivial | omega | (simp only [In64] at *; omega) | (simp [In64] at *; omega) | (simp_all; done) | skip)
    simp only [evD, ev0, evA, evB, evP, fl, gp, tab, simprocAttr, reduceCtorEq, reduceIte, hgi, ll_length, hsl, il_length, ol_opl, soil_ok]
    refine fin2_stop ?_ (runs2_callK 1 (span_c h (thl n p ++ [(x : Int)]) (by rw [List.length_append]; simp; omega) hrng (gn n (op m n) e (wta p x)) (fun a ha => by rw [gn_iff _ a ha]; exact Gen.congr fun b hb => (tst_put p x hb).symm)) rfl rfl (by rw [il_snoc]; exact opl_allP _) (by simp only [callA, List.map_cons, List.map_nil, enA, ev0, evA, evB, evP, fl, gp, tab, simprocAttr, reduceCtorEq, reduceIte, List.drop_zero, il_snoc, il_take, take_app1, il_length, il_all]; rfl) rfl (by simp only [dstOk, Nat.reduceLT]) (by repeat (first | exact trivial | (simp [il_length, List.length_append]; done) | constructor)) (runs2_eval tab_ok ?_))
    · (first | exact trivial | omega | (simp only [In64] at *; omega) | (simp [In64] at *; omega) | (simp_all; done) | skip)
    (try simp only [evD, ev0, evA, evB, evP, fl, gp, tab, simprocAttr, reduceCtorEq, reduceIte, hgi, ll_length, hsl, il_length, ol_opl, soil_ok])
    refine fin2_run ?_ (hK _ _ (by first | kernel_rfl | rfl) ?_) <;> clear hK <;> clear K
    · (first | exact trivial | omega | (simp only [In64] at *; omega) | (simp [In64] at *; omega) | (simp_all; done) | skip)
    refine qa ?_
    refine hk_cond rfl (fun hC2 => ?_) (fun hC2 => ?_)
    · (try simp only [nhs] at hC2)
      refine qm ?_
      refine hk_region fun K hK => runs_eval tab_ok ?_
      simp only [ev0, evA, evB, evP, fl, gp, tab, simprocAttr, reduceCtorEq, reduceIte]
      refine fin_run trivial (hK _ ?_) <;> clear hK <;> clear K
      refine qa (qk (qe (qb (qb (qe (qb ?_))))))
      simp only [Tryd.results24, enA, ev0, evA, evB, evP, fl, gp, tab, simprocAttr, reduceCtorEq, reduceIte]
      rw [eq_comm, Bool.eq_false_iff]
      intro hh
      exact hfr.1 hh i p (by omega) hp hxp (hgl.1 (by omega))
    · (try simp only [nhs] at hC2)
      refine qh (qd (qa ?_))
      refine hk_region fun K hK => runs_eval tab_ok ?_
      simp only [ev0, evA, evB, evP, fl, gp, tab, simprocAttr, reduceCtorEq, reduceIte]
      refine fin_run ?_ (hK _ ?_) <;> clear hK <;> clear K
      · (first | exact trivial | omega | (simp only [In64] at *; omega) | (simp [In64] at *; omega) | (simp_all; done) | skip)
      refine qa ?_
      refine ⟨i + 1, [], ⟨by omega, fun j q hj hq hxq => ?_⟩, by omega, ?_⟩
      · by_cases hji : j = i
        · rw [hji, hxp] at hxq
          have hpq := bo_eq2 hxq
          intro hh
          refine hC2 ?_
          have := hgl.2 fun a ha => by
            refine (gn_iff _ a ha).2 ?_
            refine Gen.mono (fun b hb hw => ?_) ((gn_iff _ a ha).1 (hh a ha))
            unfold wta at hw ⊢
            rwa [hpq b hb]
          omega
        · exact hi2 j q (by omega) hq hxq
      · simp only [leq, leA, ev0, evA, evB, evP, fl, gp, tab, simprocAttr, reduceCtorEq, reduceIte] <;> first | trivial | omega
  · (try simp only [nhs] at hC1)
    have hin : i = SL.length - 1 := by omega
    refine qj (qc (qc (qf (qa (qm ?_)))))
    refine hk_region fun K hK => runs_eval tab_ok ?_
    simp only [ev0, evA, evB, evP, fl, gp, tab, simprocAttr, reduceCtorEq, reduceIte]
    refine fin_run trivial (hK _ ?_) <;> clear hK <;> clear K
    refine qa (qk ?_)
    simp only [Tryd.results24, enA, ev0, evA, evB, evP, fl, gp, tab, simprocAttr, reduceCtorEq, reduceIte]
    rw [eq_comm, hfr]
    exact fun j q hj => hi2 j q (by omega)

theorem lawAll_no (N : Int) (m : List Int) (hm : m.length ≤ 17592186043904) (hf : ¬ (gf N m).1 = 0) : FnC Tryd.prog 3 [gp N m] (.bool true) := by
  refine fnc_of tab_ok Tryd.func3 rfl (by kernel_rfl) (by rw [Tryd.ntmps3]; exact Nat.le_add_left 1 _) ?_; rw [Tryd.ntmps3]
  refine qm ?_
  refine hk_region fun K hK => runs_eval tab_ok ?_
  simp only [ev0, evA, evB, evP, fl, gp, tab, simprocAttr, reduceCtorEq, reduceIte]
  refine fin_run ?_ (hK _ ?_) <;> clear hK <;> clear K
  · (first | exact trivial | omega | (simp only [In64] at *; omega) | (simp [In64] at *; omega) | (simp_all; done) | skip)
  refine qa (qm ?_)
  refine hk_region fun K hK => runs_eval tab_ok ?_
  simp only [ev0, evA, evB, evP, fl, gp, tab, simprocAttr, reduceCtorEq, reduceIte]
  refine fin_stop trivial (runs_call (ownGroup_c N m hm) rfl rfl rfl (by simp only [dstOk, Nat.reduceLT]) (by repeat (first | exact trivial | constructor)) (runs_eval tab_ok ?_))
  simp only [ev0, evA, evB, evP, fl, gp, tab, simprocAttr, reduceCtorEq, reduceIte]
  refine fin_stop trivial (runs_call (subAll_no N m (by omega) hf) rfl rfl rfl (by simp only [dstOk, Nat.reduceLT]) (by repeat (first | exact trivial | constructor)) (runs_eval tab_ok ?_))
  simp only [ev0, evA, evB, evP, fl, gp, tab, simprocAttr, reduceCtorEq, reduceIte]
  refine fin_run ?_ (hK _ ?_) <;> clear hK <;> clear K
  · (first | exact trivial | omega | (simp only [In64] at *; omega) | (simp [In64] at *; omega) | (simp_all; done) | skip)
  refine qa (qm ?_)
  refine hk_region fun K hK => runs_eval tab_ok ?_
  simp only [ev0, evA, evB, evP, fl, gp, tab, simprocAttr, reduceCtorEq, reduceIte]
  refine fin_stop trivial (runs_call (ownGroup_c N m hm) rfl rfl rfl (by simp only [dstOk, Nat.reduceLT]) (by repeat (first | exact trivial | constructor)) (runs_eval tab_ok ?_))
  simp only [ev0, evA, evB, evP, fl, gp, tab, simprocAttr, reduceCtorEq, reduceIte]
  refine fin_stop trivial (runs_call (frattini_no N m (by omega) hf) rfl rfl rfl (by simp only [dstOk, Nat.reduceLT]) (by repeat (first | exact trivial | constructor)) (runs_eval tab_ok ?_))
  simp only [ev0, evA, evB, evP, fl, gp, tab, simprocAttr, reduceCtorEq, reduceIte]
  refine fin_run ?_ (hK _ ?_) <;> clear hK <;> clear K
  · (first | exact trivial | omega | (simp only [In64] at *; omega) | (simp [In64] at *; omega) | (simp_all; done) | skip)
  refine qa (qm ?_)
  refine hk_region fun K hK => runs_eval tab_ok ?_
  simp only [ev0, evA, evB, evP, fl, gp, tab, simprocAttr, reduceCtorEq, reduceIte]
  refine fin_stop trivial (runs_call (gf_c N m (by omega)) rfl rfl rfl (by simp only [dstOk, Nat.reduceLT]) (by repeat (first | exact trivial | constructor)) (runs_eval tab_ok ?_))
  simp only [ev0, evA, evB, evP, fl, gp, tab, simprocAttr, reduceCtorEq, reduceIte]
  refine fin_run ?_ (hK _ ?_) <;> clear hK <;> clear K
  · (first | exact trivial | omega | (simp only [In64] at *; omega) | (simp [In64] at *; omega) | (simp_all; done) | skip)
  refine qa (qm (qm ?_))
  refine hk_region fun K hK => runs_eval tab_ok ?_
  simp only [ev0, evA, evB, evP, fl, gp, tab, simprocAttr, reduceCtorEq, reduceIte, decide_eq_false hf]
  refine fin_run ?_ (hK _ ?_) <;> clear hK <;> clear K
  · (first | exact trivial | omega | (simp only [In64] at *; omega) | (simp [In64] at *; omega) | (simp_all; done) | skip)
  refine qa ?_
  refine hk_cond rfl (fun hC1 => ?_) (fun hC1 => ?_)
  · cases hC1
  · refine qh (qa (qm (qm ?_)))
    refine hk_region fun K hK => runs_eval tab_ok ?_
    simp only [ev0, evA, evB, evP, fl, gp, tab, simprocAttr, reduceCtorEq, reduceIte]
    refine fin_stop trivial (runs_call (begun_s) rfl rfl rfl (by simp only [dstOk, Nat.reduceLT]) (by repeat (first | exact trivial | constructor)) (runs_eval tab_ok ?_))
    simp only [ev0, evA, evB, evP, fl, gp, tab, simprocAttr, reduceCtorEq, reduceIte]
    refine fin_run ?_ (hK _ ?_) <;> clear hK <;> clear K
    · (first | exact trivial | omega | (simp only [In64] at *; omega) | (simp [In64] at *; omega) | (simp_all; done) | skip)
    refine qa ?_
    refine hk_cond rfl (fun hC2 => ?_) (fun hC2 => ?_)
    · cases hC2
    · (try simp only [nhs] at hC2)
      refine qh (qa (qm (qm ?_)))
      refine hk_region fun K hK => runs_eval tab_ok ?_
      simp only [ev0, evA, evB, evP, fl, gp, tab, simprocAttr, reduceCtorEq, reduceIte, decide_eq_false hf]
      refine fin_run ?_ (hK _ ?_) <;> clear hK <;> clear K
      · (first | exact trivial | omega | (simp only [In64] at *; omega) | (simp [In64] at *; omega) | (simp_all; done) | skip)
      refine qa ?_
      refine hk_cond rfl (fun hC3 => ?_) (fun hC3 => ?_)
      · (try simp only [nhs] at hC3)
        refine qm ?_
        refine hk_region fun K hK => runs_eval tab_ok ?_
        simp only [ev0, evA, evB, evP, fl, gp, tab, simprocAttr, reduceCtorEq, reduceIte]
        refine fin_run trivial (hK _ ?_) <;> clear hK <;> clear K
        refine qa (qk (qb ?_))
        simp only [Tryd.results3, enA, ev0, evA, evB, evP, fl, gp, tab, simprocAttr, reduceCtorEq, reduceIte]
        all_goals (trace_state)
      · cases hC3
theorem lawAll_big (h : GT n m n e) (hn : ¬ n ≤ 24) : FnC Tryd.prog 3 [gp n m] (.bool true) := by
  have hb := h.2.1.big
  have hml := h.2.1.len
  have hsq := sq_le hb
  refine fnc_of tab_ok Tryd.func3 rfl (by kernel_rfl) (by rw [Tryd.ntmps3]; exact Nat.le_add_left 1 _) ?_; rw [Tryd.ntmps3]
  refine qm ?_
  refine hk_region fun K hK => runs_eval tab_ok ?_
  simp only [ev0, evA, evB, evP, fl, gp, tab, simprocAttr, reduceCtorEq, reduceIte]
  refine fin_run ?_ (hK _ ?_) <;> clear hK <;> clear K
  · (first | exact trivial | omega | (simp only [In64] at *; omega) | (simp [In64] at *; omega) | (simp_all; done) | skip)
  refine qa (qm ?_)
  refine hk_region fun K hK => runs_eval tab_ok ?_
  simp only [ev0, evA, evB, evP, fl, gp, tab, simprocAttr, reduceCtorEq, reduceIte]
  refine fin_stop trivial (runs_call (ownGroup_c n m (by omega)) rfl rfl rfl (by simp only [dstOk, Nat.reduceLT]) (by repeat (first | exact trivial | constructor)) (runs_eval tab_ok ?_))
  simp only [ev0, evA, evB, evP, fl, gp, tab, simprocAttr, reduceCtorEq, reduceIte]
  refine fin_stop trivial (runs_call (subAll_big h hn) rfl rfl rfl (by simp only [dstOk, Nat.reduceLT]) (by repeat (first | exact trivial | constructor)) (runs_eval tab_ok ?_))
  simp only [ev0, evA, evB, evP, fl, gp, tab, simprocAttr, reduceCtorEq, reduceIte]
  refine fin_run ?_ (hK _ ?_) <;> clear hK <;> clear K
  · (first | exact trivial | omega | (simp only [In64] at *; omega) | (simp [In64] at *; omega) | (simp_all; done) | skip)
  refine qa (qm ?_)
  refine hk_region fun K hK => runs_eval tab_ok ?_
  simp only [ev0, evA, evB, evP, fl, gp, tab, simprocAttr, reduceCtorEq, reduceIte]
  refine fin_stop trivial (runs_call (ownGroup_c n m (by omega)) rfl rfl rfl (by simp only [dstOk, Nat.reduceLT]) (by repeat (first | exact trivial | constructor)) (runs_eval tab_ok ?_))
  simp only [ev0, evA, evB, evP, fl, gp, tab, simprocAttr, reduceCtorEq, reduceIte]
  refine fin_stop trivial (runs_call (frattini_big h hn) rfl rfl rfl (by simp only [dstOk, Nat.reduceLT]) (by repeat (first | exact trivial | constructor)) (runs_eval tab_ok ?_))
  simp only [ev0, evA, evB, evP, fl, gp, tab, simprocAttr, reduceCtorEq, reduceIte]
  refine fin_run ?_ (hK _ ?_) <;> clear hK <;> clear K
  · (first | exact trivial | omega | (simp only [In64] at *; omega) | (simp [In64] at *; omega) | (simp_all; done) | skip)
  refine qa (qm ?_)
  refine hk_region fun K hK => runs_eval tab_ok ?_
  simp only [ev0, evA, evB, evP, fl, gp, tab, simprocAttr, reduceCtorEq, reduceIte]
  refine fin_stop trivial (runs_call (gf_c n m (by omega)) rfl rfl rfl (by simp only [dstOk, Nat.reduceLT]) (by repeat (first | exact trivial | constructor)) (runs_eval tab_ok ?_))
  simp only [ev0, evA, evB, evP, fl, gp, tab, simprocAttr, reduceCtorEq, reduceIte, gf_of h]
  refine fin_run ?_ (hK _ ?_) <;> clear hK <;> clear K
  · (first | exact trivial | omega | (simp only [In64] at *; omega) | (simp [In64] at *; omega) | (simp_all; done) | skip)
  refine qa (qm (qm ?_))
  refine hk_region fun K hK => runs_eval tab_ok ?_
  simp only [ev0, evA, evB, evP, fl, gp, tab, simprocAttr, reduceCtorEq, reduceIte, decide_eq_true (show ((n : Nat) : Int) > 24 by omega)]
  refine fin_run ?_ (hK _ ?_) <;> clear hK <;> clear K
  · (first | exact trivial | omega | (simp only [In64] at *; omega) | (simp [In64] at *; omega) | (simp_all; done) | skip)
  refine qa ?_
  refine hk_cond rfl (fun hC1 => ?_) (fun hC1 => ?_)
  · (try simp only [nhs] at hC1)
    refine hk_region fun K hK => runs_eval tab_ok ?_
    simp only [ev0, evA, evB, evP, fl, gp, tab, simprocAttr, reduceCtorEq, reduceIte]
    refine fin_stop trivial (runs_call (f_c 2 0) rfl rfl rfl (by simp only [dstOk, Nat.reduceLT]) (by repeat (first | exact trivial | constructor)) (runs_eval tab_ok ?_))
    simp only [ev0, evA, evB, evP, fl, gp, tab, simprocAttr, reduceCtorEq, reduceIte]
    refine fin_run ?_ (hK _ ?_) <;> clear hK <;> clear K
    · (first | exact trivial | omega | (simp only [In64] at *; omega) | (simp [In64] at *; omega) | (simp_all; done) | skip)
    refine qa (qm (qm ?_))
    refine hk_region fun K hK => runs_eval tab_ok ?_
    simp only [ev0, evA, evB, evP, fl, gp, tab, simprocAttr, reduceCtorEq, reduceIte]
    refine fin_stop trivial (runs_call (begun_s) rfl rfl rfl (by simp only [dstOk, Nat.reduceLT]) (by repeat (first | exact trivial | constructor)) (runs_eval tab_ok ?_))
    simp only [ev0, evA, evB, evP, fl, gp, tab, simprocAttr, reduceCtorEq, reduceIte]
    refine fin_run ?_ (hK _ ?_) <;> clear hK <;> clear K
    · (first | exact trivial | omega | (simp only [In64] at *; omega) | (simp [In64] at *; omega) | (simp_all; done) | skip)
    refine qa ?_
    refine hk_cond rfl (fun hC2 => ?_) (fun hC2 => ?_)
    · cases hC2
    · (try simp only [nhs] at hC2)
      refine qh (qa (qm (qm ?_)))
      refine hk_region fun K hK => runs_eval tab_ok ?_
      simp only [ev0, evA, evB, evP, fl, gp, tab, simprocAttr, reduceCtorEq, reduceIte]
      refine fin_run ?_ (hK _ ?_) <;> clear hK <;> clear K
      · (first | exact trivial | omega | (simp only [In64] at *; omega) | (simp [In64] at *; omega) | (simp_all; done) | skip)
      refine qa ?_
      refine hk_cond rfl (fun hC3 => ?_) (fun hC3 => ?_)
      · (try simp only [nhs] at hC3)
        refine qm ?_
        refine hk_region fun K hK => runs_eval tab_ok ?_
        simp only [ev0, evA, evB, evP, fl, gp, tab, simprocAttr, reduceCtorEq, reduceIte]
        refine fin_run trivial (hK _ ?_) <;> clear hK <;> clear K
        refine qa (qk (qb ?_))
        simp only [Tryd.results3, enA, ev0, evA, evB, evP, fl, gp, tab, simprocAttr, reduceCtorEq, reduceIte]
        all_goals (trace_state)
      · cases hC3
  · cases hC1
set_option maxHeartbeats 4000000 in
set_option maxRecDepth 20000 in
theorem lawAll_ok (h : GT n m n e) (hn : n ≤ 24) : FnC Tryd.prog 3 [gp n m] (.bool true) := by
  have G := h.2.2
  have hb := h.2.1.big
  have hml := h.2.1.len
  have hsq := sq_le hb
  obtain ⟨SL, hS⟩ := alls_ex G hb
  have hSl := hS.len hn
  have hsl := sll_len SL
  have hrows : ∀ w ∈ sll SL, w.length ≤ 1000000 := fun w hw => by
    obtain ⟨x, hx, rfl⟩ := List.mem_map.1 hw
    obtain ⟨p, _, rfl⟩ := hS.subs x hx
    rw [stl_bo hb]
    have := thl_le n p
    omega
  have hlf := thl_le n (frp SL (SL.length - 1))
  refine fnc_of tab_ok Tryd.func3 rfl (by kernel_rfl) (by rw [Tryd.ntmps3]; exact Nat.le_add_left 1 _) ?_; rw [Tryd.ntmps3]
  refine qm ?_
  refine hk_region fun K hK => runs_eval tab_ok ?_
  simp only [ev0, evA, evB, evP, fl, gp, tab, simprocAttr, reduceCtorEq, reduceIte]
  refine fin_run ?_ (hK _ ?_) <;> clear hK <;> clear K
  · (first | exact trivial | omega | (simp only [In64] at *; omega) | (simp [In64] at *; omega) | (simp_all; done) | skip)
  refine qa (qm ?_)
  refine hk_region fun K hK => runs_eval tab_ok ?_
  simp only [ev0, evA, evB, evP, fl, gp, tab, simprocAttr, reduceCtorEq, reduceIte]
  refine fin_stop trivial (runs_call (ownGroup_c n m (by omega)) rfl rfl rfl (by simp only [dstOk, Nat.reduceLT]) (by repeat (first | exact trivial | constructor)) (runs_eval tab_ok ?_))
  simp only [ev0, evA, evB, evP, fl, gp, tab, simprocAttr, reduceCtorEq, reduceIte]
  refine fin_stop trivial (runs_call (subAll_ok h hn hS hSl) rfl rfl rfl (by simp only [dstOk, Nat.reduceLT]) (by repeat (first | exact trivial | constructor)) (runs_eval tab_ok ?_))
  simp only [ev0, evA, evB, evP, fl, gp, tab, simprocAttr, reduceCtorEq, reduceIte]
  refine fin_run ?_ (hK _ ?_) <;> clear hK <;> clear K
  · (first | exact trivial | omega | (simp only [In64] at *; omega) | (simp [In64] at *; omega) | (simp_all; done) | skip)
  refine qa (qm ?_)
  refine hk_region fun K hK => runs_eval tab_ok ?_
  simp only [ev0, evA, evB, evP, fl, gp, tab, simprocAttr, reduceCtorEq, reduceIte]
  refine fin_stop trivial (runs_call (ownGroup_c n m (by omega)) rfl rfl rfl (by simp only [dstOk, Nat.reduceLT]) (by repeat (first | exact trivial | constructor)) (runs_eval tab_ok ?_))
  simp only [ev0, evA, evB, evP, fl, gp, tab, simprocAttr, reduceCtorEq, reduceIte]
  refine fin_stop trivial (runs_call (frattini_ok h hn hS hSl (hS.last G hb)) rfl rfl rfl (by simp only [dstOk, Nat.reduceLT]) (by repeat (first | exact trivial | constructor)) (runs_eval tab_ok ?_))
  simp only [ev0, evA, evB, evP, fl, gp, tab, simprocAttr, reduceCtorEq, reduceIte]
  refine fin_run ?_ (hK _ ?_) <;> clear hK <;> clear K
  · (first | exact trivial | omega | (simp only [In64] at *; omega) | (simp [In64] at *; omega) | (simp_all; done) | skip)
  refine qa (qm ?_)
  refine hk_region fun K hK => runs_eval tab_ok ?_
  simp only [ev0, evA, evB, evP, fl, gp, tab, simprocAttr, reduceCtorEq, reduceIte]
  refine fin_stop trivial (runs_call (gf_c n m (by omega)) rfl rfl rfl (by simp only [dstOk, Nat.reduceLT]) (by repeat (first | exact trivial | constructor)) (runs_eval tab_ok ?_))
  simp only [ev0, evA, evB, evP, fl, gp, tab, simprocAttr, reduceCtorEq, reduceIte, gf_of h]
  refine fin_run ?_ (hK _ ?_) <;> clear hK <;> clear K
  · (first | exact trivial | omega | (simp only [In64] at *; omega) | (simp [In64] at *; omega) | (simp_all; done) | skip)
  refine qa (qm (qm ?_))
  refine hk_region fun K hK => runs_eval tab_ok ?_
  simp only [ev0, evA, evB, evP, fl, gp, tab, simprocAttr, reduceCtorEq, reduceIte, decide_eq_false (show ¬ ((n : Nat) : Int) > 24 by omega)]
  refine fin_run ?_ (hK _ ?_) <;> clear hK <;> clear K
  · (first | exact trivial | omega | (simp only [In64] at *; omega) | (simp [In64] at *; omega) | (simp_all; done) | skip)
  refine qa ?_
  refine hk_cond rfl (fun hC1 => ?_) (fun hC1 => ?_)
  · cases hC1
  · (try simp only [nhs] at hC1)
    refine qh (qa (qm (qm ?_)))
    refine hk_region fun K hK => runs_eval tab_ok ?_
    simp only [ev0, evA, evB, evP, fl, gp, tab, simprocAttr, reduceCtorEq, reduceIte]
    refine fin_stop trivial (runs_call (begun_s) rfl rfl rfl (by simp only [dstOk, Nat.reduceLT]) (by repeat (first | exact trivial | constructor)) (runs_eval tab_ok ?_))
    simp only [ev0, evA, evB, evP, fl, gp, tab, simprocAttr, reduceCtorEq, reduceIte]
    refine fin_run ?_ (hK _ ?_) <;> clear hK <;> clear K
    · (first | exact trivial | omega | (simp only [In64] at *; omega) | (simp [In64] at *; omega) | (simp_all; done) | skip)
    refine qa ?_
    refine hk_cond rfl (fun hC2 => ?_) (fun hC2 => ?_)
    · cases hC2
    · (try simp only [nhs] at hC2)
      refine qh (qa (qm (qm ?_)))
      refine hk_region fun K hK => runs_eval tab_ok ?_
      simp only [ev0, evA, evB, evP, fl, gp, tab, simprocAttr, reduceCtorEq, reduceIte]
      refine fin_run ?_ (hK _ ?_) <;> clear hK <;> clear K
      · (first | exact trivial | omega | (simp only [In64] at *; omega) | (simp [In64] at *; omega) | (simp_all; done) | skip)
      refine qa ?_
      refine hk_cond rfl (fun hC3 => ?_) (fun hC3 => ?_)
      · cases hC3
      · (try simp only [nhs] at hC3)
        refine qh (qa (qm ?_))
        refine hk_region fun K hK => runs_eval tab_ok ?_
        simp only [ev0, evA, evB, evP, fl, gp, tab, simprocAttr, reduceCtorEq, reduceIte]
        refine fin_stop trivial (runs_call (subgroups_t h hn hS) rfl rfl rfl (by simp only [dstOk, Nat.reduceLT]) (by repeat (first | exact trivial | constructor)) (runs_eval tab_ok ?_))
        simp only [ev0, evA, evB, evP, fl, gp, tab, simprocAttr, reduceCtorEq, reduceIte]
        refine fin_run ?_ (hK _ ?_) <;> clear hK <;> clear K
        · (first | exact trivial | omega | (simp only [In64] at *; omega) | (simp [In64] at *; omega) | (simp_all; done) | skip)
        refine qa (qm (qm ?_))
        refine hk_region fun K hK => runs_eval tab_ok ?_
        simp only [ev0, evA, evB, evP, fl, gp, tab, simprocAttr, reduceCtorEq, reduceIte, decide_eq_true (rfl : sll SL = sll SL)]
        refine fin_stop trivial (runs_call (lists_R (sll SL) (sll SL) (by omega) hrows) rfl rfl rfl (by simp only [dstOk, Nat.reduceLT]) (by repeat (first | exact trivial | constructor)) (runs_eval tab_ok ?_))
        simp only [ev0, evA, evB, evP, fl, gp, tab, simprocAttr, reduceCtorEq, reduceIte, decide_eq_true (rfl : sll SL = sll SL)]
        refine fin_run ?_ (hK _ ?_) <;> clear hK <;> clear K
        · (first | exact trivial | omega | (simp only [In64] at *; omega) | (simp [In64] at *; omega) | (simp_all; done) | skip)
        refine qa ?_
        refine hk_cond rfl (fun hC4 => ?_) (fun hC4 => ?_)
        · cases hC4
        · (try simp only [nhs] at hC4)
          refine qh (qa (qm (qm ?_)))
          refine hk_region fun K hK => runs_eval tab_ok ?_
          simp only [ev0, evA, evB, evP, fl, gp, tab, simprocAttr, reduceCtorEq, reduceIte]
          refine fin_run trivial (hK _ ?_) <;> clear hK <;> clear K
          refine qa (ql ?_)
          refine hk_loop (ι := Nat) (fun i => ⟨82, [(1, .ptr 0 0), (3, .p (.list (ll (sll SL)))), (5, .p (.list (il (thl n (frp SL (SL.length - 1)))))), (8, .ptr 1 0), (9, .p (.int .i64 i))], [.own [.p (.int .i64 n), .p (.list (il m))], .own [.p (.list (ll (sll SL)))]]⟩) (fun i => i ≤ SL.length) (fun i => SL.length - i) 0 (Nat.zero_le _) [0, 4] (by simp only [leq, leA, ev0, evA, evB, evP, fl, gp, tab, simprocAttr, reduceCtorEq, reduceIte] <;> trivial) fun i hi => ?_
          refine qm (qm ?_)
          refine hk_region fun K hK => runs_eval tab_ok ?_
          simp only [ev0, evA, evB, evP, fl, gp, tab, simprocAttr, reduceCtorEq, reduceIte, ll_length, hsl]
          refine fin_run trivial (hK _ ?_) <;> clear hK <;> clear K
          refine qa ?_
          refine hk_cond rfl (fun hC5 => ?_) (fun hC5 => ?_)
          · (try simp only [nhs] at hC5)
            have hil : i < SL.length := by omega
            obtain ⟨p, hp, hxp⟩ := hS.subs _ (getD_memN hil)
            have hr : (sll SL).getD i [] = thl n p := by rw [sll_get hil, hxp, stl_bo hb]
            have hgi := ll_get (ls := sll SL) (i := i) (by omega)
            rw [hr] at hgi
            have hlp : (thl n p).length = (mem n p).length := thl_len _ _
            have hpp := hp.pos G.el
            have hdv : n % (thl n p).length = 0 := by rw [hlp]; exact Nat.mod_eq_zero_of_dvd (sub_dvN G hp)
            refine qh (qa (qm (ql (qm ?_))))
            refine hk_draw mixed (by kernel_rfl) fun K hK => runs_eval tab_ok ?_
            simp only [ev0, evA, evB, evP, fl, gp, tab, simprocAttr, reduceCtorEq, reduceIte, hgi, ll_length, hsl, il_length, tm_nat, hdv]
            refine fin_run ?_ (hK _ ?_) <;> clear hK <;> clear K
            · omega
            refine qa ?_
            refine hk_cond rfl (fun hC6 => ?_) (fun hC6 => ?_)
            · cases hC6
            · (try simp only [nhs] at hC6)
              refine qh (qd (qa ?_))
              refine hk_region fun K hK => runs_eval tab_ok ?_
              simp only [ev0, evA, evB, evP, fl, gp, tab, simprocAttr, reduceCtorEq, reduceIte]
              refine fin_run ?_ (hK _ ?_) <;> clear hK <;> clear K
              · (first | exact trivial | omega | (simp only [In64] at *; omega) | (simp [In64] at *; omega) | (simp_all; done) | skip)
              refine qa ?_
              refine ⟨i + 1, [0, 1], by omega, by omega, ?_⟩
              simp only [leq, leA, ev0, evA, evB, evP, fl, gp, tab, simprocAttr, reduceCtorEq, reduceIte] <;> first | trivial | omega
          · (try simp only [nhs] at hC5)
            have hin : i = SL.length := by omega
            refine qj (qc (qc (qf (qa (qm ?_)))))
            refine hk_freeze 1 rfl rfl ?_
            refine hk_freeze 0 rfl rfl ?_
            simp only [hset]
            refine hk_region fun K hK => runs_eval tab_ok ?_
            simp only [ev0, evA, evB, evP, fl, gp, tab, simprocAttr, reduceCtorEq, reduceIte]
            refine fin_stop trivial (runs_call (those_c n m _ _ (frp SL (SL.length - 1)) (by omega) (fun x hx => subAll1_c h hn hS hx)) rfl rfl rfl (by simp only [dstOk, Nat.reduceLT]) (by repeat (first | exact trivial | constructor)) (runs_eval tab_ok ?_))
            simp only [ev0, evA, evB, evP, fl, gp, tab, simprocAttr, reduceCtorEq, reduceIte]
            refine fin_stop trivial (runs_call (ints_c (thl n (frp SL (SL.length - 1))) (thl n (frp SL (SL.length - 1))) (by omega)) rfl rfl rfl (by simp only [dstOk, Nat.reduceLT]) (by repeat (first | exact trivial | constructor)) (runs_eval tab_ok ?_))
            simp only [ev0, evA, evB, evP, fl, gp, tab, simprocAttr, reduceCtorEq, reduceIte]
            refine fin_run ?_ (hK _ ?_) <;> clear hK <;> clear K
            · (first | exact trivial | omega | (simp only [In64] at *; omega) | (simp [In64] at *; omega) | (simp_all; done) | skip)
            refine qa (qk ?_)
            simp only [Tryd.results3, enA, ev0, evA, evB, evP, fl, gp, tab, simprocAttr, reduceCtorEq, reduceIte]
            all_goals (trace_state)
theorem lawAll_c (N : Int) (m : List Int) (hm : m.length ≤ 17592186043904) : FnC Tryd.prog 3 [gp N m] (.bool true) := by
  by_cases hf : (gf N m).1 = 0
  · obtain ⟨n, e, h, _⟩ := gf_ok hf
    have := h.1; subst this
    by_cases hn : n ≤ 24
    · exact lawAll_ok h hn
    · exact lawAll_big h hn
  · exact lawAll_no N m hm hf
end
end Go.Proofs.YtjikchbmkodgfaaDoor

/-
  What the listed package-level variable gives a walk: a table of numbers. Conditions: none; written by a program of this repo.
-/
set_option linter.all false
namespace Go.Proofs.YtjikchbmkodgfaaDoor
open Go.Pv Go.ChangeShapes Go.WideShapes Go.ChangeAt Go.WideElems Go.RowKit

theorem own : ownKnob Tryd.prog.godebug = none := by kernel_rfl
theorem laidOut : laidOutB Tryd.prog = true := by kernel_rfl
theorem gG : Tryd.prog.globalNamed "math/bits.deBruijn64tab" = some 0 := by kernel_rfl
theorem tG : (Tryd.prog.globals[0]?).map (·.type) = some 105 := by kernel_rfl
theorem cG : Tryd.prog.cellsOf 5 = 1 := by kernel_rfl
/-- The door's own heap meets the condition. -/
theorem door_met (os : Os) (args : Array Value) : laidMetH Tryd.prog [("math/bits.deBruijn64tab", Rows.laid_math_bits_deBruijn64tab)] ((World.doorLaid Tryd.prog 4000 os).forCall (fun _ _ => 0) ⟨#[], args, []⟩).memory :=
  laidMetH_of_parts3 (fuel := 8) (laidMet_of_run' 8 (by kernel_rfl) (by kernel_rfl)) (by kernel_rfl) (by kernel_rfl)

def convD : DataW Unit → PV
  | .lit (.int k n) => .int k n
  | _ => .nil
def datum : List (DataW Unit) → List PV := List.map convD
theorem glob_datum : (match (Rows.laid_math_bits_deBruijn64tab : DataW Unit) with | .agg l => datum l | _ => []) = glob0 := rfl

theorem laid_ok {W : World} (h : laidMetH Tryd.prog [("math/bits.deBruijn64tab", Rows.laid_math_bits_deBruijn64tab)] W) : LaidW (fun b => b < W.heap.size) W := by
  refine ⟨fun b h => h, fun g l hg => ?_⟩
  have hg2 : g = 0 ∧ l = glob0 := by
    unfold gv at hg
    by_cases e : g = 0
    · subst e; exact ⟨rfl, (Option.some.inj hg).symm⟩
    · have : (g == 0) = false := by simpa using e
      rw [this] at hg; simp at hg
  obtain ⟨rfl, rfl⟩ := hg2
  rw [MakeChecks.laidMetH_plain _ _ _ (by kernel_rfl)] at h
  obtain ⟨ps, ⟨g0, t0, cs0, f0, p0, q0, hg0, ht0, hv0, hd0, _, _⟩, _, _⟩ := h
  obtain rfl := Option.some.inj (gG.symm.trans hg0)
  obtain rfl := Option.some.inj (tG.symm.trans ht0)
  obtain ⟨xs, m1, rfl, hx1, hlen, hn3, hel⟩ := DataW.trod_array Tryd.underlying105 hd0
  have hd1 : Rows.laid_math_bits_deBruijn64tab = DataW.agg (xs.map (·.1)) := congrArg Prod.fst hx1
  have hgl : glob0 = datum (xs.map (·.1)) := by
    rw [← glob_datum, hd1]
  have key : ∀ c (h : c < glob0.length), W.cell? ⟨0, 0 + c, none⟩ = some ((cs0[c]?).getD undef) ∧ Reads (fun b => b < W.heap.size) W glob0[c] ((cs0[c]?).getD undef) := by
    intro c hc
    have hc2 : c < 64 := Nat.lt_of_lt_of_le hc (by decide)
    have hcx : c < xs.length := by omega
    have h1 := hel c hc2
    rw [List.getElem?_eq_getElem hcx] at h1
    obtain ⟨k, e1, e2, _⟩ := DataW.trod_int Tryd.underlying5 h1
    rw [cG] at e1
    have e3 : cs0.toList[c]? = some (.int .u8 k) := by
      have := congrArg (fun l => l[0]?) e1
      simpa [List.getElem?_take, List.getElem?_drop] using this
    have e4 : cs0[c]? = some (.int .u8 k) := by simpa using e3
    have e5 : glob0[c] = .int .u8 k := by
      have : glob0[c]? = (datum (xs.map (·.1)))[c]? := by rw [hgl]
      rw [List.getElem?_eq_getElem hc] at this
      simp only [datum, List.getElem?_map, List.getElem?_eq_getElem hcx, Option.map_some, Option.some.injEq] at this
      exact this.trans (by rw [e2]; rfl)
    refine ⟨?_, ?_⟩
    · rw [e4, Nat.zero_add, World.var?_cell gG hv0 c, e4]; rfl
    · rw [e4]
      exact e5 ▸ (Reads.int .u8 k)
  refine .ptr _ _ _ (fun c => (cs0[c]?).getD undef) ?_ (fun c hc => (key c hc).1) fun c hc => (key c hc).2
  have := (key 0 (by decide)).1
  unfold World.cell? at this
  rcases Nat.lt_or_ge 0 W.heap.size with h | h
  · exact h
  · exfalso
    rw [Array.getElem?_eq_none h] at this
    simp at this
end Go.Proofs.YtjikchbmkodgfaaDoor
