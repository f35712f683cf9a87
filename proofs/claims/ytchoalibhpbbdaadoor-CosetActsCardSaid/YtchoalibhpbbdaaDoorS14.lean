/-
  What a group does with its cosets. Conditions: none.
-/
import Derived.Test.YtchoalibhpbbdaaDoorS13
import Derived.Test.YtchoalibhpbbdaaDoorT12
set_option linter.all false
namespace Go.Proofs.YtchoalibhpbbdaaDoor
open Go.Pv

/-! ### The plain law -/

/-- Where a thing takes a coset. -/
def acl (n : Nat) (f : Nat → Nat → Nat) (r : Nat → Nat → Bool) (a i : Nat) : Nat := clq n r (f (rpq n r i) a)
def acp (n : Nat) (f : Nat → Nat → Nat) (r : Nat → Nat → Bool) (a i : Nat) : List Int := rg (fun i => ((acl n f r a i : Nat) : Int)) i
def acr (n : Nat) (f : Nat → Nat → Nat) (r : Nat → Nat → Bool) (a : Nat) : List Int := acp n f r a (cst n r).length
def acs (n : Nat) (f : Nat → Nat → Nat) (r : Nat → Nat → Bool) (b : Nat) : List (List Int) := (List.range b).map (acr n f r)
section
variable {n e : Nat} {f : Nat → Nat → Nat} {r : Nat → Nat → Bool} {p : Nat → Bool}
theorem acp_succ (a i : Nat) : acp n f r a (i + 1) = acp n f r a i ++ [((acl n f r a i : Nat) : Int)] := rg_succ _ _
theorem acp_len (a i : Nat) : (acp n f r a i).length = i := rg_len _ _
theorem acr_len (a : Nat) : (acr n f r a).length = (cst n r).length := acp_len _ _
theorem acr_get {a i : Nat} (hi : i < (cst n r).length) : (acr n f r a).getD i 0 = ((acl n f r a i : Nat) : Int) := rg_get (fun i => ((acl n f r a i : Nat) : Int)) hi
theorem acs_succ (b : Nat) : acs n f r (b + 1) = acs n f r b ++ [acr n f r b] := by simp [acs, List.range_succ]
theorem acs_len (b : Nat) : (acs n f r b).length = b := by simp [acs]
theorem acs_get {b a : Nat} (h : a < b) : (acs n f r b).getD a [] = acr n f r a := by simp [acs, List.getD, List.getElem?_range h]

theorem Grp.rco_mulr (G : Grp n f e) {a b x : Nat} (ha : a < n) (hb : b < n) (hx : x < n) (h : dco n f p (onp e) a b = true) : dco n f p (onp e) (f a x) (f b x) = true := by
  obtain ⟨y, z, y1, z1, y2, z2, rfl⟩ := dco_iff.1 h
  rw [onp_iff] at z2
  subst z2
  refine dco_iff.2 ⟨y, z, y1, z1, y2, onp_iff.2 rfl, ?_⟩
  rw [G.one_r _ (G.cl _ _ y1 (G.cl _ _ ha hx)), G.one_r _ (G.cl _ _ y1 ha), G.assoc _ _ _ y1 ha hx]
theorem Grp.rco_canr (G : Grp n f e) {a b x : Nat} (ha : a < n) (hb : b < n) (hx : x < n) (h : dco n f p (onp e) (f a x) (f b x) = true) : dco n f p (onp e) a b = true := by
  have := G.rco_mulr (G.cl _ _ ha hx) (G.cl _ _ hb hx) (G.iv_lt hx) h
  rwa [G.assoc _ _ _ ha hx (G.iv_lt hx), G.assoc _ _ _ hb hx (G.iv_lt hx), G.mul_iv hx, G.one_r _ ha, G.one_r _ hb] at this
variable (G : Grp n f e) (hp : Sub n f e p)
include G hp
theorem acl_lt {a i : Nat} (ha : a < n) (hi : i < (cst n (dco n f p (onp e))).length) : acl n f (dco n f p (onp e)) a i < (cst n (dco n f p (onp e))).length :=
  (clq_at (G.dco_eqv hp G.onp_sub) (G.cl _ _ (rpq_at (G.dco_eqv hp G.onp_sub) hi).1 ha)).1
theorem clq_back {y : Nat} (hy : y < n) : dco n f p (onp e) (rpq n (dco n f p (onp e)) (clq n (dco n f p (onp e)) y)) y = true := by
  have E := G.dco_eqv hp G.onp_sub
  have h1 := clq_at E hy
  have h2 := rpq_at E h1.1
  exact (clq_iff E h2.1 hy).1 h2.2.1
theorem acl_mul {a b i : Nat} (ha : a < n) (hb : b < n) (hi : i < (cst n (dco n f p (onp e))).length) : acl n f (dco n f p (onp e)) b (acl n f (dco n f p (onp e)) a i) = acl n f (dco n f p (onp e)) (f a b) i := by
  have E := G.dco_eqv hp G.onp_sub
  obtain ⟨x1, _⟩ := rpq_at E hi
  have hxa := G.cl _ _ x1 ha
  have h1 := clq_at E hxa
  obtain ⟨y1, _⟩ := rpq_at E h1.1
  show clq n _ (f (rpq n _ (clq n _ (f (rpq n _ i) a))) b) = clq n _ (f (rpq n _ i) (f a b))
  rw [clq_iff E (G.cl _ _ y1 hb) (G.cl _ _ x1 (G.cl _ _ ha hb)), ← G.assoc _ _ _ x1 ha hb]
  exact G.rco_mulr y1 hxa hb (clq_back G hp hxa)
theorem acl_inj {a i j : Nat} (ha : a < n) (hi : i < (cst n (dco n f p (onp e))).length) (hj : j < (cst n (dco n f p (onp e))).length) (h : acl n f (dco n f p (onp e)) a i = acl n f (dco n f p (onp e)) a j) : i = j := by
  have E := G.dco_eqv hp G.onp_sub
  obtain ⟨x1, x2, _⟩ := rpq_at E hi
  obtain ⟨y1, y2, _⟩ := rpq_at E hj
  have h1 := (clq_iff E (G.cl _ _ x1 ha) (G.cl _ _ y1 ha)).1 h
  have h2 := (clq_iff E x1 y1).2 (G.rco_canr x1 y1 ha h1)
  omega
theorem acr_perm (hn : n ≤ 60) {a : Nat} (ha : a < n) : PermOk (acr n f (dco n f p (onp e)) a) := by
  have hcl : (cst n (dco n f p (onp e))).length ≤ n := cstp_len _ _ _
  refine ⟨by rw [acr_len]; omega, fun i hi => ?_, fun i j hi hj he => ?_⟩
  · rw [acr_len] at hi ⊢
    rw [acr_get hi]
    have := acl_lt G hp ha hi
    omega
  · rw [acr_len] at hi hj
    rw [acr_get hi, acr_get hj] at he
    exact acl_inj G hp ha hi hj (by omega)
theorem acr_thn {a b : Nat} (ha : a < n) (hb : b < n) : thn (acr n f (dco n f p (onp e)) a) (acr n f (dco n f p (onp e)) b) = acr n f (dco n f p (onp e)) (f a b) := by
  apply List.ext_getElem
  · rw [thn, List.length_map, acr_len, acr_len]
  · intro i h1 h2
    have hi : i < (cst n (dco n f p (onp e))).length := by rw [acr_len] at h2; exact h2
    have hl := acl_lt G hp ha hi
    have e1 : (acr n f (dco n f p (onp e)) a)[i]'(by rw [acr_len]; exact hi) = ((acl n f (dco n f p (onp e)) a i : Nat) : Int) := by
      have := acr_get (f := f) (a := a) hi
      rwa [List.getD, List.getElem?_eq_getElem (by rw [acr_len]; exact hi)] at this
    have e2 : (acr n f (dco n f p (onp e)) (f a b))[i]'h2 = ((acl n f (dco n f p (onp e)) (f a b) i : Nat) : Int) := by
      have := acr_get (f := f) (a := f a b) hi
      rwa [List.getD, List.getElem?_eq_getElem (by rw [acr_len]; exact hi)] at this
    rw [e2]
    simp only [thn, List.getElem_map]
    rw [e1, Int.toNat_natCast, acr_get hl, acl_mul G hp ha hb hi]
/-- What moves no coset is the core. -/
theorem acl_core {a : Nat} (ha : a < n) : (∀ i, i < (cst n (dco n f p (onp e))).length → acl n f (dco n f p (onp e)) a i = i) ↔ crp n f e p a = true := by
  have E := G.dco_eqv hp G.onp_sub
  rw [crp_iff]
  have key : ∀ b, b < n → (dco n f p (onp e) b (f b a) = true ↔ p (cjr n f e a (iv n f e b)) = true) := fun b hb => by
    rw [G.rco_iff hb (G.cl _ _ hb ha)]
    unfold cjr
    rw [G.iv_iv hb]
  constructor
  · intro h c hc
    have hic := G.iv_lt hc
    have h1 := clq_at E hic
    obtain ⟨x1, x2, _⟩ := rpq_at E h1.1
    have h2 := clq_back G hp hic
    have h3 : clq n (dco n f p (onp e)) (f (rpq n (dco n f p (onp e)) (clq n (dco n f p (onp e)) (iv n f e c))) a) = clq n (dco n f p (onp e)) (iv n f e c) := h _ h1.1
    have h4 := (clq_iff E (G.cl _ _ x1 ha) hic).1 h3
    have h5 := G.rco_mulr x1 hic ha h2
    have h6 := E.trans _ _ _ hic (G.cl _ _ x1 ha) (G.cl _ _ hic ha) (E.symm _ _ (G.cl _ _ x1 ha) hic h4) h5
    have := (key _ hic).1 h6
    rwa [G.iv_iv hc] at this
  · intro h i hi
    obtain ⟨x1, x2, _⟩ := rpq_at E hi
    have h1 := (key _ x1).2 (h _ (G.iv_lt x1))
    have h2 := (clq_iff E x1 (G.cl _ _ x1 ha)).2 h1
    show clq n _ (f (rpq n _ i) a) = i
    rw [← h2, x2]
omit G hp in
theorem tak_len (k : Nat) : (thl k fun _ => true).length = k := by
  have h1 : thl k (fun _ => true) = List.map (fun a : Nat => (a : Int)) (List.range k) := by unfold thl thn'; rw [List.filter_eq_self.2 (fun _ _ => rfl)]
  rw [h1]; simp
omit G hp in
theorem tak_get {k i : Nat} (hi : i < k) : (thl k fun _ => true).getD i 0 = (i : Int) := by
  have h1 : thl k (fun _ => true) = List.map (fun a : Nat => (a : Int)) (List.range k) := by unfold thl thn'; rw [List.filter_eq_self.2 (fun _ _ => rfl)]
  rw [h1]
  simp [List.getD, List.getElem?_map, List.getElem?_range hi]
theorem acr_core {a : Nat} (ha : a < n) : decide (acr n f (dco n f p (onp e)) a = thl (cst n (dco n f p (onp e))).length fun _ => true) = crp n f e p a := by
  rw [Bool.eq_iff_iff, decide_eq_true_eq, ← acl_core G hp ha]
  constructor
  · intro h i hi
    have h1 := acr_get (f := f) (a := a) hi
    rw [h, tak_get hi] at h1
    omega
  · intro h
    apply List.ext_getElem
    · rw [acr_len, tak_len]
    · intro i h1 h2
      have hi : i < (cst n (dco n f p (onp e))).length := by rw [acr_len] at h1; exact h1
      have e1 := acr_get (f := f) (a := a) hi
      have e2 := tak_get hi
      rw [List.getD, List.getElem?_eq_getElem h1] at e1
      rw [List.getD, List.getElem?_eq_getElem h2] at e2
      simp only [Option.getD_some] at e1 e2
      rw [e1, e2, h i hi]
end

/-! ### The walk -/

/-- The things of the first cosets. -/
def cks (n : Nat) (r : Nat → Nat → Bool) (i : Nat) : List Int := ((cst n r).take i).flatten
theorem cks_succ {n : Nat} {r : Nat → Nat → Bool} {i : Nat} (hi : i < (cst n r).length) : cks n r (i + 1) = cks n r i ++ (cst n r).getD i [] := by
  unfold cks
  rw [List.take_succ_eq_append_getElem hi, List.flatten_append]
  simp [List.getD, List.getElem?_eq_getElem hi]
theorem cks_all {n : Nat} {r : Nat → Nat → Bool} (E : Eqv n r) {a : Nat} (ha : a < n) : ((a : Nat) : Int) ∈ cks n r (cst n r).length := by
  obtain ⟨i, i1, i2⟩ := cst_in E ha
  unfold cks
  rw [List.take_length, List.mem_flatten]
  refine ⟨_, ?_, i2⟩
  simp [List.getD, List.getElem?_eq_getElem i1]
def clv (n : Nat) (r : Nat → Nat → Bool) (u : Int) : PV := .int .i64 (clq n r u.toNat)

theorem act_w (N : Int) (m l : List Int) (w : Int × Int) (hG : FnC Tryd.prog 102 [gp N m, .list (il l)] (fl w)) (hw : ¬ w.1 = 0) : FnC Tryd.prog 84 [gp N m, .list (il l)] (.tup [.list (ll []), fl w]) := by
  refine fnc_of tab_ok Tryd.func84 rfl (by kernel_rfl) (by rw [Tryd.ntmps84]; exact Nat.le_add_left 2 _) ?_; rw [Tryd.ntmps84]
  refine qm ?_
  refine hk_region fun K hK => runs_eval tab_ok ?_
  simp only [ev0, evA, evB, evP, fl, gp, tab, simprocAttr, reduceCtorEq, reduceIte]
  refine fin_run ?_ (hK _ ?_) <;> clear hK <;> clear K
  · (first | exact trivial | omega | (simp only [In64] at *; omega) | (simp [In64] at *; omega) | (simp_all; done) | skip)
  refine qa (qm ?_)
  refine hk_region fun K hK => runs_eval tab_ok ?_
  simp only [ev0, evA, evB, evP, fl, gp, tab, simprocAttr, reduceCtorEq, reduceIte]
  refine fin_stop trivial (runs_call (right_w N m l w hG hw) rfl rfl rfl (by simp only [dstOk, Nat.reduceLT]) (by repeat (first | exact trivial | constructor)) (runs_eval tab_ok ?_))
  simp only [ev0, evA, evB, evP, fl, gp, tab, simprocAttr, reduceCtorEq, reduceIte]
  refine fin_run ?_ (hK _ ?_) <;> clear hK <;> clear K
  · (first | exact trivial | omega | (simp only [In64] at *; omega) | (simp [In64] at *; omega) | (simp_all; done) | skip)
  refine qa (qm (qm ?_))
  refine hk_region fun K hK => runs_eval tab_ok ?_
  simp only [ev0, evA, evB, evP, fl, gp, tab, simprocAttr, reduceCtorEq, reduceIte]
  refine fin_run ?_ (hK _ ?_) <;> clear hK <;> clear K
  · (first | exact trivial | omega | (simp only [In64] at *; omega) | (simp [In64] at *; omega) | (simp_all; done) | skip)
  refine qa ?_
  refine hk_cond rfl (fun hC1 => ?_) (fun hC1 => ?_)
  · (try simp only [nhs] at hC1)
    refine qm ?_
    refine hk_draw2 mixed fun K hK => runs2_eval tab_ok ?_
    simp only [evD, ev0, evA, evB, evP, fl, gp, tab, simprocAttr, reduceCtorEq, reduceIte]
    refine fin2_run ?_ (hK _ _ (by first | kernel_rfl | rfl) ?_) <;> clear hK <;> clear K
    · (first | exact trivial | omega | (simp only [In64] at *; omega) | (simp [In64] at *; omega) | (simp_all; done) | skip)
    refine qa (qk (qb ?_))
    simp only [Tryd.results84, enA, ev0, evA, evB, evP, fl, gp, tab, simprocAttr, reduceCtorEq, reduceIte]
    all_goals (simp [ll])
  · (try simp only [nhs] at hC1)
    exact absurd hC1 hw

set_option maxHeartbeats 4000000 in
theorem act_ok {n e : Nat} {m : List Int} (h : GT n m n e) (p : Nat → Bool) (hs : Sub n (op m n) e p) :
    FnC Tryd.prog 84 [gp n m, .list (il (thl n p))] (.tup [.list (ll (acs n (op m n) (dco n (op m n) p (onp e)) n)), fl (0, 0)]) := by
  have G := h.2.2
  have hb := h.2.1.big
  have E := G.dco_eqv hs G.onp_sub
  have hR := right_ok h p hs
  generalize dco n (op m n) p (onp e) = r at *
  have hcl : (cst n r).length ≤ n := cstp_len _ _ _
  have hsl := fun b => acs_len (n := n) (f := op m n) (r := r) b
  refine fnc_of tab_ok Tryd.func84 rfl (by kernel_rfl) (by rw [Tryd.ntmps84]; exact Nat.le_add_left 2 _) ?_; rw [Tryd.ntmps84]
  refine qm ?_
  refine hk_region fun K hK => runs_eval tab_ok ?_
  simp only [ev0, evA, evB, evP, fl, gp, tab, simprocAttr, reduceCtorEq, reduceIte]
  refine fin_run ?_ (hK _ ?_) <;> clear hK <;> clear K
  · (first | exact trivial | omega | (simp only [In64] at *; omega) | (simp [In64] at *; omega) | (simp_all; done) | skip)
  refine qa (qm ?_)
  refine hk_region fun K hK => runs_eval tab_ok ?_
  simp only [ev0, evA, evB, evP, fl, gp, tab, simprocAttr, reduceCtorEq, reduceIte]
  refine fin_stop trivial (runs_call (hR) rfl rfl rfl (by simp only [dstOk, Nat.reduceLT]) (by repeat (first | exact trivial | constructor)) (runs_eval tab_ok ?_))
  simp only [ev0, evA, evB, evP, fl, gp, tab, simprocAttr, reduceCtorEq, reduceIte]
  refine fin_run ?_ (hK _ ?_) <;> clear hK <;> clear K
  · (first | exact trivial | omega | (simp only [In64] at *; omega) | (simp [In64] at *; omega) | (simp_all; done) | skip)
  refine qa (qm (qm ?_))
  refine hk_region fun K hK => runs_eval tab_ok ?_
  simp only [ev0, evA, evB, evP, fl, gp, tab, simprocAttr, reduceCtorEq, reduceIte]
  refine fin_run ?_ (hK _ ?_) <;> clear hK <;> clear K
  · (first | exact trivial | omega | (simp only [In64] at *; omega) | (simp [In64] at *; omega) | (simp_all; done) | skip)
  refine qa ?_
  refine hk_cond rfl (fun hC1 => ?_) (fun hC1 => ?_)
  · cases hC1
  · (try simp only [nhs] at hC1)
    refine qh (qa (qm ?_))
    refine hk_region fun K hK => runs_eval tab_ok ?_
    simp only [ev0, evA, evB, evP, fl, gp, tab, simprocAttr, reduceCtorEq, reduceIte]
    refine fin_run ?_ (hK _ ?_) <;> clear hK <;> clear K
    · (first | exact trivial | omega | (simp only [In64] at *; omega) | (simp [In64] at *; omega) | (simp_all; done) | skip)
    refine qa (qm (qm ?_))
    refine hk_region fun K hK => runs_eval tab_ok ?_
    simp only [ev0, evA, evB, evP, fl, gp, tab, simprocAttr, reduceCtorEq, reduceIte, ll_length]
    refine fin_run trivial (hK _ ?_) <;> clear hK <;> clear K
    refine qa (ql ?_)
    refine hk_loop (ι := Nat) (fun i => ⟨77, [(2, .ptr 0 0), (5, .ptr 1 0), (6, .p (.list (ll (cst n r)))), (7, .ptr 2 0), (8, .mptr 3), (29, .p (.list (ll (cst n r)))), (30, .p (.int .i64 (cst n r).length)), (31, .p (.int .i64 i))], [.own [.p (.int .i64 n), .p (.list (il m))], .own [.p (.int .i64 0), .p (.int .i64 0)], .own [.p (.int .i64 0), .p (.int .i64 0)], .mp .i64 (mpd (cks n r i)) (mpv (cks n r i) (clv n r))]⟩) (fun i => i ≤ (cst n r).length) (fun i => (cst n r).length - i) 0 (Nat.zero_le _) [0, 1, 2, 3] (by simp only [leq, leA, ev0, evA, evB, evP, fl, gp, tab, simprocAttr, reduceCtorEq, reduceIte, ll_length] <;> first | trivial | (rw [mpd_nil, mpv_nil]; rfl)) fun i hi => ?_
    refine qm ?_
    refine hk_region fun K hK => runs_eval tab_ok ?_
    simp only [ev0, evA, evB, evP, fl, gp, tab, simprocAttr, reduceCtorEq, reduceIte]
    refine fin_run trivial (hK _ ?_) <;> clear hK <;> clear K
    refine qa (qm ?_)
    refine hk_cond rfl (fun hC2 => ?_) (fun hC2 => ?_)
    · (try simp only [nhs] at hC2)
      have hlt : i < (cst n r).length := by omega
      obtain ⟨x1, x2, x3, x4⟩ := rpq_at E hlt
      have l1 := thl_le n (r (rpq n r i))
      refine qh (qa (qm (ql (qm ?_))))
      refine hk_region fun K hK => runs_eval tab_ok ?_
      simp only [ev0, evA, evB, evP, fl, gp, tab, simprocAttr, reduceCtorEq, reduceIte, ll_length, ll_get hlt, x3]
      refine fin_run ?_ (hK _ ?_) <;> clear hK <;> clear K
      · (first | exact trivial | omega | (simp only [In64] at *; omega) | (simp [In64] at *; omega) | (simp_all; done) | skip)
      refine qa (qm ?_)
      refine hk_region fun K hK => runs_eval tab_ok ?_
      simp only [ev0, evA, evB, evP, fl, gp, tab, simprocAttr, reduceCtorEq, reduceIte, il_length]
      refine fin_run trivial (hK _ ?_) <;> clear hK <;> clear K
      refine qa (ql ?_)
      refine hk_loop (ι := Nat) (fun j => ⟨77, [(2, .ptr 0 0), (5, .ptr 1 0), (6, .p (.list (ll (cst n r)))), (7, .ptr 2 0), (8, .mptr 3), (9, .p (.int .i64 i)), (29, .p (.list (ll (cst n r)))), (30, .p (.int .i64 (cst n r).length)), (31, .p (.int .i64 i)), (36, .p (.list (il (thl n (r (rpq n r i)))))), (37, .p (.int .i64 (thl n (r (rpq n r i))).length)), (38, .p (.int .i64 j))], [.own [.p (.int .i64 n), .p (.list (il m))], .own [.p (.int .i64 0), .p (.int .i64 0)], .own [.p (.int .i64 0), .p (.int .i64 0)], .mp .i64 (mpd (cks n r i ++ (thl n (r (rpq n r i))).take j)) (mpv (cks n r i ++ (thl n (r (rpq n r i))).take j) (clv n r))]⟩) (fun j => j ≤ (thl n (r (rpq n r i))).length) (fun j => (thl n (r (rpq n r i))).length - j) 0 (Nat.zero_le _) [0, 1, 2, 3] (by rw [List.take_zero, List.append_nil]; simp only [leq, leA, ev0, evA, evB, evP, fl, gp, tab, simprocAttr, reduceCtorEq, reduceIte] <;> trivial) fun j hj => ?_
      refine qm ?_
      refine hk_region fun K hK => runs_eval tab_ok ?_
      simp only [ev0, evA, evB, evP, fl, gp, tab, simprocAttr, reduceCtorEq, reduceIte]
      refine fin_run trivial (hK _ ?_) <;> clear hK <;> clear K
      refine qa (qm ?_)
      refine hk_cond rfl (fun hC3 => ?_) (fun hC3 => ?_)
      · (try simp only [nhs] at hC3)
        have hjl : j < (thl n (r (rpq n r i))).length := by omega
        obtain ⟨c, c1, c2, c3⟩ := thl_get hjl
        have hci : clq n r c = i := by rw [← (clq_iff E x1 c1).2 c2, x2]
        refine qh (qa (qm (ql (qm ?_))))
        refine hk_region fun K hK => runs_eval tab_ok ?_
        simp only [ev0, evA, evB, evP, fl, gp, tab, simprocAttr, reduceCtorEq, reduceIte, il_get hjl, c3]
        refine fin_run ?_ (hK _ ?_) <;> clear hK <;> clear K
        · (first | exact trivial | omega | (simp only [In64] at *; omega) | (simp [In64] at *; omega) | (simp_all; done) | skip)
        refine qa ?_
        refine hk_region fun K hK => runs_eval tab_ok ?_
        simp only [ev0, evA, evB, evP, fl, gp, tab, simprocAttr, reduceCtorEq, reduceIte]
        refine fin_run ?_ (hK _ ?_) <;> clear hK <;> clear K
        · (first | exact trivial | omega | (simp only [In64] at *; omega) | (simp [In64] at *; omega) | (simp_all; done) | skip)
        refine qd (qa ?_)
        refine hk_region fun K hK => runs_eval tab_ok ?_
        simp only [ev0, evA, evB, evP, fl, gp, tab, simprocAttr, reduceCtorEq, reduceIte]
        refine fin_run ?_ (hK _ ?_) <;> clear hK <;> clear K
        · (first | exact trivial | omega | (simp only [In64] at *; omega) | (simp [In64] at *; omega) | (simp_all; done) | skip)
        refine qa ?_
        refine ⟨j + 1, [0, 1, 2, 3], by omega, by omega, ?_⟩
        have hd := mpd_set (cks n r i ++ (thl n (r (rpq n r i))).take j) (c : Int)
        have hv := mpv_set (cks n r i ++ (thl n (r (rpq n r i))).take j) (c : Int) (clv n r)
        have hx : clv n r (c : Int) = .int .i64 (i : Int) := by unfold clv; rw [Int.toNat_natCast, hci]
        rw [hx] at hv
        rw [take_snoc hjl, c3, ← List.append_assoc]
        simp only [leq, leA, ev0, evA, evB, evP, fl, gp, tab, simprocAttr, reduceCtorEq, reduceIte] <;> first | trivial | omega | (rw [hd, hv])
      · (try simp only [nhs] at hC3)
        have hjn : j = (thl n (r (rpq n r i))).length := by omega
        refine qj (qc (qc (qf (qd (qa ?_)))))
        refine hk_region fun K hK => runs_eval tab_ok ?_
        simp only [ev0, evA, evB, evP, fl, gp, tab, simprocAttr, reduceCtorEq, reduceIte]
        refine fin_run ?_ (hK _ ?_) <;> clear hK <;> clear K
        · (first | exact trivial | omega | (simp only [In64] at *; omega) | (simp [In64] at *; omega) | (simp_all; done) | skip)
        refine qa ?_
        refine ⟨i + 1, [0, 1, 2, 3], by omega, by omega, ?_⟩
        rw [cks_succ hlt, x3, hjn, List.take_length]
        simp only [leq, leA, ev0, evA, evB, evP, fl, gp, tab, simprocAttr, reduceCtorEq, reduceIte] <;> first | trivial | omega
    · (try simp only [nhs] at hC2)
      have hin : i = (cst n r).length := by omega
      rw [hin]
      refine qj (qc (qc (qf (qa (qm ?_)))))
      refine hk_region fun K hK => runs_eval tab_ok ?_
      simp only [ev0, evA, evB, evP, fl, gp, tab, simprocAttr, reduceCtorEq, reduceIte]
      refine fin_run trivial (hK _ ?_) <;> clear hK <;> clear K
      refine qa (qm (qm ?_))
      refine hk_own0 13 rfl ?_
      refine hk_region fun K hK => runs_eval tab_ok ?_
      simp only [ev0, evA, evB, evP, fl, gp, tab, simprocAttr, reduceCtorEq, reduceIte]
      refine fin_run ?_ (hK _ ?_) <;> clear hK <;> clear K
      · (first | exact trivial | omega | (simp only [In64] at *; omega) | (simp [In64] at *; omega) | (simp_all; done) | skip)
      refine qa (ql ?_)
      refine hk_loop (ι := Nat) (fun a => ⟨77, [(2, .ptr 0 0), (5, .ptr 1 0), (6, .p (.list (ll (cst n r)))), (7, .ptr 2 0), (8, .mptr 3), (13, .sl 4 0 (acs n (op m n) r a).length), (48, .p (.int .i64 n)), (49, .p (.int .i64 a))], [.own [.p (.int .i64 n), .p (.list (il m))], .own [.p (.int .i64 0), .p (.int .i64 0)], .own [.p (.int .i64 0), .p (.int .i64 0)], .mp .i64 (mpd (cks n r (cst n r).length)) (mpv (cks n r (cst n r).length) (clv n r)), .own (opl (ll (acs n (op m n) r a)))]⟩) (fun a => a ≤ n) (fun a => n - a) 0 (Nat.zero_le _) [0, 1, 2, 3, 4] (by simp only [leq, leA, ev0, evA, evB, evP, fl, gp, tab, simprocAttr, reduceCtorEq, reduceIte] <;> first | trivial | (simp [acs, ll, opl]; done)) fun a ha => ?_
      have hli := hsl a
      refine qm ?_
      refine hk_region fun K hK => runs_eval tab_ok ?_
      simp only [ev0, evA, evB, evP, fl, gp, tab, simprocAttr, reduceCtorEq, reduceIte]
      refine fin_run trivial (hK _ ?_) <;> clear hK <;> clear K
      refine qa (qm ?_)
      refine hk_cond rfl (fun hC4 => ?_) (fun hC4 => ?_)
      · (try simp only [nhs] at hC4)
        have hal : a < n := by omega
        refine qh (qa (qm (ql (qm ?_))))
        refine hk_region fun K hK => runs_eval tab_ok ?_
        simp only [ev0, evA, evB, evP, fl, gp, tab, simprocAttr, reduceCtorEq, reduceIte]
        refine fin_run trivial (hK _ ?_) <;> clear hK <;> clear K
        refine qa (qm ?_)
        refine hk_region fun K hK => runs_eval tab_ok ?_
        simp only [ev0, evA, evB, evP, fl, gp, tab, simprocAttr, reduceCtorEq, reduceIte]
        refine fin_run trivial (hK _ ?_) <;> clear hK <;> clear K
        refine qa (qm (qm ?_))
        refine hk_own0 15 rfl ?_
        refine hk_region fun K hK => runs_eval tab_ok ?_
        simp only [ev0, evA, evB, evP, fl, gp, tab, simprocAttr, reduceCtorEq, reduceIte, ll_length]
        refine fin_run trivial (hK _ ?_) <;> clear hK <;> clear K
        refine qa (ql ?_)
        refine hk_loop (ι := Nat) (fun i => ⟨77, [(2, .ptr 0 0), (5, .ptr 1 0), (6, .p (.list (ll (cst n r)))), (7, .ptr 2 0), (8, .mptr 3), (13, .sl 4 0 (acs n (op m n) r a).length), (14, .p (.int .i64 a)), (15, .sl 5 0 (acp n (op m n) r a i).length), (48, .p (.int .i64 n)), (49, .p (.int .i64 a)), (52, .p (.list (ll (cst n r)))), (53, .p (.int .i64 (cst n r).length)), (54, .p (.int .i64 i))], [.own [.p (.int .i64 n), .p (.list (il m))], .own [.p (.int .i64 0), .p (.int .i64 0)], .own [.p (.int .i64 0), .p (.int .i64 0)], .mp .i64 (mpd (cks n r (cst n r).length)) (mpv (cks n r (cst n r).length) (clv n r)), .own (opl (ll (acs n (op m n) r a))), .own (ol (acp n (op m n) r a i))]⟩) (fun i => i ≤ (cst n r).length) (fun i => (cst n r).length - i) 0 (Nat.zero_le _) [0, 1, 2, 3, 4, 5] (by simp only [leq, leA, ev0, evA, evB, evP, fl, gp, tab, simprocAttr, reduceCtorEq, reduceIte, ll_takeL] <;> first | trivial | (simp [acp, rg, ol_nil]; done)) fun i hi => ?_
        have hpl := acp_len (n := n) (f := op m n) (r := r) a i
        refine qm ?_
        refine hk_region fun K hK => runs_eval tab_ok ?_
        simp only [ev0, evA, evB, evP, fl, gp, tab, simprocAttr, reduceCtorEq, reduceIte]
        refine fin_run trivial (hK _ ?_) <;> clear hK <;> clear K
        refine qa (qm ?_)
        refine hk_cond rfl (fun hC5 => ?_) (fun hC5 => ?_)
        · (try simp only [nhs] at hC5)
          have hlt : i < (cst n r).length := by omega
          obtain ⟨x1, x2, x3, x4⟩ := rpq_at E hlt
          obtain ⟨hd1, hd2⟩ := (lead_head x1).1 x4
          have hxa := G.cl _ _ x1 hal
          have hmem := cks_all E hxa
          have hin := mpd_in hmem
          have hvv := mpv_in (clv n r) hmem
          have hpx : clv n r ((op m n (rpq n r i) a : Nat) : Int) = .int .i64 ((acl n (op m n) r a i : Nat) : Int) := by unfold clv; rw [Int.toNat_natCast]; rfl
          refine qh (qa (qm (ql (qm ?_))))
          refine hk_region fun K hK => runs_eval tab_ok ?_
          simp only [ev0, evA, evB, evP, fl, gp, tab, simprocAttr, reduceCtorEq, reduceIte, ll_length, ll_get hlt, x3]
          refine fin_run ?_ (hK _ ?_) <;> clear hK <;> clear K
          · (first | exact trivial | omega | (simp only [In64] at *; omega) | (simp [In64] at *; omega) | (simp_all; done) | skip)
          refine qa ?_
          refine hk_draw2 mixed fun K hK => runs2_eval tab_ok ?_
          simp only [evD, ev0, evA, evB, evP, fl, gp, tab, simprocAttr, reduceCtorEq, reduceIte, il_length, il_get hd1, hd2]
          refine fin2_stop ?_ (runs2_call (of_c h.2.1 x1 hal) rfl rfl rfl rfl (by simp only [dstOk, Nat.reduceLT]) (by repeat (first | exact trivial | constructor)) (runs2_eval tab_ok ?_))
          · (first | exact trivial | omega | (simp only [In64] at *; omega) | (simp [In64] at *; omega) | (simp_all; done) | skip)
          simp only [evD, ev0, evA, evB, evP, fl, gp, tab, simprocAttr, reduceCtorEq, reduceIte, hin, cond_true, hvv, hpx, il_length, il_get hd1, hd2]
          refine fin2_run ?_ (hK _ _ (by first | kernel_rfl | rfl) ?_) <;> clear hK <;> clear K
          · (first | exact trivial | omega | (simp only [In64] at *; omega) | (simp [In64] at *; omega) | (simp_all; done) | skip)
          refine qd (qa ?_)
          refine hk_region fun K hK => runs_eval tab_ok ?_
          simp only [ev0, evA, evB, evP, fl, gp, tab, simprocAttr, reduceCtorEq, reduceIte]
          refine fin_run ?_ (hK _ ?_) <;> clear hK <;> clear K
          · (first | exact trivial | omega | (simp only [In64] at *; omega) | (simp [In64] at *; omega) | (simp_all; done) | skip)
          refine qa ?_
          refine ⟨i + 1, [0, 1, 2, 3, 4, 6], by omega, by omega, ?_⟩
          rw [acp_succ]
          simp only [leq, leA, ev0, evA, evB, evP, fl, gp, tab, simprocAttr, reduceCtorEq, reduceIte, ll_takeL] <;> first | trivial | omega
        · (try simp only [nhs] at hC5)
          have hin : i = (cst n r).length := by omega
          rw [hin, show acp n (op m n) r a (cst n r).length = acr n (op m n) r a from rfl]
          refine hk_seal 15 5 rfl rfl ?_
          refine qj (qc (qc (qf (qa ?_))))
          refine hk_region fun K hK => runs_eval tab_ok ?_
          simp only [ev0, evA, evB, evP, fl, gp, tab, simprocAttr, reduceCtorEq, reduceIte, ll_takeL, oll_ok, ll_snoc]
          refine fin_run ?_ (hK _ ?_) <;> clear hK <;> clear K
          · (first | exact trivial | omega | (simp only [In64] at *; omega) | (simp [In64] at *; omega) | (simp_all; done) | skip)
          refine qd (qa ?_)
          refine hk_region fun K hK => runs_eval tab_ok ?_
          simp only [ev0, evA, evB, evP, fl, gp, tab, simprocAttr, reduceCtorEq, reduceIte]
          refine fin_run ?_ (hK _ ?_) <;> clear hK <;> clear K
          · (first | exact trivial | omega | (simp only [In64] at *; omega) | (simp [In64] at *; omega) | (simp_all; done) | skip)
          refine qa ?_
          refine ⟨a + 1, [0, 1, 2, 3, 6], by omega, by omega, ?_⟩
          rw [acs_succ]
          simp only [leq, leA, ev0, evA, evB, evP, fl, gp, tab, simprocAttr, reduceCtorEq, reduceIte, ll_takeL, ll_snoc, ll_takeS] <;> first | trivial | omega
      · (try simp only [nhs] at hC4)
        have han : a = n := by omega
        rw [han]
        refine hk_sealp 13 4 (ll_all (acs n (op m n) r n)) (by show AV.sl 4 0 _ = AV.sl 4 0 _; rw [ll_length]) rfl ?_
        refine qj (qc (qc (qf (qa (qm ?_)))))
        refine hk_draw2 mixed fun K hK => runs2_eval tab_ok ?_
        simp only [evD, ev0, evA, evB, evP, fl, gp, tab, simprocAttr, reduceCtorEq, reduceIte]
        refine fin2_run ?_ (hK _ _ (by first | kernel_rfl | rfl) ?_) <;> clear hK <;> clear K
        · (first | exact trivial | omega | (simp only [In64] at *; omega) | (simp [In64] at *; omega) | (simp_all; done) | skip)
        refine qa (qk ?_)
        simp only [Tryd.results84, enA, ev0, evA, evB, evP, fl, gp, tab, simprocAttr, reduceCtorEq, reduceIte]
        all_goals (simp)
end Go.Proofs.YtchoalibhpbbdaaDoor
