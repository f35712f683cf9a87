/-
  Composition series: parts of parts; the greatest normal subgroup; Composition walked. Conditions: none.
-/
import Derived.Test.YtpogfmijefephaaDoorS11
import Derived.Test.YtpogfmijefephaaDoorS13
import Derived.Test.YtpogfmijefephaaDoorG26
set_option linter.all false
namespace Go.Proofs.YtpogfmijefephaaDoor
open Go.Pv

/-! ### What a part has, in the whole -/

def lft (p q : Nat → Bool) (x : Nat) : Bool := p x && q (pix p x)
theorem lft_iff {p q : Nat → Bool} {x : Nat} : lft p q x = true ↔ p x = true ∧ q (pix p x) = true := by unfold lft; rw [Bool.and_eq_true]
theorem lat_pix {n x : Nat} {p : Nat → Bool} (hx : x < n) (hp : p x = true) : lat n p (pix p x) = x := by
  have := (pix_at hx hp).2
  unfold lat; rw [this]; rfl
theorem lat_low {n i : Nat} {p : Nat → Bool} (hi : i < (thl n p).length) : lat (n + 1) p i = lat n p i := by
  unfold lat
  rw [thl_succ, List.getD_eq_getElem?_getD, List.getElem?_append_left hi, ← List.getD_eq_getElem?_getD]
theorem lft_thl (p q : Nat → Bool) : ∀ n, (thl (thl n p).length q).map (fun z => ((lat n p z.toNat : Nat) : Int)) = thl n (lft p q)
  | 0 => rfl
  | n + 1 => by
    have ih := lft_thl p q n
    have hc : (thl (thl n p).length q).map (fun z => ((lat (n + 1) p z.toNat : Nat) : Int)) = thl n (lft p q) := by
      rw [← ih]
      refine List.map_congr_left fun z hz => ?_
      obtain ⟨i, i1, _, rfl⟩ := mem_thl.1 hz
      rw [Int.toNat_natCast, lat_low i1]
    rw [thl_succ n (lft p q)]
    by_cases hp : p n = true
    · have hl : (thl (n + 1) p).length = (thl n p).length + 1 := by rw [thl_succ, if_pos hp]; simp
      have ha : lat (n + 1) p (thl n p).length = n := by
        unfold lat
        rw [thl_succ, if_pos hp]; simp [List.getD]
      rw [hl, thl_succ, List.map_append, hc]
      have hv : lft p q n = q (thl n p).length := by unfold lft pix; rw [hp]; rfl
      rw [hv]
      by_cases hq : q (thl n p).length = true
      · rw [if_pos hq, if_pos hq]; simp [ha]
      · rw [if_neg hq, if_neg hq]; rfl
    · have hl : thl (n + 1) p = thl n p := by rw [thl_succ, if_neg hp]; simp
      have hv : lft p q n = false := by unfold lft; rw [Bool.not_eq_true] at hp; rw [hp]; rfl
      rw [hl, hv, if_neg (by simp), List.append_nil]
      exact hc

section
variable {n e : Nat} {f : Nat → Nat → Nat} {p q : Nat → Bool}

theorem pop_pix (hs : Sub n f e p) {a b : Nat} (ha : a < n) (hb : b < n) (pa : p a = true) (pb : p b = true) : pop n f p (pix p a) (pix p b) = pix p (f a b) := by
  unfold pop; rw [lat_pix ha pa, lat_pix hb pb]
theorem lft_sub (G : Grp n f e) (hs : Sub n f e p) (hq : Sub (thl n p).length (pop n f p) (pix p e) q) : Sub n f e (lft p q) :=
  sub_of G (lft_iff.2 ⟨hs.one, hq.one⟩) fun a b ha hb h1 h2 => by
    obtain ⟨a1, a2⟩ := lft_iff.1 h1
    obtain ⟨b1, b2⟩ := lft_iff.1 h2
    refine lft_iff.2 ⟨hs.mul _ _ ha hb a1 b1, ?_⟩
    rw [← pop_pix hs ha hb a1 b1]
    exact hq.mul _ _ (pix_at ha a1).1 (pix_at hb b1).1 a2 b2
theorem iv_pix (G : Grp n f e) (hs : Sub n f e p) {a : Nat} (ha : a < n) (pa : p a = true) : iv (thl n p).length (pop n f p) (pix p e) (pix p a) = pix p (iv n f e a) := by
  have Gp := ptb_grp G hs
  have hi := G.iv_lt ha
  have pi := hs.inv _ ha pa
  refine (Gp.iv_unique (pix_at ha pa).1 (pix_at hi pi).1 (.inl ?_)).symm
  rw [pop_pix hs ha hi pa pi, G.mul_iv ha]
theorem cjr_pix (G : Grp n f e) (hs : Sub n f e p) {x a : Nat} (hx : x < n) (ha : a < n) (px : p x = true) (pa : p a = true) : cjr (thl n p).length (pop n f p) (pix p e) (pix p x) (pix p a) = pix p (cjr n f e x a) := by
  unfold cjr
  have hi := G.iv_lt ha
  have pi := hs.inv _ ha pa
  rw [iv_pix G hs ha pa, pop_pix hs hi hx pi px, pop_pix hs (G.cl _ _ hi hx) ha (hs.mul _ _ hi hx pi px) pa]
theorem cjr_in (G : Grp n f e) (hs : Sub n f e p) {x a : Nat} (hx : x < n) (ha : a < n) (px : p x = true) (pa : p a = true) : p (cjr n f e x a) = true := by
  have hi := G.iv_lt ha
  have pi := hs.inv _ ha pa
  exact hs.mul _ _ (G.cl _ _ hi hx) ha (hs.mul _ _ hi hx pi px) pa

/-- A normal subgroup of a subgroup, not all of it; with any thing more, and what that is conjugated to, it is all. -/
structure Mxn (n : Nat) (f : Nat → Nat → Nat) (e : Nat) (p p' : Nat → Bool) : Prop where
  sub : Sub n f e p'
  le : ∀ x, x < n → p' x = true → p x = true
  nml : ∀ a x, a < n → x < n → p a = true → p' x = true → p' (cjr n f e x a) = true
  ne : ∃ x, x < n ∧ p x = true ∧ p' x = false
  mx : ∀ x, x < n → p x = true → p' x = false → ∀ t : Nat → Bool, Sub n f e t → (∀ y, y < n → p' y = true → t y = true) → (∀ b, b < n → p b = true → t (cjr n f e x b) = true) → ∀ y, y < n → p y = true → t y = true

def wth (q : Nat → Bool) (a x : Nat) : Bool := q x || decide (x = a)
/-- What the greatest normal subgroup is. -/
structure Grt (n : Nat) (f : Nat → Nat → Nat) (e : Nat) (q : Nat → Bool) : Prop where
  sub : Sub n f e q
  nml : Nml n f e q
  ne : ∃ x, x < n ∧ q x = false
  mx : ∀ a, a < n → q a = false → ∀ y, y < n → Gen n f e (cup n f e (wth q a)) y

theorem Grt.lift (G : Grp n f e) (hs : Sub n f e p) (hq : Grt (thl n p).length (pop n f p) (pix p e) q) : Mxn n f e p (lft p q) := by
  have Gp := ptb_grp G hs
  refine ⟨lft_sub G hs hq.sub, fun x _ h => (lft_iff.1 h).1, fun a x ha hx pa h => ?_, ?_, fun x hx px h t ht h1 h2 y hy py => ?_⟩
  · obtain ⟨x1, x2⟩ := lft_iff.1 h
    refine lft_iff.2 ⟨cjr_in G hs hx ha x1 pa, ?_⟩
    rw [← cjr_pix G hs hx ha x1 pa]
    exact hq.nml _ (pix_at ha pa).1 _ (pix_at hx x1).1 x2
  · obtain ⟨i, i1, i2⟩ := hq.ne
    obtain ⟨x1, x2, _, x4⟩ := lat_at i1
    refine ⟨_, x1, x2, ?_⟩
    unfold lft; rw [x2, x4, i2]; rfl
  · have hqx : q (pix p x) = false := by unfold lft at h; rw [px] at h; simpa using h
    have hall := hq.mx _ (pix_at hx px).1 hqx (pix p y) (pix_at hy py).1
    have hS : Sub (thl n p).length (pop n f p) (pix p e) fun i => t (lat n p i) := by
      refine sub_of Gp ?_ fun i j hi hj h1 h2 => ?_
      · rw [lat_pix G.el hs.one]; exact ht.one
      · rw [(pop_at G hs hi hj).2]
        exact ht.mul _ _ (lat_at hi).1 (lat_at hj).1 h1 h2
    have := hall.sub Gp hS fun b hb hc => by
      obtain ⟨u, v, u1, v1, u2, u3⟩ := cup_iff.1 hc
      obtain ⟨a1, a2, _, a4⟩ := lat_at u1
      obtain ⟨b1, b2, _, b4⟩ := lat_at v1
      have e1 : b = pix p (cjr n f e (lat n p u) (lat n p v)) := by
        rw [← u3, ← cjr_pix G hs a1 b1 a2 b2, a4, b4]
      rw [e1, lat_pix (G.cjr_lt a1 b1) (cjr_in G hs a1 b1 a2 b2)]
      unfold wth at u2
      rw [Bool.or_eq_true, decide_eq_true_eq] at u2
      rcases u2 with u2 | u2
      · refine h1 _ (G.cjr_lt a1 b1) (lft_iff.2 ⟨cjr_in G hs a1 b1 a2 b2, ?_⟩)
        rw [← cjr_pix G hs a1 b1 a2 b2, a4, b4]
        exact hq.nml _ v1 _ u1 u2
      · rw [u2, lat_pix hx px]
        exact h2 _ b1 b2
    rwa [lat_pix hy py] at this
theorem Mxn.lt (h : Mxn n f e p q) : (mem n q).length < (mem n p).length := mem_lt h.le fun hh => by
  obtain ⟨x, x1, x2, x3⟩ := h.ne
  rw [hh x x1] at x3; rw [x3] at x2; cases x2
theorem Mxn.half (G : Grp n f e) (hs : Sub n f e p) (h : Mxn n f e p q) : 2 * (mem n q).length ≤ (mem n p).length := by
  have h1 := h.sub.dvd G (K := p) fun a b ha hb h1 h2 => hs.mul _ _ ha hb h1 (h.le _ hb h2)
  have h2 := h.lt
  obtain ⟨c, hc⟩ := h1
  rw [hc] at h2 ⊢
  rcases c with _ | _ | c
  · omega
  · simp at h2
  · rw [Nat.mul_comm 2]; exact Nat.mul_le_mul_left _ (by omega)
end

theorem cl_ex (n : Nat) (f : Nat → Nat → Nat) (e : Nat) : ∃ cl : (Nat → Bool) → Nat → Nat → Bool, ∀ p a y, y < n → (cl p a y = true ↔ Gen n f e (cup n f e (wth p a)) y) := by
  have h : ∀ p : Nat → Bool, ∃ g : Nat → Nat → Bool, ∀ a y, y < n → (g a y = true ↔ Gen n f e (cup n f e (wth p a)) y) := fun p => by
    have h2 : ∀ a, ∃ r : Nat → Bool, ∀ y, y < n → (r y = true ↔ Gen n f e (cup n f e (wth p a)) y) := fun a => gen_ex n f e _
    obtain ⟨g, hg⟩ := Classical.axiomOfChoice h2
    exact ⟨g, hg⟩
  obtain ⟨cl, hcl⟩ := Classical.axiomOfChoice h
  exact ⟨cl, hcl⟩

/-- The first thing with which a set makes not all. -/
def gfa (n : Nat) (cl : (Nat → Bool) → Nat → Nat → Bool) (p : Nat → Bool) (a : Nat) : Bool := !p a && decide ((thl n (cl p a)).length < n)
def gnx (n : Nat) (cl : (Nat → Bool) → Nat → Nat → Bool) (p : Nat → Bool) : Nat → Bool :=
  match fst' (gfa n cl p) n with
  | some a => cl p a
  | none => p
theorem gnx_some {n a : Nat} {cl : (Nat → Bool) → Nat → Nat → Bool} {p : Nat → Bool} (ha : a < n) (h : gfa n cl p a = true) (hj : ∀ j, j < a → gfa n cl p j = false) : gnx n cl p = cl p a := by
  unfold gnx; rw [fst_some ha h hj]
theorem gnx_none {n : Nat} {cl : (Nat → Bool) → Nat → Nat → Bool} {p : Nat → Bool} (hj : ∀ j, j < n → gfa n cl p j = false) : gnx n cl p = p := by
  unfold gnx; rw [fst_none hj]

section
variable {n e : Nat} {f : Nat → Nat → Nat}
theorem cl_in (G : Grp n f e) {cl : (Nat → Bool) → Nat → Nat → Bool} (hcl : ∀ p a y, y < n → (cl p a y = true ↔ Gen n f e (cup n f e (wth p a)) y)) {p : Nat → Bool} {a : Nat} (ha : a < n) : (∀ x, x < n → p x = true → cl p a x = true) ∧ cl p a a = true :=
  ⟨fun x hx h => (hcl _ _ _ hx).2 (Gen.mem G hx (G.cup_in hx (by unfold wth; rw [h]; rfl))), (hcl _ _ _ ha).2 (Gen.mem G ha (G.cup_in ha (by unfold wth; simp)))⟩
theorem full_len {p : Nat → Bool} (h : ¬ (thl n p).length < n) : ∀ y, y < n → p y = true := by
  intro y hy
  cases hp : p y with
  | true => rfl
  | false =>
    exfalso
    have := mem_lt (n := n) (p := fun _ => true) (q := p) (fun _ _ _ => rfl) (fun hh => by have := hh y hy; rw [hp] at this; cases this)
    have e1 : (thl n p).length = (mem n p).length := thl_len _ _
    have e2 : (mem n fun _ => true).length = n := by unfold mem; rw [List.filter_eq_self.2 fun _ _ => rfl, List.length_range]
    omega
theorem gnx_stop (G : Grp n f e) (h1 : 1 < n) {cl : (Nat → Bool) → Nat → Nat → Bool} (hcl : ∀ p a y, y < n → (cl p a y = true ↔ Gen n f e (cup n f e (wth p a)) y)) :
    ∃ K, K ≤ n ∧ Stp n (itr (gnx n cl) (onp e)) K ∧ (∀ j, j < n → gfa n cl (itr (gnx n cl) (onp e) K) j = false) ∧ Grt n f e (itr (gnx n cl) (onp e) K) := by
  have up : ∀ p : Nat → Bool, ∀ x, x < n → p x = true → gnx n cl p x = true := fun p x hx h => by
    unfold gnx
    cases hf : fst' (gfa n cl p) n with
    | none => exact h
    | some a => exact (cl_in G hcl (fst_spec hf).1).1 x hx h
  obtain ⟨K, hK, hS⟩ := stop_ex (n := n) (T := itr (gnx n cl) (onp e)) (fun k => n - (mem n (itr (gnx n cl) (onp e) k)).length) fun k hne => by
    have := mem_lt (n := n) (p := itr (gnx n cl) (onp e) (k + 1)) (q := itr (gnx n cl) (onp e) k) (fun x hx h => up _ x hx h) (fun hh => hne fun a ha => (hh a ha).symm)
    have h3 : (mem n (itr (gnx n cl) (onp e) (k + 1))).length ≤ n := by
      have := List.length_filter_le (itr (gnx n cl) (onp e) (k + 1)) (List.range n)
      simpa [mem] using this
    omega
  have inv : ∀ k, Sub n f e (itr (gnx n cl) (onp e) k) ∧ Nml n f e (itr (gnx n cl) (onp e) k) ∧ (thl n (itr (gnx n cl) (onp e) k)).length < n := by
    intro k
    induction k with
    | zero =>
      refine ⟨G.onp_sub, G.one_nml, ?_⟩
      show (thl n fun y => decide (y = e)).length < n
      rw [thl_one G.el]; exact h1
    | succ k ih =>
      show Sub n f e (gnx n cl (itr (gnx n cl) (onp e) k)) ∧ Nml n f e (gnx n cl (itr (gnx n cl) (onp e) k)) ∧ (thl n (gnx n cl (itr (gnx n cl) (onp e) k))).length < n
      generalize itr (gnx n cl) (onp e) k = p at *
      unfold gnx
      cases hf : fst' (gfa n cl p) n with
      | none => exact ih
      | some a =>
        have h2 := (fst_spec hf).2.1
        unfold gfa at h2
        rw [Bool.and_eq_true, decide_eq_true_eq] at h2
        exact ⟨gen_sub G (hcl p a), G.gen_nml (G.cup_nml _) (hcl p a), h2.2⟩
  have none : ∀ j, j < n → gfa n cl (itr (gnx n cl) (onp e) K) j = false := by
    intro j hj
    cases hg : gfa n cl (itr (gnx n cl) (onp e) K) j with
    | false => rfl
    | true =>
      exfalso
      have hex : ∃ a, fst' (gfa n cl (itr (gnx n cl) (onp e) K)) n = some a := by
        cases hf : fst' (gfa n cl (itr (gnx n cl) (onp e) K)) n with
        | some a => exact ⟨a, rfl⟩
        | none => have := fst_spec0 hf j hj; rw [hg] at this; cases this
      obtain ⟨a, hf⟩ := hex
      obtain ⟨a1, a2, a3⟩ := fst_spec hf
      have h3 := hS.eq a a1
      have h4 : itr (gnx n cl) (onp e) (K + 1) = cl (itr (gnx n cl) (onp e) K) a := gnx_some a1 a2 a3
      rw [h4, (cl_in G hcl a1).2] at h3
      unfold gfa at a2
      rw [← h3] at a2; simp at a2
  obtain ⟨i1, i2, i3⟩ := inv K
  have hle : K ≤ n := by
    have : n - (mem n (itr (gnx n cl) (onp e) 0)).length ≤ n := Nat.sub_le _ _
    omega
  refine ⟨K, hle, hS, none, i1, i2, ?_, fun a ha hqa y hy => ?_⟩
  · refine Classical.byContradiction fun hh => ?_
    have hall : ∀ x, x < n → itr (gnx n cl) (onp e) K x = true := fun x hx => by
      cases hv : itr (gnx n cl) (onp e) K x with
      | true => rfl
      | false => exact absurd ⟨x, hx, hv⟩ hh
    have e1 : thl n (itr (gnx n cl) (onp e) K) = thl n fun _ => true := thl_congr fun x hx => hall x hx
    have e2 : (thl n fun _ => true).length = n := by rw [thl_len]; unfold thn'; rw [List.filter_eq_self.2 fun _ _ => rfl, List.length_range]
    rw [e1] at i3; omega
  · have h3 := none a ha
    unfold gfa at h3
    rw [hqa] at h3
    simp only [Bool.not_false, Bool.true_and, decide_eq_false_iff_not] at h3
    exact (hcl _ _ _ hy).1 (full_len h3 y hy)
end

/-! ### greatest -/

theorem bo_wth {n a : Nat} (p : Nat → Bool) (ha : a < n) : bo n p ||| 2 ^ a = bo n (wth p a) := by
  refine Nat.eq_of_testBit_eq fun i => ?_
  rw [Nat.testBit_or, bo_bit, bo_bit, Nat.testBit_two_pow]
  unfold wth
  by_cases hi : i < n
  · simp [hi, eq_comm]
  · have : ¬ a = i := by omega
    simp [hi, this]
theorem bo_gen0 {n e : Nat} {f : Nat → Nat → Nat} : ∀ a, a < n → (onp e a = true ↔ Gen n f e (Nat.testBit 0) a) := fun a ha => by
  rw [onp_iff]
  constructor
  · rintro rfl; exact .one
  · intro hg
    exact Gen.least (H := fun a => a = e) rfl (fun a b _ _ hb _ => by simp at hb) hg

set_option maxHeartbeats 2000000 in
theorem greatest_ok {n e : Nat} {m : List Int} (h : GT n m n e) (h1 : 1 < n) : ∃ q, Grt n (op m n) e q ∧ FnC Tryd.prog 47 [gp n m] (.list (il (thl n q))) := by
  have G := h.2.2
  have hb := h.2.1.big
  obtain ⟨cl, hcl⟩ := cl_ex n (op m n) e
  obtain ⟨K, hK, hS, hnone, hG⟩ := gnx_stop G h1 hcl
  have hT0 : itr (gnx n cl) (onp e) 0 = onp e := rfl
  have hTs : ∀ k, itr (gnx n cl) (onp e) (k + 1) = gnx n cl (itr (gnx n cl) (onp e) k) := fun k => rfl
  refine ⟨itr (gnx n cl) (onp e) K, hG, ?_⟩
  generalize itr (gnx n cl) (onp e) = T at *
  have hbt : ∀ p, bo n p < 2 ^ 64 := fun p => bo_lt64 hb p
  refine fnc_of tab_ok Tryd.func47 rfl (by kernel_rfl) (by rw [Tryd.ntmps47]; exact Nat.le_add_left 1 _) ?_; rw [Tryd.ntmps47]
  refine qm ?_
  refine hk_region fun K hK => runs_eval tab_ok ?_
  simp only [ev0, evA, evB, evP, fl, gp, tab, simprocAttr, reduceCtorEq, reduceIte]
  refine fin_run ?_ (hK _ ?_) <;> clear hK <;> clear K
  · (first | exact trivial | omega | (simp only [In64] at *; omega) | (simp [In64] at *; omega) | (simp_all; done) | skip)
  refine qa (qs (fun _ _ h => h) (qm ?_))
  refine hk_region fun K hK => runs_eval tab_ok ?_
  simp only [ev0, evA, evB, evP, fl, gp, tab, simprocAttr, reduceCtorEq, reduceIte]
  refine fin_stop trivial (runs_call (grow_c h 0 (Nat.pow_pos (by omega)) (onp e) bo_gen0) rfl rfl rfl (by simp only [dstOk, Nat.reduceLT]) (by repeat (first | exact trivial | constructor)) (runs_eval tab_ok ?_))
  simp only [ev0, evA, evB, evP, fl, gp, tab, simprocAttr, reduceCtorEq, reduceIte]
  refine fin_run ?_ (hK _ ?_) <;> clear hK <;> clear K
  · (first | exact trivial | omega | (simp only [In64] at *; omega) | (simp [In64] at *; omega) | (simp_all; done) | skip)
  refine qa (qm (qi (qa (ql ?_))))
  refine hk_loop (ι := Nat) (fun k => ⟨37, [(1, .ptr 0 0), (3, .p (.int .u64 (bo n (T k))))], [.own [.p (.int .i64 n), .p (.list (il m))]]⟩) (fun k => k ≤ K) (fun k => K - k) 0 (Nat.zero_le _) [0] (by rw [hT0]; simp only [leq, leA, ev0, evA, evB, evP, fl, gp, tab, simprocAttr, reduceCtorEq, reduceIte] <;> trivial) fun k hk => ?_
  refine ql (qm (qm ?_))
  refine hk_region fun K hK => runs_eval tab_ok ?_
  simp only [ev0, evA, evB, evP, fl, gp, tab, simprocAttr, reduceCtorEq, reduceIte]
  refine fin_run ?_ (hK _ ?_) <;> clear hK <;> clear K
  · (first | exact trivial | omega | (simp only [In64] at *; omega) | (simp [In64] at *; omega) | (simp_all; done) | skip)
  refine qa (ql ?_)
  refine hk_loop (ι := Nat) (fun a => ⟨37, [(1, .ptr 0 0), (3, .p (.int .u64 (bo n (T k)))), (10, .p (.int .i64 n)), (11, .p (.int .i64 a))], [.own [.p (.int .i64 n), .p (.list (il m))]]⟩) (fun a => a ≤ n ∧ ∀ j, j < a → gfa n cl (T k) j = false) (fun a => n - a) 0 ⟨Nat.zero_le _, fun j hj => by omega⟩ [0] (by simp only [leq, leA, ev0, evA, evB, evP, fl, gp, tab, simprocAttr, reduceCtorEq, reduceIte] <;> trivial) fun a ha => ?_
  obtain ⟨ha, hlow⟩ := ha
  refine qm ?_
  refine hk_region fun K hK => runs_eval tab_ok ?_
  simp only [ev0, evA, evB, evP, fl, gp, tab, simprocAttr, reduceCtorEq, reduceIte]
  refine fin_run trivial (hK _ ?_) <;> clear hK <;> clear K
  refine qa (qm ?_)
  refine hk_cond rfl (fun hC1 => ?_) (fun hC1 => ?_)
  · (try simp only [nhs] at hC1)
    have hal : a < n := by omega
    have hbit : (bo n (T k)).testBit a = T k a := by rw [bo_bit]; simp [hal]
    refine qh (qa (qm (ql (qm ?_))))
    refine hk_region fun K hK => runs_eval tab_ok ?_
    simp only [ev0, evA, evB, evP, fl, gp, tab, simprocAttr, reduceCtorEq, reduceIte]
    refine fin_run trivial (hK _ ?_) <;> clear hK <;> clear K
    refine qa (qm (qm ?_))
    refine hk_region fun K hK => runs_eval tab_ok ?_
    simp only [ev0, evA, evB, evP, fl, gp, tab, simprocAttr, reduceCtorEq, reduceIte]
    refine fin_stop trivial (runs_call (has_s (bo n (T k)) a (hbt _) (by omega)) rfl rfl rfl (by simp only [dstOk, Nat.reduceLT]) (by repeat (first | exact trivial | constructor)) (runs_eval tab_ok ?_))
    simp only [ev0, evA, evB, evP, fl, gp, tab, simprocAttr, reduceCtorEq, reduceIte, hbit]
    refine fin_run trivial (hK _ ?_) <;> clear hK <;> clear K
    refine qa ?_
    refine hk_cond rfl (fun hC2 => ?_) (fun hC2 => ?_)
    · (try simp only [nhs] at hC2)
      have hga : gfa n cl (T k) a = false := by unfold gfa; rw [hC2]; rfl
      refine qj (qc (qf (qa ?_)))
      refine hk_region fun K hK => runs_eval tab_ok ?_
      simp only [ev0, evA, evB, evP, fl, gp, tab, simprocAttr, reduceCtorEq, reduceIte]
      refine fin_run ?_ (hK _ ?_) <;> clear hK <;> clear K
      · (first | exact trivial | omega | (simp only [In64] at *; omega) | (simp [In64] at *; omega) | (simp_all; done) | skip)
      refine qa ?_
      refine ⟨a + 1, [0], ⟨by omega, fun j hj => ?_⟩, by omega, ?_⟩
      · by_cases hja : j = a
        · rw [hja]; exact hga
        · exact hlow j (by omega)
      · simp only [leq, leA, ev0, evA, evB, evP, fl, gp, tab, simprocAttr, reduceCtorEq, reduceIte] <;> omega
    · (try simp only [nhs] at hC2)
      have hw := bo_wth (T k) hal
      have hp2 := pow_lt64 (b := a) (by omega)
      refine qh (qa (qm ?_))
      refine hk_draw2 mixed fun K hK => runs2_eval tab_ok ?_
      simp only [evD, ev0, evA, evB, evP, fl, gp, tab, simprocAttr, reduceCtorEq, reduceIte, shl_one (show a < 64 by omega), bv_or (hbt (T k)) hp2, hw]
      refine fin2_stop ?_ (runs2_call (list_s (bo n (wth (T k) a)) (hbt _)) rfl rfl rfl rfl (by simp only [dstOk, Nat.reduceLT]) (by repeat (first | exact trivial | constructor)) (runs2_eval tab_ok ?_))
      · omega
      simp only [evD, ev0, evA, evB, evP, fl, gp, tab, simprocAttr, reduceCtorEq, reduceIte, stl_bo hb, shl_one (show a < 64 by omega), bv_or (hbt (T k)) hp2, hw]
      refine fin2_stop trivial (runs2_call (closure_ok h (wth (T k) a) (cl (T k) a) (hcl (T k) a)) rfl rfl rfl rfl (by simp only [dstOk, Nat.reduceLT]) (by repeat (first | exact trivial | constructor)) (runs2_eval tab_ok ?_))
      simp only [evD, ev0, evA, evB, evP, fl, gp, tab, simprocAttr, reduceCtorEq, reduceIte, shl_one (show a < 64 by omega), bv_or (hbt (T k)) hp2, hw]
      refine fin2_run ?_ (hK _ _ (by first | kernel_rfl | rfl) ?_) <;> clear hK <;> clear K
      · (first | exact trivial | omega | (simp only [In64] at *; omega) | (simp [In64] at *; omega) | (simp_all; done) | skip)
      refine qa (qm ?_)
      refine hk_region fun K hK => runs_eval tab_ok ?_
      simp only [ev0, evA, evB, evP, fl, gp, tab, simprocAttr, reduceCtorEq, reduceIte, il_length]
      refine fin_run ?_ (hK _ ?_) <;> clear hK <;> clear K
      · (first | exact trivial | omega | (simp only [In64] at *; omega) | (simp [In64] at *; omega) | (simp_all; done) | skip)
      refine qa ?_
      refine hk_cond rfl (fun hC3 => ?_) (fun hC3 => ?_)
      · (try simp only [nhs] at hC3)
        have hga : gfa n cl (T k) a = true := by unfold gfa; rw [hC2, decide_eq_true (show (thl n (cl (T k) a)).length < n by omega)]; rfl
        have hnx : T (k + 1) = cl (T k) a := by rw [hTs]; exact gnx_some hal hga hlow
        have hkK : k < K := by
          rcases Nat.lt_or_eq_of_le hk with h | h
          · exact h
          · rw [h] at hga; have := hnone a hal; rw [this] at hga; cases hga
        refine qm ?_
        refine hk_region fun K hK => runs_eval tab_ok ?_
        simp only [ev0, evA, evB, evP, fl, gp, tab, simprocAttr, reduceCtorEq, reduceIte]
        refine fin_stop trivial (runs_call (of_s (thl n (cl (T k) a)) (by have := thl_le n (cl (T k) a); omega) (thl_rng hb _)) rfl rfl rfl (by simp only [dstOk, Nat.reduceLT]) (by repeat (first | exact trivial | constructor)) (runs_eval tab_ok ?_))
        simp only [ev0, evA, evB, evP, fl, gp, tab, simprocAttr, reduceCtorEq, reduceIte, msk_thl]
        refine fin_run trivial (hK _ ?_) <;> clear hK <;> clear K
        refine qa (qj (qg rfl (qc (qc (qg rfl (qc (qf (qa ?_))))))))
        refine ⟨k + 1, [0], by omega, by omega, ?_⟩
        rw [hnx]
        simp only [leq, leA, ev0, evA, evB, evP, fl, gp, tab, simprocAttr, reduceCtorEq, reduceIte] <;> trivial
      · (try simp only [nhs] at hC3)
        have hga : gfa n cl (T k) a = false := by unfold gfa; rw [hC2, decide_eq_false (show ¬ (thl n (cl (T k) a)).length < n by omega)]; rfl
        refine qh (qd (qa ?_))
        refine hk_region fun K hK => runs_eval tab_ok ?_
        simp only [ev0, evA, evB, evP, fl, gp, tab, simprocAttr, reduceCtorEq, reduceIte]
        refine fin_run ?_ (hK _ ?_) <;> clear hK <;> clear K
        · (first | exact trivial | omega | (simp only [In64] at *; omega) | (simp [In64] at *; omega) | (simp_all; done) | skip)
        refine qa ?_
        refine ⟨a + 1, [0], ⟨by omega, fun j hj => ?_⟩, by omega, ?_⟩
        · by_cases hja : j = a
          · rw [hja]; exact hga
          · exact hlow j (by omega)
        · simp only [leq, leA, ev0, evA, evB, evP, fl, gp, tab, simprocAttr, reduceCtorEq, reduceIte] <;> omega
  · (try simp only [nhs] at hC1)
    have han : a = n := by omega
    have hkK : k = K := by
      rcases Nat.lt_or_eq_of_le hk with h | h
      · exact absurd (fun x hx => by rw [hTs, gnx_none (fun j hj => hlow j (by omega))]) (hS.ne k h)
      · exact h
    refine qj (qc (qc (qf (qa (qm ?_)))))
    refine hk_region fun K hK => runs_eval tab_ok ?_
    simp only [ev0, evA, evB, evP, fl, gp, tab, simprocAttr, reduceCtorEq, reduceIte]
    refine fin_stop trivial (runs_call (list_s (bo n (T k)) (hbt _)) rfl rfl rfl (by simp only [dstOk, Nat.reduceLT]) (by repeat (first | exact trivial | constructor)) (runs_eval tab_ok ?_))
    simp only [ev0, evA, evB, evP, fl, gp, tab, simprocAttr, reduceCtorEq, reduceIte, stl_bo hb]
    refine fin_run trivial (hK _ ?_) <;> clear hK <;> clear K
    refine qa (qk (qe (qb (qe ?_))))
    simp only [Tryd.results47, enA, ev0, evA, evB, evP, fl, gp, tab, simprocAttr, reduceCtorEq, reduceIte]
    all_goals (rw [hkK])

/-! ### Composition -/

theorem Grt.cong {n e : Nat} {f g : Nat → Nat → Nat} {q : Nat → Bool} (G : Grp n f e) (h : ∀ a b, a < n → b < n → g a b = f a b) (hq : Grt n g e q) : Grt n f e q :=
  ⟨hq.sub.cong_op G h, hq.nml.cong_op G h, hq.ne, fun a ha hqa y hy => (Gen.mono (fun b _ hb => by rwa [cup_cong G h] at hb) (hq.mx a ha hqa y hy)).cong_op G h⟩

section
variable {n e : Nat} {m : List Int}
theorem ptb_GT (h : GT n m n e) {p : Nat → Bool} (hs : Sub n (op m n) e p) : GT (thl n p).length (ptb n (op m n) p) (thl n p).length (pix p e) := by
  have := thl_le n p
  have := h.2.1.big
  exact tbl_GT' (by omega) (ptb_grp h.2.2 hs)
theorem ptb_op {p : Nat → Bool} (f : Nat → Nat → Nat) : ∀ a b, a < (thl n p).length → b < (thl n p).length → op (ptb n f p) (thl n p).length a b = pop n f p a b := fun a b ha hb => tbl_op' _ ha hb

theorem part_greatest (h : GT n m n e) (p : Nat → Bool) : ∃ q : Nat → Bool, Sub n (op m n) e p → 1 < (thl n p).length → Grt (thl n p).length (pop n (op m n) p) (pix p e) q ∧
    FnC Tryd.prog 47 [gp (thl n p).length (ptb n (op m n) p)] (.list (il (thl (thl n p).length q))) := by
  by_cases hs : Sub n (op m n) e p ∧ 1 < (thl n p).length
  · obtain ⟨q, hq, hc⟩ := greatest_ok (ptb_GT h hs.1) hs.2
    exact ⟨q, fun _ _ => ⟨hq.cong (ptb_grp h.2.2 hs.1) (ptb_op _), hc⟩⟩
  · exact ⟨p, fun h1 h2 => absurd ⟨h1, h2⟩ hs⟩

/-- A composition series: from all on, to one thing. -/
structure Cps (n : Nat) (f : Nat → Nat → Nat) (e : Nat) (T : Nat → Nat → Bool) (K : Nat) : Prop where
  all : T 0 = fun _ => true
  sub : ∀ k, k ≤ K → Sub n f e (T k)
  mxn : ∀ k, k < K → Mxn n f e (T k) (T (k + 1))
  last : (thl n (T K)).length = 1
  short : K ≤ 5

theorem cps_ex (G : Grp n (op m n) e) (hb : n ≤ 60) (Q : (Nat → Bool) → Nat → Bool) (hQ : ∀ p, Sub n (op m n) e p → 1 < (thl n p).length → Mxn n (op m n) e p (lft p (Q p))) :
    ∃ K, Cps n (op m n) e (itr (fun p => lft p (Q p)) fun _ => true) K ∧ ∀ k, k < K → 1 < (thl n (itr (fun p => lft p (Q p)) (fun _ => true) k)).length := by
  have hTs : ∀ k, itr (fun p => lft p (Q p)) (fun _ => true) (k + 1) = lft (itr (fun p => lft p (Q p)) (fun _ => true) k) (Q (itr (fun p => lft p (Q p)) (fun _ => true) k)) := fun k => rfl
  have hT0 : itr (fun p => lft p (Q p)) (fun _ => true) 0 = fun _ => true := rfl
  generalize itr (fun p => lft p (Q p)) (fun _ => true) = T at *
  have step : ∀ k, Sub n (op m n) e (T k) → 1 < (thl n (T k)).length → Mxn n (op m n) e (T k) (T (k + 1)) := fun k h1 h2 => by rw [hTs]; exact hQ _ h1 h2
  have go : ∀ c k, (thl n (T k)).length ≤ c → (∀ j, j ≤ k → Sub n (op m n) e (T j)) → (∀ j, j < k → 1 < (thl n (T j)).length) → (thl n (T k)).length * 2 ^ k ≤ n →
      ∃ K, (∀ j, j ≤ K → Sub n (op m n) e (T j)) ∧ (∀ j, j < K → 1 < (thl n (T j)).length) ∧ (thl n (T K)).length = 1 ∧ 2 ^ K ≤ n := by
    intro c
    induction c with
    | zero =>
      intro k h1 h2 _ _
      have := (pix_at G.el (h2 k (Nat.le_refl _)).one).1
      omega
    | succ c ih =>
      intro k h1 h2 h3 h4
      have hpos := (pix_at G.el (h2 k (Nat.le_refl _)).one).1
      by_cases hl : (thl n (T k)).length = 1
      · exact ⟨k, h2, h3, hl, by rw [hl] at h4; omega⟩
      · have hM := step k (h2 k (Nat.le_refl _)) (by omega)
        have hh := hM.half G (h2 k (Nat.le_refl _))
        have e1 : (thl n (T k)).length = (mem n (T k)).length := thl_len _ _
        have e2 : (thl n (T (k + 1))).length = (mem n (T (k + 1))).length := thl_len _ _
        refine ih (k + 1) (by omega) (fun j hj => ?_) (fun j hj => ?_) ?_
        · by_cases hjk : j = k + 1
          · rw [hjk]; exact hM.sub
          · exact h2 j (by omega)
        · by_cases hjk : j = k
          · rw [hjk]; omega
          · exact h3 j (by omega)
        · have e3 : (thl n (T (k + 1))).length * 2 ^ (k + 1) = (2 * (thl n (T (k + 1))).length) * 2 ^ k := by rw [Nat.pow_succ, Nat.mul_comm 2, Nat.mul_assoc, Nat.mul_comm 2]
          rw [e3]
          exact Nat.le_trans (Nat.mul_le_mul_right _ (by omega)) h4
  have hall : (thl n (T 0)).length = n := by
    rw [hT0, thl_len]; unfold thn'; rw [List.filter_eq_self.2 fun _ _ => rfl, List.length_range]
  obtain ⟨K, h1, h2, h3, h4⟩ := go n 0 (by omega) (fun j hj => by rw [show j = 0 by omega, hT0]; exact G.all_sub) (fun j hj => by omega) (by rw [hall]; simp)
  refine ⟨K, ⟨hT0, h1, fun k hk => step k (h1 k (by omega)) (h2 k hk), h3, ?_⟩, h2⟩
  refine Classical.byContradiction fun hh => ?_
  have : 2 ^ 6 ≤ 2 ^ K := Nat.pow_le_pow_right (by omega) (by omega)
  omega

theorem lft_take (p q : Nat → Bool) : ((thl (thl n p).length q).map fun z => ((lat n p z.toNat : Nat) : Int)) = thl n (lft p q) := lft_thl p q n
def lml (n : Nat) (p : Nat → Bool) (l : List Int) : List Int := l.map fun z => ((lat n p z.toNat : Nat) : Int)
theorem lml_succ (n : Nat) (p : Nat → Bool) {l : List Int} {i : Nat} (hi : i < l.length) : lml n p (l.take (i + 1)) = lml n p (l.take i) ++ [((lat n p (l.getD i 0).toNat : Nat) : Int)] := by
  unfold lml
  rw [List.take_succ_eq_append_getElem hi, List.map_append]
  have : l[i] = l.getD i 0 := by simp [List.getD, List.getElem?_eq_getElem hi]
  rw [this]; rfl
theorem lml_len (n : Nat) (p : Nat → Bool) (l : List Int) : (lml n p l).length = l.length := by simp [lml]

set_option maxHeartbeats 4000000 in
theorem composition_ok (h : GT n m n e) : ∃ T K, Cps n (op m n) e T K ∧ FnC Tryd.prog 20 [gp n m] (.tup [.list (ll (cht n T K)), fl (0, 0)]) := by
  have G := h.2.2
  have hb := h.2.1.big
  have hml := h.2.1.len
  have hsq := sq_le hb
  have hbt : ∀ p, bo n p < 2 ^ 64 := fun p => bo_lt64 hb p
  have h1 : ∀ k : Nat, ((k + 1) == 0) = false := fun k => rfl
  obtain ⟨Q, hQ⟩ := Classical.axiomOfChoice (part_greatest h)
  obtain ⟨K, hC, hlong⟩ := cps_ex G hb Q fun p hs h1 => ((hQ p) hs h1).1.lift G hs
  have hTs : ∀ k, itr (fun p => lft p (Q p)) (fun _ => true) (k + 1) = lft (itr (fun p => lft p (Q p)) (fun _ => true) k) (Q (itr (fun p => lft p (Q p)) (fun _ => true) k)) := fun k => rfl
  refine ⟨_, K, hC, ?_⟩
  generalize itr (fun p => lft p (Q p)) (fun _ => true) = T at *
  have h0 := hC.all
  have hshort := hC.short
  refine fnc_of tab_ok Tryd.func20 rfl (by kernel_rfl) (by rw [Tryd.ntmps20]; exact Nat.le_add_left 1 _) ?_; rw [Tryd.ntmps20]
  refine qm ?_
  refine hk_region fun K hK => runs_eval tab_ok ?_
  simp only [ev0, evA, evB, evP, fl, gp, tab, simprocAttr, reduceCtorEq, reduceIte]
  refine fin_run ?_ (hK _ ?_) <;> clear hK <;> clear K
  · (first | exact trivial | omega | (simp only [In64] at *; omega) | (simp [In64] at *; omega) | (simp_all; done) | skip)
  refine qa (qm (qm ?_))
  refine hk_region fun K hK => runs_eval tab_ok ?_
  simp only [ev0, evA, evB, evP, fl, gp, tab, simprocAttr, reduceCtorEq, reduceIte]
  refine fin_stop trivial (runs_call (check_c n m (by omega)) rfl rfl rfl (by simp only [dstOk, Nat.reduceLT]) (by repeat (first | exact trivial | constructor)) (runs_eval tab_ok ?_))
  simp only [ev0, evA, evB, evP, fl, gp, tab, simprocAttr, reduceCtorEq, reduceIte, gf_of h]
  refine fin_run ?_ (hK _ ?_) <;> clear hK <;> clear K
  · (first | exact trivial | omega | (simp only [In64] at *; omega) | (simp [In64] at *; omega) | (simp_all; done) | skip)
  refine qa (qm ?_)
  refine hk_region fun K hK => runs_eval tab_ok ?_
  simp only [ev0, evA, evB, evP, fl, gp, tab, simprocAttr, reduceCtorEq, reduceIte]
  refine fin_run ?_ (hK _ ?_) <;> clear hK <;> clear K
  · (first | exact trivial | omega | (simp only [In64] at *; omega) | (simp [In64] at *; omega) | (simp_all; done) | skip)
  refine qa ?_
  refine hk_cond rfl (fun hC1 => ?_) (fun hC1 => ?_)
  · cases hC1
  · (try simp only [nhs] at hC1)
    refine qh (qa (qm ?_))
    refine hk_region fun K hK => runs_eval tab_ok ?_
    simp only [ev0, evA, evB, evP, fl, gp, tab, simprocAttr, reduceCtorEq, reduceIte]
    refine fin_stop trivial (runs_call (whole_s n m hb) rfl rfl rfl (by simp only [dstOk, Nat.reduceLT]) (by repeat (first | exact trivial | constructor)) (runs_eval tab_ok ?_))
    simp only [ev0, evA, evB, evP, fl, gp, tab, simprocAttr, reduceCtorEq, reduceIte]
    refine fin_stop trivial (runs_call (list_s (bo n fun _ => true) (hbt _)) rfl rfl rfl (by simp only [dstOk, Nat.reduceLT]) (by repeat (first | exact trivial | constructor)) (runs_eval tab_ok ?_))
    simp only [ev0, evA, evB, evP, fl, gp, tab, simprocAttr, reduceCtorEq, reduceIte, stl_bo hb]
    refine fin_run ?_ (hK _ ?_) <;> clear hK <;> clear K
    · (first | exact trivial | omega | (simp only [In64] at *; omega) | (simp [In64] at *; omega) | (simp_all; done) | skip)
    refine qa (qm ?_)
    refine hk_region fun K hK => runs_eval tab_ok ?_
    simp only [ev0, evA, evB, evP, fl, gp, tab, simprocAttr, reduceCtorEq, reduceIte]
    refine fin_run ?_ (hK _ ?_) <;> clear hK <;> clear K
    · (first | exact trivial | omega | (simp only [In64] at *; omega) | (simp [In64] at *; omega) | (simp_all; done) | skip)
    refine qa (qm (ql ?_))
    refine hk_loop (ι := Nat) (fun k => ⟨54, [(1, .ptr 0 0), (3, .ptr 1 0), (5, .p (.list (il (thl n (T k))))), (6, bif k == 0 then .p (.nn [.list (il (thl n (T 0)))]) else .sl 2 0 (cht n T k).length)], bif k == 0 then [.own [.p (.int .i64 n), .p (.list (il m))], .own [.p (.int .i64 0), .p (.int .i64 0)]] else [.own [.p (.int .i64 n), .p (.list (il m))], .own [.p (.int .i64 0), .p (.int .i64 0)], .own (opl (ll (cht n T k)))]⟩) (fun k => k ≤ K) (fun k => K - k) 0 (Nat.zero_le _) [0, 1] (by rw [h0]; simp only [leq, leA, ev0, evA, evB, evP, fl, gp, tab, simprocAttr, reduceCtorEq, reduceIte, beq_self_eq_true, cond_true] <;> first | trivial | (simp; done)) fun k hk => ?_
    have hl1 := thl_le n (T k)
    refine qm (qm ?_)
    by_cases hk0 : (k == 0) = true
    · simp only [hk0, cond_true]
      have hkz : k = 0 := by simpa using hk0
      refine hk_region fun K hK => runs_eval tab_ok ?_
      simp only [ev0, evA, evB, evP, fl, gp, tab, simprocAttr, reduceCtorEq, reduceIte, il_length]
      refine fin_run trivial (hK _ ?_) <;> clear hK <;> clear K
      refine qa ?_
      refine hk_cond rfl (fun hC2 => ?_) (fun hC2 => ?_)
      · (try simp only [nhs] at hC2)
        have hkK : k < K := by
          rcases Nat.lt_or_eq_of_le hk with h | h
          · exact h
          · have := hC.last; rw [← h] at this; omega
        have hs := hC.sub k hk
        obtain ⟨hgrt, hgc⟩ := hQ (T k) hs (by omega)
        have hT1 := hTs k
        have hpk := thl_le (thl n (T k)).length (Q (T k))
        refine qh (qa (ql (qm ?_)))
        refine hk_region fun K hK => runs_eval tab_ok ?_
        simp only [ev0, evA, evB, evP, fl, gp, tab, simprocAttr, reduceCtorEq, reduceIte]
        refine fin_stop trivial (runs_call (part_ok h (T k) hs) rfl rfl rfl (by simp only [dstOk, Nat.reduceLT]) (by repeat (first | exact trivial | constructor)) (runs_eval tab_ok ?_))
        simp only [ev0, evA, evB, evP, fl, gp, tab, simprocAttr, reduceCtorEq, reduceIte]
        refine fin_run ?_ (hK _ ?_) <;> clear hK <;> clear K
        · (first | exact trivial | omega | (simp only [In64] at *; omega) | (simp [In64] at *; omega) | (simp_all; done) | skip)
        refine qa (qm ?_)
        refine hk_region fun K hK => runs_eval tab_ok ?_
        simp only [ev0, evA, evB, evP, fl, gp, tab, simprocAttr, reduceCtorEq, reduceIte]
        refine fin_run trivial (hK _ ?_) <;> clear hK <;> clear K
        refine qa (qm (qm ?_))
        refine hk_own0 9 rfl ?_
        refine hk_region fun K hK => runs_eval tab_ok ?_
        simp only [ev0, evA, evB, evP, fl, gp, tab, simprocAttr, reduceCtorEq, reduceIte, il_length]
        refine fin_stop trivial (runs_call (hgc) rfl rfl rfl (by simp only [dstOk, Nat.reduceLT]) (by repeat (first | exact trivial | constructor)) (runs_eval tab_ok ?_))
        simp only [ev0, evA, evB, evP, fl, gp, tab, simprocAttr, reduceCtorEq, reduceIte, il_length]
        refine fin_run ?_ (hK _ ?_) <;> clear hK <;> clear K
        · (first | exact trivial | omega | (simp only [In64] at *; omega) | (simp [In64] at *; omega) | (simp_all; done) | skip)
        refine qa (ql ?_)
        refine hk_loop (ι := Nat) (fun i => ⟨54, [(1, .ptr 0 0), (3, .ptr 1 0), (5, .p (.list (il (thl n (T k))))), (6, .p (.nn [.list (il (thl n (T 0)))])), (9, .sl 2 0 (lml n (T k) ((thl (thl n (T k)).length (Q (T k))).take i)).length), (33, .p (.list (il (thl (thl n (T k)).length (Q (T k)))))), (34, .p (.int .i64 (thl (thl n (T k)).length (Q (T k))).length)), (35, .p (.int .i64 i))], [.own [.p (.int .i64 n), .p (.list (il m))], .own [.p (.int .i64 0), .p (.int .i64 0)], .own (ol (lml n (T k) ((thl (thl n (T k)).length (Q (T k))).take i)))]⟩) (fun i => i ≤ (thl (thl n (T k)).length (Q (T k))).length) (fun i => (thl (thl n (T k)).length (Q (T k))).length - i) 0 (Nat.zero_le _) [0, 1, 4] (by simp only [leq, leA, ev0, evA, evB, evP, fl, gp, tab, simprocAttr, reduceCtorEq, reduceIte, ll_takeL] <;> first | trivial | simp [lml, ol_nil]) fun i hi => ?_
        refine qm ?_
        refine hk_region fun K hK => runs_eval tab_ok ?_
        simp only [ev0, evA, evB, evP, fl, gp, tab, simprocAttr, reduceCtorEq, reduceIte]
        refine fin_run trivial (hK _ ?_) <;> clear hK <;> clear K
        refine qa (qm ?_)
        refine hk_cond rfl (fun hC3 => ?_) (fun hC3 => ?_)
        · (try simp only [nhs] at hC3)
          have hlt : i < (thl (thl n (T k)).length (Q (T k))).length := by omega
          obtain ⟨x, x1, x2, x3⟩ := thl_get hlt
          obtain ⟨y1, y2, y3, y4⟩ := lat_at x1
          have hll2 := lml_len n (T k) ((thl (thl n (T k)).length (Q (T k))).take i)
          rw [List.length_take] at hll2
          refine qh (qa (qm (ql (qm ?_))))
          refine hk_region fun K hK => runs_eval tab_ok ?_
          simp only [ev0, evA, evB, evP, fl, gp, tab, simprocAttr, reduceCtorEq, reduceIte, il_get hlt, x3]
          refine fin_run ?_ (hK _ ?_) <;> clear hK <;> clear K
          · (first | exact trivial | omega | (simp only [In64] at *; omega) | (simp [In64] at *; omega) | (simp_all; done) | skip)
          refine qa ?_
          refine hk_region fun K hK => runs_eval tab_ok ?_
          simp only [ev0, evA, evB, evP, fl, gp, tab, simprocAttr, reduceCtorEq, reduceIte, il_get x1, y3]
          refine fin_run ?_ (hK _ ?_) <;> clear hK <;> clear K
          · (first | exact trivial | omega | (simp only [In64] at *; omega) | (simp [In64] at *; omega) | (simp_all; done) | skip)
          refine qd (qa ?_)
          refine hk_region fun K hK => runs_eval tab_ok ?_
          simp only [ev0, evA, evB, evP, fl, gp, tab, simprocAttr, reduceCtorEq, reduceIte]
          refine fin_run ?_ (hK _ ?_) <;> clear hK <;> clear K
          · (first | exact trivial | omega | (simp only [In64] at *; omega) | (simp [In64] at *; omega) | (simp_all; done) | skip)
          refine qa ?_
          refine ⟨i + 1, [0, 1, 3], by omega, by omega, ?_⟩
          rw [lml_succ n (T k) hlt, x3]
          simp only [leq, leA, ev0, evA, evB, evP, fl, gp, tab, simprocAttr, reduceCtorEq, reduceIte, ll_takeL] <;> first | trivial | omega
        · (try simp only [nhs] at hC3)
          have hin : i = (thl (thl n (T k)).length (Q (T k))).length := by omega
          have hnew : lml n (T k) ((thl (thl n (T k)).length (Q (T k))).take i) = thl n (T (k + 1)) := by rw [hin, List.take_length, hT1]; exact lft_take _ _
          rw [hnew]
          have hl2 := thl_le n (T (k + 1))
          have hs2 := cht_succ n T k
          refine qj (qc (qc (qf (qa (qm ?_)))))
          refine hk_seal 9 2 rfl rfl ?_
          refine hk_region fun K hK => runs_eval tab_ok ?_
          simp only [ev0, evA, evB, evP, fl, gp, tab, simprocAttr, reduceCtorEq, reduceIte]
          refine fin_run trivial (hK _ ?_) <;> clear hK <;> clear K
          refine qa ?_
          refine hk_region fun K hK => runs_eval tab_ok ?_
          simp only [ev0, evA, evB, evP, fl, gp, tab, simprocAttr, reduceCtorEq, reduceIte, ll_takeL, oll_ok, ll_snoc]
          refine fin_run ?_ (hK _ ?_) <;> clear hK <;> clear K
          · first | (simp [cellOk, PV.one]; done) | (simp [cellOk, PV.one]; omega)
          refine qd (qa ?_)
          refine ⟨k + 1, [0, 1, 3], by omega, by omega, ?_⟩
          have hs0 : ll (cht n T (k + 1)) = [.list (il (thl n (T 0))), .list (il (thl n (T (k + 1))))] := by rw [hs2, hkz]; rfl
          have hl0 := cht_len n T (k + 1)
          simp only [leq, leA, ev0, evA, evB, evP, fl, gp, tab, simprocAttr, reduceCtorEq, reduceIte, h1, cond_false] <;> first | trivial | omega | (rw [hs0, hl0, hkz]; exact ⟨rfl, rfl⟩)
      · (try simp only [nhs] at hC2)
        have hkK : k = K := by
          rcases Nat.lt_or_eq_of_le hk with h | h
          · have := hlong k h; omega
          · exact h
        refine qj (qc (qc (qf (qa (qm ?_)))))
        refine hk_region fun K hK => runs_eval tab_ok ?_
        simp only [ev0, evA, evB, evP, fl, gp, tab, simprocAttr, reduceCtorEq, reduceIte]
        refine fin_run ?_ (hK _ ?_) <;> clear hK <;> clear K
        · (first | exact trivial | omega | (simp only [In64] at *; omega) | (simp [In64] at *; omega) | (simp_all; done) | skip)
        refine qa (qk ?_)
        simp only [Tryd.results20, enA, ev0, evA, evB, evP, fl, gp, tab, simprocAttr, reduceCtorEq, reduceIte]
        all_goals (rw [← hkK, hkz]; rfl)
    · rw [Bool.not_eq_true] at hk0
      simp only [hk0, cond_false]
      have hlen := cht_len n T k
      have hll := ll_length (cht n T k)
      refine hk_region fun K hK => runs_eval tab_ok ?_
      simp only [ev0, evA, evB, evP, fl, gp, tab, simprocAttr, reduceCtorEq, reduceIte, il_length]
      refine fin_run trivial (hK _ ?_) <;> clear hK <;> clear K
      refine qa ?_
      refine hk_cond rfl (fun hC2 => ?_) (fun hC2 => ?_)
      · (try simp only [nhs] at hC2)
        have hkK : k < K := by
          rcases Nat.lt_or_eq_of_le hk with h | h
          · exact h
          · have := hC.last; rw [← h] at this; omega
        have hs := hC.sub k hk
        obtain ⟨hgrt, hgc⟩ := hQ (T k) hs (by omega)
        have hT1 := hTs k
        have hpk := thl_le (thl n (T k)).length (Q (T k))
        refine qh (qa (ql (qm ?_)))
        refine hk_region fun K hK => runs_eval tab_ok ?_
        simp only [ev0, evA, evB, evP, fl, gp, tab, simprocAttr, reduceCtorEq, reduceIte]
        refine fin_stop trivial (runs_call (part_ok h (T k) hs) rfl rfl rfl (by simp only [dstOk, Nat.reduceLT]) (by repeat (first | exact trivial | constructor)) (runs_eval tab_ok ?_))
        simp only [ev0, evA, evB, evP, fl, gp, tab, simprocAttr, reduceCtorEq, reduceIte]
        refine fin_run ?_ (hK _ ?_) <;> clear hK <;> clear K
        · (first | exact trivial | omega | (simp only [In64] at *; omega) | (simp [In64] at *; omega) | (simp_all; done) | skip)
        refine qa (qm ?_)
        refine hk_region fun K hK => runs_eval tab_ok ?_
        simp only [ev0, evA, evB, evP, fl, gp, tab, simprocAttr, reduceCtorEq, reduceIte]
        refine fin_run trivial (hK _ ?_) <;> clear hK <;> clear K
        refine qa (qm (qm ?_))
        refine hk_own0 9 rfl ?_
        refine hk_region fun K hK => runs_eval tab_ok ?_
        simp only [ev0, evA, evB, evP, fl, gp, tab, simprocAttr, reduceCtorEq, reduceIte, il_length]
        refine fin_stop trivial (runs_call (hgc) rfl rfl rfl (by simp only [dstOk, Nat.reduceLT]) (by repeat (first | exact trivial | constructor)) (runs_eval tab_ok ?_))
        simp only [ev0, evA, evB, evP, fl, gp, tab, simprocAttr, reduceCtorEq, reduceIte, il_length]
        refine fin_run ?_ (hK _ ?_) <;> clear hK <;> clear K
        · (first | exact trivial | omega | (simp only [In64] at *; omega) | (simp [In64] at *; omega) | (simp_all; done) | skip)
        refine qa (ql ?_)
        refine hk_loop (ι := Nat) (fun i => ⟨54, [(1, .ptr 0 0), (3, .ptr 1 0), (5, .p (.list (il (thl n (T k))))), (6, .sl 2 0 (cht n T k).length), (9, .sl 3 0 (lml n (T k) ((thl (thl n (T k)).length (Q (T k))).take i)).length), (33, .p (.list (il (thl (thl n (T k)).length (Q (T k)))))), (34, .p (.int .i64 (thl (thl n (T k)).length (Q (T k))).length)), (35, .p (.int .i64 i))], [.own [.p (.int .i64 n), .p (.list (il m))], .own [.p (.int .i64 0), .p (.int .i64 0)], .own (opl (ll (cht n T k))), .own (ol (lml n (T k) ((thl (thl n (T k)).length (Q (T k))).take i)))]⟩) (fun i => i ≤ (thl (thl n (T k)).length (Q (T k))).length) (fun i => (thl (thl n (T k)).length (Q (T k))).length - i) 0 (Nat.zero_le _) [0, 1, 2, 5] (by simp only [leq, leA, ev0, evA, evB, evP, fl, gp, tab, simprocAttr, reduceCtorEq, reduceIte, ll_takeL] <;> first | trivial | simp [lml, ol_nil]) fun i hi => ?_
        refine qm ?_
        refine hk_region fun K hK => runs_eval tab_ok ?_
        simp only [ev0, evA, evB, evP, fl, gp, tab, simprocAttr, reduceCtorEq, reduceIte]
        refine fin_run trivial (hK _ ?_) <;> clear hK <;> clear K
        refine qa (qm ?_)
        refine hk_cond rfl (fun hC3 => ?_) (fun hC3 => ?_)
        · (try simp only [nhs] at hC3)
          have hlt : i < (thl (thl n (T k)).length (Q (T k))).length := by omega
          obtain ⟨x, x1, x2, x3⟩ := thl_get hlt
          obtain ⟨y1, y2, y3, y4⟩ := lat_at x1
          have hll2 := lml_len n (T k) ((thl (thl n (T k)).length (Q (T k))).take i)
          rw [List.length_take] at hll2
          refine qh (qa (qm (ql (qm ?_))))
          refine hk_region fun K hK => runs_eval tab_ok ?_
          simp only [ev0, evA, evB, evP, fl, gp, tab, simprocAttr, reduceCtorEq, reduceIte, il_get hlt, x3]
          refine fin_run ?_ (hK _ ?_) <;> clear hK <;> clear K
          · (first | exact trivial | omega | (simp only [In64] at *; omega) | (simp [In64] at *; omega) | (simp_all; done) | skip)
          refine qa ?_
          refine hk_region fun K hK => runs_eval tab_ok ?_
          simp only [ev0, evA, evB, evP, fl, gp, tab, simprocAttr, reduceCtorEq, reduceIte, il_get x1, y3]
          refine fin_run ?_ (hK _ ?_) <;> clear hK <;> clear K
          · (first | exact trivial | omega | (simp only [In64] at *; omega) | (simp [In64] at *; omega) | (simp_all; done) | skip)
          refine qd (qa ?_)
          refine hk_region fun K hK => runs_eval tab_ok ?_
          simp only [ev0, evA, evB, evP, fl, gp, tab, simprocAttr, reduceCtorEq, reduceIte]
          refine fin_run ?_ (hK _ ?_) <;> clear hK <;> clear K
          · (first | exact trivial | omega | (simp only [In64] at *; omega) | (simp [In64] at *; omega) | (simp_all; done) | skip)
          refine qa ?_
          refine ⟨i + 1, [0, 1, 2, 4], by omega, by omega, ?_⟩
          rw [lml_succ n (T k) hlt, x3]
          simp only [leq, leA, ev0, evA, evB, evP, fl, gp, tab, simprocAttr, reduceCtorEq, reduceIte, ll_takeL] <;> first | trivial | omega
        · (try simp only [nhs] at hC3)
          have hin : i = (thl (thl n (T k)).length (Q (T k))).length := by omega
          have hnew : lml n (T k) ((thl (thl n (T k)).length (Q (T k))).take i) = thl n (T (k + 1)) := by rw [hin, List.take_length, hT1]; exact lft_take _ _
          rw [hnew]
          have hl2 := thl_le n (T (k + 1))
          have hs2 := cht_succ n T k
          refine qj (qc (qc (qf (qa (qm ?_)))))
          refine hk_seal 9 3 rfl rfl ?_
          refine hk_region fun K hK => runs_eval tab_ok ?_
          simp only [ev0, evA, evB, evP, fl, gp, tab, simprocAttr, reduceCtorEq, reduceIte]
          refine fin_run trivial (hK _ ?_) <;> clear hK <;> clear K
          refine qa ?_
          refine hk_region fun K hK => runs_eval tab_ok ?_
          simp only [ev0, evA, evB, evP, fl, gp, tab, simprocAttr, reduceCtorEq, reduceIte, ll_takeL, oll_ok, ll_snoc]
          refine fin_run ?_ (hK _ ?_) <;> clear hK <;> clear K
          · first | (simp [cellOk, PV.one]; done) | (simp [cellOk, PV.one]; omega)
          refine qd (qa ?_)
          refine ⟨k + 1, [0, 1, 4], by omega, by omega, ?_⟩
          rw [hs2]
          simp only [leq, leA, ev0, evA, evB, evP, fl, gp, tab, simprocAttr, reduceCtorEq, reduceIte, h1, cond_false, ll_takeL, ll_snoc, ll_takeS] <;> first | trivial | omega | (simp [ll]; done)
      · (try simp only [nhs] at hC2)
        have hkK : k = K := by
          rcases Nat.lt_or_eq_of_le hk with h | h
          · have := hlong k h; omega
          · exact h
        refine qj (qc (qc (qf (qa (qm ?_)))))
        rw [← ll_length (cht n T k)]
        refine hk_sealp 6 2 (ll_all _) rfl rfl ?_
        refine hk_region fun K hK => runs_eval tab_ok ?_
        simp only [ev0, evA, evB, evP, fl, gp, tab, simprocAttr, reduceCtorEq, reduceIte]
        refine fin_run ?_ (hK _ ?_) <;> clear hK <;> clear K
        · (first | exact trivial | omega | (simp only [In64] at *; omega) | (simp [In64] at *; omega) | (simp_all; done) | skip)
        refine qa (qk ?_)
        simp only [Tryd.results20, enA, ev0, evA, evB, evP, fl, gp, tab, simprocAttr, reduceCtorEq, reduceIte]
        all_goals (rw [← hkK])
theorem composition_no (N : Int) (m : List Int) (hm : m.length ≤ 1000000000000000) (hf : ¬ (gf N m).1 = 0) : FnC Tryd.prog 20 [gp N m] (.tup [.list (ll []), fl (gf N m)]) := by
  refine fnc_of tab_ok Tryd.func20 rfl (by kernel_rfl) (by rw [Tryd.ntmps20]; exact Nat.le_add_left 1 _) ?_; rw [Tryd.ntmps20]
  refine qm ?_
  refine hk_region fun K hK => runs_eval tab_ok ?_
  simp only [ev0, evA, evB, evP, fl, gp, tab, simprocAttr, reduceCtorEq, reduceIte]
  refine fin_run ?_ (hK _ ?_) <;> clear hK <;> clear K
  · (first | exact trivial | omega | (simp only [In64] at *; omega) | (simp [In64] at *; omega) | (simp_all; done) | skip)
  refine qa (qm (qm ?_))
  refine hk_region fun K hK => runs_eval tab_ok ?_
  simp only [ev0, evA, evB, evP, fl, gp, tab, simprocAttr, reduceCtorEq, reduceIte]
  refine fin_stop trivial (runs_call (check_c N m hm) rfl rfl rfl (by simp only [dstOk, Nat.reduceLT]) (by repeat (first | exact trivial | constructor)) (runs_eval tab_ok ?_))
  simp only [ev0, evA, evB, evP, fl, gp, tab, simprocAttr, reduceCtorEq, reduceIte]
  refine fin_run ?_ (hK _ ?_) <;> clear hK <;> clear K
  · (first | exact trivial | omega | (simp only [In64] at *; omega) | (simp [In64] at *; omega) | (simp_all; done) | skip)
  refine qa (qm ?_)
  refine hk_region fun K hK => runs_eval tab_ok ?_
  simp only [ev0, evA, evB, evP, fl, gp, tab, simprocAttr, reduceCtorEq, reduceIte]
  refine fin_run ?_ (hK _ ?_) <;> clear hK <;> clear K
  · (first | exact trivial | omega | (simp only [In64] at *; omega) | (simp [In64] at *; omega) | (simp_all; done) | skip)
  refine qa ?_
  refine hk_cond rfl (fun hC1 => ?_) (fun hC1 => ?_)
  · (try simp only [nhs] at hC1)
    refine qm ?_
    refine hk_draw mixed (by kernel_rfl) fun K hK => runs_eval tab_ok ?_
    simp only [ev0, evA, evB, evP, fl, gp, tab, simprocAttr, reduceCtorEq, reduceIte]
    refine fin_run ?_ (hK _ ?_) <;> clear hK <;> clear K
    · (first | exact trivial | omega | (simp only [In64] at *; omega) | (simp [In64] at *; omega) | (simp_all; done) | skip)
    refine qa (qk (qb ?_))
    simp only [Tryd.results20, enA, ev0, evA, evB, evP, fl, gp, tab, simprocAttr, reduceCtorEq, reduceIte]
    all_goals (simp [ll])
  · (try simp only [nhs] at hC1)
    exact absurd hC1 hf
end
end Go.Proofs.YtpogfmijefephaaDoor
