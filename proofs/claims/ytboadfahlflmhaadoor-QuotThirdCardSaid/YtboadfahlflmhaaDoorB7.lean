/-
  Texts of this proof, one behind the other: what each says stands at its head. Conditions: none.
-/
import Derived.Test.YtboadfahlflmhaaDoorB6
import Derived.Test.YtboadfahlflmhaaDoorB4
import Derived.Test.YtboadfahlflmhaaDoorB5
import Derived.RangeFuncRecord
import Derived.RangeFuncLeaves
import Derived.Shelf.Sort.Plain
import Derived.Shelf.Slices.In.SortNone
import Derived.Test.YtboadfahlflmhaaDoorProg
import Derived.Shelf.Lays

/-
  Walks: the law SubNeedless. Conditions: none.
-/
set_option linter.all false
namespace Go.Proofs.YtboadfahlflmhaaDoor
open Go.Pv

theorem AllS.pos {n e : Nat} {f : Nat → Nat → Nat} {SL : List Nat} (G : Grp n f e) (h : AllS n f e SL) : 0 < SL.length := List.length_pos_of_mem (h.all _ G.onp_sub)
theorem AllS.pair {n e : Nat} {f : Nat → Nat → Nat} {SL : List Nat} (h : AllS n f e SL) {i j : Nat} (hij : i < j) (hj : j < SL.length) : cmpS (stl (SL.getD i 0)) (stl (SL.getD j 0)) < 0 := by
  have := (List.pairwise_iff_getElem.1 h.rise) i j (by omega) hj hij
  simpa [List.getD, List.getElem?_eq_getElem hj, List.getElem?_eq_getElem (show i < SL.length by omega)] using this
theorem all_len (n : Nat) : (thl n fun _ => true).length = n := by rw [thl_len]; unfold thn'; rw [List.filter_eq_self.2 fun _ _ => rfl, List.length_range]
theorem len_all {n : Nat} {p : Nat → Bool} (h : ¬ (thl n p).length < n) : ∀ y, y < n → p y = true := by
  intro y hy
  cases hp : p y with
  | true => rfl
  | false =>
    exfalso
    have := mem_lt (n := n) (p := fun _ => true) (q := p) (fun _ _ _ => rfl) (fun hh => by have := hh y hy; rw [hp] at this; cases this)
    have e1 : (thl n p).length = (mem n p).length := thl_len _ _
    have e2 : (mem n fun _ => true).length = n := by unfold mem; rw [List.filter_eq_self.2 fun _ _ => rfl, List.length_range]
    omega
theorem AllS.last {n e : Nat} {f : Nat → Nat → Nat} {SL : List Nat} (G : Grp n f e) (h : AllS n f e SL) (hn : n ≤ 60) : SL.getD (SL.length - 1) 0 = bo n fun _ => true := by
  have hpos := h.pos G
  obtain ⟨t, ht, hx⟩ := mem_getDN (h.all _ G.all_sub)
  by_cases htl : t = SL.length - 1
  · rw [← htl]; exact hx
  · exfalso
    have hp := h.pair (i := t) (j := SL.length - 1) (by omega) (by omega)
    obtain ⟨p, _, hpl⟩ := h.subs _ (getD_memN (show SL.length - 1 < SL.length by omega))
    rw [hx, hpl, stl_bo hn, stl_bo hn, cmpS_lt, all_len] at hp
    have := thl_le n p
    rcases hp with hp | ⟨hp, hp2⟩
    · omega
    · have : thl n p = thl n fun _ => true := thl_congr fun y hy => len_all (by omega) y hy
      rw [this, cmpL_self] at hp2; omega
theorem ovr_bo {n : Nat} (hn : n ≤ 60) (p q : Nat → Bool) : ovr (bo n p) (bo n q) = true ↔ (¬ ∀ a, a < n → p a = q a) ∧ ∀ a, a < n → p a = true → q a = true := by
  unfold ovr
  rw [Bool.and_eq_true, decide_eq_true_eq, decide_eq_true_eq, andn_zero (bo_lt64 hn p) (bo_lt64 hn q)]
  refine and_congr (not_congr ⟨fun h a ha => bo_inj h ha, fun h => bo_congr h⟩) ⟨fun h a ha hp => ?_, fun h i hi => ?_⟩
  · have := h a (by rw [bo_bit]; simp [ha, hp])
    rw [bo_bit] at this; simpa [ha] using this
  · rw [bo_bit, Bool.and_eq_true, decide_eq_true_eq] at hi ⊢
    exact ⟨hi.1, h i hi.1 hi.2⟩

section
variable {n e : Nat} {m : List Int}
/-- A subgroup that is not all stands in one that nothing but all stands over. -/
theorem AllS.max {f : Nat → Nat → Nat} {SL : List Nat} (G : Grp n f e) (h : AllS n f e SL) (hn : n ≤ 60) {r : Nat → Bool} (hr : Sub n f e r) (hne : ¬ ∀ a, a < n → r a = true) :
    ∃ i p, i < SL.length - 1 ∧ SL.getD i 0 = bo n p ∧ Sub n f e p ∧ mxr SL i = true ∧ (∀ a, a < n → r a = true → p a = true) ∧ ¬ ∀ a, a < n → p a = true := by
  have hpos := h.pos G
  have hlast := h.last G hn
  have notlast : ∀ i p, i < SL.length → SL.getD i 0 = bo n p → (¬ ∀ a, a < n → p a = true) → i < SL.length - 1 := fun i p hi hx hp => by
    by_cases hil : i = SL.length - 1
    · exfalso
      rw [hil, hlast] at hx
      exact hp fun a ha => (bo_inj hx ha).symm
    · omega
  have go : ∀ c i p, SL.length - i ≤ c → i < SL.length → SL.getD i 0 = bo n p → Sub n f e p → (∀ a, a < n → r a = true → p a = true) → (¬ ∀ a, a < n → p a = true) →
      ∃ i p, i < SL.length - 1 ∧ SL.getD i 0 = bo n p ∧ Sub n f e p ∧ mxr SL i = true ∧ (∀ a, a < n → r a = true → p a = true) ∧ ¬ ∀ a, a < n → p a = true := by
    intro c
    induction c with
    | zero => intro i p hc hi; omega
    | succ c ih =>
      intro i p hc hi hx hp hrp hpn
      cases hm : mxr SL i with
      | true => exact ⟨i, p, notlast i p hi hx hpn, hx, hp, hm, hrp, hpn⟩
      | false =>
        unfold mxr at hm
        rw [Bool.not_eq_false', decide_eq_true_eq] at hm
        obtain ⟨j, j1, j2, j3⟩ := hm
        obtain ⟨q, hq, hqx⟩ := h.subs _ (getD_memN (show j < SL.length by omega))
        rw [hx, hqx, ovr_bo hn] at j3
        refine ih j q (by omega) (by omega) hqx hq (fun a ha h1 => j3.2 a ha (hrp a ha h1)) fun hall => ?_
        have : j = SL.length - 1 := by
          by_cases hjl : j < SL.length - 1
          · exfalso
            have hpq := h.pair (i := j) (j := SL.length - 1) hjl (by omega)
            rw [hlast, hqx, bo_congr (q := fun _ => true) (fun a ha => hall a ha)] at hpq
            exact cmpS_self _ hpq
          · omega
        omega
  obtain ⟨i, hi, hx⟩ := mem_getDN (h.all r hr)
  exact go _ i r (Nat.le_refl _) hi hx hr (fun a _ h => h) hne
end
end Go.Proofs.YtboadfahlflmhaaDoor

/-
  All subgroups as the document has them: from cyclic ones on, by what two make; put in order. Conditions: none.
-/
set_option linter.all false
namespace Go.Proofs.YtboadfahlflmhaaDoor
open Go.Pv

end Go.Proofs.YtboadfahlflmhaaDoor

/-
  Walks: rows without doubles. Conditions: none.
-/
set_option linter.all false
namespace Go.Proofs.YtboadfahlflmhaaDoor
open Go.Pv

section
variable {α : Type} [DecidableEq α]
/-- A row without what repeats what stands ahead of it. -/
def cpN (d : α) (xs : List α) (k : Nat) : List α := ((List.range k).filter fun j => j == 0 || decide (xs.getD j d ≠ xs.getD (j - 1) d)).map fun j => xs.getD j d
theorem cpN_succ (d : α) (xs : List α) (k : Nat) : cpN d xs (k + 1) = if k = 0 ∨ xs.getD k d ≠ xs.getD (k - 1) d then cpN d xs k ++ [xs.getD k d] else cpN d xs k := by
  unfold cpN
  rw [List.range_succ, List.filter_append, List.map_append]
  by_cases h : k = 0 ∨ xs.getD k d ≠ xs.getD (k - 1) d
  · rw [if_pos h]
    congr 1
    rw [List.filter_cons_of_pos (by
      simp only [Bool.or_eq_true, beq_iff_eq, decide_eq_true_eq]
      exact h)]
    rfl
  · rw [if_neg h]
    rw [List.filter_cons_of_neg (by
      simp only [Bool.or_eq_true, beq_iff_eq, decide_eq_true_eq]
      exact h)]
    simp
/-- Within: what stands so far. -/
structure CpS (d : α) (xs : List α) (i0 k : Nat) (R : List α) (i : Nat) : Prop where
  len : R.length = xs.length
  tk : R.take i = cpN d xs (i0 + k)
  il : (cpN d xs (i0 + k)).length = i
  lt : 0 < i ∧ i + 1 ≤ i0 + k
  le : i0 + k ≤ xs.length
  same : ∀ j, i0 + k ≤ j + 1 → j < xs.length → R.getD j d = xs.getD j d

theorem CpS.begin {d : α} {xs : List α} {i : Nat} (hi : i + 1 < xs.length) (h : cpN d xs (i + 1) = xs.take (i + 1)) (hd : xs.getD (i + 1) d = xs.getD i d) : CpS d xs (i + 1) 1 xs (i + 1) := by
  have e : cpN d xs (i + 1 + 1) = xs.take (i + 1) := by
    rw [cpN_succ, if_neg (by simpa using hd), h]
  exact ⟨rfl, e.symm, by rw [e]; simp; omega, by omega, by omega, fun _ _ _ => rfl⟩
theorem CpS.skip {d : α} {xs R : List α} {i0 k i : Nat} (h : CpS d xs i0 k R i) (hk : i0 + k < xs.length) (hd : R.getD (i0 + k) d = R.getD (i0 + k - 1) d) : CpS d xs i0 (k + 1) R i := by
  have hl := h.lt
  rw [h.same _ (by omega) hk, h.same _ (by omega) (by omega)] at hd
  have e : cpN d xs (i0 + (k + 1)) = cpN d xs (i0 + k) := by
    rw [← Nat.add_assoc, cpN_succ, if_neg]
    rintro (h1 | h1)
    · omega
    · exact h1 hd
  exact ⟨h.len, by rw [e]; exact h.tk, by rw [e]; exact h.il, by omega, by omega, fun j h1 h2 => h.same j (by omega) h2⟩
theorem CpS.keep {d : α} {xs R : List α} {i0 k i : Nat} (h : CpS d xs i0 k R i) (hk : i0 + k < xs.length) (hd : R.getD (i0 + k) d ≠ R.getD (i0 + k - 1) d) : CpS d xs i0 (k + 1) (R.set i (R.getD (i0 + k) d)) (i + 1) := by
  have hl := h.lt
  have e0 := h.same (i0 + k) (by omega) hk
  rw [e0] at hd ⊢
  rw [h.same _ (by omega) (by omega)] at hd
  have e : cpN d xs (i0 + (k + 1)) = cpN d xs (i0 + k) ++ [xs.getD (i0 + k) d] := by
    rw [← Nat.add_assoc, cpN_succ, if_pos (.inr hd)]
  have hiR : i < R.length := by rw [h.len]; omega
  refine ⟨by rw [List.length_set]; exact h.len, ?_, by rw [e, List.length_append, h.il]; rfl, by omega, by omega, fun j h1 h2 => ?_⟩
  · rw [e, ← h.tk, List.take_succ_eq_append_getElem (by rw [List.length_set]; exact hiR), List.take_set_of_le (Nat.le_refl _)]
    simp
  · have hne : i ≠ j := by omega
    rw [← h.same j (by omega) h2]
    simp only [List.getD, List.getElem?_set_ne hne]
end

theorem equal_c (v w:List Int) (hl:v.length≤1000000) (hw:w.length≤1000000):FnC Tryd.prog 86 [.list (il v),.list (il w)] (.bool (decide (v=w))):=by
 refine fnc_of tab_ok Tryd.func86 rfl (by kernel_rfl) (by rw [Tryd.ntmps86]; exact Nat.le_add_left 2 _) ?_; rw [Tryd.ntmps86]
 refine qm ?_
 refine hk_region fun K hK=>runs_eval tab_ok ?_
 simp only [ev0,evA,evB,evP,fl,gp,tab,simprocAttr,reduceCtorEq,reduceIte]
 refine fin_run trivial (hK _ ?_)<;>clear hK<;>clear K
 refine qa (qm (qm ?_))
 refine hk_region fun K hK=>runs_eval tab_ok ?_
 simp only [ev0,evA,evB,evP,fl,gp,tab,simprocAttr,reduceCtorEq,reduceIte,il_length]
 refine fin_run trivial (hK _ ?_)<;>clear hK<;>clear K
 refine qa ?_
 refine hk_cond rfl (fun hC1=>?_) (fun hC1=>?_)
 ·(try simp only [nhs] at hC1)
  have hne:v ≠ w:=fun h=>hC1 (by rw [h])
  refine qm ?_
  refine hk_region fun K hK=>runs_eval tab_ok ?_
  simp only [ev0,evA,evB,evP,fl,gp,tab,simprocAttr,reduceCtorEq,reduceIte]
  refine fin_run trivial (hK _ ?_)<;>clear hK<;>clear K
  refine qa (qk (qb ?_))
  simp only [Tryd.results86,enA,ev0,evA,evB,evP,fl,gp,tab,simprocAttr,reduceCtorEq,reduceIte]
  all_goals (simp [hne])
 ·(try simp only [nhs] at hC1)
  refine qh (qa (qm (qm ?_)))
  refine hk_region fun K hK=>runs_eval tab_ok ?_
  simp only [ev0,evA,evB,evP,fl,gp,tab,simprocAttr,reduceCtorEq,reduceIte,il_length]
  refine fin_run trivial (hK _ ?_)<;>clear hK<;>clear K
  refine qa (ql ?_)
  refine hk_loop (ι:=Nat) (fun k=>⟨26,[(0,.p (.list (il v))),(1,.p (.list (il w))),(12,.p (.int .i64 v.length)),(13,.p (.int .i64 k))],[]⟩) (fun k=>k≤v.length∧∀ j,j < k→v.getD j 0=w.getD j 0) (fun k=>v.length - k) 0 ⟨Nat.zero_le _,fun j hj=>absurd hj (Nat.not_lt_zero _)⟩ [] (by simp only [leq,leA,ev0,evA,evB,evP,fl,gp,tab,simprocAttr,reduceCtorEq,reduceIte]<;>trivial) fun k hk=>?_
  obtain ⟨hk1,hk2⟩:=hk
  refine qm ?_
  refine hk_region fun K hK=>runs_eval tab_ok ?_
  simp only [ev0,evA,evB,evP,fl,gp,tab,simprocAttr,reduceCtorEq,reduceIte]
  refine fin_run trivial (hK _ ?_)<;>clear hK<;>clear K
  refine qa (qm ?_)
  refine hk_cond rfl (fun hC2=>?_) (fun hC2=>?_)
  ·(try simp only [nhs] at hC2)
   have hkl:k < v.length:=by omega
   refine qh (qa (qm (ql (qm ?_))))
   refine hk_region fun K hK=>runs_eval tab_ok ?_
   simp only [ev0,evA,evB,evP,fl,gp,tab,simprocAttr,reduceCtorEq,reduceIte]
   refine fin_run trivial (hK _ ?_)<;>clear hK<;>clear K
   refine qa (qm ?_)
   refine hk_draw mixed (by kernel_rfl) fun K hK=>runs_eval tab_ok ?_
   simp only [ev0,evA,evB,evP,fl,gp,tab,simprocAttr,reduceCtorEq,reduceIte,il_get (show k < v.length by omega),il_get (show k < w.length by omega)]
   refine fin_run ?_ (hK _ ?_)<;>clear hK<;>clear K
   ·(first|exact trivial|omega|(simp only [In64] at *; omega)|(simp [In64] at *; omega)|(simp_all; done)|skip)
   refine qa ?_
   refine hk_cond rfl (fun hC3=>?_) (fun hC3=>?_)
   ·(try simp only [nhs] at hC3)
    have hne:v ≠ w:=fun h=>hC3 (by rw [h])
    refine qm ?_
    refine hk_region fun K hK=>runs_eval tab_ok ?_
    simp only [ev0,evA,evB,evP,fl,gp,tab,simprocAttr,reduceCtorEq,reduceIte]
    refine fin_run trivial (hK _ ?_)<;>clear hK<;>clear K
    refine qa (qk (qe (qb (qb (qe (qb ?_))))))
    simp only [Tryd.results86,enA,ev0,evA,evB,evP,fl,gp,tab,simprocAttr,reduceCtorEq,reduceIte]
    all_goals (simp [hne])
   ·(try simp only [nhs] at hC3)
    refine qh (qd (qa ?_))
    refine hk_region fun K hK=>runs_eval tab_ok ?_
    simp only [ev0,evA,evB,evP,fl,gp,tab,simprocAttr,reduceCtorEq,reduceIte]
    refine fin_run ?_ (hK _ ?_)<;>clear hK<;>clear K
    ·(first|exact trivial|omega|(simp only [In64] at *; omega)|(simp [In64] at *; omega)|(simp_all; done)|skip)
    refine qa ?_
    refine ⟨k + 1,[],⟨by omega,fun j hj=>?_⟩,by omega,?_⟩
    ·by_cases hjk:j=k
     ·rw [hjk]; simpa using hC3
     ·exact hk2 j (by omega)
    ·simp only [leq,leA,ev0,evA,evB,evP,fl,gp,tab,simprocAttr,reduceCtorEq,reduceIte]<;>first|trivial|omega
  ·(try simp only [nhs] at hC2)
   have he:v=w:=by
    refine List.ext_getElem (by omega) fun j h1 h2=>?_
    have:=hk2 j (by omega)
    simpa [List.getD,List.getElem?_eq_getElem h1,List.getElem?_eq_getElem h2] using this
   refine qj (qc (qc (qf (qa (qm ?_)))))
   refine hk_region fun K hK=>runs_eval tab_ok ?_
   simp only [ev0,evA,evB,evP,fl,gp,tab,simprocAttr,reduceCtorEq,reduceIte]
   refine fin_run trivial (hK _ ?_)<;>clear hK<;>clear K
   refine qa (qk ?_)
   simp only [Tryd.results86,enA,ev0,evA,evB,evP,fl,gp,tab,simprocAttr,reduceCtorEq,reduceIte]
   all_goals (simp [he])

end Go.Proofs.YtboadfahlflmhaaDoor

/-
  Series of subgroups, as the program has them. Conditions: none.
-/
set_option linter.all false
namespace Go.Proofs.YtboadfahlflmhaaDoor
open Go.Pv

theorem Stp.at {n : Nat} {T : Nat → Nat → Bool} {K k : Nat} (h : Stp n T K) (hk : k ≤ K) : bo n (T (k + 1)) = bo n (T k) ↔ k = K := by
  constructor
  · intro he
    rcases Nat.lt_or_eq_of_le hk with h1 | h1
    · exact absurd (fun a ha => bo_inj he ha) (h.ne k h1)
    · exact h1
  · rintro rfl
    exact bo_congr h.eq
/-! ### Derived, Lower -/

section
variable {n e : Nat} {m : List Int}
end
/-! ### Upper -/

/-! ### An example of the document -/

end Go.Proofs.YtboadfahlflmhaaDoor

/-
  Composition series: parts of parts; the greatest normal subgroup; Composition walked. Conditions: none.
-/
set_option linter.all false
namespace Go.Proofs.YtboadfahlflmhaaDoor
open Go.Pv

/-! ### What a part has, in the whole -/

def lft (p q : Nat → Bool) (x : Nat) : Bool := p x && q (pix p x)
theorem lat_pix {n x : Nat} {p : Nat → Bool} (hx : x < n) (hp : p x = true) : lat n p (pix p x) = x := by
  have := (pix_at hx hp).2
  unfold lat; rw [this]; rfl
theorem lat_low {n i : Nat} {p : Nat → Bool} (hi : i < (thl n p).length) : lat (n + 1) p i = lat n p i := by
  unfold lat
  rw [thl_succ, List.getD_eq_getElem?_getD, List.getElem?_append_left hi, ← List.getD_eq_getElem?_getD]
theorem lft_thl (p q : Nat → Bool) : ∀ n, (thl (thl n p).length q).map (fun z => ((lat n p z.toNat : Nat) : Int)) = thl n (lft p q)
  | 0 => rfl
  | n + 1 => by
    have ih := lft_thl p q n
    have hc : (thl (thl n p).length q).map (fun z => ((lat (n + 1) p z.toNat : Nat) : Int)) = thl n (lft p q) := by
      rw [← ih]
      refine List.map_congr_left fun z hz => ?_
      obtain ⟨i, i1, _, rfl⟩ := mem_thl.1 hz
      rw [Int.toNat_natCast, lat_low i1]
    rw [thl_succ n (lft p q)]
    by_cases hp : p n = true
    · have hl : (thl (n + 1) p).length = (thl n p).length + 1 := by rw [thl_succ, if_pos hp]; simp
      have ha : lat (n + 1) p (thl n p).length = n := by
        unfold lat
        rw [thl_succ, if_pos hp]; simp [List.getD]
      rw [hl, thl_succ, List.map_append, hc]
      have hv : lft p q n = q (thl n p).length := by unfold lft pix; rw [hp]; rfl
      rw [hv]
      by_cases hq : q (thl n p).length = true
      · rw [if_pos hq, if_pos hq]; simp [ha]
      · rw [if_neg hq, if_neg hq]; rfl
    · have hl : thl (n + 1) p = thl n p := by rw [thl_succ, if_neg hp]; simp
      have hv : lft p q n = false := by unfold lft; rw [Bool.not_eq_true] at hp; rw [hp]; rfl
      rw [hl, hv, if_neg (by simp), List.append_nil]
      exact hc

section
variable {n e : Nat} {f : Nat → Nat → Nat} {p q : Nat → Bool}

theorem pop_pix (hs : Sub n f e p) {a b : Nat} (ha : a < n) (hb : b < n) (pa : p a = true) (pb : p b = true) : pop n f p (pix p a) (pix p b) = pix p (f a b) := by
  unfold pop; rw [lat_pix ha pa, lat_pix hb pb]
theorem cjr_in (G : Grp n f e) (hs : Sub n f e p) {x a : Nat} (hx : x < n) (ha : a < n) (px : p x = true) (pa : p a = true) : p (cjr n f e x a) = true := by
  have hi := G.iv_lt ha
  have pi := hs.inv _ ha pa
  exact hs.mul _ _ (G.cl _ _ hi hx) ha (hs.mul _ _ hi hx pi px) pa

/-- A normal subgroup of a subgroup, not all of it; with any thing more, and what that is conjugated to, it is all. -/
structure Mxn (n : Nat) (f : Nat → Nat → Nat) (e : Nat) (p p' : Nat → Bool) : Prop where
  sub : Sub n f e p'
  le : ∀ x, x < n → p' x = true → p x = true
  nml : ∀ a x, a < n → x < n → p a = true → p' x = true → p' (cjr n f e x a) = true
  ne : ∃ x, x < n ∧ p x = true ∧ p' x = false
  mx : ∀ x, x < n → p x = true → p' x = false → ∀ t : Nat → Bool, Sub n f e t → (∀ y, y < n → p' y = true → t y = true) → (∀ b, b < n → p b = true → t (cjr n f e x b) = true) → ∀ y, y < n → p y = true → t y = true

def wth (q : Nat → Bool) (a x : Nat) : Bool := q x || decide (x = a)
/-- What the greatest normal subgroup is. -/
structure Grt (n : Nat) (f : Nat → Nat → Nat) (e : Nat) (q : Nat → Bool) : Prop where
  sub : Sub n f e q
  nml : Nml n f e q
  ne : ∃ x, x < n ∧ q x = false
  mx : ∀ a, a < n → q a = false → ∀ y, y < n → Gen n f e (cup n f e (wth q a)) y

theorem Mxn.lt (h : Mxn n f e p q) : (mem n q).length < (mem n p).length := mem_lt h.le fun hh => by
  obtain ⟨x, x1, x2, x3⟩ := h.ne
  rw [hh x x1] at x3; rw [x3] at x2; cases x2
end

section
variable {n e : Nat} {f : Nat → Nat → Nat}
end

/-! ### greatest -/

/-! ### Composition -/

theorem Grt.cong {n e : Nat} {f g : Nat → Nat → Nat} {q : Nat → Bool} (G : Grp n f e) (h : ∀ a b, a < n → b < n → g a b = f a b) (hq : Grt n g e q) : Grt n f e q :=
  ⟨hq.sub.cong_op G h, hq.nml.cong_op G h, hq.ne, fun a ha hqa y hy => (Gen.mono (fun b _ hb => by rwa [cup_cong G h] at hb) (hq.mx a ha hqa y hy)).cong_op G h⟩

section
variable {n e : Nat} {m : List Int}
/-- A composition series: from all on, to one thing. -/
structure Cps (n : Nat) (f : Nat → Nat → Nat) (e : Nat) (T : Nat → Nat → Bool) (K : Nat) : Prop where
  all : T 0 = fun _ => true
  sub : ∀ k, k ≤ K → Sub n f e (T k)
  mxn : ∀ k, k < K → Mxn n f e (T k) (T (k + 1))
  last : (thl n (T K)).length = 1
  short : K ≤ 5

end
end Go.Proofs.YtboadfahlflmhaaDoor

/-
  Direct products of subgroups. Conditions: none.
-/
set_option linter.all false
namespace Go.Proofs.YtboadfahlflmhaaDoor

section
variable {n e : Nat} {f : Nat → Nat → Nat} {p q : Nat → Bool}
end
end Go.Proofs.YtboadfahlflmhaaDoor

/-
  Plain: chains of subgroups whose steps are as small as can be (Jordan and Hoelder). Conditions: none.
-/
set_option linter.all false
namespace Go.Proofs.YtboadfahlflmhaaDoor

section
variable {n e : Nat} {f : Nat → Nat → Nat} {p q a b : Nat → Bool}
theorem Mxn.nz (G : Grp n f e) (h : Mxn n f e p q) {c : Nat} (hc : c < n) (pc : p c = true) : nzr n f e q c = true :=
  G.nzr_of h.sub hc fun y hy hh => by
    obtain ⟨x, x1, x2, rfl⟩ := shf_iff.1 hh
    exact h.nml c x hc x1 pc x2
theorem Mxn.congr_l {p' : Nat → Bool} (h : Mxn n f e p q) (hp : ∀ x, x < n → p' x = p x) : Mxn n f e p' q where
  sub := h.sub
  le x hx hq := by rw [hp x hx]; exact h.le x hx hq
  nml c x hc hx pc := h.nml c x hc hx (by rw [← hp c hc]; exact pc)
  ne := by obtain ⟨x, x1, x2, x3⟩ := h.ne; exact ⟨x, x1, by rw [hp x x1]; exact x2, x3⟩
  mx x hx px qx t ht h1 h2 y hy py := h.mx x hx (by rwa [← hp x hx]) qx t ht h1 (fun c hc pc => h2 c hc (by rwa [hp c hc])) y hy (by rwa [← hp y hy])
theorem Mxn.congr_r {q' : Nat → Bool} (G : Grp n f e) (h : Mxn n f e p q) (hs : Sub n f e q') (hq : ∀ x, x < n → q' x = q x) : Mxn n f e p q' where
  sub := hs
  le x hx hh := h.le x hx (by rwa [← hq x hx])
  nml c x hc hx pc hh := by
    rw [hq _ (G.cjr_lt hx hc)]
    exact h.nml c x hc hx pc (by rwa [← hq x hx])
  ne := by obtain ⟨x, x1, x2, x3⟩ := h.ne; exact ⟨x, x1, x2, by rw [hq x x1]; exact x3⟩
  mx x hx px qx t ht h1 h2 y hy py := h.mx x hx px (by rwa [← hq x hx]) t ht (fun y hy hh => h1 y hy (by rwa [hq y hy])) h2 y hy py

/-- A chain from a subgroup down to the one. -/
def Chn (n : Nat) (f : Nat → Nat → Nat) (e : Nat) : (Nat → Bool) → List (Nat → Bool) → Prop
  | p, [] => ∀ x, x < n → p x = true → x = e
  | p, q :: l => Mxn n f e p q ∧ Chn n f e q l
def idx (n : Nat) : (Nat → Bool) → List (Nat → Bool) → List Nat
  | _, [] => []
  | p, q :: l => (mem n p).length / (mem n q).length :: idx n q l
theorem Chn.congr {p' : Nat → Bool} (hp : ∀ x, x < n → p' x = p x) : ∀ {l : List (Nat → Bool)}, Chn n f e p l → Chn n f e p' l ∧ idx n p' l = idx n p l
  | [], h => ⟨fun x hx hh => h x hx (by rwa [← hp x hx]), rfl⟩
  | q :: l, h => ⟨⟨h.1.congr_l hp, h.2⟩, by show _ / _ :: _ = _ / _ :: _; rw [mem_congr hp]⟩
end
end Go.Proofs.YtboadfahlflmhaaDoor

/-
  Plain: homomorphisms of a subgroup onto a group; chains go there and back; steps in which things commute. Conditions: none.
-/
set_option linter.all false
namespace Go.Proofs.YtboadfahlflmhaaDoor

/-- A homomorphism of a subgroup onto a group. -/
structure Hm (n : Nat) (f : Nat → Nat → Nat) (e : Nat) (p : Nat → Bool) (k : Nat) (g : Nat → Nat → Nat) (d : Nat) (φ : Nat → Nat) : Prop where
  grp : Grp k g d
  sub : Sub n f e p
  lt : ∀ x, x < n → p x = true → φ x < k
  mul : ∀ x y, x < n → y < n → p x = true → p y = true → φ (f x y) = g (φ x) (φ y)
  onto : ∀ i, i < k → ∃ x, x < n ∧ p x = true ∧ φ x = i

section
variable {n e k d : Nat} {f g : Nat → Nat → Nat} {p : Nat → Bool} {φ : Nat → Nat}
theorem Hm.one (H : Hm n f e p k g d φ) (G : Grp n f e) : φ e = d := by
  have h1 := H.mul e e G.el G.el H.sub.one H.sub.one
  have hl := H.lt e G.el H.sub.one
  rw [G.one_l e G.el] at h1
  have h2 : g (φ e) d = g (φ e) (φ e) := by rw [← h1, H.grp.one_r _ hl]
  exact (H.grp.cancel_l hl H.grp.el hl h2).symm
theorem Hm.iv (H : Hm n f e p k g d φ) (G : Grp n f e) {x : Nat} (hx : x < n) (px : p x = true) : φ (Go.Proofs.YtboadfahlflmhaaDoor.iv n f e x) = Go.Proofs.YtboadfahlflmhaaDoor.iv k g d (φ x) := by
  have ix := G.iv_lt hx
  have pix := H.sub.inv x hx px
  refine H.grp.iv_unique (H.lt x hx px) (H.lt _ ix pix) (.inl ?_)
  rw [← H.mul _ _ hx ix px pix, G.mul_iv hx, H.one G]
theorem Hm.cjr (H : Hm n f e p k g d φ) (G : Grp n f e) {x c : Nat} (hx : x < n) (hc : c < n) (px : p x = true) (pc : p c = true) : φ (Go.Proofs.YtboadfahlflmhaaDoor.cjr n f e x c) = Go.Proofs.YtboadfahlflmhaaDoor.cjr k g d (φ x) (φ c) := by
  have ic := G.iv_lt hc
  have pi := H.sub.inv c hc pc
  show φ (f (f _ _) _) = g (g _ _) _
  rw [H.mul _ _ (G.cl _ _ ic hx) hc (H.sub.mul _ _ ic hx pi px) pc, H.mul _ _ ic hx pi px, H.iv G hc pc]
theorem Hm.cmt (H : Hm n f e p k g d φ) (G : Grp n f e) {x c : Nat} (hx : x < n) (hc : c < n) (px : p x = true) (pc : p c = true) : φ (Go.Proofs.YtboadfahlflmhaaDoor.cmt n f e x c) = Go.Proofs.YtboadfahlflmhaaDoor.cmt k g d (φ x) (φ c) := by
  have ic := G.iv_lt hc
  have ix := G.iv_lt hx
  have pic := H.sub.inv c hc pc
  have pix := H.sub.inv x hx px
  show φ (f (f _ _) (f _ _)) = g (g _ _) (g _ _)
  rw [H.mul _ _ (G.cl _ _ ix ic) (G.cl _ _ hx hc) (H.sub.mul _ _ ix ic pix pic) (H.sub.mul _ _ hx hc px pc), H.mul _ _ ix ic pix pic, H.mul _ _ hx hc px pc, H.iv G hc pc, H.iv G hx px]
theorem cmt_in {q : Nat → Bool} (G : Grp n f e) (hq : Sub n f e q) {x c : Nat} (hx : x < n) (hc : c < n) (px : q x = true) (pc : q c = true) : q (cmt n f e x c) = true :=
  hq.mul _ _ (G.cl _ _ (G.iv_lt hx) (G.iv_lt hc)) (G.cl _ _ hx hc) (hq.mul _ _ (G.iv_lt hx) (G.iv_lt hc) (hq.inv _ hx px) (hq.inv _ hc pc)) (hq.mul _ _ hx hc px pc)

/-- What goes into a set. -/
def pre (p : Nat → Bool) (φ : Nat → Nat) (b : Nat → Bool) (x : Nat) : Bool := p x && b (φ x)
theorem pre_iff {b : Nat → Bool} {x : Nat} : pre p φ b x = true ↔ p x = true ∧ b (φ x) = true := by unfold pre; rw [Bool.and_eq_true]
theorem Hm.pre_sub (H : Hm n f e p k g d φ) (G : Grp n f e) {b : Nat → Bool} (hb : Sub k g d b) : Sub n f e (pre p φ b) :=
  sub_of G (pre_iff.2 ⟨H.sub.one, by rw [H.one G]; exact hb.one⟩) fun x y hx hy h1 h2 => by
    obtain ⟨h1, h3⟩ := pre_iff.1 h1
    obtain ⟨h2, h4⟩ := pre_iff.1 h2
    exact pre_iff.2 ⟨H.sub.mul x y hx hy h1 h2, by rw [H.mul x y hx hy h1 h2]; exact hb.mul _ _ (H.lt x hx h1) (H.lt y hy h2) h3 h4⟩
theorem Hm.of_pre (H : Hm n f e p k g d φ) (G : Grp n f e) {a b : Nat → Bool} (hb : Sub k g d b) (h : Mxn n f e (pre p φ a) (pre p φ b)) : Mxn k g d a b where
  sub := hb
  le i hi bi := by
    obtain ⟨x, x1, x2, rfl⟩ := H.onto i hi
    exact (pre_iff.1 (h.le x x1 (pre_iff.2 ⟨x2, bi⟩))).2
  nml c i hc hi ac bi := by
    obtain ⟨x, x1, x2, rfl⟩ := H.onto i hi
    obtain ⟨y, y1, y2, rfl⟩ := H.onto c hc
    have := (pre_iff.1 (h.nml y x y1 x1 (pre_iff.2 ⟨y2, ac⟩) (pre_iff.2 ⟨x2, bi⟩))).2
    rwa [H.cjr G x1 y1 x2 y2] at this
  ne := by
    obtain ⟨x, x1, x2, x3⟩ := h.ne
    obtain ⟨px, ax⟩ := pre_iff.1 x2
    unfold pre at x3
    rw [px, Bool.true_and] at x3
    exact ⟨_, H.lt x x1 px, ax, x3⟩
  mx i hi ai bi t ht h1 h2 j hj aj := by
    obtain ⟨x, x1, x2, rfl⟩ := H.onto i hi
    obtain ⟨y, y1, y2, rfl⟩ := H.onto j hj
    refine (pre_iff.1 (h.mx x x1 (pre_iff.2 ⟨x2, ai⟩) (by unfold pre; rw [bi, Bool.and_false]) (pre p φ t) (H.pre_sub G ht) (fun z hz hh => ?_) (fun c hc hh => ?_) y y1 (pre_iff.2 ⟨y2, aj⟩))).2
    · obtain ⟨pz, bz⟩ := pre_iff.1 hh
      exact pre_iff.2 ⟨pz, h1 _ (H.lt z hz pz) bz⟩
    · obtain ⟨pc, ac⟩ := pre_iff.1 hh
      exact pre_iff.2 ⟨cjr_in G H.sub x1 hc x2 pc, by rw [H.cjr G x1 hc x2 pc]; exact h2 _ (H.lt c hc pc) ac⟩

/-- Things of the first commute, up to the second. -/
def Abl (n : Nat) (f : Nat → Nat → Nat) (e : Nat) (p q : Nat → Bool) : Prop := ∀ x y, x < n → y < n → p x = true → p y = true → q (cmt n f e x y) = true
def AbC (n : Nat) (f : Nat → Nat → Nat) (e : Nat) : (Nat → Bool) → List (Nat → Bool) → Prop
  | _, [] => True
  | p, q :: l => Abl n f e p q ∧ AbC n f e q l
theorem AbC.congr {p' : Nat → Bool} (hp : ∀ x, x < n → p' x = p x) : ∀ {l : List (Nat → Bool)}, AbC n f e p l → AbC n f e p' l
  | [], _ => trivial
  | q :: l, h => ⟨fun x y hx hy h1 h2 => h.1 x y hx hy (by rwa [← hp x hx]) (by rwa [← hp y hy]), h.2⟩
theorem Chn.subs (G : Grp n f e) : ∀ {l : List (Nat → Bool)} {p : Nat → Bool}, Chn n f e p l → ∀ q ∈ l, Sub n f e q
  | [], _, _, q, hq => by simp at hq
  | r :: l, p, h, q, hq => by
    rcases List.mem_cons.1 hq with rfl | hq
    · exact h.1.sub
    · exact Chn.subs G h.2 q hq

end
end Go.Proofs.YtboadfahlflmhaaDoor

/-
  Plain law, FRATTINI'S ARGUMENT. Conditions: none.
-/
set_option linter.all false
namespace Go.Proofs.YtboadfahlflmhaaDoor
open Go.Pv

section
variable {n e P : Nat} {f : Nat → Nat → Nat} {q s : Nat → Bool}

theorem Syl.cong {f g : Nat → Nat → Nat} {j t : Nat} (hY : Syl n g e P s j t) (G : Grp n f e) (h : ∀ a b, a < n → b < n → g a b = f a b) : Syl n f e P s j t :=
  ⟨hY.sub.cong_op G h, hY.len, hY.num, hY.non⟩

end
end Go.Proofs.YtboadfahlflmhaaDoor

/-
  Nilpotent groups; classes of a quotient; the quotient by commutators. Conditions: none.
-/
set_option linter.all false
namespace Go.Proofs.YtboadfahlflmhaaDoor
open Go.Pv

section
variable {n : Nat} {f : Nat → Nat → Nat} {e : Nat}
/-! ### Classes of a quotient -/

theorem lead_le {k : Nat} {r1 r2 : Nat → Nat → Bool} (E1 : Eqv n r1) (E2 : Eqv k r2) (rep : Nat → Nat) (hr : ∀ i, i < k → rep i < n) (h : ∀ i j, i < k → j < k → r1 (rep i) (rep j) = true → r2 i j = true) : (mem k (lead r2)).length ≤ (mem n (lead r1)).length := by
  have hex : ∀ i, ∃ x, i < k → x < n ∧ lead r1 x = true ∧ r1 x (rep i) = true := fun i => by
    by_cases hi : i < k
    · obtain ⟨x, h1, h2, h3⟩ := E1.least (hr i hi)
      exact ⟨x, fun _ => ⟨h1, h2, h3⟩⟩
    · exact ⟨0, fun h => absurd h hi⟩
  obtain ⟨g, hg⟩ := Classical.axiomOfChoice hex
  rw [← List.length_map (f := g) («as» := mem k (lead r2))]
  refine List.Nodup.length_le_of_subset (nodup_map (List.nodup_range.filter _) fun i hi j hj he => ?_) fun x hx => ?_
  · obtain ⟨i1, i2⟩ := mem_mem.1 hi
    obtain ⟨j1, j2⟩ := mem_mem.1 hj
    obtain ⟨a1, a2, a3⟩ := hg i i1
    obtain ⟨b1, b2, b3⟩ := hg j j1
    rw [← he] at b3
    exact E2.lead_eq i1 j1 i2 j2 (h i j i1 j1 (E1.trans _ _ _ (hr i i1) a1 (hr j j1) (E1.symm _ _ a1 (hr i i1) a3) b3))
  · obtain ⟨i, hi, rfl⟩ := List.mem_map.1 hx
    obtain ⟨i1, i2⟩ := mem_mem.1 hi
    exact mem_mem.2 ⟨(hg i i1).1, (hg i i1).2.1⟩
theorem Qm.iv {k : Nat} {cl rep : Nat → Nat} (Q : Qm n f k cl rep) (G : Grp n f e) {a : Nat} (ha : a < n) : iv k (qop f cl rep) (cl e) (cl a) = cl (Go.Proofs.YtboadfahlflmhaaDoor.iv n f e a) :=
  ((Q.grp G).iv_unique (Q.lt a ha) (Q.lt _ (G.iv_lt ha)) (.inl (by rw [Q.op ha (G.iv_lt ha), G.mul_iv ha]))).symm
theorem Qm.cjb {k : Nat} {cl rep : Nat → Nat} (Q : Qm n f k cl rep) (G : Grp n f e) {x y : Nat} (hx : x < n) (hy : y < n) (h : cjb n f e x y = true) : cjb k (qop f cl rep) (cl e) (cl x) (cl y) = true := by
  obtain ⟨a, ha, rfl⟩ := cjb_iff.1 h
  have ia := G.iv_lt ha
  refine cjb_iff.2 ⟨cl a, Q.lt a ha, ?_⟩
  rw [Q.iv G ha, Q.op ia hx, Q.op (G.cl _ _ ia hx) ha]
/-- A quotient has no more classes. -/
theorem Qm.classes {k : Nat} {cl rep : Nat → Nat} (Q : Qm n f k cl rep) (G : Grp n f e) : (mem k (lead (Go.Proofs.YtboadfahlflmhaaDoor.cjb k (qop f cl rep) (cl e)))).length ≤ (mem n (lead (Go.Proofs.YtboadfahlflmhaaDoor.cjb n f e))).length :=
  lead_le G.cjb_eqv (Q.grp G).cjb_eqv rep Q.rlt fun i j hi hj h => by
    have := Q.cjb G (Q.rlt i hi) (Q.rlt j hj) h
    rwa [Q.at_ i hi, Q.at_ j hj] at this
end
end Go.Proofs.YtboadfahlflmhaaDoor

/-
  Plain law: nilpotent is just where all of Sylow's subgroups are normal; both central series are as long. Conditions: none.
-/
set_option linter.all false
namespace Go.Proofs.YtboadfahlflmhaaDoor
open Go.Pv

section
variable {n e P : Nat} {f : Nat → Nat → Nat} {p q s : Nat → Bool}

/-! ### Both series -/
section
variable {nl : (Nat → Bool) → Nat → Bool}
theorem Stp.le {T : Nat → Nat → Bool} {K k : Nat} (h : Stp n T K) (he : ∀ a, a < n → T (k + 1) a = T k a) : K ≤ k :=
  Nat.le_of_not_lt fun hh => h.ne k hh he
end

/-! ### Sylow's subgroups of what is nilpotent -/
/-! ### A group of a power of P things, and a normal subgroup that is not all -/
/-! ### Where all of Sylow's subgroups are normal -/
end
end Go.Proofs.YtboadfahlflmhaaDoor

/-
  Plain: each step of a chain has its quotient; it is of a prime where things commute; what is solvable. Conditions: none.
-/
set_option linter.all false
namespace Go.Proofs.YtboadfahlflmhaaDoor

section
variable {n e : Nat} {f : Nat → Nat → Nat} {p q : Nat → Bool}
/-- The quotient of a group. -/
theorem quot_hm (G : Grp n f e) (hq : Sub n f e q) (hN : Nml n f e q) : Hm n f e (fun _ => true) (cst n (dco n f q (onp e))).length (qop f (clq n (dco n f q (onp e))) (rpq n (dco n f q (onp e)))) (clq n (dco n f q (onp e)) e) (clq n (dco n f q (onp e))) := by
  have E := G.dco_eqv hq G.onp_sub
  have Q := cst_qm G E fun a b c d ha hb hc hd h1 h2 => G.rco_cong hq hN ha hb hc hd h1 h2
  exact ⟨Q.grp G, G.all_sub, fun x hx _ => Q.lt x hx, fun x y hx hy _ _ => (Q.op hx hy).symm, fun i hi => ⟨_, Q.rlt i hi, rfl, Q.at_ i hi⟩⟩
theorem quot_ker (G : Grp n f e) (hq : Sub n f e q) {x : Nat} (hx : x < n) : clq n (dco n f q (onp e)) x = clq n (dco n f q (onp e)) e ↔ q x = true := by
  have E := G.dco_eqv hq G.onp_sub
  rw [clq_iff E hx G.el, G.rco_iff hx G.el, G.one_l _ (G.iv_lt hx)]
  exact ⟨fun h => by have := hq.inv _ (G.iv_lt hx) h; rwa [G.iv_iv hx] at this, fun h => hq.inv x hx h⟩
theorem quot_num (G : Grp n f e) (hq : Sub n f e q) : (cst n (dco n f q (onp e))).length * (mem n q).length = n := by
  rw [cst_len]; exact G.rco_num hq
/-- The part of a group. -/
theorem part_hm (G : Grp n f e) (hp : Sub n f e p) : Hm n f e p (thl n p).length (pop n f p) (pix p e) (pix p) :=
  ⟨ptb_grp G hp, hp, fun x hx px => (pix_at hx px).1, fun x y hx hy px py => (pop_pix hp hx hy px py).symm, fun i hi => ⟨lat n p i, (lat_at hi).1, (lat_at hi).2.1, (lat_at hi).2.2.2⟩⟩
variable {k k2 d d2 : Nat} {g g2 : Nat → Nat → Nat} {φ ψ : Nat → Nat}
theorem Hm.comp (H : Hm n f e p k g d φ) (K : Hm k g d (fun _ => true) k2 g2 d2 ψ) : Hm n f e p k2 g2 d2 fun x => ψ (φ x) where
  grp := K.grp
  sub := H.sub
  lt x hx px := K.lt _ (H.lt x hx px) rfl
  mul x y hx hy px py := by
    show ψ (φ (f x y)) = _
    rw [H.mul x y hx hy px py, K.mul _ _ (H.lt x hx px) (H.lt y hy py) rfl rfl]
  onto i hi := by
    obtain ⟨y, y1, _, rfl⟩ := K.onto i hi
    obtain ⟨x, x1, x2, rfl⟩ := H.onto y y1
    exact ⟨x, x1, x2, rfl⟩
theorem Hm.cong_op (H : Hm n f e p k g d φ) (h : ∀ a b, a < k → b < k → g2 a b = g a b) (G2 : Grp k g2 d) : Hm n f e p k g2 d φ :=
  ⟨G2, H.sub, H.lt, fun x y hx hy px py => by rw [H.mul x y hx hy px py, h _ _ (H.lt x hx px) (H.lt y hy py)], H.onto⟩
/-- What stands of a smaller one in the part. -/
def dwn (n : Nat) (p q : Nat → Bool) (i : Nat) : Bool := q (lat n p i)
theorem lft_dwn (hle : ∀ x, x < n → q x = true → p x = true) : ∀ x, x < n → lft p (dwn n p q) x = q x := fun x hx => by
  unfold lft dwn
  cases px : p x with
  | false =>
    cases qx : q x with
    | false => rfl
    | true => rw [hle x hx qx] at px; cases px
  | true => rw [lat_pix hx px]; rfl
theorem dwn_sub (G : Grp n f e) (hp : Sub n f e p) (hq : Sub n f e q) : Sub (thl n p).length (pop n f p) (pix p e) (dwn n p q) :=
  sub_of (ptb_grp G hp) (by unfold dwn; rw [lat_pix G.el hp.one]; exact hq.one) fun i j hi hj h1 h2 => by
    unfold dwn at h1 h2 ⊢
    rw [(pop_at G hp hi hj).2]
    exact hq.mul _ _ (lat_at hi).1 (lat_at hj).1 h1 h2
theorem dwn_nml (G : Grp n f e) (hp : Sub n f e p) : Nml (thl n p).length (pop n f p) (pix p e) (dwn n p q) ↔ ∀ a x, a < n → x < n → p a = true → p x = true → q x = true → q (cjr n f e x a) = true := by
  have H := part_hm G hp
  constructor
  · intro h a x ha hx pa px qx
    have := h (pix p a) (pix_at ha pa).1 (pix p x) (pix_at hx px).1 (by unfold dwn; rw [lat_pix hx px]; exact qx)
    rw [← H.cjr G hx ha px pa] at this
    unfold dwn at this
    rwa [lat_pix (G.cjr_lt hx ha) (cjr_in G hp hx ha px pa)] at this
  · intro h i hi j hj hd
    obtain ⟨a1, a2, _, a4⟩ := lat_at hi
    obtain ⟨b1, b2, _, b4⟩ := lat_at hj
    have := h _ _ a1 b1 a2 b2 hd
    rw [← a4, ← b4, ← H.cjr G b1 a1 b2 a2]
    unfold dwn
    rwa [lat_pix (G.cjr_lt b1 a1) (cjr_in G hp b1 a1 b2 a2)]
theorem dwn_len (hle : ∀ x, x < n → q x = true → p x = true) : (mem (thl n p).length (dwn n p q)).length = (mem n q).length := by
  have h1 := congrArg List.length (lft_thl p (dwn n p q) n)
  rw [List.length_map] at h1
  have e1 : (thl (thl n p).length (dwn n p q)).length = (mem (thl n p).length (dwn n p q)).length := thl_len _ _
  have e2 : (thl n (lft p (dwn n p q))).length = (mem n (lft p (dwn n p q))).length := thl_len _ _
  rw [← e1, h1, e2, mem_congr (lft_dwn hle)]

/-- The quotient of a subgroup by what is normal in it. -/
theorem step_hm (G : Grp n f e) (hp : Sub n f e p) (hq : Sub n f e q) (hle : ∀ x, x < n → q x = true → p x = true) (hN : ∀ a x, a < n → x < n → p a = true → p x = true → q x = true → q (cjr n f e x a) = true) :
    ∃ k g d φ, Hm n f e p k g d φ ∧ (∀ x, x < n → pre p φ (onp d) x = q x) ∧ k * (mem n q).length = (mem n p).length := by
  have H := part_hm G hp
  have P := H.grp
  have ds := dwn_sub G hp hq
  have K := quot_hm P ds ((dwn_nml G hp).2 hN)
  refine ⟨_, _, _, _, H.comp K, fun x hx => ?_, ?_⟩
  · unfold pre
    cases px : p x with
    | false =>
      cases qx : q x with
      | false => rfl
      | true => rw [hle x hx qx] at px; cases px
    | true =>
      rw [Bool.true_and, Bool.eq_iff_iff, onp_iff, quot_ker P ds (H.lt x hx px)]
      unfold dwn
      rw [lat_pix hx px]
  · have := quot_num P ds
    rw [dwn_len hle] at this
    have e1 : (thl n p).length = (mem n p).length := thl_len _ _
    rw [← e1]; exact this
theorem Mxn.hm (G : Grp n f e) (hp : Sub n f e p) (h : Mxn n f e p q) : ∃ k g d φ, Hm n f e p k g d φ ∧ (∀ x, x < n → pre p φ (onp d) x = q x) ∧ k * (mem n q).length = (mem n p).length ∧ Mxn k g d (fun _ => true) (onp d) := by
  obtain ⟨k, g, d, φ, H, h1, h2⟩ := step_hm G hp h.sub h.le fun a x ha hx pa _ qx => h.nml a x ha hx pa qx
  refine ⟨k, g, d, φ, H, h1, h2, H.of_pre G H.grp.onp_sub ?_⟩
  refine (h.congr_r G (H.pre_sub G H.grp.onp_sub) h1).congr_l fun x hx => ?_
  show (p x && true) = p x
  rw [Bool.and_true]

end
end Go.Proofs.YtboadfahlflmhaaDoor

/-
  Plain: homomorphisms, and how a map of some things is spread. Conditions: none.
-/
set_option linter.all false
namespace Go.Proofs.YtboadfahlflmhaaDoor

/-- A homomorphism. -/
structure Hmo (n : Nat) (f : Nat → Nat → Nat) (N : Nat) (g : Nat → Nat → Nat) (φ : Nat → Nat) : Prop where
  lt : ∀ a, a < n → φ a < N
  mul : ∀ a b, a < n → b < n → φ (f a b) = g (φ a) (φ b)

/-- It takes some things where it is told. -/
def Ext (n : Nat) (f : Nat → Nat → Nat) (N : Nat) (g : Nat → Nat → Nat) (F T : List Nat) (φ : Nat → Nat) : Prop := Hmo n f N g φ ∧ ∀ i, i < F.length → φ (F.getD i 0) = T.getD i 0

/-- What is reached: a thing, and what must stand for it. -/
inductive Rch (f : Nat → Nat → Nat) (e : Nat) (g : Nat → Nat → Nat) (d : Nat) (F T : List Nat) : Nat → Nat → Prop
  | one : Rch f e g d F T e d
  | step {a y : Nat} (i : Nat) (hi : i < F.length) (h : Rch f e g d F T a y) : Rch f e g d F T (f a (F.getD i 0)) (g y (T.getD i 0))

/-- A map as a row: -1 where nothing stands yet. -/
def prow (n : Nat) (S : Nat → Bool) (ψ : Nat → Nat) : List Int := (List.range n).map fun a => if S a then ((ψ a : Nat) : Int) else -1
def tbm (n : Nat) (φ : Nat → Nat) : List Int := (List.range n).map fun a => ((φ a : Nat) : Int)
def upd1 (S : Nat → Bool) (b : Nat) : Nat → Bool := fun x => S x || decide (x = b)
def updF (ψ : Nat → Nat) (b y : Nat) : Nat → Nat := fun x => if x = b then y else ψ x

theorem prow_len (n : Nat) (S : Nat → Bool) (ψ : Nat → Nat) : (prow n S ψ).length = n := by simp [prow]
theorem tbm_len (n : Nat) (φ : Nat → Nat) : (tbm n φ).length = n := by simp [tbm]
theorem prow_get {n : Nat} {S : Nat → Bool} {ψ : Nat → Nat} {a : Nat} (ha : a < n) : (prow n S ψ).getD a 0 = if S a then ((ψ a : Nat) : Int) else -1 := by
  simp [prow, List.getD, ha]
theorem tbm_get {n : Nat} {φ : Nat → Nat} {a : Nat} (ha : a < n) : (tbm n φ).getD a 0 = ((φ a : Nat) : Int) := by
  simp [tbm, List.getD, ha]
theorem prow_set {n : Nat} {S : Nat → Bool} {ψ : Nat → Nat} {b y : Nat} (hb : b < n) (hS : S b = false) : (prow n S ψ).set b ((y : Nat) : Int) = prow n (upd1 S b) (updF ψ b y) := by
  refine List.ext_getElem (by simp [prow]) fun i h1 h2 => ?_
  rw [List.getElem_set]
  by_cases e : b = i
  · subst e
    simp [prow, upd1, updF]
  · rw [if_neg e]
    simp [prow, upd1, updF, Ne.symm e]
theorem prow_all {n : Nat} {S : Nat → Bool} {ψ φ : Nat → Nat} (h : ∀ a, a < n → S a = true ∧ ψ a = φ a) : prow n S ψ = tbm n φ := by
  refine List.map_congr_left fun a ha => ?_
  obtain ⟨h1, h2⟩ := h a (List.mem_range.1 ha)
  rw [h1, h2]; rfl
theorem upd1_true {S : Nat → Bool} {b x : Nat} : upd1 S b x = true ↔ S x = true ∨ x = b := by simp [upd1]
theorem updF_ne {ψ : Nat → Nat} {b y x : Nat} (h : x ≠ b) : updF ψ b y x = ψ x := by simp [updF, h]
theorem updF_eq {ψ : Nat → Nat} {b y : Nat} : updF ψ b y b = y := by simp [updF]

/-- How many stand out. -/
def outs (n : Nat) (S : Nat → Bool) : Nat := (mem n fun a => !S a).length
theorem outs_upd {n : Nat} {S : Nat → Bool} {b : Nat} (hb : b < n) (hS : S b = false) : outs n (upd1 S b) + 1 = outs n S := by
  unfold outs mem
  induction n with
  | zero => omega
  | succ n ih =>
    rw [List.range_succ, List.filter_append, List.filter_append, List.length_append, List.length_append]
    by_cases e : b = n
    · subst e
      have h0 : (List.range b).filter (fun a => !upd1 S b a) = (List.range b).filter (fun a => !S a) := List.filter_congr fun x hx => by
        have := List.mem_range.1 hx
        simp [upd1, show x ≠ b by omega]
      rw [h0]
      simp [upd1, hS]
    · have := ih (by omega)
      have h1 : upd1 S b n = S n := by simp [upd1, Ne.symm e]
      simp only [List.filter_cons, h1, List.filter_nil]
      omega

section
variable {n N e d : Nat} {f g : Nat → Nat → Nat} {F T : List Nat} {φ : Nat → Nat}
theorem Hmo.one (G : Grp n f e) (K : Grp N g d) (h : Hmo n f N g φ) : φ e = d := by
  have h1 := h.mul e e G.el G.el
  rw [G.one_l e G.el] at h1
  have h2 := h.lt e G.el
  have h3 := K.assoc (iv N g d (φ e)) (φ e) (φ e) (K.iv_lt h2) h2 h2
  rw [K.iv_mul h2, ← h1, K.iv_mul h2, K.one_l _ h2] at h3
  exact h3
theorem Rch.fun_ (G : Grp n f e) (K : Grp N g d) (hF : ∀ i, i < F.length → F.getD i 0 < n) (h : Ext n f N g F T φ) {a y : Nat} (hr : Rch f e g d F T a y) : a < n ∧ φ a = y := by
  induction hr with
  | one => exact ⟨G.el, h.1.one G K⟩
  | step i hi _ ih =>
    obtain ⟨h1, h2⟩ := ih
    exact ⟨G.cl _ _ h1 (hF i hi), by rw [h.1.mul _ _ h1 (hF i hi), h2, h.2 i hi]⟩

/-- Where the spreading stands. -/
structure Sprd (n : Nat) (f : Nat → Nat → Nat) (e N : Nat) (g : Nat → Nat → Nat) (d : Nat) (F T : List Nat) (S : Nat → Bool) (ψ : Nat → Nat) (W : List Nat) : Prop where
  one : S e = true ∧ ψ e = d
  lt : ∀ a, a < n → S a = true → ψ a < N
  rch : ∀ a, a < n → S a = true → Rch f e g d F T a (ψ a)
  wt : ∀ a ∈ W, a < n ∧ S a = true
  cl : ∀ a, a < n → S a = true → a ∉ W → ∀ i, i < F.length → S (f a (F.getD i 0)) = true ∧ ψ (f a (F.getD i 0)) = g (ψ a) (T.getD i 0)

/-- Within a round. -/
structure Sprd2 (n : Nat) (f : Nat → Nat → Nat) (e N : Nat) (g : Nat → Nat → Nat) (d : Nat) (F T : List Nat) (a0 i0 : Nat) (S : Nat → Bool) (ψ : Nat → Nat) (W : List Nat) : Prop where
  one : S e = true ∧ ψ e = d
  lt : ∀ a, a < n → S a = true → ψ a < N
  rch : ∀ a, a < n → S a = true → Rch f e g d F T a (ψ a)
  wt : ∀ a ∈ W, a < n ∧ S a = true
  ha : a0 < n ∧ S a0 = true
  cl : ∀ a, a < n → S a = true → a ∉ W → ∀ i, i < F.length → (a = a0 → i < i0) → S (f a (F.getD i 0)) = true ∧ ψ (f a (F.getD i 0)) = g (ψ a) (T.getD i 0)

theorem Sprd.begin (G : Grp n f e) (K : Grp N g d) : Sprd n f e N g d F T (upd1 (fun _ => false) e) (updF (fun _ => 0) e d) [e] where
  one := ⟨by simp [upd1], updF_eq⟩
  lt a ha h := by
    have : a = e := by simpa [upd1] using h
    rw [this, updF_eq]; exact K.el
  rch a ha h := by
    have : a = e := by simpa [upd1] using h
    rw [this, updF_eq]; exact .one
  wt a ha := by
    have : a = e := by simpa using ha
    rw [this]; exact ⟨G.el, by simp [upd1]⟩
  cl a ha h hw := by
    have : a = e := by simpa [upd1] using h
    exact absurd (by simp [this]) hw
theorem Sprd.pop {S : Nat → Bool} {ψ : Nat → Nat} {a : Nat} {W : List Nat} (h : Sprd n f e N g d F T S ψ (a :: W)) : Sprd2 n f e N g d F T a 0 S ψ W where
  one := h.one
  lt := h.lt
  rch := h.rch
  wt x hx := h.wt x (by simp [hx])
  ha := h.wt a (by simp)
  cl x hx hS hW i hi hai := by
    by_cases e : x = a
    · have := hai e; omega
    · exact h.cl x hx hS (by simp [e, hW]) i hi
theorem Sprd2.done {S : Nat → Bool} {ψ : Nat → Nat} {a : Nat} {W : List Nat} (h : Sprd2 n f e N g d F T a F.length S ψ W) : Sprd n f e N g d F T S ψ W where
  one := h.one
  lt := h.lt
  rch := h.rch
  wt := h.wt
  cl x hx hS hW i hi := h.cl x hx hS hW i hi fun _ => hi
theorem Sprd2.push (G : Grp n f e) (K : Grp N g d) (hF : ∀ i, i < F.length → F.getD i 0 < n) (hT : ∀ i, i < F.length → T.getD i 0 < N) {S : Nat → Bool} {ψ : Nat → Nat} {a i : Nat} {W : List Nat} (h : Sprd2 n f e N g d F T a i S ψ W) (hi : i < F.length) (hb : S (f a (F.getD i 0)) = false) :
    Sprd2 n f e N g d F T a (i + 1) (upd1 S (f a (F.getD i 0))) (updF ψ (f a (F.getD i 0)) (g (ψ a) (T.getD i 0))) (W ++ [f a (F.getD i 0)]) := by
  have hbn := G.cl _ _ h.ha.1 (hF i hi)
  have hne : ∀ x, S x = true → x ≠ f a (F.getD i 0) := fun x hx e => by rw [e, hb] at hx; cases hx
  refine ⟨⟨upd1_true.2 (.inl h.one.1), by rw [updF_ne (hne _ h.one.1)]; exact h.one.2⟩, fun x hx hS => ?_, fun x hx hS => ?_, fun x hx => ?_, ⟨h.ha.1, upd1_true.2 (.inl h.ha.2)⟩, fun x hx hS hW j hj hji => ?_⟩
  · rcases upd1_true.1 hS with h1 | rfl
    · rw [updF_ne (hne _ h1)]; exact h.lt x hx h1
    · rw [updF_eq]; exact K.cl _ _ (h.lt a h.ha.1 h.ha.2) (hT i hi)
  · rcases upd1_true.1 hS with h1 | rfl
    · rw [updF_ne (hne _ h1)]; exact h.rch x hx h1
    · rw [updF_eq]; exact .step i hi (h.rch a h.ha.1 h.ha.2)
  · rcases List.mem_append.1 hx with hx | hx
    · obtain ⟨h1, h2⟩ := h.wt x hx
      exact ⟨h1, upd1_true.2 (.inl h2)⟩
    · have : x = f a (F.getD i 0) := by simpa using hx
      rw [this]; exact ⟨hbn, upd1_true.2 (.inr rfl)⟩
  · have hW1 : x ∉ W := fun hh => hW (by simp [hh])
    have hxb : x ≠ f a (F.getD i 0) := fun hh => hW (by simp [hh])
    have hSx : S x = true := (upd1_true.1 hS).resolve_right hxb
    rw [updF_ne hxb]
    by_cases e : x = a ∧ j = i
    · obtain ⟨rfl, rfl⟩ := e
      exact ⟨upd1_true.2 (.inr rfl), updF_eq⟩
    · obtain ⟨k1, k2⟩ := h.cl x hx hSx hW1 j hj fun ea => by
        have := hji ea
        have : j ≠ i := fun ej => e ⟨ea, ej⟩
        omega
      exact ⟨upd1_true.2 (.inl k1), by rw [updF_ne (hne _ k1)]; exact k2⟩
theorem Sprd2.keep {S : Nat → Bool} {ψ : Nat → Nat} {a i : Nat} {W : List Nat} (h : Sprd2 n f e N g d F T a i S ψ W) (hb : S (f a (F.getD i 0)) = true) (hv : ψ (f a (F.getD i 0)) = g (ψ a) (T.getD i 0)) :
    Sprd2 n f e N g d F T a (i + 1) S ψ W :=
  ⟨h.one, h.lt, h.rch, h.wt, h.ha, fun x hx hS hW j hj hji => by
    by_cases e : x = a ∧ j = i
    · obtain ⟨rfl, rfl⟩ := e
      exact ⟨hb, hv⟩
    · exact h.cl x hx hS hW j hj fun ea => by
        have := hji ea
        have : j ≠ i := fun ej => e ⟨ea, ej⟩
        omega⟩

/-- At the end all is reached, and it is a homomorphism. -/
theorem Sprd.fin (G : Grp n f e) (K : Grp N g d) (hF : ∀ i, i < F.length → F.getD i 0 < n) (hT : ∀ i, i < F.length → T.getD i 0 < N) (hgen : ∀ a, a < n → Gen n f e (fun x => decide (x ∈ F)) a) {S : Nat → Bool} {ψ : Nat → Nat} (h : Sprd n f e N g d F T S ψ []) :
    (∀ a, a < n → S a = true) ∧ Ext n f N g F T ψ := by
  have hall : ∀ a, a < n → S a = true := fun a ha => Gen.least (H := fun a => S a = true) h.one.1 (fun a b hga hb hp hSa => by
    have hp : b ∈ F := by simpa using hp
    obtain ⟨i, hi, rfl⟩ := List.getElem_of_mem hp
    have e1 : F[i] = F.getD i 0 := by simp [List.getD, List.getElem?_eq_getElem hi]
    rw [e1]
    exact (h.cl a (hga.lt G) hSa (by simp) i hi).1) (hgen a ha)
  have hmul : ∀ a, a < n → ∀ b, b < n → ψ (f a b) = g (ψ a) (ψ b) := fun a ha b hb => by
    refine Gen.least (H := fun b => ψ (f a b) = g (ψ a) (ψ b)) ?_ (fun c x hgc hx hp ih => ?_) (hgen b hb)
    · rw [G.one_r a ha, h.one.2, K.one_r _ (h.lt a ha (hall a ha))]
    · have hp : x ∈ F := by simpa using hp
      obtain ⟨i, hi, rfl⟩ := List.getElem_of_mem hp
      have e1 : F[i] = F.getD i 0 := by simp [List.getD, List.getElem?_eq_getElem hi]
      rw [e1]
      have hc := hgc.lt G
      have hac := G.cl a c ha hc
      rw [← G.assoc a c _ ha hc (hF i hi), (h.cl _ hac (hall _ hac) (by simp) i hi).2, (h.cl c hc (hall c hc) (by simp) i hi).2, ih, K.assoc _ _ _ (h.lt a ha (hall a ha)) (h.lt c hc (hall c hc)) (hT i hi)]
  refine ⟨hall, ⟨fun a ha => h.lt a ha (hall a ha), fun a b ha hb => hmul a ha b hb⟩, fun i hi => ?_⟩
  have h1 := (h.cl e G.el h.one.1 (by simp) i hi).2
  rw [G.one_l _ (hF i hi), h.one.2, K.one_l _ (hT i hi)] at h1
  exact h1
end
end Go.Proofs.YtboadfahlflmhaaDoor

/-
  Walks: maps of groups: the fault of a map. Conditions: none.
-/
set_option linter.all false
namespace Go.Proofs.YtboadfahlflmhaaDoor
open Go.Pv

/-- The fault of two groups. -/
def tg (N : Int) (m : List Int) (N' : Int) (m' : List Int) : Int × Int := if (gf N m).1 = 0 then gf N' m' else gf N m

theorem homBoth_c (N:Int) (m:List Int) (N' : Int) (m' : List Int) (hm:m.length≤1000000000000000) (hm' : m'.length≤1000000000000000):FnC Tryd.prog 92 [gp N m,gp N' m'] (fl (tg N m N' m')):=by
 refine fnc_of tab_ok Tryd.func92 rfl (by kernel_rfl) (by rw [Tryd.ntmps92]; exact Nat.le_add_left 2 _) ?_; rw [Tryd.ntmps92]
 refine qm ?_
 refine hk_region fun K hK=>runs_eval tab_ok ?_
 simp only [ev0,evA,evB,evP,fl,gp,tab,simprocAttr,reduceCtorEq,reduceIte]
 refine fin_run ?_ (hK _ ?_)<;>clear hK<;>clear K
 ·(first|exact trivial|omega|(simp only [In64] at *; omega)|(simp [In64] at *; omega)|(simp_all; done)|skip)
 refine qa (qm (qm ?_))
 refine hk_region fun K hK=>runs_eval tab_ok ?_
 simp only [ev0,evA,evB,evP,fl,gp,tab,simprocAttr,reduceCtorEq,reduceIte]
 refine fin_stop trivial (runs_call (check_c N m hm) rfl rfl rfl (by simp only [dstOk,Nat.reduceLT]) (by repeat (first|exact trivial|constructor)) (runs_eval tab_ok ?_))
 simp only [ev0,evA,evB,evP,fl,gp,tab,simprocAttr,reduceCtorEq,reduceIte]
 refine fin_run ?_ (hK _ ?_)<;>clear hK<;>clear K
 ·(first|exact trivial|omega|(simp only [In64] at *; omega)|(simp [In64] at *; omega)|(simp_all; done)|skip)
 refine qa (qm ?_)
 refine hk_region fun K hK=>runs_eval tab_ok ?_
 simp only [ev0,evA,evB,evP,fl,gp,tab,simprocAttr,reduceCtorEq,reduceIte]
 refine fin_run ?_ (hK _ ?_)<;>clear hK<;>clear K
 ·(first|exact trivial|omega|(simp only [In64] at *; omega)|(simp [In64] at *; omega)|(simp_all; done)|skip)
 refine qa ?_
 refine hk_cond rfl (fun hC1=>?_) (fun hC1=>?_)
 ·(try simp only [nhs] at hC1)
  refine qm ?_
  refine hk_region fun K hK=>runs_eval tab_ok ?_
  simp only [ev0,evA,evB,evP,fl,gp,tab,simprocAttr,reduceCtorEq,reduceIte]
  refine fin_run ?_ (hK _ ?_)<;>clear hK<;>clear K
  ·(first|exact trivial|omega|(simp only [In64] at *; omega)|(simp [In64] at *; omega)|(simp_all; done)|skip)
  refine qa (qk (qb ?_))
  simp only [Tryd.results92,enA,ev0,evA,evB,evP,fl,gp,tab,simprocAttr,reduceCtorEq,reduceIte]
  all_goals (unfold tg; rw [if_neg hC1]; simp)
 ·(try simp only [nhs] at hC1)
  refine qh (qa (qm ?_))
  refine hk_region fun K hK=>runs_eval tab_ok ?_
  simp only [ev0,evA,evB,evP,fl,gp,tab,simprocAttr,reduceCtorEq,reduceIte]
  refine fin_stop trivial (runs_call (check_c N' m' hm') rfl rfl rfl (by simp only [dstOk,Nat.reduceLT]) (by repeat (first|exact trivial|constructor)) (runs_eval tab_ok ?_))
  simp only [ev0,evA,evB,evP,fl,gp,tab,simprocAttr,reduceCtorEq,reduceIte]
  refine fin_run ?_ (hK _ ?_)<;>clear hK<;>clear K
  ·(first|exact trivial|omega|(simp only [In64] at *; omega)|(simp [In64] at *; omega)|(simp_all; done)|skip)
  refine qa (qk ?_)
  simp only [Tryd.results92,enA,ev0,evA,evB,evP,fl,gp,tab,simprocAttr,reduceCtorEq,reduceIte]
  all_goals (unfold tg; rw [if_pos hC1]; simp)

theorem homFlt_c (c a:Int):FnC Tryd.prog 77 [.int .i64 c,.int .i64 a] (fl (c,a)):=by
 refine fnc_of tab_ok Tryd.func77 rfl (by kernel_rfl) (by rw [Tryd.ntmps77]; exact Nat.le_add_left 2 _) ?_; rw [Tryd.ntmps77]
 refine qm ?_
 refine hk_region fun K hK=>runs_eval tab_ok ?_
 simp only [ev0,evA,evB,evP,fl,gp,tab,simprocAttr,reduceCtorEq,reduceIte]
 refine fin_run ?_ (hK _ ?_)<;>clear hK<;>clear K
 ·(first|exact trivial|omega|(simp only [In64] at *; omega)|(simp [In64] at *; omega)|(simp_all; done)|skip)
 refine qa (qm ?_)
 refine hk_region fun K hK=>runs_eval tab_ok ?_
 simp only [ev0,evA,evB,evP,fl,gp,tab,simprocAttr,reduceCtorEq,reduceIte]
 refine fin_run ?_ (hK _ ?_)<;>clear hK<;>clear K
 ·(first|exact trivial|omega|(simp only [In64] at *; omega)|(simp [In64] at *; omega)|(simp_all; done)|skip)
 refine qa (qk ?_)
 simp only [Tryd.results77,enA,ev0,evA,evB,evP,fl,gp,tab,simprocAttr,reduceCtorEq,reduceIte]
 all_goals (rfl)

/-- The value of a map. -/
def hv (l : List Int) (a : Nat) : Nat := (l.getD a 0).toNat
def hgood (m m' l : List Int) (n n' a : Nat) : Prop := ∀ b, b < n → op m' n' (hv l a) (hv l b) = hv l (op m n a b)
instance (m m' l : List Int) (n n' a : Nat) : Decidable (hgood m m' l n n' a) := by unfold hgood; infer_instance
/-- A map of groups. -/
def Hom (m m' l : List Int) (n n' : Nat) : Prop := l.length = n ∧ (∀ a, a < n → l.getD a 0 = ((hv l a : Nat) : Int) ∧ hv l a < n') ∧ ∀ a, a < n → hgood m m' l n n' a
end Go.Proofs.YtboadfahlflmhaaDoor

/-
  Walks: what makes a group, one by one; a map of some things, spread to all. Conditions: none.
-/
set_option linter.all false
namespace Go.Proofs.YtboadfahlflmhaaDoor
open Go.Pv

def nl (L : List Nat) : List Int := L.map fun x => ((x : Nat) : Int)
theorem nl_len (L : List Nat) : (nl L).length = L.length := by simp [nl]
theorem nl_get {L : List Nat} {i : Nat} (hi : i < L.length) : (nl L).getD i 0 = ((L.getD i 0 : Nat) : Int) := by
  simp [nl, List.getD, List.getElem?_eq_getElem hi]
theorem nl_snoc (L : List Nat) (x : Nat) : nl (L ++ [x]) = nl L ++ [((x : Nat) : Int)] := by simp [nl]
section
variable (n : Nat) (f : Nat → Nat → Nat) (e : Nat)
/-- The least things that make a group, one by one. -/
noncomputable def gl : Nat → List Nat
  | 0 => []
  | a + 1 => if gn n f e (fun x => decide (x ∈ gl a)) a then gl a else gl a ++ [a]
theorem gl_lt : ∀ (a : Nat), ∀ x ∈ gl n f e a, x < a
  | 0, x, h => by simp [gl] at h
  | a + 1, x, h => by
    unfold gl at h
    split at h
    · have := gl_lt a x h; omega
    · rcases List.mem_append.1 h with h | h
      · have := gl_lt a x h; omega
      · have : x = a := by simpa using h
        omega
theorem gl_len : ∀ a, (gl n f e a).length ≤ a
  | 0 => by simp [gl]
  | a + 1 => by
    have := gl_len a
    unfold gl
    split
    · omega
    · simp; omega
theorem gl_mono {a b : Nat} (h : a ≤ b) : ∀ x ∈ gl n f e a, x ∈ gl n f e b := by
  induction b with
  | zero => obtain rfl : a = 0 := by omega
            exact fun x h => h
  | succ b ih =>
    by_cases hab : a = b + 1
    · subst hab; exact fun x h => h
    · intro x hx
      have := ih (by omega) x hx
      unfold gl
      split
      · exact this
      · exact List.mem_append.2 (.inl this)
theorem gl_gen (G : Grp n f e) (a : Nat) (ha : a < n) : Gen n f e (fun x => decide (x ∈ gl n f e n)) a := by
  by_cases h : gn n f e (fun x => decide (x ∈ gl n f e a)) a = true
  · exact Gen.mono (fun b _ hb => by simp only [decide_eq_true_eq] at hb ⊢; exact gl_mono n f e (Nat.le_of_lt ha) b hb) ((gn_iff _ a ha).1 h)
  · have h1 : a ∈ gl n f e (a + 1) := by
      unfold gl
      rw [if_neg h]; simp
    have h2 := gl_mono n f e (show a + 1 ≤ n from ha) a h1
    exact Gen.mem G ha (by simpa using h2)
end

section
variable {n e : Nat} {m : List Int}
theorem gens_c (h : GT n m n e) : FnC Tryd.prog 128 [gp n m] (.list (il (nl (gl n (op m n) e n)))) := by
  have G := h.2.2
  have hb := h.2.1.big
  have hbt : ∀ p, bo n p < 2 ^ 64 := fun p => bo_lt64 hb p
  have hgen0 : ∀ a, a < n → (gn n (op m n) e (fun x => decide (x ∈ gl n (op m n) e 0)) a = true ↔ Gen n (op m n) e (Nat.testBit 0) a) := fun a ha => by
    rw [gn_iff _ a ha]
    exact ⟨Gen.mono fun b _ hb => by simp [gl] at hb, Gen.mono fun b _ hb => by simp at hb⟩
  refine fnc_of tab_ok Tryd.func128 rfl (by kernel_rfl) (by rw [Tryd.ntmps128]; exact Nat.le_add_left 1 _) ?_; rw [Tryd.ntmps128]
  refine qm ?_
  refine hk_region fun K hK => runs_eval tab_ok ?_
  simp only [ev0, evA, evB, evP, fl, gp, tab, simprocAttr, reduceCtorEq, reduceIte]
  refine fin_run ?_ (hK _ ?_) <;> clear hK <;> clear K
  · (first | exact trivial | omega | (simp only [In64] at *; omega) | (simp [In64] at *; omega) | (simp_all; done) | skip)
  refine qa (qm ?_)
  refine hk_region fun K hK => runs_eval tab_ok ?_
  simp only [ev0, evA, evB, evP, fl, gp, tab, simprocAttr, reduceCtorEq, reduceIte]
  refine fin_run trivial (hK _ ?_) <;> clear hK <;> clear K
  refine qa (qm ?_)
  refine hk_own0 3 rfl ?_
  refine hk_region fun K hK => runs_eval tab_ok ?_
  simp only [ev0, evA, evB, evP, fl, gp, tab, simprocAttr, reduceCtorEq, reduceIte]
  refine fin_stop trivial (runs_call (grow_c h 0 (Nat.pow_pos (by omega)) _ hgen0) rfl rfl rfl (by simp only [dstOk, Nat.reduceLT]) (by repeat (first | exact trivial | constructor)) (runs_eval tab_ok ?_))
  simp only [ev0, evA, evB, evP, fl, gp, tab, simprocAttr, reduceCtorEq, reduceIte]
  refine fin_run ?_ (hK _ ?_) <;> clear hK <;> clear K
  · (first | exact trivial | omega | (simp only [In64] at *; omega) | (simp [In64] at *; omega) | (simp_all; done) | skip)
  refine qa (qm (qm ?_))
  refine hk_region fun K hK => runs_eval tab_ok ?_
  simp only [ev0, evA, evB, evP, fl, gp, tab, simprocAttr, reduceCtorEq, reduceIte]
  refine fin_run ?_ (hK _ ?_) <;> clear hK <;> clear K
  · (first | exact trivial | omega | (simp only [In64] at *; omega) | (simp [In64] at *; omega) | (simp_all; done) | skip)
  refine qa (ql ?_)
  refine hk_loop (ι := Nat) (fun a => ⟨29, [(1, .ptr 0 0), (3, .sl 1 0 (nl (gl n (op m n) e a)).length), (4, .p (.int .u64 (bo n (gn n (op m n) e (fun x => decide (x ∈ gl n (op m n) e a)))))), (9, .p (.int .i64 n)), (10, .p (.int .i64 a))], [.own [.p (.int .i64 n), .p (.list (il m))], .own (ol (nl (gl n (op m n) e a)))]⟩) (fun a => a ≤ n) (fun a => n - a) 0 (Nat.zero_le _) [0, 1] (by simp only [leq, leA, ev0, evA, evB, evP, fl, gp, tab, simprocAttr, reduceCtorEq, reduceIte] <;> first | trivial | exact ⟨rfl, rfl⟩ | rfl) fun a ha => ?_
  refine qm ?_
  refine hk_region fun K hK => runs_eval tab_ok ?_
  simp only [ev0, evA, evB, evP, fl, gp, tab, simprocAttr, reduceCtorEq, reduceIte]
  refine fin_run trivial (hK _ ?_) <;> clear hK <;> clear K
  refine qa (qm ?_)
  refine hk_cond rfl (fun hC1 => ?_) (fun hC1 => ?_)
  · (try simp only [nhs] at hC1)
    have hal : a < n := by omega
    have hl := gl_len n (op m n) e a
    have hnl := nl_len (gl n (op m n) e a)
    have htk : List.take (nl (gl n (op m n) e a)).length (nl (gl n (op m n) e a)) = nl (gl n (op m n) e a) := List.take_length
    have hs : gl n (op m n) e (a + 1) = if gn n (op m n) e (fun x => decide (x ∈ gl n (op m n) e a)) a then gl n (op m n) e a else gl n (op m n) e a ++ [a] := rfl
    have hpw := pow_lt64 (b := a) (by omega)
    have hbb := bo_bit n (gn n (op m n) e (fun x => decide (x ∈ gl n (op m n) e a))) a
    rw [show decide (a < n) = true by simpa using hal, Bool.true_and] at hbb
    refine qh (qa (qm (ql (qm ?_))))
    refine hk_region fun K hK => runs_eval tab_ok ?_
    simp only [ev0, evA, evB, evP, fl, gp, tab, simprocAttr, reduceCtorEq, reduceIte]
    refine fin_run trivial (hK _ ?_) <;> clear hK <;> clear K
    refine qa (qm ?_)
    refine hk_region fun K hK => runs_eval tab_ok ?_
    simp only [ev0, evA, evB, evP, fl, gp, tab, simprocAttr, reduceCtorEq, reduceIte]
    refine fin_stop trivial (runs_call (has_s _ a (hbt _) (by omega)) rfl rfl rfl (by simp only [dstOk, Nat.reduceLT]) (by repeat (first | exact trivial | constructor)) (runs_eval tab_ok ?_))
    simp only [ev0, evA, evB, evP, fl, gp, tab, simprocAttr, reduceCtorEq, reduceIte, hbb]
    refine fin_run trivial (hK _ ?_) <;> clear hK <;> clear K
    refine qa ?_
    refine hk_cond rfl (fun hC2 => ?_) (fun hC2 => ?_)
    · (try simp only [nhs] at hC2)
      have hC2f : gn n (op m n) e (fun x => decide (x ∈ gl n (op m n) e a)) a = false := by simpa using hC2
      rw [if_neg (by simp [hC2f])] at hs
      have hst : ∀ y, y < n → (gn n (op m n) e (fun x => decide (x ∈ gl n (op m n) e (a + 1))) y = true ↔ Gen n (op m n) e (bo n (gn n (op m n) e (fun x => decide (x ∈ gl n (op m n) e a))) ||| 2 ^ a).testBit y) := fun y hy => by
        rw [gn_iff _ y hy, hs]
        constructor
        · intro hg
          refine Gen.least (H := fun y => Gen n (op m n) e (bo n (gn n (op m n) e (fun x => decide (x ∈ gl n (op m n) e a))) ||| 2 ^ a).testBit y) .one (fun c b hc hb1 hb2 ih => ?_) hg
          refine .step _ _ ih hb1 ?_
          rw [or_bit, Bool.or_eq_true, decide_eq_true_eq, bo_bit, Bool.and_eq_true, decide_eq_true_eq]
          rcases List.mem_append.1 (show b ∈ gl n (op m n) e a ++ [a] by simpa using hb2) with hb2 | hb2
          · exact .inl ⟨hb1, (gn_iff _ b hb1).2 (Gen.mem G hb1 (by simpa using hb2))⟩
          · exact .inr (by have : b = a := by simpa using hb2
                           omega)
        · intro hg
          refine Gen.least (H := fun y => Gen n (op m n) e (fun x => decide (x ∈ gl n (op m n) e a ++ [a])) y) .one (fun c b hc hb1 hb2 ih => ?_) hg
          refine Gen.mul G ih ?_
          rw [or_bit, Bool.or_eq_true, decide_eq_true_eq, bo_bit, Bool.and_eq_true, decide_eq_true_eq] at hb2
          rcases hb2 with hb2 | hb2
          · exact Gen.mono (fun x _ hx => by simp at hx ⊢; exact .inl hx) ((gn_iff _ b hb1).1 hb2.2)
          · exact Gen.mem G hb1 (by simp [hb2])
      refine qm ?_
      refine hk_region fun K hK => runs_eval tab_ok ?_
      simp only [ev0, evA, evB, evP, fl, gp, tab, simprocAttr, reduceCtorEq, reduceIte]
      refine fin_run ?_ (hK _ ?_) <;> clear hK <;> clear K
      · (first | exact trivial | omega | (simp only [In64] at *; omega) | (simp [In64] at *; omega) | (simp_all; done) | skip)
      refine qa ?_
      refine hk_draw mixed (by kernel_rfl) fun K hK => runs_eval tab_ok ?_
      simp only [ev0, evA, evB, evP, fl, gp, tab, simprocAttr, reduceCtorEq, reduceIte, shl_one (show a < 64 by omega), bv_or (hbt _) hpw]
      refine fin_stop ?_ (runs_call (grow_c h _ (Nat.or_lt_two_pow (bo_lt n _) (Nat.pow_lt_pow_right (by omega) hal)) _ hst) rfl rfl rfl (by simp only [dstOk, Nat.reduceLT]) (by repeat (first | exact trivial | constructor)) (runs_eval tab_ok ?_))
      · (first | exact trivial | omega | (simp only [In64] at *; omega) | (simp [In64] at *; omega) | (simp_all; done) | skip)
      simp only [ev0, evA, evB, evP, fl, gp, tab, simprocAttr, reduceCtorEq, reduceIte, shl_one (show a < 64 by omega), bv_or (hbt _) hpw]
      refine fin_run ?_ (hK _ ?_) <;> clear hK <;> clear K
      · (first | exact trivial | omega | (simp only [In64] at *; omega) | (simp [In64] at *; omega) | (simp_all; done) | skip)
      refine qd (qa ?_)
      refine hk_region fun K hK => runs_eval tab_ok ?_
      simp only [ev0, evA, evB, evP, fl, gp, tab, simprocAttr, reduceCtorEq, reduceIte]
      refine fin_run ?_ (hK _ ?_) <;> clear hK <;> clear K
      · (first | exact trivial | omega | (simp only [In64] at *; omega) | (simp [In64] at *; omega) | (simp_all; done) | skip)
      refine qa ?_
      refine ⟨a + 1, [0, 2], by omega, by omega, ?_⟩
      rw [hs, nl_snoc]
      simp only [leq, leA, ev0, evA, evB, evP, fl, gp, tab, simprocAttr, reduceCtorEq, reduceIte] <;> first | trivial | omega | (simp; done) | trace_state
    · (try simp only [nhs] at hC2)
      have hC2t : gn n (op m n) e (fun x => decide (x ∈ gl n (op m n) e a)) a = true := by simpa using hC2
      rw [if_pos hC2t] at hs
      refine qh (qd (qa ?_))
      refine hk_region fun K hK => runs_eval tab_ok ?_
      simp only [ev0, evA, evB, evP, fl, gp, tab, simprocAttr, reduceCtorEq, reduceIte]
      refine fin_run ?_ (hK _ ?_) <;> clear hK <;> clear K
      · (first | exact trivial | omega | (simp only [In64] at *; omega) | (simp [In64] at *; omega) | (simp_all; done) | skip)
      refine qa ?_
      refine ⟨a + 1, [0, 1], by omega, by omega, ?_⟩
      rw [hs]
      simp only [leq, leA, ev0, evA, evB, evP, fl, gp, tab, simprocAttr, reduceCtorEq, reduceIte] <;> first | trivial | omega
  · (try simp only [nhs] at hC1)
    obtain rfl : a = n := by omega
    refine qj (qc (qc (qf (qa (qm ?_)))))
    refine hk_seal 3 1 rfl rfl ?_
    refine hk_region fun K hK => runs_eval tab_ok ?_
    simp only [ev0, evA, evB, evP, fl, gp, tab, simprocAttr, reduceCtorEq, reduceIte]
    refine fin_run trivial (hK _ ?_) <;> clear hK <;> clear K
    refine qa (qk ?_)
    simp only [Tryd.results128, enA, ev0, evA, evB, evP, fl, gp, tab, simprocAttr, reduceCtorEq, reduceIte]
    all_goals ((first | exact rfl | exact ⟨rfl, rfl⟩ | exact ⟨rfl, rfl, rfl⟩ | exact ⟨trivial, rfl⟩ | exact ⟨Nat.le_refl _, rfl⟩ | trivial | (simp; done)))
end
end Go.Proofs.YtboadfahlflmhaaDoor

/-
  Loops over a function: rounds as values, the statement, who calls yield. Conditions: none; a library text.
-/
set_option linter.all false
namespace Go.Pv
open Go.RowKit

section
variable {P : Program} {T : TypeId → Option TI} {C : Ctx} {m : Map} {s : St} {tmps : Array Value} {w : World}

/-- A block that is none of cells turns. -/
theorem Rel.setRaw (R : Rel C m s tmps w) {g : Nat} {o' : Obj} {H' : Heap} (hB : C.B g) (hnc : ∀ cur e sh, w.heap[g]? ≠ some (.cells cur e sh)) (hlen : H'.length = s.H.length)
    (hmut : ∀ (k : Nat) (c : List AV), H'[k]? = some (.own c) → s.H[k]? = some (.own c)) (hfro : ∀ (k : Nat) (c : List PV), H'[k]? = some (.fro c) → s.H[k]? = some (.fro c))
    (hmp : ∀ (k : Nat) (kk : IntKind) (d : Int → Bool) (v : Int → PV), H'[k]? = some (Blk.mp kk d v) → s.H[k]? = some (Blk.mp kk d v) ∧ ∀ l, m k = some l → l.g ≠ g)
    (hanc : ∀ (k i j : Nat), H'[k]? = some (Blk.anc i j) → s.H[k]? = some (Blk.anc i j)) (hlp : LpAll C.B (w.putObj g o') m H') : Rel C m { s with H := H' } tmps (w.putObj g o') := by
  have hh : ∀ b, b ≠ g → (w.putObj g o').heap[b]? = w.heap[b]? := fun b hb => World.putObj_heap_other hb
  have hsz : (w.putObj g o').heap.size = w.heap.size := World.putObj_size
  have hcell : ∀ (b o : Nat) (x : Value), w.cell? ⟨b, o, none⟩ = some x → (w.putObj g o').cell? ⟨b, o, none⟩ = some x := fun b o x h => by
    by_cases eb : b = g
    · subst eb
      exfalso
      unfold World.cell? at h
      split at h
      · rename_i hh; exact hnc _ _ _ hh
      · cases h
    · rw [World.cell?_of_block (w := w) (hh b eb)]; exact h
  have hok : ∀ b, OK C m s.H w b → OK C m H' (w.putObj g o') b := fun b h => ⟨h.1, by rw [hsz]; exact h.2.1, fun k c l hk hl => h.2.2 k c l (hmut k c hk) hl⟩
  have rdx : ∀ p x, Reads (OK C m s.H w) w p x → Reads (OK C m H' (w.putObj g o')) (w.putObj g o') p x := fun p x h => h.extc hok fun b o y _ hc => hcell b o y hc
  have hle : s.H.length ≤ H'.length := by omega
  refine ⟨R.laid.ext rdx, R.below.trans ⟨rfl, rfl, rfl, by rw [hsz]; exact Nat.le_refl _, fun b hb => hh b (fun e => hb (by rw [e]; exact hB)), Nat.le_refl _⟩, by rw [hsz]; exact R.base, R.size,
    fun k k' c c' l l' h1 h2 => R.inj k k' c c' l l' (hmut k c h1) (hmut k' c' h2), fun k c h => ?_, fun k c h => ?_, fun t => (R.slot t).ext rdx hle fun _ _ => rfl, fun k kk d v h => ?_,
    fun k k' kk d v kk' d' v' l l' h1 h2 => R.mp.2.1 k k' kk d v kk' d' v' l l' (hmp _ _ _ _ h1).1 (hmp _ _ _ _ h2).1, fun k i j h => ?_, hlp⟩
  · have hb := R.blk k c (hmut k c h)
    refine hb.ext rdx hle (fun _ _ => rfl) rfl fun l hl => hh _ fun e => ?_
    rcases hb with ⟨_, hn⟩ | ⟨l2, cur, ee, a1, a2, a3, _⟩
    · rw [hl] at hn; cases hn
    · rw [hl] at a1; cases a1
      rw [e] at a3
      exact hnc _ _ _ a3
  · rcases R.fro k c (hfro k c h) with h' | ⟨l2, vs2, b1, b2, b3, b4⟩
    · exact .inl h'
    · exact .inr ⟨l2, vs2, b1, hok _ b2, b3, fun i hi => ⟨hcell _ _ _ (b4 i hi).1, rdx _ _ (b4 i hi).2⟩⟩
  · obtain ⟨h1, h2⟩ := hmp k kk d v h
    obtain ⟨l, ar, clk, vs, a1, a2, a3, a4, a5, a6, a7⟩ := R.mp.1 k kk d v h1
    exact ⟨l, ar, clk, vs, a1, a2, (hh _ (h2 l a1)).trans a3, a4, a5, a6, fun z hz => rdx _ _ (a7 z hz)⟩
  · obtain ⟨a1, a2⟩ := R.mp.2.2.1 k i j (hanc k i j h)
    exact ⟨by rw [hlen]; exact a1, a2⟩

/-- A block for deferred calls turns. -/
theorem Rel.setDef (R : Rel C m s tmps w) {g : Nat} {o o' : Option (List Deferred)} (hB : C.B g) (ho : w.heap[g]? = some (.deferred o)) : Rel C m s tmps (w.putObj g (.deferred o')) := by
  refine R.setRaw (H' := s.H) hB (fun _ _ _ h => by rw [ho] at h; cases h) rfl (fun _ _ h => h) (fun _ _ h => h) (fun k kk d v h => ⟨h, fun l hl e => ?_⟩) (fun _ _ _ h => h) ?_
  · obtain ⟨l2, ar, clk, vs, a1, a2, a3, _⟩ := R.mp.1 k kk d v h
    rw [hl] at a1; cases a1
    rw [e, ho] at a3; cases a3
  · refine R.mp.2.2.2.ext id (fun _ _ h => ⟨h, rfl⟩) (fun _ _ _ _ _ _ h => h) (fun k r l h hl h3 => World.putObj_heap_other fun e => ?_) fun _ _ _ _ _ h => h
    rw [e, ho] at h3; cases h3

/-- A loop's record turns. -/
theorem Rel.setLp (R : Rel C m s tmps w) {κ : Nat} {r r' : Loop} (hκ : s.H[κ]? = some (.lp r)) {l : Loc} (hl : m κ = some l) : Rel C m { s with H := hset s.H κ (.lp r') } tmps (w.putObj l.g (.loop r')) := by
  obtain ⟨l', a1, a2, a3⟩ := R.mp.2.2.2.1 κ r hκ
  rw [hl] at a1; cases a1
  have hkl : κ < s.H.length := (List.getElem?_eq_some_iff.1 hκ).1
  have hlt : l.g < w.heap.size := (Array.getElem?_eq_some_iff.1 a3).1
  have hget : ∀ (j : Nat) (b : Blk), (hset s.H κ (.lp r'))[j]? = some b → (j = κ ∧ b = .lp r') ∨ (j ≠ κ ∧ s.H[j]? = some b) := by
    intro j b h
    rw [hset_get] at h
    by_cases e : j = κ
    · rw [if_pos ⟨e, hkl⟩] at h; exact .inl ⟨e, (Option.some.inj h).symm⟩
    · rw [if_neg (by simp [e])] at h; exact .inr ⟨e, h⟩
  refine R.setRaw (H' := hset s.H κ (.lp r')) a2 (fun _ _ _ h => by rw [a3] at h; cases h) (hset_length _ _ _) (fun k c h => ?_) (fun k c h => ?_) (fun k kk d v h => ?_) (fun k i j h => ?_) ⟨fun k rr h => ?_, fun k k' r1 r2 l1 l2 h1 h2 h3 h4 h5 => ?_⟩
  · rcases hget k _ h with ⟨_, e⟩ | ⟨_, h⟩
    · cases e
    · exact h
  · rcases hget k _ h with ⟨_, e⟩ | ⟨_, h⟩
    · cases e
    · exact h
  · rcases hget k _ h with ⟨_, e⟩ | ⟨_, h⟩
    · cases e
    · refine ⟨h, fun l2 hl2 e => ?_⟩
      obtain ⟨l3, ar, clk, vs, b1, b2, b3, _⟩ := R.mp.1 k kk d v h
      rw [hl2] at b1; cases b1
      rw [e, a3] at b3; cases b3
  · rcases hget k _ h with ⟨_, e⟩ | ⟨_, h⟩
    · cases e
    · exact h
  · rcases hget k _ h with ⟨rfl, e⟩ | ⟨hne, h⟩
    · cases e
      exact ⟨l, hl, a2, World.putObj_heap_same hlt⟩
    · obtain ⟨l2, b1, b2, b3⟩ := R.mp.2.2.2.1 k rr h
      refine ⟨l2, b1, b2, (World.putObj_heap_other fun e => hne ?_).trans b3⟩
      exact R.mp.2.2.2.2 _ _ _ _ _ _ h hκ b1 hl e
  · have g : ∀ (j : Nat) (rr : Loop), (hset s.H κ (.lp r'))[j]? = some (Blk.lp rr) → ∃ r0, s.H[j]? = some (Blk.lp r0) := by
      intro j rr h
      rcases hget j _ h with ⟨rfl, _⟩ | ⟨_, h⟩
      · exact ⟨_, hκ⟩
      · exact ⟨_, h⟩
    obtain ⟨_, c1⟩ := g _ _ h1
    obtain ⟨_, c2⟩ := g _ _ h2
    exact R.mp.2.2.2.2 _ _ _ _ _ _ c1 c2 h3 h4 h5

/-- A loop's record is laid: it is a block of the state's. -/
theorem Rel.addLp (R : Rel C m s tmps w) {g : Nat} {r : Loop} (hB : C.B g) (hg : w.heap[g]? = some (.loop r)) (hfr : ∀ (k : Nat) (rr : Loop) (l : Loc), s.H[k]? = some (.lp rr) → m k = some l → l.g ≠ g) :
    Rel C (mput m s.H.length (some ⟨g, 0, 0⟩)) { s with H := s.H ++ [.lp r] } tmps w := by
  have hm : ∀ k, k < s.H.length → mput m s.H.length (some ⟨g, 0, 0⟩) k = m k := fun k hk => by simp [mput, show k ≠ s.H.length by omega]
  have hmn : mput m s.H.length (some ⟨g, 0, 0⟩) s.H.length = some ⟨g, 0, 0⟩ := by simp [mput]
  have own : ∀ (k : Nat) (b : Blk), (s.H ++ [Blk.lp r])[k]? = some b → (k < s.H.length ∧ s.H[k]? = some b) ∨ (k = s.H.length ∧ Blk.lp r = b) := fun k b h => getElem?_snoc_cases h
  have old : ∀ (k : Nat) (b : Blk), (∀ rr, b ≠ .lp rr) → (s.H ++ [Blk.lp r])[k]? = some b → k < s.H.length ∧ s.H[k]? = some b := fun k b hb h => by
    rcases own k b h with h | ⟨_, e⟩
    · exact h
    · exact absurd e.symm (hb r)
  have hok : ∀ b, OK C m s.H w b → OK C (mput m s.H.length (some ⟨g, 0, 0⟩)) (s.H ++ [Blk.lp r]) w b := fun b h => ⟨h.1, h.2.1, fun k c l hk hl => by
    obtain ⟨h1, h2⟩ := old k _ (fun _ h => by cases h) hk
    rw [hm k h1] at hl
    exact h.2.2 k c l h2 hl⟩
  have rd : ∀ p x, Reads (OK C m s.H w) w p x → Reads (OK C (mput m s.H.length (some ⟨g, 0, 0⟩)) (s.H ++ [Blk.lp r]) w) w p x := fun p x h => h.mono hok
  have hlen : s.H.length ≤ (s.H ++ [Blk.lp r]).length := by simp
  refine ⟨R.laid.ext rd, R.below, R.base, R.size, fun k k' c c' l l' h1 h2 h3 h4 h5 => ?_, fun k c h => ?_, fun k c h => ?_, fun t => (R.slot t).ext rd hlen hm, fun k kk d v h => ?_, fun k k' kk d v kk' d' v' l l' h1 h2 h3 h4 h5 => ?_, fun k i j h => ?_, fun k rr h => ?_, fun k k' r1 r2 l1 l2 h1 h2 h3 h4 h5 => ?_⟩
  · obtain ⟨a1, a2⟩ := old k _ (fun _ h => by cases h) h1
    obtain ⟨b1, b2⟩ := old k' _ (fun _ h => by cases h) h2
    rw [hm k a1] at h3; rw [hm k' b1] at h4
    exact R.inj k k' c c' l l' a2 b2 h3 h4 h5
  · obtain ⟨a1, a2⟩ := old k _ (fun _ h => by cases h) h
    exact (R.blk k c a2).ext rd hlen hm (hm k a1) fun _ _ => rfl
  · obtain ⟨a1, a2⟩ := old k _ (fun _ h => by cases h) h
    exact (R.fro k c a2).ext hok (fun _ _ => rfl) (hm k a1)
  · obtain ⟨a1, a2⟩ := old k _ (fun _ h => by cases h) h
    exact (R.mp.1 k kk d v a2).ext hok (fun _ _ => rfl) (hm k a1) fun _ _ => rfl
  · obtain ⟨a1, a2⟩ := old k _ (fun _ h => by cases h) h1
    obtain ⟨b1, b2⟩ := old k' _ (fun _ h => by cases h) h2
    rw [hm k a1] at h3; rw [hm k' b1] at h4
    exact R.mp.2.1 _ _ _ _ _ _ _ _ _ _ a2 b2 h3 h4 h5
  · obtain ⟨a1, a2⟩ := old k _ (fun _ h => by cases h) h
    obtain ⟨c1, c2⟩ := R.mp.2.2.1 k i j a2
    exact ⟨by simp; omega, by rw [hm j c1]; exact c2⟩
  · rcases own k _ h with ⟨hk, h⟩ | ⟨rfl, e⟩
    · obtain ⟨l, b1, b2, b3⟩ := R.mp.2.2.2.1 k rr h
      exact ⟨l, (hm k hk).trans b1, b2, b3⟩
    · cases e
      exact ⟨_, hmn, hB, hg⟩
  · rcases own k _ h1 with ⟨hk, h1⟩ | ⟨rfl, e⟩ <;> rcases own k' _ h2 with ⟨hk', h2⟩ | ⟨rfl, e'⟩
    · rw [hm _ hk] at h3; rw [hm _ hk'] at h4
      exact R.mp.2.2.2.2 _ _ _ _ _ _ h1 h2 h3 h4 h5
    · rw [hm _ hk] at h3; rw [hmn] at h4; cases h4
      exact absurd h5 (hfr k r1 l1 h1 h3)
    · rw [hm _ hk'] at h4; rw [hmn] at h3; cases h3
      exact absurd h5.symm (hfr k' r2 l2 h2 h4)
    · rfl

/-! ### Contracts where the first q blocks stay -/

def FnQ (P : Program) (q : Nat) (f : FuncId) (args : List AV) (H0 : Heap) (r : AV) (H1 : Heap) : Prop :=
  Fun P f ∧ ∀ (C : Ctx) (m : Map) (w : World) (vals : Array Value), Rel C m ⟨args.length, entA 0 args, H0 ++ ancs 0 q⟩ vals w →
    Calls P f vals w fun e w' => ∃ v m', e = .returned v ∧ Rel C m' ⟨1, [(0, r)], H1 ++ ancs 0 q⟩ #[v] w'

theorem fnq_of (hT : ∀ t ti, T t = some ti → tiOf P t = some ti) {q : Nat} {f : FuncId} {fn : Func} {c : Code} {args : List AV} {av : AV} {H0 H1 : Heap} (hf : P.funcs[f]? = some fn) (hb : fn.body = some c) (hnm : (fn.name == "runtime.NumGoroutine") = false) (hn : args.length ≤ fn.ntmps)
    (h : Holds P c (PostG T fn.results.toList av (H1 ++ ancs 0 q)) ⟨fn.ntmps, entA 0 args, H0 ++ ancs 0 q⟩) : FnQ P q f args H0 av H1 := by
  refine ⟨⟨fn, hf, hnm, by rw [hb]; rfl⟩, fun C m w vals R0 => calls_of_wp hf hb (wpR_none.1 ?_)⟩
  have hsz : vals.size = args.length := R0.size
  have R : Rel C m ⟨fn.ntmps, entA 0 args, H0 ++ ancs 0 q⟩ (vals ++ Array.replicate (fn.ntmps - vals.size) undef) w := by
    refine ⟨R0.laid, R0.below, R0.base, by simp; omega, R0.inj, R0.blk, R0.fro, fun t => ?_, R0.mp⟩
    have hs := R0.slot t
    by_cases ht : t < vals.size
    · rw [Array.getD_eq_getD_getElem?, Array.getElem?_append_left ht, ← Array.getD_eq_getD_getElem?]
      exact hs
    · have e : lk (entA 0 args) t = .dead := by
        rw [entA_lk, if_pos (Nat.zero_le _), List.getD_eq_getElem?_getD, List.getElem?_eq_none (by omega)]; rfl
      unfold St.get
      simp only
      rw [e]
      exact .dead _
  refine wpR_mono (h none [] _ _ { tmps := vals ++ Array.replicate (fn.ntmps - vals.size) undef, defers := [] } w R rfl) fun e a' w' ⟨s', m', h1, h2, h3⟩ => ?_
  have fini : endG T fn.results.toList av (H1 ++ ancs 0 q) s' → a'.defers = [] ∧ ∃ v, (results fn a'.tmps).run P w' = .ok v w' ∧ ∃ v_1 m'', Ending.returned v = .returned v_1 ∧ Rel C m'' ⟨1, [(0, av)], H1 ++ ancs 0 q⟩ #[v_1] w' := by
    intro he
    unfold endG at he
    split at he
    · rename_i p l hl
      obtain ⟨hp, π, hav, hsc, hle⟩ := he
      obtain ⟨vs, e1, e2, e3⟩ := rvsA_run hT h2 fn.results.toList hl hp
      have hv := mkTup_val (w := w') e2 e3
      have R' := h2.weaken hle
      rw [hav] at hv
      have hlen : (H1 ++ ancs 0 q).length = π.length := (hle.2.2.1.get).1.symm
      have ho := OK.weaken (C := C) (m := m') (w := w') hle.2.2.1
      have hv2 := hv.unren (fun p v h => h.mono ho) hlen hsc
      refine ⟨h3, (if h : vs.toArray.size = 1 then vs.toArray[0] else .tuple vs.toArray), ?_, _, _, rfl, R'.laid, R'.below, R'.base, rfl, R'.inj, R'.blk, R'.fro, fun t => ?_, R'.mp⟩
      · rw [results_eq, Array.mapM_eq_mapM_toList]
        simp only [Sem.run_bind, Sem.run_map]
        rw [e1]
        simp only [Result.andThen_ok]
        rfl
      · cases t with
        | zero => exact hv2
        | succ t => exact .dead _
    · exact he.elim
  cases e with
  | normal => exact fini h1
  | ret => exact fini h1
  | _ => exact h1.elim

/-- Who is called: with what it has captured. -/
def clA : AV → Option (FuncId × List AV)
  | .cl g l => some (g, l)
  | .p (.fn g l) => some (g, l.map .p)
  | _ => none

theorem clA_val {a : Act} (R : Rel C m s a.tmps w) {fo : Operand} {g : FuncId} {cap : List AV} (h : clA (s.ev fo) = some (g, cap)) :
    ∃ vs : Array Value, a.eval fo = .func (.func g) #[] vs ∧ vs.size = cap.length ∧ ∀ c (h : c < cap.length), AVal (Reads (OK C m s.H w) w) m s.H cap[c] (vs.getD c undef) := by
  have hv := R.ev fo
  generalize a.eval fo = v at hv
  unfold clA at h
  split at h
  · rename_i g' l e
    simp only [Option.some.injEq, Prod.mk.injEq] at h
    obtain ⟨rfl, rfl⟩ := h
    rw [e] at hv
    cases hv with
    | cl _ _ vs hl hr => exact ⟨vs, rfl, hl, hr⟩
  · rename_i g' l e
    simp only [Option.some.injEq, Prod.mk.injEq] at h
    obtain ⟨rfl, rfl⟩ := h
    rw [e] at hv
    have hv := hv.p_inv
    cases hv with
    | fn _ _ vs hl hr =>
      refine ⟨vs, rfl, by simpa using hl, fun c hc => ?_⟩
      rw [List.getElem_map]
      exact .p _ _ (hr c (by simpa using hc))
  · cases h

/-- The state of who is lent blocks. -/
theorem Rel.lend (R : Rel C m s tmps w) {q : Nat} {ks : List Nat} {avs : List AV} {H0 : Heap} {vals : Array Value} (hle : LeH ks s.H ks H0) (hnd : ks.Nodup) (hq : q ≤ H0.length) (hna : H0.all notAnc = true) (hsz : vals.size = avs.length)
    (hv : ∀ t (h : t < avs.length), AVal (Reads (OK (subC C m s.H ks H0 w) (mren m ks) H0 w) w) (mren m ks) H0 avs[t] (vals.getD t undef)) : Rel (subC C m s.H ks H0 w) (mren m ks) ⟨avs.length, entA 0 avs, H0 ++ ancs 0 q⟩ vals w := by
  obtain ⟨g1, g2⟩ := hle.get
  have ho1 : ∀ b, OK C m s.H w b → OK (subC C m s.H ks H0 w) (mren m ks) H0 w b := by
    refine fun b h => ⟨.inl h, h.2.1, fun k c l hk hl => ?_⟩
    obtain ⟨k', d, a1, a2, _⟩ := LeH.own g2 k c hk
    simp only [mren, a1, Option.bind_some] at hl
    exact h.2.2 k' _ l a2 hl
  have R0 : Rel (subC C m s.H ks H0 w) (mren m ks) ⟨avs.length, entA 0 avs, H0⟩ vals w := by
    refine R.weakenC (s1 := ⟨avs.length, entA 0 avs, H0⟩) hsz hnd hle ho1 (BelowP.refl _ _) (fun b h => .inl h) (fun k b l h hw hl _ => .inr ⟨k, b, l, h, hw, hl, rfl⟩) (fun k i j h => ?_) fun t => ?_
    · exact absurd rfl (notAnc_spec ((List.all_eq_true.1 hna) _ (List.mem_of_getElem? h)) i j)
    · unfold St.get
      simp only
      rw [entA_lk, if_pos (Nat.zero_le _), Nat.sub_zero]
      by_cases ht : t < avs.length
      · have := hv t ht
        simpa [List.getD, List.getElem?_eq_getElem ht] using this
      · rw [List.getD_eq_getElem?_getD, List.getElem?_eq_none (by omega)]
        exact .dead _
  exact R0.addAnc (n := q) hq fun i _ => rfl

theorem lend_ok {ks : List Nat} {H0 : Heap} (hle : LeH ks s.H ks H0) : ∀ b, OK C m s.H w b → OK (subC C m s.H ks H0 w) (mren m ks) H0 w b := by
  obtain ⟨g1, g2⟩ := hle.get
  refine fun b h => ⟨.inl h, h.2.1, fun k c l hk hl => ?_⟩
  obtain ⟨k', d, a1, a2, _⟩ := LeH.own g2 k c hk
  simp only [mren, a1, Option.bind_some] at hl
  exact h.2.2 k' _ l a2 hl

theorem scQ_parts {q : Nat} {r : AV} {H0 H1 : Heap} (h : scQ q r H0 H1 = true) : q ≤ H1.length ∧ q ≤ H0.length ∧ H0.all notAnc = true := by
  unfold scQ at h
  rw [Bool.and_eq_true, Bool.and_eq_true, Bool.and_eq_true, Bool.and_eq_true, Bool.and_eq_true, Bool.and_eq_true, decide_eq_true_eq, decide_eq_true_eq] at h
  exact ⟨h.1.1.1.1.2, h.1.1.1.2, h.2⟩

theorem call_doesQ {o : Oper} {fo : Operand} {args : Array Operand} {ts : Array TypeId} (ho : o.op = .call { callee := .value fo, args := args, argTypes := ts }) {g : FuncId} {cap : List AV} (hfo : clA (s.ev fo) = some (g, cap)) {q : Nat} {ks : List Nat} {avs : List AV} {H0 H1 : Heap} {r : AV}
    (hc : FnQ P q g avs H0 r H1) (hargs : argsM s.H ks (args.toList.map s.ev ++ cap) avs) (hle : LeH ks s.H ks H0) (hnd : ks.Nodup) (hks : ks.all (fun k => decide (k < s.H.length)) = true) (hsc : scQ q r H0 H1 = true) :
    DoesW P o s (Go.Pv.ren (ks.take q ++ List.range' s.H.length (H1.length - q)) r) (putM (kills s.H (ks.drop q)) (ks.take q) (H1.map (Blk.ren (ks.take q ++ List.range' s.H.length (H1.length - q))))) := by
  intro C m a w K Q R hK
  have hks' : ∀ k ∈ ks, k < s.H.length := fun k hk => by simpa using (List.all_eq_true.1 hks) k hk
  obtain ⟨vs, hfe, hcl, hcr⟩ := clA_val R hfo
  obtain ⟨⟨fn, hfn, hnm, hbd⟩, hcalls⟩ := hc
  obtain ⟨_, hq, hna⟩ := scQ_parts hsc
  have hrun : (execOp a.eval o).run P w = .ok (.enter g (args.map a.eval ++ vs)) w := by
    have hnm' : ¬ fn.name = "runtime.NumGoroutine" := by simpa using hnm
    have hbd' : ¬ fn.body = none := by intro e; rw [e] at hbd; simp at hbd
    simp [execOp, ho, resolve, hfe, Deferred.ofValue, invoke, callFunc, hfn, hnm', hbd']
  refine opR_of_wp (by rw [ho]; rfl) ?_
  unfold Oper.wp
  rw [hrun]
  simp only [Oper.upon]
  have g1 := (hle.get).1
  obtain ⟨e1, e2⟩ := argsM_val R (rd' := Reads (OK (subC C m s.H ks H0 w) (mren m ks) H0 w) w) (H0 := H0) (fun p v h => h.mono (lend_ok hle)) g1.symm _ avs (fun i => (args.map a.eval ++ vs).getD i undef) hargs fun i hi => by
    simp only [List.length_append, List.length_map, Array.length_toList] at hi
    by_cases hip : i < args.size
    · rw [List.getElem_append_left (by simpa using hip)]
      simp only [Array.getD_eq_getD_getElem?]
      rw [Array.getElem?_append_left (by simpa using hip)]
      have := R.ev args[i]
      simpa [Array.getElem?_eq_getElem hip] using this
    · rw [List.getElem_append_right (by simp; omega)]
      simp only [Array.getD_eq_getD_getElem?]
      rw [Array.getElem?_append_right (by simp; omega)]
      simp only [List.length_map, Array.length_toList, Array.size_map]
      have := hcr (i - args.size) (by omega)
      rw [Array.getD_eq_getD_getElem?] at this
      exact this
  have hsz : (args.map a.eval ++ vs).size = avs.length := by
    rw [e1]; simp; omega
  have R0' := R.lend (q := q) hle hnd hq hna hsz e2
  refine (hcalls _ _ w _ R0').mono fun e w' ⟨v, m', he, R1⟩ => ?_
  subst he
  obtain ⟨m2, R2, hv, _⟩ := R.joinQ hle hks' R1 hsc
  exact hK v m2 w' R2 hv

/-- THE WORD OF THE WALK: a call that is lent blocks; the first q stay in their places. -/
theorem runs_callQ {all : Array Oper} {rest : List Oper} {K : St → Prop} {dst : Option Tmp} {ty : TypeId} {pos : String} {aft : Array Edge} {gd : Option (Nat × Bool)} {fo : Operand} {args : Array Operand} {ts : Array TypeId} {g : FuncId} {avs : List AV} {H0 H1 : Heap} {r : AV} {q : Nat} (ks : List Nat)
    (hc : FnQ P q g avs H0 r H1) {cap : List AV} (hfo : clA (s.ev fo) = some (g, cap)) (hg : guardA all s { dst := dst, op := .call { callee := .value fo, args := args, argTypes := ts }, type := ty, pos := pos, after := aft, guard := gd } = some true)
    (hargs : argsM s.H ks (args.toList.map s.ev ++ cap) avs) (hle : LeH ks s.H ks H0) (hnd : ks.Nodup) (hks : ks.all (fun k => decide (k < s.H.length)) = true) (hsc : scQ q r H0 H1 = true) (hd : dstOk s dst)
    (h : Runs P false all rest K (({ s with H := putM (kills s.H (ks.drop q)) (ks.take q) (H1.map (Blk.ren (ks.take q ++ List.range' s.H.length (H1.length - q)))) } : St).put dst (Go.Pv.ren (ks.take q ++ List.range' s.H.length (H1.length - q)) r))) :
    Runs P false all ({ dst := dst, op := .call { callee := .value fo, args := args, argTypes := ts }, type := ty, pos := pos, after := aft, guard := gd } :: rest) K s := by
  obtain ⟨s', hr, hK⟩ := h
  exact ⟨s', .cons (.op s _ _ hg (dstOk_spec hd) (call_doesQ rfl hfo hc hargs hle hnd hks hsc) fun h => by cases h) hr, hK⟩

/-! ### Who calls yield -/

/-- THE CONTRACT OF A ROUND. -/
def YldQ (P : Program) (q κ : Nat) (rec : Loop) (l : List AV) (x : PV) (H0 : Heap) (r : AV) (H1 : Heap) : Prop :=
  ∀ (C : Ctx) (m : Map) (w : World) (fv v : Value) (g : Nat), Rel C m ⟨2, [(0, .yv κ l rec.tmps), (1, .p x)], H0 ++ ancs 0 q⟩ #[fv, v] w → fv = .func (.yield g) #[] #[] → w.heap[g]? = some (.loop rec) →
    RoundIn Fence.wide 0 P g rec.fn ((rec.params.zip #[v]).foldl (fun tmps (t, a) => tmps.setIfInBounds t a) rec.tmps) rec.assign rec.body w fun e w' => ∃ v' m', e = .returned v' ∧ Rel C m' ⟨1, [(0, r)], H1 ++ ancs 0 q⟩ #[v'] w'

theorem yield_doesQ {o : Oper} {fo x : Operand} {ts : Array TypeId} (ho : o.op = .call { callee := .value fo, args := #[x], argTypes := ts }) {κ0 : Nat} {l0 : List AV} {q κ : Nat} {rec : Loop} {l : List AV} {xv : PV} {ks : List Nat} {H0 H1 : Heap} {r : AV} (hfo : s.ev fo = .yv κ0 l0 rec.tmps)
    (hp : rec.params.size = 1) (hlp : hget s.H κ0 = .lp rec) (hc : YldQ P q κ rec l xv H0 r H1) (hargs : argsM s.H ks [s.ev fo, s.ev x] [.yv κ l rec.tmps, .p xv]) (hle : LeH ks s.H ks H0) (hnd : ks.Nodup) (hks : ks.all (fun k => decide (k < s.H.length)) = true) (hsc : scQ q r H0 H1 = true) :
    DoesW P o s (Go.Pv.ren (ks.take q ++ List.range' s.H.length (H1.length - q)) r) (putM (kills s.H (ks.drop q)) (ks.take q) (H1.map (Blk.ren (ks.take q ++ List.range' s.H.length (H1.length - q))))) := by
  intro C m a w K Q R hK
  have hks' : ∀ k ∈ ks, k < s.H.length := fun k hk => by simpa using (List.all_eq_true.1 hks) k hk
  obtain ⟨_, hq, hna⟩ := scQ_parts hsc
  have hfv := R.ev fo
  have hxv := R.ev x
  have hf2 := hfv
  rw [hfo] at hf2
  obtain ⟨lc, hm, hfe⟩ : ∃ lc, m κ0 = some lc ∧ a.eval fo = .func (.yield lc.g) #[] #[] := by
    generalize a.eval fo = v at hf2
    cases hf2 with
    | yv _ _ _ _ hk h hl hr => exact h
  obtain ⟨lc2, b1, b2, b3⟩ := R.mp.2.2.2.1 κ0 rec (hget_some hlp (by simp))
  rw [hm] at b1; cases b1
  have hrun : (execOp a.eval o).run P w = .ok (.round lc.g rec.fn ((rec.params.zip #[a.eval x]).foldl (fun tmps (t, a) => tmps.setIfInBounds t a) rec.tmps) rec.assign rec.body) w := by
    have hy := run_yield (P := P) (args := #[a.eval x]) b3 (by rw [hp]; rfl)
    simp only [execOp, ho, resolve, hfe, Deferred.ofValue, invoke, Sem.run_bind, Sem.run_pure, Result.andThen_ok, List.map_toArray, List.map_cons, List.map_nil, Array.append_empty]
    first | exact hy | simpa using hy
  refine ⟨by rw [ho]; rfl, ?_⟩
  rw [hrun]
  have g1 := (hle.get).1
  obtain ⟨e1, e2⟩ := argsM_val R (rd' := Reads (OK (subC C m s.H ks H0 w) (mren m ks) H0 w) w) (H0 := H0) (fun p v h => h.mono (lend_ok hle)) g1.symm _ _ (fun i => (#[a.eval fo, a.eval x] : Array Value).getD i undef) hargs fun i hi => by
    match i, hi with
    | 0, _ => exact hfv
    | 1, _ => exact hxv
  have R0' := R.lend (q := q) (vals := #[a.eval fo, a.eval x]) hle hnd hq hna rfl e2
  have := hc _ _ w _ _ lc.g R0' hfe b3
  refine RoundIn.mono this fun e w' ⟨v, m', he, R1⟩ => ?_
  subst he
  obtain ⟨m2, R2, hv, _⟩ := R.joinQ hle hks' R1 hsc
  exact hK v m2 w' R2 hv

/-- THE WORD OF THE WALK: a call of yield. -/
theorem runs_yield {all : Array Oper} {rest : List Oper} {K : St → Prop} {dst : Option Tmp} {ty : TypeId} {pos : String} {aft : Array Edge} {gd : Option (Nat × Bool)} {fo x : Operand} {ts : Array TypeId} {κ0 : Nat} {l0 : List AV} {q κ : Nat} {rec : Loop} {l : List AV} {xv : PV} {H0 H1 : Heap} {r : AV} (ks : List Nat)
    (hc : YldQ P q κ rec l xv H0 r H1) (hp : rec.params.size = 1) (hfo : s.ev fo = .yv κ0 l0 rec.tmps) (hlp : hget s.H κ0 = .lp rec) (hg : guardA all s { dst := dst, op := .call { callee := .value fo, args := #[x], argTypes := ts }, type := ty, pos := pos, after := aft, guard := gd } = some true)
    (hargs : argsM s.H ks [s.ev fo, s.ev x] [.yv κ l rec.tmps, .p xv]) (hle : LeH ks s.H ks H0) (hnd : ks.Nodup) (hks : ks.all (fun k => decide (k < s.H.length)) = true) (hsc : scQ q r H0 H1 = true) (hd : dstOk s dst)
    (h : Runs P false all rest K (({ s with H := putM (kills s.H (ks.drop q)) (ks.take q) (H1.map (Blk.ren (ks.take q ++ List.range' s.H.length (H1.length - q)))) } : St).put dst (Go.Pv.ren (ks.take q ++ List.range' s.H.length (H1.length - q)) r))) :
    Runs P false all ({ dst := dst, op := .call { callee := .value fo, args := #[x], argTypes := ts }, type := ty, pos := pos, after := aft, guard := gd } :: rest) K s := by
  obtain ⟨s', hr, hK⟩ := h
  exact ⟨s', .cons (.op s _ _ hg (dstOk_spec hd) (yield_doesQ rfl hfo hp hlp hc hargs hle hnd hks hsc) fun h => by cases h) hr, hK⟩

end
end Go.Pv

/-
  Walks: a map of some things, spread to all. Conditions: none.
-/
set_option linter.all false
namespace Go.Proofs.YtboadfahlflmhaaDoor
open Go.Pv

theorem nl_cons (a : Nat) (W : List Nat) : nl (a :: W) = ((a : Nat) : Int) :: nl W := rfl
theorem rgz_neg (n : Nat) : rgz n (fun a => if a < n then -1 else 0) = prow n (fun _ => false) (fun _ => 0) := by
  unfold rgz prow
  exact List.map_congr_left fun a ha => by simp [List.mem_range.1 ha]

theorem outs_le (n : Nat) (S : Nat → Bool) : outs n S ≤ n := by
  unfold outs mem
  exact Nat.le_trans (List.length_filter_le _ _) (by simp)
section
variable {n e N d : Nat} {m M : List Int}

set_option maxHeartbeats 4000000 in
theorem spread_yes (h:GT n m n e) (h' : GT N M N d) (F T:List Nat) (hFT:F.length=T.length) (hFl:F.length≤1000000) (hF:∀ i,i < F.length→F.getD i 0 < n) (hT:∀ i,i < F.length→T.getD i 0 < N) (hgen:∀ a,a < n→Gen n (op m n) e (fun x=>decide (x∈F)) a) {φ:Nat→Nat} (hφ:Ext n (op m n) N (op M N) F T φ):FnG Tryd.prog 130 [gp n m,gp N M,.list (il (nl F)),.list (il (nl T))] (.sl 0 0 (il (tbm n φ)).length) [.own (opl (il (tbm n φ)))]:=by
 have G:=h.2.2
 have K:=h'.2.2
 have Tb:=h.2.1
 have Tb':=h'.2.1
 have hb:=Tb.big
 have hb':=Tb'.big
 have hlF:=nl_len F
 have hlT:=nl_len T
 have hel:=G.el
 have hr0:=rgz_len n (fun a=>if a < n then -1 else 0)
 refine fng_of tab_ok Tryd.func130 rfl (by kernel_rfl) (by rw [Tryd.ntmps130]; exact Nat.le_add_left 4 _) ?_; rw [Tryd.ntmps130]
 refine qm ?_
 refine hk_region fun K hK=>runs_eval tab_ok ?_
 simp only [ev0,evA,evB,evP,fl,gp,tab,simprocAttr,reduceCtorEq,reduceIte]
 refine fin_run ?_ (hK _ ?_)<;>clear hK<;>clear K
 ·(first|exact trivial|omega|(simp only [In64] at *; omega)|(simp [In64] at *; omega)|(simp_all; done)|skip)
 refine qa (qm ?_)
 refine hk_region fun K hK=>runs_eval tab_ok ?_
 simp only [ev0,evA,evB,evP,fl,gp,tab,simprocAttr,reduceCtorEq,reduceIte,makeSliceA.eq_def,rgz_new]
 refine fin_run ?_ (hK _ ?_)<;>clear hK<;>clear K
 ·omega
 refine qa (qm (qm ?_))
 refine hk_region fun K hK=>runs_eval tab_ok ?_
 simp only [ev0,evA,evB,evP,fl,gp,tab,simprocAttr,reduceCtorEq,reduceIte]
 refine fin_run trivial (hK _ ?_)<;>clear hK<;>clear K
 refine qa (ql ?_)
 refine hk_loop (ι:=Nat) (fun i=>⟨88,[(2,.p (.list (il (nl F)))),(3,.p (.list (il (nl T)))),(4,.ptr 0 0),(5,.ptr 1 0),(9,.sl 2 0 n),(21,.p (.int .i64 n)),(22,.p (.int .i64 i))],[.own [.p (.int .i64 n),.p (.list (il m))],.own [.p (.int .i64 N),.p (.list (il M))],.own (ol (rgz n fun a=>if a < i then -1 else 0))]⟩) (fun i=>i≤n) (fun i=>n - i) 0 (Nat.zero_le _) [0,1,2] (by simp only [leq,leA,ev0,evA,evB,evP,fl,gp,tab,simprocAttr,reduceCtorEq,reduceIte]<;>first|trivial|(simp [rgz]; done)|(simp [rgz,List.take_of_length_le]; done)) fun i hi=>?_
 have hr:=rgz_len n (fun a=>if a < i then -1 else 0)
 refine qm ?_
 refine hk_region fun K hK=>runs_eval tab_ok ?_
 simp only [ev0,evA,evB,evP,fl,gp,tab,simprocAttr,reduceCtorEq,reduceIte]
 refine fin_run trivial (hK _ ?_)<;>clear hK<;>clear K
 refine qa (qm ?_)
 refine hk_cond rfl (fun hC1=>?_) (fun hC1=>?_)
 ·(try simp only [nhs] at hC1)
  have hlt:i < n:=by omega
  have hse:(rgz n fun a=>if a < i then -1 else 0).set i (-1)=rgz n fun a=>if a < i + 1 then -1 else 0:=by
   rw [rgz_set]
   exact rgz_congr fun a ha=>by
    by_cases e:a=i
    ·simp [e]
    ·by_cases e2:a < i
     ·simp [e,e2,show a < i + 1 by omega]
     ·simp [e,e2,show ¬ a < i + 1 by omega]
  refine qh (qa (qm (ql (qm ?_))))
  refine hk_region fun K hK=>runs_eval tab_ok ?_
  simp only [ev0,evA,evB,evP,fl,gp,tab,simprocAttr,reduceCtorEq,reduceIte]
  refine fin_run trivial (hK _ ?_)<;>clear hK<;>clear K
  refine qa ?_
  refine hk_region fun K hK=>runs_eval tab_ok ?_
  simp only [ev0,evA,evB,evP,fl,gp,tab,simprocAttr,reduceCtorEq,reduceIte,ol_set,hse]
  refine fin_run ?_ (hK _ ?_)<;>clear hK<;>clear K
  ·(first|exact trivial|omega|(simp only [In64] at *; omega)|(simp [In64] at *; omega)|(simp_all; done)|skip)
  refine qd (qa ?_)
  refine hk_region fun K hK=>runs_eval tab_ok ?_
  simp only [ev0,evA,evB,evP,fl,gp,tab,simprocAttr,reduceCtorEq,reduceIte]
  refine fin_run ?_ (hK _ ?_)<;>clear hK<;>clear K
  ·(first|exact trivial|omega|(simp only [In64] at *; omega)|(simp [In64] at *; omega)|(simp_all; done)|skip)
  refine qa ?_
  refine ⟨i + 1,[0,1,2],by omega,by omega,?_⟩
  simp only [leq,leA,ev0,evA,evB,evP,fl,gp,tab,simprocAttr,reduceCtorEq,reduceIte]<;>first|trivial|omega|(simp [ol_length,rgz_len]; done)
 ·(try simp only [nhs] at hC1)
  obtain rfl:i=n:=by omega
  rw [rgz_neg]
  have hp0:=prow_len i (fun _=>false) (fun _=>0)
  refine qj (qc (qc (qf (qa (qm ?_)))))
  refine hk_draw2 mixed fun K hK=>runs2_eval tab_ok ?_
  simp only [evD,ev0,evA,evB,evP,fl,gp,tab,simprocAttr,reduceCtorEq,reduceIte,ol_set,prow_set (S:=fun _=>false) (ψ:=fun _=>0) hel rfl]
  refine fin2_stop trivial (runs2_call (oneOf_c h) rfl rfl rfl rfl (by simp only [dstOk,Nat.reduceLT]) (by repeat (first|exact trivial|constructor)) (runs2_eval tab_ok ?_))
  simp only [evD,ev0,evA,evB,evP,fl,gp,tab,simprocAttr,reduceCtorEq,reduceIte,ol_set,prow_set (S:=fun _=>false) (ψ:=fun _=>0) hel rfl]
  refine fin2_stop trivial (runs2_call (oneOf_c h') rfl rfl rfl rfl (by simp only [dstOk,Nat.reduceLT]) (by repeat (first|exact trivial|constructor)) (runs2_eval tab_ok ?_))
  simp only [evD,ev0,evA,evB,evP,fl,gp,tab,simprocAttr,reduceCtorEq,reduceIte,ol_set,prow_set (S:=fun _=>false) (ψ:=fun _=>0) hel rfl]
  refine fin2_run ?_ (hK _ _ (by first|kernel_rfl|rfl) ?_)<;>clear hK<;>clear K
  ·(first|exact trivial|omega|(simp only [In64] at *; omega)|(simp [In64] at *; omega)|(simp_all; done)|skip)
  refine qa (qm ?_)
  refine hk_region fun K hK=>runs_eval tab_ok ?_
  simp only [ev0,evA,evB,evP,fl,gp,tab,simprocAttr,reduceCtorEq,reduceIte]
  refine fin_stop trivial (runs_call (oneOf_c h) rfl rfl rfl (by simp only [dstOk,Nat.reduceLT]) (by repeat (first|exact trivial|constructor)) (runs_op (buildOwn_does (n:=1) (l:=[.int .i64 ((e:Nat):Int)]) tab_ok rfl rfl rfl rfl rfl rfl rfl ⟨⟨rfl,rfl,rfl⟩,trivial⟩ rfl (by decide) rfl) rfl (show (37:Nat) < 88 by decide) (runs_eval tab_ok ?_)))
  simp only [ev0,evA,evB,evP,fl,gp,tab,simprocAttr,reduceCtorEq,reduceIte]
  refine fin_run ?_ (hK _ ?_)<;>clear hK<;>clear K
  ·trivial
  refine qa (qm (ql ?_))
  refine hk_loop (ι:=(Nat→Bool) × (Nat→Nat) × List Int × List Nat) (fun p=>⟨88,[(2,.p (.list (il (nl F)))),(3,.p (.list (il (nl T)))),(4,.ptr 0 0),(5,.ptr 1 0),(9,.sl 2 0 (prow i p.1 p.2.1).length),(11,.sl 3 p.2.2.1.length (nl p.2.2.2).length)],[.own [.p (.int .i64 i),.p (.list (il m))],.own [.p (.int .i64 N),.p (.list (il M))],.own (ol (prow i p.1 p.2.1)),.own (ol (p.2.2.1++nl p.2.2.2))]⟩) (fun p=>Sprd i (op m i) e N (op M N) d F T p.1 p.2.1 p.2.2.2∧2 * outs i p.1 + p.2.2.2.length≤200) (fun p=>2 * outs i p.1 + p.2.2.2.length) (upd1 (fun _=>false) e,updF (fun _=>0) e d,[],[e]) ⟨Sprd.begin G K,by have:=outs_le i (upd1 (fun _=>false) e); simp only [List.length_cons,List.length_nil]; omega⟩ [0,1,2,3] (by simp only [leq,leA,ev0,evA,evB,evP,fl,gp,tab,simprocAttr,reduceCtorEq,reduceIte]<;>first|trivial|exact ⟨rfl,rfl⟩|rfl|(simp [prow_len]; done)|(simp [ol,opl,il,nl,prow_len]; done)|(simp [prow_len,List.take_of_length_le]; done)) fun p hp=>?_
  obtain ⟨S,ψ,J,W⟩:=p
  obtain ⟨hp,hbd⟩:=hp
  simp only at hp hbd
  have hpl:=prow_len i S ψ
  have hnW:=nl_len W
  refine qm (qm ?_)
  refine hk_region fun K hK=>runs_eval tab_ok ?_
  simp only [ev0,evA,evB,evP,fl,gp,tab,simprocAttr,reduceCtorEq,reduceIte]
  refine fin_run trivial (hK _ ?_)<;>clear hK<;>clear K
  refine qa ?_
  refine hk_cond rfl (fun hC2=>?_) (fun hC2=>?_)
  ·(try simp only [nhs] at hC2)
   obtain ⟨a,W',rfl⟩:∃ a W',W=a :: W':=by
    cases W with
    | nil=>simp [nl] at hC2
    | cons x w'=>exact ⟨x,w',rfl⟩
   have hnc:=nl_cons a W'
   have hnW':=nl_len W'
   have hP2:=hp.pop
   simp only [List.length_cons] at hbd
   obtain ⟨ha,hSa⟩:=hP2.ha
   refine qh (qa (ql (qm ?_)))
   refine hk_region fun K hK=>runs_eval tab_ok ?_
   simp only [ev0,evA,evB,evP,fl,gp,tab,simprocAttr,reduceCtorEq,reduceIte,hnc,app_at,Nat.add_zero]
   refine fin_run ?_ (hK _ ?_)<;>clear hK<;>clear K
   ·simp only [List.length_append,List.length_cons]; omega
   refine qa (qm ?_)
   refine hk_region fun K hK=>runs_eval tab_ok ?_
   simp only [ev0,evA,evB,evP,fl,gp,tab,simprocAttr,reduceCtorEq,reduceIte]
   refine fin_run ?_ (hK _ ?_)<;>clear hK<;>clear K
   ·(first|exact trivial|omega|(simp only [In64] at *; omega)|(simp [In64] at *; omega)|(simp_all; done)|skip)
   refine qa (qm ?_)
   refine hk_region fun K hK=>runs_eval tab_ok ?_
   simp only [ev0,evA,evB,evP,fl,gp,tab,simprocAttr,reduceCtorEq,reduceIte]
   refine fin_run trivial (hK _ ?_)<;>clear hK<;>clear K
   refine qa (ql ?_)
   refine hk_loop (ι:=Nat × (Nat→Bool) × (Nat→Nat) × List Int × List Nat) (fun p=>⟨88,[(2,.p (.list (il (nl F)))),(3,.p (.list (il (nl T)))),(4,.ptr 0 0),(5,.ptr 1 0),(9,.sl 2 0 (prow i p.2.1 p.2.2.1).length),(11,.sl 3 p.2.2.2.1.length (nl p.2.2.2.2).length),(12,.p (.int .i64 a)),(46,.p (.list (il (nl F)))),(47,.p (.int .i64 F.length)),(48,.p (.int .i64 p.1))],[.own [.p (.int .i64 i),.p (.list (il m))],.own [.p (.int .i64 N),.p (.list (il M))],.own (ol (prow i p.2.1 p.2.2.1)),.own (ol (p.2.2.2.1++nl p.2.2.2.2))]⟩) (fun p=>p.1≤F.length∧Sprd2 i (op m i) e N (op M N) d F T a p.1 p.2.1 p.2.2.1 p.2.2.2.2∧2 * outs i p.2.1 + p.2.2.2.2.length≤2 * outs i S + W'.length) (fun p=>F.length - p.1) (0,S,ψ,J++[((a:Nat):Int)],W') ⟨Nat.zero_le _,hP2,Nat.le_refl _⟩ [0,1,2,3] (by simp only [leq,leA,ev0,evA,evB,evP,fl,gp,tab,simprocAttr,reduceCtorEq,reduceIte,hnc]<;>first|trivial|exact ⟨rfl,rfl⟩|rfl|(simp [nl]; done)|(simp [nl_len,il_length]; done)|omega|(rw [List.take_of_length_le (by simp only [List.length_append,List.length_cons]; omega)]; done)|exact congrArg ol (List.take_of_length_le (by simp only [List.length_append,List.length_cons]; omega)).symm|exact ⟨by rw [List.take_of_length_le (by simp only [List.length_append,List.length_cons]; omega),List.append_assoc]; rfl,by omega⟩|trace_state) fun p hp'=>?_
   obtain ⟨j,S2,ψ2,J2,W2⟩:=p
   obtain ⟨q1,q2,q3⟩:=hp'
   simp only at q1 q2 q3
   have hpl2:=prow_len i S2 ψ2
   have hnW2:=nl_len W2
   refine qm ?_
   refine hk_region fun K hK=>runs_eval tab_ok ?_
   simp only [ev0,evA,evB,evP,fl,gp,tab,simprocAttr,reduceCtorEq,reduceIte]
   refine fin_run trivial (hK _ ?_)<;>clear hK<;>clear K
   refine qa (qm ?_)
   refine hk_cond rfl (fun hC3=>?_) (fun hC3=>?_)
   ·(try simp only [nhs] at hC3)
    have hjl:j < F.length:=by omega
    have hFj:=hF j hjl
    have hTj:=hT j hjl
    obtain ⟨_,hSa2⟩:=q2.ha
    have hψa:=q2.lt a ha hSa2
    have hbl:=G.cl _ _ ha hFj
    have pa:=prow_get (S:=S2) (ψ:=ψ2) ha
    rw [hSa2,if_pos rfl] at pa
    have pb:=prow_get (S:=S2) (ψ:=ψ2) hbl
    refine qh (qa (qm (ql (qm ?_))))
    refine hk_region fun K hK=>runs_eval tab_ok ?_
    simp only [ev0,evA,evB,evP,fl,gp,tab,simprocAttr,reduceCtorEq,reduceIte,il_get (show j < (nl F).length by omega),nl_get hjl]
    refine fin_run ?_ (hK _ ?_)<;>clear hK<;>clear K
    ·(first|exact trivial|omega|(simp only [In64] at *; omega)|(simp [In64] at *; omega)|(simp_all; done)|skip)
    refine qa (qm ?_)
    refine hk_draw2 mixed fun K hK=>runs2_eval tab_ok ?_
    simp only [evD,ev0,evA,evB,evP,fl,gp,tab,simprocAttr,reduceCtorEq,reduceIte,il_get (show j < (nl T).length by omega),nl_get (show j < T.length by omega),ol_get (show a < (prow i S2 ψ2).length by omega),pa]
    refine fin2_stop trivial (runs2_call (of_c Tb ha hFj) rfl rfl rfl rfl (by simp only [dstOk,Nat.reduceLT]) (by repeat (first|exact trivial|constructor)) (runs2_eval tab_ok ?_))
    simp only [evD,ev0,evA,evB,evP,fl,gp,tab,simprocAttr,reduceCtorEq,reduceIte,il_get (show j < (nl T).length by omega),nl_get (show j < T.length by omega),ol_get (show a < (prow i S2 ψ2).length by omega),pa]
    refine fin2_stop ?_ (runs2_call (of_c Tb' hψa hTj) rfl rfl rfl rfl (by simp only [dstOk,Nat.reduceLT]) (by repeat (first|exact trivial|constructor)) (runs2_eval tab_ok ?_))
    ·(first|exact trivial|omega|(simp only [In64] at *; omega)|(simp [In64] at *; omega)|(simp_all; done)|skip)
    simp only [evD,ev0,evA,evB,evP,fl,gp,tab,simprocAttr,reduceCtorEq,reduceIte,il_get (show j < (nl T).length by omega),nl_get (show j < T.length by omega),ol_get (show a < (prow i S2 ψ2).length by omega),pa]
    refine fin2_run ?_ (hK _ _ (by first|kernel_rfl|rfl) ?_)<;>clear hK<;>clear K
    ·(first|exact trivial|omega|(simp only [In64] at *; omega)|(simp [In64] at *; omega)|(simp_all; done)|skip)
    refine qa (qm ?_)
    rcases Bool.eq_false_or_eq_true (S2 (op m i a (F.getD j 0))) with hSb | hSb<;>simp only [hSb,if_true,if_false,Bool.false_eq_true] at pb
    ·refine hk_region fun K hK=>runs_eval tab_ok ?_
     simp only [ev0,evA,evB,evP,fl,gp,tab,simprocAttr,reduceCtorEq,reduceIte,ol_get (show op m i a (F.getD j 0) < (prow i S2 ψ2).length by omega),pb,if_true,if_false,Bool.false_eq_true]
     refine fin_run ?_ (hK _ ?_)<;>clear hK<;>clear K
     ·(first|exact trivial|omega|(simp only [In64] at *; omega)|(simp [In64] at *; omega)|(simp_all; done)|skip)
     refine qa ?_
     refine hk_cond rfl (fun hC4=>?_) (fun hC4=>?_)
     ·(try simp only [nhs] at hC4)
      simp at hC4
      omega
     ·(try simp only [nhs] at hC4)
      have hdum:True:=trivial
      refine qm ?_
      refine hk_region fun K hK=>runs_eval tab_ok ?_
      simp only [ev0,evA,evB,evP,fl,gp,tab,simprocAttr,reduceCtorEq,reduceIte,ol_get (show op m i a (F.getD j 0) < (prow i S2 ψ2).length by omega),pb,if_true]
      refine fin_run ?_ (hK _ ?_)<;>clear hK<;>clear K
      ·(first|exact trivial|omega|(simp only [In64] at *; omega)|(simp [In64] at *; omega)|(simp_all; done)|skip)
      refine qa ?_
      refine hk_cond rfl (fun hC5=>?_) (fun hC5=>?_)
      ·(try simp only [nhs] at hC5)
       have h1:=((q2.rch _ hbl hSb).fun_ G K hF hφ).2
       have h2:=((Rch.step j hjl (q2.rch a ha hSa2)).fun_ G K hF hφ).2
       omega
      ·(try simp only [nhs] at hC5)
       refine qh (qd (qa ?_))
       refine hk_region fun K hK=>runs_eval tab_ok ?_
       simp only [ev0,evA,evB,evP,fl,gp,tab,simprocAttr,reduceCtorEq,reduceIte]
       refine fin_run ?_ (hK _ ?_)<;>clear hK<;>clear K
       ·(first|exact trivial|omega|(simp only [In64] at *; omega)|(simp [In64] at *; omega)|(simp_all; done)|skip)
       refine qa ?_
       have hv:ψ2 (op m i a (F.getD j 0))=op M N (ψ2 a) (T.getD j 0):=by omega
       refine ⟨(j + 1,S2,ψ2,J2,W2),[0,1,2,3],⟨by simp only; omega,q2.keep hSb hv,q3⟩,by simp only; omega,?_⟩
       simp only [leq,leA,ev0,evA,evB,evP,fl,gp,tab,simprocAttr,reduceCtorEq,reduceIte]<;>first|trivial|omega
    ·refine hk_region fun K hK=>runs_eval tab_ok ?_
     simp only [ev0,evA,evB,evP,fl,gp,tab,simprocAttr,reduceCtorEq,reduceIte,ol_get (show op m i a (F.getD j 0) < (prow i S2 ψ2).length by omega),pb,if_true,if_false,Bool.false_eq_true]
     refine fin_run ?_ (hK _ ?_)<;>clear hK<;>clear K
     ·(first|exact trivial|omega|(simp only [In64] at *; omega)|(simp [In64] at *; omega)|(simp_all; done)|skip)
     refine qa ?_
     refine hk_cond rfl (fun hC4=>?_) (fun hC4=>?_)
     ·(try simp only [nhs] at hC4)
      refine qm ?_
      refine hk_region fun K hK=>runs_eval tab_ok ?_
      simp only [ev0,evA,evB,evP,fl,gp,tab,simprocAttr,reduceCtorEq,reduceIte,ol_set,prow_set hbl hSb]
      refine fin_run ?_ (hK _ ?_)<;>clear hK<;>clear K
      ·(first|exact trivial|omega|(simp only [In64] at *; omega)|(simp [In64] at *; omega)|(simp_all; done)|skip)
      refine qa ?_
      refine hk_region fun K hK=>runs_eval tab_ok ?_
      simp only [ev0,evA,evB,evP,fl,gp,tab,simprocAttr,reduceCtorEq,reduceIte]
      refine fin_run ?_ (hK _ ?_)<;>clear hK<;>clear K
      ·simp only [List.length_append]; omega
      refine qd (qa ?_)
      refine hk_region fun K hK=>runs_eval tab_ok ?_
      simp only [ev0,evA,evB,evP,fl,gp,tab,simprocAttr,reduceCtorEq,reduceIte]
      refine fin_run ?_ (hK _ ?_)<;>clear hK<;>clear K
      ·(first|exact trivial|omega|(simp only [In64] at *; omega)|(simp [In64] at *; omega)|(simp_all; done)|skip)
      refine qa ?_
      have ho:=outs_upd hbl hSb
      refine ⟨(j + 1,upd1 S2 (op m i a (F.getD j 0)),updF ψ2 (op m i a (F.getD j 0)) (op M N (ψ2 a) (T.getD j 0)),[],W2++[op m i a (F.getD j 0)]),[0,1,2,4],⟨by simp only; omega,q2.push G K hF hT hjl hSb,by simp only [List.length_append,List.length_cons,List.length_nil]; omega⟩,by simp only; omega,?_⟩
      simp only [nl_snoc]
      simp only [leq,leA,ev0,evA,evB,evP,fl,gp,tab,simprocAttr,reduceCtorEq,reduceIte]<;>first|trivial|omega|(simp [prow_len]; done)|exact ⟨by rw [List.drop_left,List.take_length,List.take_of_length_le (by simp)],by rw [prow_len,prow_len]⟩|trace_state
     ·(try simp only [nhs] at hC4)
      simp at hC4
   ·(try simp only [nhs] at hC3)
    obtain rfl:j=F.length:=by omega
    refine qj (qc (qc (qf (qd (qa ?_)))))
    refine ⟨(S2,ψ2,J2,W2),[0,1,2,3],⟨q2.done,by simp only; omega⟩,by simp only [List.length_cons]; omega,?_⟩
    simp only [leq,leA,ev0,evA,evB,evP,fl,gp,tab,simprocAttr,reduceCtorEq,reduceIte]<;>first|trivial|omega
  ·(try simp only [nhs] at hC2)
   obtain rfl:W=[]:=by
    cases W with
    | nil=>rfl
    | cons x w=>simp [nl] at hC2
   obtain ⟨hall,hext⟩:=hp.fin G K hF hT hgen
   have hφe:∀ a,a < i→S a=true∧ψ a=φ a:=fun a ha=>⟨hall a ha,((hp.rch a ha (hall a ha)).fun_ G K hF hφ).2.symm⟩
   have htl:=tbm_len i φ
   rw [prow_all hφe]
   refine qj (qc (qc (qf (qa (qm ?_)))))
   refine hk_region fun K hK=>runs_eval tab_ok ?_
   simp only [ev0,evA,evB,evP,fl,gp,tab,simprocAttr,reduceCtorEq,reduceIte]
   refine fin_run trivial (hK _ ?_)<;>clear hK<;>clear K
   refine qa (qk ?_)
   simp only [Tryd.results130,PostG,endG,rvsA,rvA,mkTup,ev0,evA,evB,evP,fl,gp,tab,simprocAttr,reduceCtorEq,reduceIte]
   all_goals (exact ⟨[2],rfl,rfl,rfl,by simp,⟨⟨by rw [show opl (il (tbm i φ))=ol (tbm i φ) from rfl,ol_ren,take_len],opl_sc _ _⟩,trivial⟩,trivial⟩)

set_option maxHeartbeats 4000000 in
theorem spread_no (h:GT n m n e) (h' : GT N M N d) (F T:List Nat) (hFT:F.length=T.length) (hFl:F.length≤1000000) (hF:∀ i,i < F.length→F.getD i 0 < n) (hT:∀ i,i < F.length→T.getD i 0 < N) (hgen:∀ a,a < n→Gen n (op m n) e (fun x=>decide (x∈F)) a) (hφ:∀ φ,¬ Ext n (op m n) N (op M N) F T φ):FnG Tryd.prog 130 [gp n m,gp N M,.list (il (nl F)),.list (il (nl T))] (.p .nil) []:=by
 have G:=h.2.2
 have K:=h'.2.2
 have Tb:=h.2.1
 have Tb':=h'.2.1
 have hb:=Tb.big
 have hb':=Tb'.big
 have hlF:=nl_len F
 have hlT:=nl_len T
 have hel:=G.el
 have hr0:=rgz_len n (fun a=>if a < n then -1 else 0)
 refine fng_of tab_ok Tryd.func130 rfl (by kernel_rfl) (by rw [Tryd.ntmps130]; exact Nat.le_add_left 4 _) ?_; rw [Tryd.ntmps130]
 refine qm ?_
 refine hk_region fun K hK=>runs_eval tab_ok ?_
 simp only [ev0,evA,evB,evP,fl,gp,tab,simprocAttr,reduceCtorEq,reduceIte]
 refine fin_run ?_ (hK _ ?_)<;>clear hK<;>clear K
 ·(first|exact trivial|omega|(simp only [In64] at *; omega)|(simp [In64] at *; omega)|(simp_all; done)|skip)
 refine qa (qm ?_)
 refine hk_region fun K hK=>runs_eval tab_ok ?_
 simp only [ev0,evA,evB,evP,fl,gp,tab,simprocAttr,reduceCtorEq,reduceIte,makeSliceA.eq_def,rgz_new]
 refine fin_run ?_ (hK _ ?_)<;>clear hK<;>clear K
 ·omega
 refine qa (qm (qm ?_))
 refine hk_region fun K hK=>runs_eval tab_ok ?_
 simp only [ev0,evA,evB,evP,fl,gp,tab,simprocAttr,reduceCtorEq,reduceIte]
 refine fin_run trivial (hK _ ?_)<;>clear hK<;>clear K
 refine qa (ql ?_)
 refine hk_loop (ι:=Nat) (fun i=>⟨88,[(2,.p (.list (il (nl F)))),(3,.p (.list (il (nl T)))),(4,.ptr 0 0),(5,.ptr 1 0),(9,.sl 2 0 n),(21,.p (.int .i64 n)),(22,.p (.int .i64 i))],[.own [.p (.int .i64 n),.p (.list (il m))],.own [.p (.int .i64 N),.p (.list (il M))],.own (ol (rgz n fun a=>if a < i then -1 else 0))]⟩) (fun i=>i≤n) (fun i=>n - i) 0 (Nat.zero_le _) [0,1,2] (by simp only [leq,leA,ev0,evA,evB,evP,fl,gp,tab,simprocAttr,reduceCtorEq,reduceIte]<;>first|trivial|(simp [rgz]; done)|(simp [rgz,List.take_of_length_le]; done)) fun i hi=>?_
 have hr:=rgz_len n (fun a=>if a < i then -1 else 0)
 refine qm ?_
 refine hk_region fun K hK=>runs_eval tab_ok ?_
 simp only [ev0,evA,evB,evP,fl,gp,tab,simprocAttr,reduceCtorEq,reduceIte]
 refine fin_run trivial (hK _ ?_)<;>clear hK<;>clear K
 refine qa (qm ?_)
 refine hk_cond rfl (fun hC1=>?_) (fun hC1=>?_)
 ·(try simp only [nhs] at hC1)
  have hlt:i < n:=by omega
  have hse:(rgz n fun a=>if a < i then -1 else 0).set i (-1)=rgz n fun a=>if a < i + 1 then -1 else 0:=by
   rw [rgz_set]
   exact rgz_congr fun a ha=>by
    by_cases e:a=i
    ·simp [e]
    ·by_cases e2:a < i
     ·simp [e,e2,show a < i + 1 by omega]
     ·simp [e,e2,show ¬ a < i + 1 by omega]
  refine qh (qa (qm (ql (qm ?_))))
  refine hk_region fun K hK=>runs_eval tab_ok ?_
  simp only [ev0,evA,evB,evP,fl,gp,tab,simprocAttr,reduceCtorEq,reduceIte]
  refine fin_run trivial (hK _ ?_)<;>clear hK<;>clear K
  refine qa ?_
  refine hk_region fun K hK=>runs_eval tab_ok ?_
  simp only [ev0,evA,evB,evP,fl,gp,tab,simprocAttr,reduceCtorEq,reduceIte,ol_set,hse]
  refine fin_run ?_ (hK _ ?_)<;>clear hK<;>clear K
  ·(first|exact trivial|omega|(simp only [In64] at *; omega)|(simp [In64] at *; omega)|(simp_all; done)|skip)
  refine qd (qa ?_)
  refine hk_region fun K hK=>runs_eval tab_ok ?_
  simp only [ev0,evA,evB,evP,fl,gp,tab,simprocAttr,reduceCtorEq,reduceIte]
  refine fin_run ?_ (hK _ ?_)<;>clear hK<;>clear K
  ·(first|exact trivial|omega|(simp only [In64] at *; omega)|(simp [In64] at *; omega)|(simp_all; done)|skip)
  refine qa ?_
  refine ⟨i + 1,[0,1,2],by omega,by omega,?_⟩
  simp only [leq,leA,ev0,evA,evB,evP,fl,gp,tab,simprocAttr,reduceCtorEq,reduceIte]<;>first|trivial|omega|(simp [ol_length,rgz_len]; done)
 ·(try simp only [nhs] at hC1)
  obtain rfl:i=n:=by omega
  rw [rgz_neg]
  have hp0:=prow_len i (fun _=>false) (fun _=>0)
  refine qj (qc (qc (qf (qa (qm ?_)))))
  refine hk_draw2 mixed fun K hK=>runs2_eval tab_ok ?_
  simp only [evD,ev0,evA,evB,evP,fl,gp,tab,simprocAttr,reduceCtorEq,reduceIte,ol_set,prow_set (S:=fun _=>false) (ψ:=fun _=>0) hel rfl]
  refine fin2_stop trivial (runs2_call (oneOf_c h) rfl rfl rfl rfl (by simp only [dstOk,Nat.reduceLT]) (by repeat (first|exact trivial|constructor)) (runs2_eval tab_ok ?_))
  simp only [evD,ev0,evA,evB,evP,fl,gp,tab,simprocAttr,reduceCtorEq,reduceIte,ol_set,prow_set (S:=fun _=>false) (ψ:=fun _=>0) hel rfl]
  refine fin2_stop trivial (runs2_call (oneOf_c h') rfl rfl rfl rfl (by simp only [dstOk,Nat.reduceLT]) (by repeat (first|exact trivial|constructor)) (runs2_eval tab_ok ?_))
  simp only [evD,ev0,evA,evB,evP,fl,gp,tab,simprocAttr,reduceCtorEq,reduceIte,ol_set,prow_set (S:=fun _=>false) (ψ:=fun _=>0) hel rfl]
  refine fin2_run ?_ (hK _ _ (by first|kernel_rfl|rfl) ?_)<;>clear hK<;>clear K
  ·(first|exact trivial|omega|(simp only [In64] at *; omega)|(simp [In64] at *; omega)|(simp_all; done)|skip)
  refine qa (qm ?_)
  refine hk_region fun K hK=>runs_eval tab_ok ?_
  simp only [ev0,evA,evB,evP,fl,gp,tab,simprocAttr,reduceCtorEq,reduceIte]
  refine fin_stop trivial (runs_call (oneOf_c h) rfl rfl rfl (by simp only [dstOk,Nat.reduceLT]) (by repeat (first|exact trivial|constructor)) (runs_op (buildOwn_does (n:=1) (l:=[.int .i64 ((e:Nat):Int)]) tab_ok rfl rfl rfl rfl rfl rfl rfl ⟨⟨rfl,rfl,rfl⟩,trivial⟩ rfl (by decide) rfl) rfl (show (37:Nat) < 88 by decide) (runs_eval tab_ok ?_)))
  simp only [ev0,evA,evB,evP,fl,gp,tab,simprocAttr,reduceCtorEq,reduceIte]
  refine fin_run ?_ (hK _ ?_)<;>clear hK<;>clear K
  ·trivial
  refine qa (qm (ql ?_))
  refine hk_loop (ι:=(Nat→Bool) × (Nat→Nat) × List Int × List Nat) (fun p=>⟨88,[(2,.p (.list (il (nl F)))),(3,.p (.list (il (nl T)))),(4,.ptr 0 0),(5,.ptr 1 0),(9,.sl 2 0 (prow i p.1 p.2.1).length),(11,.sl 3 p.2.2.1.length (nl p.2.2.2).length)],[.own [.p (.int .i64 i),.p (.list (il m))],.own [.p (.int .i64 N),.p (.list (il M))],.own (ol (prow i p.1 p.2.1)),.own (ol (p.2.2.1++nl p.2.2.2))]⟩) (fun p=>Sprd i (op m i) e N (op M N) d F T p.1 p.2.1 p.2.2.2∧2 * outs i p.1 + p.2.2.2.length≤200) (fun p=>2 * outs i p.1 + p.2.2.2.length) (upd1 (fun _=>false) e,updF (fun _=>0) e d,[],[e]) ⟨Sprd.begin G K,by have:=outs_le i (upd1 (fun _=>false) e); simp only [List.length_cons,List.length_nil]; omega⟩ [0,1,2,3] (by simp only [leq,leA,ev0,evA,evB,evP,fl,gp,tab,simprocAttr,reduceCtorEq,reduceIte]<;>first|trivial|exact ⟨rfl,rfl⟩|rfl|(simp [prow_len]; done)|(simp [ol,opl,il,nl,prow_len]; done)|(simp [prow_len,List.take_of_length_le]; done)) fun p hp=>?_
  obtain ⟨S,ψ,J,W⟩:=p
  obtain ⟨hp,hbd⟩:=hp
  simp only at hp hbd
  have hpl:=prow_len i S ψ
  have hnW:=nl_len W
  refine qm (qm ?_)
  refine hk_region fun K hK=>runs_eval tab_ok ?_
  simp only [ev0,evA,evB,evP,fl,gp,tab,simprocAttr,reduceCtorEq,reduceIte]
  refine fin_run trivial (hK _ ?_)<;>clear hK<;>clear K
  refine qa ?_
  refine hk_cond rfl (fun hC2=>?_) (fun hC2=>?_)
  ·(try simp only [nhs] at hC2)
   obtain ⟨a,W',rfl⟩:∃ a W',W=a :: W':=by
    cases W with
    | nil=>simp [nl] at hC2
    | cons x w'=>exact ⟨x,w',rfl⟩
   have hnc:=nl_cons a W'
   have hnW':=nl_len W'
   have hP2:=hp.pop
   simp only [List.length_cons] at hbd
   obtain ⟨ha,hSa⟩:=hP2.ha
   refine qh (qa (ql (qm ?_)))
   refine hk_region fun K hK=>runs_eval tab_ok ?_
   simp only [ev0,evA,evB,evP,fl,gp,tab,simprocAttr,reduceCtorEq,reduceIte,hnc,app_at,Nat.add_zero]
   refine fin_run ?_ (hK _ ?_)<;>clear hK<;>clear K
   ·simp only [List.length_append,List.length_cons]; omega
   refine qa (qm ?_)
   refine hk_region fun K hK=>runs_eval tab_ok ?_
   simp only [ev0,evA,evB,evP,fl,gp,tab,simprocAttr,reduceCtorEq,reduceIte]
   refine fin_run ?_ (hK _ ?_)<;>clear hK<;>clear K
   ·(first|exact trivial|omega|(simp only [In64] at *; omega)|(simp [In64] at *; omega)|(simp_all; done)|skip)
   refine qa (qm ?_)
   refine hk_region fun K hK=>runs_eval tab_ok ?_
   simp only [ev0,evA,evB,evP,fl,gp,tab,simprocAttr,reduceCtorEq,reduceIte]
   refine fin_run trivial (hK _ ?_)<;>clear hK<;>clear K
   refine qa (ql ?_)
   refine hk_loop (ι:=Nat × (Nat→Bool) × (Nat→Nat) × List Int × List Nat) (fun p=>⟨88,[(2,.p (.list (il (nl F)))),(3,.p (.list (il (nl T)))),(4,.ptr 0 0),(5,.ptr 1 0),(9,.sl 2 0 (prow i p.2.1 p.2.2.1).length),(11,.sl 3 p.2.2.2.1.length (nl p.2.2.2.2).length),(12,.p (.int .i64 a)),(46,.p (.list (il (nl F)))),(47,.p (.int .i64 F.length)),(48,.p (.int .i64 p.1))],[.own [.p (.int .i64 i),.p (.list (il m))],.own [.p (.int .i64 N),.p (.list (il M))],.own (ol (prow i p.2.1 p.2.2.1)),.own (ol (p.2.2.2.1++nl p.2.2.2.2))]⟩) (fun p=>p.1≤F.length∧Sprd2 i (op m i) e N (op M N) d F T a p.1 p.2.1 p.2.2.1 p.2.2.2.2∧2 * outs i p.2.1 + p.2.2.2.2.length≤2 * outs i S + W'.length) (fun p=>F.length - p.1) (0,S,ψ,J++[((a:Nat):Int)],W') ⟨Nat.zero_le _,hP2,Nat.le_refl _⟩ [0,1,2,3] (by simp only [leq,leA,ev0,evA,evB,evP,fl,gp,tab,simprocAttr,reduceCtorEq,reduceIte,hnc]<;>first|trivial|exact ⟨rfl,rfl⟩|rfl|(simp [nl]; done)|(simp [nl_len,il_length]; done)|omega|(rw [List.take_of_length_le (by simp only [List.length_append,List.length_cons]; omega)]; done)|exact congrArg ol (List.take_of_length_le (by simp only [List.length_append,List.length_cons]; omega)).symm|exact ⟨by rw [List.take_of_length_le (by simp only [List.length_append,List.length_cons]; omega),List.append_assoc]; rfl,by omega⟩|trace_state) fun p hp'=>?_
   obtain ⟨j,S2,ψ2,J2,W2⟩:=p
   obtain ⟨q1,q2,q3⟩:=hp'
   simp only at q1 q2 q3
   have hpl2:=prow_len i S2 ψ2
   have hnW2:=nl_len W2
   refine qm ?_
   refine hk_region fun K hK=>runs_eval tab_ok ?_
   simp only [ev0,evA,evB,evP,fl,gp,tab,simprocAttr,reduceCtorEq,reduceIte]
   refine fin_run trivial (hK _ ?_)<;>clear hK<;>clear K
   refine qa (qm ?_)
   refine hk_cond rfl (fun hC3=>?_) (fun hC3=>?_)
   ·(try simp only [nhs] at hC3)
    have hjl:j < F.length:=by omega
    have hFj:=hF j hjl
    have hTj:=hT j hjl
    obtain ⟨_,hSa2⟩:=q2.ha
    have hψa:=q2.lt a ha hSa2
    have hbl:=G.cl _ _ ha hFj
    have pa:=prow_get (S:=S2) (ψ:=ψ2) ha
    rw [hSa2,if_pos rfl] at pa
    have pb:=prow_get (S:=S2) (ψ:=ψ2) hbl
    refine qh (qa (qm (ql (qm ?_))))
    refine hk_region fun K hK=>runs_eval tab_ok ?_
    simp only [ev0,evA,evB,evP,fl,gp,tab,simprocAttr,reduceCtorEq,reduceIte,il_get (show j < (nl F).length by omega),nl_get hjl]
    refine fin_run ?_ (hK _ ?_)<;>clear hK<;>clear K
    ·(first|exact trivial|omega|(simp only [In64] at *; omega)|(simp [In64] at *; omega)|(simp_all; done)|skip)
    refine qa (qm ?_)
    refine hk_draw2 mixed fun K hK=>runs2_eval tab_ok ?_
    simp only [evD,ev0,evA,evB,evP,fl,gp,tab,simprocAttr,reduceCtorEq,reduceIte,il_get (show j < (nl T).length by omega),nl_get (show j < T.length by omega),ol_get (show a < (prow i S2 ψ2).length by omega),pa]
    refine fin2_stop trivial (runs2_call (of_c Tb ha hFj) rfl rfl rfl rfl (by simp only [dstOk,Nat.reduceLT]) (by repeat (first|exact trivial|constructor)) (runs2_eval tab_ok ?_))
    simp only [evD,ev0,evA,evB,evP,fl,gp,tab,simprocAttr,reduceCtorEq,reduceIte,il_get (show j < (nl T).length by omega),nl_get (show j < T.length by omega),ol_get (show a < (prow i S2 ψ2).length by omega),pa]
    refine fin2_stop ?_ (runs2_call (of_c Tb' hψa hTj) rfl rfl rfl rfl (by simp only [dstOk,Nat.reduceLT]) (by repeat (first|exact trivial|constructor)) (runs2_eval tab_ok ?_))
    ·(first|exact trivial|omega|(simp only [In64] at *; omega)|(simp [In64] at *; omega)|(simp_all; done)|skip)
    simp only [evD,ev0,evA,evB,evP,fl,gp,tab,simprocAttr,reduceCtorEq,reduceIte,il_get (show j < (nl T).length by omega),nl_get (show j < T.length by omega),ol_get (show a < (prow i S2 ψ2).length by omega),pa]
    refine fin2_run ?_ (hK _ _ (by first|kernel_rfl|rfl) ?_)<;>clear hK<;>clear K
    ·(first|exact trivial|omega|(simp only [In64] at *; omega)|(simp [In64] at *; omega)|(simp_all; done)|skip)
    refine qa (qm ?_)
    rcases Bool.eq_false_or_eq_true (S2 (op m i a (F.getD j 0))) with hSb | hSb<;>simp only [hSb,if_true,if_false,Bool.false_eq_true] at pb
    ·refine hk_region fun K hK=>runs_eval tab_ok ?_
     simp only [ev0,evA,evB,evP,fl,gp,tab,simprocAttr,reduceCtorEq,reduceIte,ol_get (show op m i a (F.getD j 0) < (prow i S2 ψ2).length by omega),pb,if_true,if_false,Bool.false_eq_true]
     refine fin_run ?_ (hK _ ?_)<;>clear hK<;>clear K
     ·(first|exact trivial|omega|(simp only [In64] at *; omega)|(simp [In64] at *; omega)|(simp_all; done)|skip)
     refine qa ?_
     refine hk_cond rfl (fun hC4=>?_) (fun hC4=>?_)
     ·(try simp only [nhs] at hC4)
      simp at hC4
      omega
     ·(try simp only [nhs] at hC4)
      have hdum:True:=trivial
      refine qm ?_
      refine hk_region fun K hK=>runs_eval tab_ok ?_
      simp only [ev0,evA,evB,evP,fl,gp,tab,simprocAttr,reduceCtorEq,reduceIte,ol_get (show op m i a (F.getD j 0) < (prow i S2 ψ2).length by omega),pb,if_true]
      refine fin_run ?_ (hK _ ?_)<;>clear hK<;>clear K
      ·(first|exact trivial|omega|(simp only [In64] at *; omega)|(simp [In64] at *; omega)|(simp_all; done)|skip)
      refine qa ?_
      refine hk_cond rfl (fun hC5=>?_) (fun hC5=>?_)
      ·(try simp only [nhs] at hC5)
       refine qm ?_
       refine hk_region fun K hK=>runs_eval tab_ok ?_
       simp only [ev0,evA,evB,evP,fl,gp,tab,simprocAttr,reduceCtorEq,reduceIte]
       refine fin_run trivial (hK _ ?_)<;>clear hK<;>clear K
       refine qa (qk (qe (qb (qb (qe (qe (qb (qe (qb ?_)))))))))
       simp only [Tryd.results130,PostG,endG,rvsA,rvA,mkTup,ev0,evA,evB,evP,fl,gp,tab,simprocAttr,reduceCtorEq,reduceIte]
       all_goals (exact ⟨[],rfl,rfl,by simp only [leq,leA,ev0,evA,evB,evP,fl,gp,tab,simprocAttr,reduceCtorEq,reduceIte]<;>first|trivial|omega⟩)
      ·(try simp only [nhs] at hC5)
       refine qh (qd (qa ?_))
       refine hk_region fun K hK=>runs_eval tab_ok ?_
       simp only [ev0,evA,evB,evP,fl,gp,tab,simprocAttr,reduceCtorEq,reduceIte]
       refine fin_run ?_ (hK _ ?_)<;>clear hK<;>clear K
       ·(first|exact trivial|omega|(simp only [In64] at *; omega)|(simp [In64] at *; omega)|(simp_all; done)|skip)
       refine qa ?_
       have hv:ψ2 (op m i a (F.getD j 0))=op M N (ψ2 a) (T.getD j 0):=by omega
       refine ⟨(j + 1,S2,ψ2,J2,W2),[0,1,2,3],⟨by simp only; omega,q2.keep hSb hv,q3⟩,by simp only; omega,?_⟩
       simp only [leq,leA,ev0,evA,evB,evP,fl,gp,tab,simprocAttr,reduceCtorEq,reduceIte]<;>first|trivial|omega
    ·refine hk_region fun K hK=>runs_eval tab_ok ?_
     simp only [ev0,evA,evB,evP,fl,gp,tab,simprocAttr,reduceCtorEq,reduceIte,ol_get (show op m i a (F.getD j 0) < (prow i S2 ψ2).length by omega),pb,if_true,if_false,Bool.false_eq_true]
     refine fin_run ?_ (hK _ ?_)<;>clear hK<;>clear K
     ·(first|exact trivial|omega|(simp only [In64] at *; omega)|(simp [In64] at *; omega)|(simp_all; done)|skip)
     refine qa ?_
     refine hk_cond rfl (fun hC4=>?_) (fun hC4=>?_)
     ·(try simp only [nhs] at hC4)
      refine qm ?_
      refine hk_region fun K hK=>runs_eval tab_ok ?_
      simp only [ev0,evA,evB,evP,fl,gp,tab,simprocAttr,reduceCtorEq,reduceIte,ol_set,prow_set hbl hSb]
      refine fin_run ?_ (hK _ ?_)<;>clear hK<;>clear K
      ·(first|exact trivial|omega|(simp only [In64] at *; omega)|(simp [In64] at *; omega)|(simp_all; done)|skip)
      refine qa ?_
      refine hk_region fun K hK=>runs_eval tab_ok ?_
      simp only [ev0,evA,evB,evP,fl,gp,tab,simprocAttr,reduceCtorEq,reduceIte]
      refine fin_run ?_ (hK _ ?_)<;>clear hK<;>clear K
      ·simp only [List.length_append]; omega
      refine qd (qa ?_)
      refine hk_region fun K hK=>runs_eval tab_ok ?_
      simp only [ev0,evA,evB,evP,fl,gp,tab,simprocAttr,reduceCtorEq,reduceIte]
      refine fin_run ?_ (hK _ ?_)<;>clear hK<;>clear K
      ·(first|exact trivial|omega|(simp only [In64] at *; omega)|(simp [In64] at *; omega)|(simp_all; done)|skip)
      refine qa ?_
      have ho:=outs_upd hbl hSb
      refine ⟨(j + 1,upd1 S2 (op m i a (F.getD j 0)),updF ψ2 (op m i a (F.getD j 0)) (op M N (ψ2 a) (T.getD j 0)),[],W2++[op m i a (F.getD j 0)]),[0,1,2,4],⟨by simp only; omega,q2.push G K hF hT hjl hSb,by simp only [List.length_append,List.length_cons,List.length_nil]; omega⟩,by simp only; omega,?_⟩
      simp only [nl_snoc]
      simp only [leq,leA,ev0,evA,evB,evP,fl,gp,tab,simprocAttr,reduceCtorEq,reduceIte]<;>first|trivial|omega|(simp [prow_len]; done)|exact ⟨by rw [List.drop_left,List.take_length,List.take_of_length_le (by simp)],by rw [prow_len,prow_len]⟩|trace_state
     ·(try simp only [nhs] at hC4)
      simp at hC4
   ·(try simp only [nhs] at hC3)
    obtain rfl:j=F.length:=by omega
    refine qj (qc (qc (qf (qd (qa ?_)))))
    refine ⟨(S2,ψ2,J2,W2),[0,1,2,3],⟨q2.done,by simp only; omega⟩,by simp only [List.length_cons]; omega,?_⟩
    simp only [leq,leA,ev0,evA,evB,evP,fl,gp,tab,simprocAttr,reduceCtorEq,reduceIte]<;>first|trivial|omega
  ·(try simp only [nhs] at hC2)
   obtain rfl:W=[]:=by
    cases W with
    | nil=>rfl
    | cons x w=>simp [nl] at hC2
   obtain ⟨hall,hext⟩:=hp.fin G K hF hT hgen
   exact absurd hext (hφ ψ)
end
end Go.Proofs.YtboadfahlflmhaaDoor

/-
  Loops over a function: a round out of its body's walk; the statement. Conditions: none; a library text.
-/
set_option linter.all false
namespace Go.Pv
open Go.RowKit

section
variable {P : Program} {T : TypeId → Option TI} {C : Ctx} {m : Map} {s : St} {tmps : Array Value} {w : World}

theorem Rel.reslot {n n' : Nat} {sl sl' : List (Nat × AV)} {H : Heap} {tmps' : Array Value} (R : Rel C m ⟨n, sl, H⟩ tmps w) (h1 : tmps'.size = n') (h2 : ∀ t, AVal (Reads (OK C m H w) w) m H (lk sl' t) (tmps'.getD t undef)) : Rel C m ⟨n', sl', H⟩ tmps' w :=
  ⟨R.laid, R.below, R.base, h1, R.inj, R.blk, R.fro, h2, R.mp⟩

theorem hset_app {A B : Heap} {κ : Nat} {b : Blk} (h : κ < A.length) : hset (A ++ B) κ b = hset A κ b ++ B := by
  refine List.ext_getElem? fun j => ?_
  have h2 : κ < (A ++ B).length := by simp; omega
  by_cases hj : j < A.length
  · have e1 : (hset A κ b ++ B)[j]? = (hset A κ b)[j]? := List.getElem?_append_left (by rw [hset_length]; exact hj)
    have e2 : (A ++ B)[j]? = A[j]? := List.getElem?_append_left hj
    rw [e1, hset_get, hset_get, e2]
    by_cases e : j = κ
    · rw [if_pos ⟨e, h2⟩, if_pos ⟨e, h⟩]
    · rw [if_neg (by simp [e]), if_neg (by simp [e])]
  · have e1 : (hset A κ b ++ B)[j]? = B[j - A.length]? := by rw [List.getElem?_append_right (by rw [hset_length]; omega), hset_length]
    have e2 : (A ++ B)[j]? = B[j - A.length]? := List.getElem?_append_right (by omega)
    rw [e1, hset_get, e2, if_neg (by omega)]

/-- What is known of a frame, slot by slot. -/
def envA (n : Nat) (sl : List (Nat × AV)) : List AV := (List.range n).map (lk sl)
theorem envA_len (n : Nat) (sl : List (Nat × AV)) : (envA n sl).length = n := by simp [envA]
theorem envA_get {n : Nat} {sl : List (Nat × AV)} {c : Nat} (h : c < (envA n sl).length) : (envA n sl)[c] = lk sl c := by simp [envA]
def keysLt (n : Nat) (sl : List (Nat × AV)) : Bool := sl.all fun e => decide (e.1 < n)
theorem keysLt_lk : ∀ {n : Nat} {sl : List (Nat × AV)}, keysLt n sl = true → ∀ t, n ≤ t → lk sl t = .dead
  | n, [], _, t, _ => rfl
  | n, (i, a) :: r, h, t, ht => by
    simp only [keysLt, List.all_cons, Bool.and_eq_true, decide_eq_true_eq] at h
    simp only [lk]
    rw [show (i == t) = false by simp; omega]
    exact keysLt_lk h.2 t ht

/-- A hole for a loop's record. -/
structure HoleQ (κ : Nat) (Hf : Blk → Heap) : Prop where
  at_ : ∀ b, (Hf b)[κ]? = some b
  set_ : ∀ b b', hset (Hf b) κ b' = Hf b'

theorem HoleQ.lt {κ : Nat} {Hf : Blk → Heap} (h : HoleQ κ Hf) (b : Blk) : κ < (Hf b).length := (List.getElem?_eq_some_iff.1 (h.at_ b)).1
theorem HoleQ.app {κ : Nat} {Hf : Blk → Heap} (h : HoleQ κ Hf) (B : Heap) : HoleQ κ fun b => Hf b ++ B :=
  ⟨fun b => by rw [List.getElem?_append_left (h.lt b)]; exact h.at_ b, fun b b' => by show hset (Hf b ++ B) κ b' = Hf b' ++ B; rw [hset_app (h.lt b), h.set_]⟩

/-- The record behind a round. -/
def recB (b : Bool) (rec : Loop) : Loop := if b then rec else { rec with state := .done, pending := some .ret }

structure RecOk (rec : Loop) (n pp : Nat) (assign body : Code) : Prop where
  params : rec.params = #[pp]
  assign : rec.assign = assign
  body : rec.body = body
  state : rec.state = .ready
  pending : rec.pending = none
  size : rec.tmps.size = n

theorem anc_at {q : Nat} {H : Heap} {κ : Nat} (hκ : κ < q) : (H ++ ancs 0 q)[H.length + κ]? = some (.anc κ κ) := by
  rw [List.getElem?_append_right (by omega), Nat.add_sub_cancel_left, ancs_at _ _ _ hκ, Nat.zero_add]

/-- A ROUND'S CONTRACT, out of its body's walk. -/
theorem yld_of {q κ n pp : Nat} {rec : Loop} {assign body : Code} {sl sl1 : List (Nat × AV)} {x : PV} {H0 H1 : Blk → Heap} {b : Bool} (hr : RecOk rec n pp assign body) (hpp : pp < n) (hsl : keysLt n sl = true) (hκ : κ < q) (h0 : HoleQ κ H0) (h1 : HoleQ κ H1)
    (hA : ∀ r0, Holds P assign (fun e s' => e = .normal ∧ ∃ π, Le π ⟨n, sl1, H0 (.lp r0) ++ ancs 0 q⟩ s') ⟨n, (pp, .p x) :: sl, H0 (.lp r0) ++ ancs 0 q⟩)
    (hB : ∀ r0, Holds P body (fun e s' => e = (if b then .normal else .ret) ∧ ∃ π, Le π ⟨n, [], H1 (.lp r0) ++ ancs 0 q⟩ s') ⟨n, sl1, H0 (.lp r0) ++ ancs 0 q⟩) :
    YldQ P q κ rec (envA n sl) x (H0 (.lp rec)) (.p (.bool b)) (H1 (.lp (recB b rec))) := by
  intro C m w fv v g R hfv hg
  have hs0 : AVal _ m (H0 (.lp rec) ++ ancs 0 q) (.yv κ (envA n sl) rec.tmps) fv := R.slot 0
  have hs1 : AVal _ m (H0 (.lp rec) ++ ancs 0 q) (.p x) v := R.slot 1
  have hloc : ∃ lc, m κ = some lc ∧ fv = .func (.yield lc.g) #[] #[] := by
    cases hs0 with
    | yv _ _ _ _ _ h _ _ => exact h
  have henv : ∀ c (h : c < (envA n sl).length), AVal (Reads (OK C m (H0 (.lp rec) ++ ancs 0 q) w) w) m (H0 (.lp rec) ++ ancs 0 q) (envA n sl)[c] (rec.tmps.getD c undef) := by
    cases hs0 with
    | yv _ _ _ _ _ _ _ h => exact h
  obtain ⟨lc, hm, hfe⟩ := hloc
  rw [hfv] at hfe
  obtain rfl : g = lc.g := by cases hfe; rfl
  have hanc : m κ = C.anc κ := (R.mp.2.2.1 _ κ κ (anc_at hκ)).2
  have htm : (rec.params.zip #[v]).foldl (fun tmps (t, a) => tmps.setIfInBounds t a) rec.tmps = rec.tmps.setIfInBounds pp v := by rw [hr.params]; simp [Array.zip]
  rw [htm, hr.assign, hr.body]
  have R1 : Rel C m ⟨n, (pp, .p x) :: sl, H0 (.lp rec) ++ ancs 0 q⟩ (rec.tmps.setIfInBounds pp v) w := R.reslot (by rw [Array.size_setIfInBounds]; exact hr.size) fun t => by
    simp only [lk]
    by_cases e : pp = t
    · subst e
      rw [show (pp == pp) = true by simp, cond_true]
      have : (rec.tmps.setIfInBounds pp v).getD pp undef = v := by simp [Array.getD_eq_getD_getElem?, hr.size, hpp]
      rw [this]; exact hs1
    · rw [show (pp == t) = false by simpa using e, cond_false]
      have e2 : (rec.tmps.setIfInBounds pp v).getD t undef = rec.tmps.getD t undef := by
        simp only [Array.getD_eq_getD_getElem?]
        rw [Array.getElem?_setIfInBounds_ne e]
      rw [e2]
      by_cases ht : t < n
      · have := henv t (by rw [envA_len]; exact ht)
        rwa [envA_get] at this
      · rw [keysLt_lk hsl t (by omega)]; exact .dead _
  refine roundIn_of_wpIn (F := Fence.wide) trivial ?_
  refine wpR_mono (r := some lc.g) (hA rec (some lc.g) [] C m { tmps := rec.tmps.setIfInBounds pp v, defers := [] } w R1 rfl) fun e a1 w1 ⟨s1, m1, ⟨he, π, hle⟩, R2, hd⟩ => ?_
  subst he
  have R3 := R2.weaken hle
  have g0 := h0.app (ancs 0 q)
  obtain ⟨l1, c1, c2, c3⟩ := R3.mp.2.2.2.1 κ rec (g0.at_ _)
  have hl1 : l1.g = lc.g := by
    have := (R3.mp.2.2.1 _ κ κ (anc_at hκ)).2
    rw [c1, ← hanc, hm] at this
    rw [Option.some.inj this]
  rw [hl1] at c3
  refine ⟨_, run_beginRound c3 hr.state, ?_⟩
  have R4 := R3.setLp (r' := { rec with state := .busy }) (g0.at_ _) c1
  rw [hl1] at R4
  simp only at R4
  rw [show hset (H0 (.lp rec) ++ ancs 0 q) κ (.lp { rec with state := .busy }) = H0 (.lp { rec with state := .busy }) ++ ancs 0 q from g0.set_ _ _] at R4
  refine wpR_mono (r := some lc.g) (hB _ (some lc.g) [] C _ a1 _ R4 hd) fun e a2 w3 ⟨s2, m2, ⟨he, π2, hle2⟩, R5, hd2⟩ => ?_
  have R6 := R5.weaken hle2
  have g1 := h1.app (ancs 0 q)
  obtain ⟨l2, d1, d2, d3⟩ := R6.mp.2.2.2.1 κ _ (g1.at_ _)
  have hl2 : l2.g = lc.g := by
    have := (R6.mp.2.2.1 _ κ κ (anc_at hκ)).2
    rw [d1, ← hanc, hm] at this
    rw [Option.some.inj this]
  rw [hl2] at d3
  have fin : ∀ (jump : Option Code) (b' : Bool), jump.isNone = b' → ({ rec with state := if b' then .ready else .done, pending := jump } : Loop) = recB b rec → b' = b → ∃ v w', (Instr.endRound lc.g jump).run P w3 = .ok v w' ∧
      ∃ v' m', Ending.returned v = .returned v' ∧ Rel C m' ⟨1, [(0, .p (.bool b))], H1 (.lp (recB b rec)) ++ ancs 0 q⟩ #[v'] w' := fun jump b' hj hrec hb => by
    have hrun := run_endRound (P := P) jump d3
    rw [hj] at hrun
    refine ⟨_, _, hrun, _, mren m2 π2, rfl, ?_⟩
    have R7 := R6.setLp (r' := recB b rec) (g1.at_ _) d1
    rw [hl2] at R7
    simp only at R7
    rw [show hset (H1 (.lp { rec with state := .busy }) ++ ancs 0 q) κ (.lp (recB b rec)) = H1 (.lp (recB b rec)) ++ ancs 0 q from g1.set_ _ _] at R7
    rw [← hrec] at R7 ⊢
    simp only at R7 ⊢
    refine R7.reslot rfl fun t => ?_
    cases t with
    | zero => rw [hb]; exact .p _ _ (.bool b)
    | succ t => exact .dead _
  subst he
  cases b with
  | true =>
    refine fin none true rfl ?_ rfl
    have := hr.state
    have := hr.pending
    cases rec
    simp only at *
    subst_vars
    rfl
  | false => exact fin (some .ret) false rfl rfl rfl

/-! ### Code with a loop over a function -/

/-- The marks among the deferred calls. -/
def Dfr (C0 C : Ctx) (ds : List Deferred) : Prop := ds.Nodup ∧ ∀ d ∈ ds, ∃ D, d = { target := .collected D, args := #[] } ∧ C0.B D ∧ ¬ C.B D ∧ C.w0.heap[D]? = some (.deferred (some []))

def SubX (C C0 : Ctx) : Prop := ∀ m s tmps w, Rel C m s tmps w → Rel C0 m s tmps w

def HoldsR (P : Program) (c : Code) (Q : Exit → St → Prop) (s : St) : Prop :=
  ∀ C0 C m (a : Act) w, SubX C C0 → Rel C m s a.tmps w → Dfr C0 C a.defers → wpR none P c (fun e a' w' => ∃ C' s' m', SubX C' C0 ∧ Q e s' ∧ Rel C' m' s' a'.tmps w' ∧ Dfr C0 C' a'.defers) a w

variable {Q : Exit → St → Prop}

theorem hr_of_hk {c : Code} (h : Holds P c Q s) : HoldsR P c Q s := fun C0 C m a w hS R hd =>
  wpR_mono (h none a.defers C m a w R rfl) fun e a' w' ⟨s', m', h1, h2, h3⟩ => ⟨C, s', m', hS, h1, h2, by rw [h3]; exact hd⟩
theorem hr_seq {x y : Code} (h : HoldsR P x (Thn (HoldsR P y Q) Q) s) : HoldsR P (.seq x y) Q s := by
  intro C0 C m a w hS R hd
  refine wpR_seq (wpR_mono (h C0 C m a w hS R hd) fun e a' w' ⟨C', s', m', h0, h1, h2, h3⟩ => ?_)
  cases e with
  | normal => exact h1 C0 C' m' a' w' h0 h2 h3
  | _ => exact ⟨C', s', m', h0, h1, h2, h3⟩
theorem hr_seqH {x y : Code} (h : Holds P x (Thn (HoldsR P y Q) Q) s) : HoldsR P (.seq x y) Q s := hr_seq (hr_of_hk h)
theorem hr_block {id : Nat} {c : Code} (h : HoldsR P c (InB id Q) s) : HoldsR P (.block id c) Q s := by
  intro C0 C m a w hS R hd
  refine wpR_block (wpR_mono (h C0 C m a w hS R hd) fun e a' w' ⟨C', s', m', h0, h1, h2, h3⟩ => ?_)
  cases e with
  | exit j =>
    simp only [InB, Exit.inBlock] at h1 ⊢
    by_cases e : j = id
    · rw [if_pos e] at h1 ⊢; exact ⟨C', s', m', h0, h1, h2, h3⟩
    · rw [if_neg e] at h1 ⊢; exact ⟨C', s', m', h0, h1, h2, h3⟩
  | _ => exact ⟨C', s', m', h0, h1, h2, h3⟩
theorem hr_cond {c : Operand} {x y : Code} {b : Bool} (hc : testA s c = some b) (hx : b = true → HoldsR P x Q s) (hy : b = false → HoldsR P y Q s) : HoldsR P (.cond c x y) Q s := by
  intro C0 C m a w hS R hd
  have he : a.eval c = .bool b := by
    have := R.ev c
    unfold testA at hc
    split at hc <;> simp only [Option.some.injEq, reduceCtorEq] at hc
    rename_i b' hb
    rw [hb] at this
    rw [← hc]
    exact this.p_inv.bool_inv
  exact wpR_cond_split he (fun h => hx h C0 C m a w hS R hd) (fun h => hy h C0 C m a w hS R hd)
theorem ren1_range {n : Nat} {x : AV} (h : sc1 n x = true) : ren1 (List.range n) x = x := by
  have g : ∀ k, k < n → (List.range n).getD k 0 = k := fun k hk => by simp [List.getD, hk]
  cases x <;> simp only [ren1] <;> simp only [sc1, decide_eq_true_eq] at h <;> first | rfl | rw [g _ h] | cases h
theorem ren_range {n : Nat} {x : AV} (h : scA n x = true) : Go.Pv.ren (List.range n) x = x := by
  have gl : ∀ l : List AV, l.all (sc1 n) = true → l.map (ren1 (List.range n)) = l := fun l hl => by
    refine (List.map_congr_left fun y hy => ren1_range ((List.all_eq_true.1 hl) y hy)).trans (List.map_id _)
  cases x with
  | agg l => simp only [Go.Pv.ren]; rw [gl l h]
  | tup l => simp only [Go.Pv.ren]; rw [gl l h]
  | cl f l => simp only [Go.Pv.ren]; rw [gl l h]
  | yv k l vs =>
    simp only [scA, Bool.and_eq_true, decide_eq_true_eq] at h
    simp only [Go.Pv.ren]
    rw [gl l h.2]
    simp [List.getD, h.1]
  | dead => exact ren1_range (n := n) (x := .dead) h
  | p v => exact ren1_range (n := n) (x := .p v) h
  | sl k lo len => exact ren1_range (n := n) (x := .sl k lo len) h
  | ptr k i => exact ren1_range (n := n) (x := .ptr k i) h
  | mptr k => exact ren1_range (n := n) (x := .mptr k) h
  | itv r => exact ren1_range (n := n) (x := .itv r) h

def scH (H : Heap) : Bool := H.all fun | .own c => c.all (scA H.length) | .anc _ _ => false | _ => true
theorem scH_get {H : Heap} (h : scH H = true) {k : Nat} {b : Blk} (hk : H[k]? = some b) : (match b with | .own c => c.all (scA H.length) | .anc _ _ => false | _ => true) = true := by
  have := (List.all_eq_true.1 h) _ (List.mem_of_getElem? hk)
  cases b <;> exact this

theorem LeH_of {π : List Nat} {H : Heap} : ∀ (H1 : Heap) (ks : List Nat), ks.length = H1.length → (∀ (j : Nat) (b : Blk) (k : Nat), H1[j]? = some b → ks[j]? = some k → LeB π H k b) → LeH π H ks H1
  | [], [], _, _ => trivial
  | b :: r, k :: ks, hl, h => ⟨h 0 b k rfl rfl, LeH_of r ks (by simpa using hl) fun j b' k' h1 h2 => h (j + 1) b' k' (by simpa using h1) (by simpa using h2)⟩
  | [], _ :: _, hl, _ => by simp at hl
  | _ :: _, [], hl, _ => by simp at hl

theorem hget_of : ∀ {H : Heap} {k : Nat} {b : Blk}, H[k]? = some b → hget H k = b
  | [], k, b, h => by simp at h
  | x :: r, 0, b, h => by simp at h; simp [hget, h]
  | x :: r, k + 1, b, h => by
    have := hget_of (H := r) (k := k) (b := b) (by simpa using h)
    simpa [hget] using this

theorem LeH_id {H : Heap} (h : scH H = true) : LeH (List.range H.length) H (List.range H.length) H := by
  refine LeH_of H _ (by simp) fun j b k hj hk => ?_
  have hjl := (List.getElem?_eq_some_iff.1 hj).1
  obtain rfl : k = j := by simpa [hjl] using hk.symm
  have hg := hget_of hj
  have hs := scH_get h hj
  cases b with
  | own c =>
    simp only [LeB, hg]
    refine ⟨?_, by simpa using hs⟩
    rw [List.take_length]
    exact (List.map_congr_left fun y hy => ren_range ((List.all_eq_true.1 hs) y hy)).trans (List.map_id _)
  | fro c => exact hg
  | mp kk d v => exact hg
  | lp r => exact hg
  | dead => trivial
  | anc i j => cases hs

theorem putM_other : ∀ (ks : List Nat) (bs H : Heap) (k : Nat), k ∉ ks → k < H.length → (putM H ks bs)[k]? = H[k]?
  | [], bs, H, k, _, hk => by simp only [putM]; rw [List.getElem?_append_left hk]
  | k0 :: ks, [], H, k, _, _ => rfl
  | k0 :: ks, b0 :: bs, H, k, hn, hk => by
    simp only [putM]
    rw [putM_other ks bs _ k (fun h => hn (by simp [h])) (by rw [hset_length]; exact hk), hset_get, if_neg (fun h => hn (by simp [h.1]))]
theorem putM_at : ∀ (ks : List Nat) (bs H : Heap), ks.Nodup → (∀ k ∈ ks, k < H.length) → ks.length ≤ bs.length → ∀ (j : Nat) {b : Blk} {k : Nat}, bs[j]? = some b → (ks ++ List.range' H.length (bs.length - ks.length))[j]? = some k → (putM H ks bs)[k]? = some b
  | [], bs, H, _, _, _, j, b, k, h1, h2 => by
    have hj := (List.getElem?_eq_some_iff.1 h1).1
    simp only [List.nil_append, List.length_nil, Nat.sub_zero] at h2
    rw [List.getElem?_range' hj] at h2
    simp only [Option.some.injEq, Nat.one_mul] at h2
    subst h2
    simp only [putM]
    rw [List.getElem?_append_right (by omega), Nat.add_sub_cancel_left]; exact h1
  | k0 :: ks, [], H, _, _, hl, j, b, k, h1, h2 => by simp at hl
  | k0 :: ks, b0 :: bs, H, hnd, hk, hl, 0, b, k, h1, h2 => by
    simp at h1 h2
    subst h1 h2
    simp only [putM]
    rw [putM_other ks bs _ k0 (List.nodup_cons.1 hnd).1 (by rw [hset_length]; exact hk k0 (by simp)), hset_get, if_pos ⟨rfl, hk k0 (by simp)⟩]
  | k0 :: ks, b0 :: bs, H, hnd, hk, hl, j + 1, b, k, h1, h2 => by
    simp only [putM]
    refine putM_at ks bs _ (List.nodup_cons.1 hnd).2 (fun k hk' => by rw [hset_length]; exact hk k (by simp [hk'])) (by simpa using hl) j (by simpa using h1) ?_
    rw [hset_length]
    simpa using h2

/-- THE STATEMENT 'for x := range f': a loop over a function with captured values. -/
theorem hr_range {go : Operand} {gs pp κ q n : Nat} {assign body : Code} {sl : List (Nat × AV)} {Hs0 Hf : Blk → Heap} {b : Bool} {gf : FuncId} {cap : List AV} {rv : AV} (π : List Nat) (hgo : go = .tmp gs) (hn : s.n = n)
    (h0 : ∀ r0, Le π ⟨n, (gs, .cl gf cap) :: sl, Hs0 (.lp r0)⟩ { s with H := s.H ++ [.lp r0] }) (hπ : π.getD κ 0 = s.H.length) (hκ : κ < q) (hs0 : HoleQ κ Hs0) (hf : HoleQ κ Hf)
    (hcs : ∀ r0, (scH (Hs0 (.lp r0)) && cap.all (scA (Hs0 (.lp r0)).length) && (envA n sl).all (sc1 q)) = true) (hkl : keysLt n sl = true) (hgs : lk sl gs = .dead)
    (hsc : ∀ r0 r1, scQ q rv (Hs0 (.lp r0)) (Hf (.lp r1)) = true)
    (hit : ∀ rec, RecOk rec n pp assign body → FnQ P q gf (.yv κ (envA n sl) rec.tmps :: cap) (Hs0 (.lp rec)) rv (Hf (.lp (recB b rec))))
    (h1 : b = true → Q .normal ⟨n, sl, Hf .dead⟩) (h2 : b = false → Q .ret ⟨n, sl, Hf .dead⟩) : HoldsR P (.rangeFunc go #[pp] assign body) Q s := by
  intro C0 C m a w hS R hd
  subst hgo
  refine wpIn_rangeFunc (F := WF none) (n := 0) fun fn _ => ?_
  obtain ⟨rec, hrec⟩ : ∃ rec : Loop, rec = { state := .ready, pending := none, fn, tmps := a.tmps, params := #[pp], assign, body, defers := w.heap.size } := ⟨_, rfl⟩
  have hok : RecOk rec n pp assign body := by rw [hrec]; exact ⟨rfl, rfl, rfl, rfl, rfl, by rw [← hn]; exact R.size⟩
  obtain ⟨W1, hW1⟩ : ∃ W1, (w.alloc (.deferred (some []))).alloc (.loop rec) = W1 := ⟨_, rfl⟩
  have hsz1 : W1.heap.size = w.heap.size + 2 := by rw [← hW1, World.size_alloc, World.size_alloc]
  have hL1 : W1.heap[w.heap.size + 1]? = some (.loop rec) := by
    rw [← hW1]; have := World.alloc_heap_new (w.alloc (.deferred (some []))) (.loop rec); rwa [World.size_alloc] at this
  have hK1 : W1.heap[w.heap.size]? = some (.deferred (some [])) := by
    rw [← hW1]
    have h1 := (MapKept.heap_alloc (w.alloc (.deferred (some []))) (.loop rec)).2 w.heap.size (by rw [World.size_alloc]; omega)
    rw [h1]; exact World.alloc_heap_new w _
  have hbel : Below w.heap.size w W1 := by
    rw [← hW1]; exact (((Below.refl _ w).alloc (Nat.le_refl _) _).alloc (by rw [World.size_alloc]; omega) _)
  have R1 := R.later hbel
  have R2 := R1.addLp (g := w.heap.size + 1) (r := rec) (R.base _ (by omega)) hL1 fun k rr l hk hl e => by
    obtain ⟨l', a1, a2, a3⟩ := R.mp.2.2.2.1 k rr hk
    rw [hl] at a1; cases a1
    have := (Array.getElem?_eq_some_iff.1 a3).1
    omega
  have R3 := R2.weaken (h0 rec)
  generalize hm3 : mren (mput m s.H.length (some ⟨w.heap.size + 1, 0, 0⟩)) π = m3 at R3
  have hmκ : m3 κ = some ⟨w.heap.size + 1, 0, 0⟩ := by
    have hl : κ < π.length := by
      have := ((h0 rec).2.2.1.get).1
      have h2 := hs0.lt (.lp rec)
      simp only at this
      omega
    rw [← hm3]
    have e : π[κ] = s.H.length := by simpa [List.getD, List.getElem?_eq_getElem hl] using hπ
    simp [mren, List.getElem?_eq_getElem hl, e, mput]
  have hc3 := hcs rec
  rw [Bool.and_eq_true, Bool.and_eq_true] at hc3
  obtain ⟨⟨hsc0, hcap⟩, henv⟩ := hc3
  obtain ⟨hq1, hq0, hna⟩ := scQ_parts (hsc rec (recB b rec))
  -- the call
  have hgv : ∃ vs : Array Value, a.eval (.tmp gs) = .func (.func gf) #[] vs ∧ vs.size = cap.length ∧ ∀ c (h : c < cap.length), AVal (Reads (OK C m3 (Hs0 (.lp rec)) W1) W1) m3 (Hs0 (.lp rec)) cap[c] (vs.getD c undef) := by
    have hv : AVal _ m3 (Hs0 (.lp rec)) (lk ((gs, .cl gf cap) :: sl) gs) (a.tmps.getD gs undef) := R3.slot gs
    simp only [lk, BEq.rfl, cond_true] at hv
    show ∃ vs : Array Value, a.tmps.getD gs undef = _ ∧ _
    generalize a.tmps.getD gs undef = v at hv
    cases hv with
    | cl _ _ vs hl hr => exact ⟨vs, rfl, hl, hr⟩
  obtain ⟨vs, hfe, hvl, hvr⟩ := hgv
  have hLe := LeH_id hsc0
  have hlenv : (envA n sl).length = n := envA_len n sl
  have hlk : ∀ t, lk sl t = .dead ∨ (t < n ∧ sc1 q (lk sl t) = true) := fun t => by
    by_cases ht : t < n
    · refine .inr ⟨ht, ?_⟩
      have := (List.all_eq_true.1 henv) _ (List.getElem_mem (show t < (envA n sl).length by omega))
      rwa [envA_get] at this
    · exact .inl (keysLt_lk hkl t (by omega))
  have hslot : ∀ t, AVal (Reads (OK C m3 (Hs0 (.lp rec)) W1) W1) m3 (Hs0 (.lp rec)) (lk sl t) (a.tmps.getD t undef) := fun t => by
    by_cases e : t = gs
    · rw [e, hgs]; exact .dead _
    · have hv : AVal _ m3 (Hs0 (.lp rec)) (lk ((gs, .cl gf cap) :: sl) t) (a.tmps.getD t undef) := R3.slot t
      simp only [lk] at hv
      rwa [show (gs == t) = false by simpa using Ne.symm e, cond_false] at hv
  have hscm : ∀ {k k' : Nat} {x : AV}, k ≤ k' → sc1 k x = true → sc1 k' x = true := fun {k k' x} hkk h => by
    cases x <;> simp only [sc1, decide_eq_true_eq] at h ⊢ <;> first | omega | cases h
  have hscA : ∀ {k : Nat} {x : AV}, sc1 k x = true → scA k x = true := fun {k x} h => by
    cases x <;> first | exact h | (simp [sc1] at h)
  have hLl : (Hs0 (.lp rec)).length = (List.range (Hs0 (.lp rec)).length).length := by simp
  have hrd : ∀ p v, Reads (OK C m3 (Hs0 (.lp rec)) W1) W1 p v → Reads (OK (subC C m3 (Hs0 (.lp rec)) (List.range (Hs0 (.lp rec)).length) (Hs0 (.lp rec)) W1) (mren m3 (List.range (Hs0 (.lp rec)).length)) (Hs0 (.lp rec)) W1) W1 p v :=
    fun p v h => h.mono (lend_ok (s := ⟨n, (gs, .cl gf cap) :: sl, Hs0 (.lp rec)⟩) hLe)
  have hun : ∀ {x : AV} {v : Value}, AVal (Reads (OK C m3 (Hs0 (.lp rec)) W1) W1) m3 (Hs0 (.lp rec)) x v → scA (Hs0 (.lp rec)).length x = true →
      AVal (Reads (OK (subC C m3 (Hs0 (.lp rec)) (List.range (Hs0 (.lp rec)).length) (Hs0 (.lp rec)) W1) (mren m3 (List.range (Hs0 (.lp rec)).length)) (Hs0 (.lp rec)) W1) W1) (mren m3 (List.range (Hs0 (.lp rec)).length)) (Hs0 (.lp rec)) x v := fun {x v} hv hx => by
    refine AVal.unren (π := List.range (Hs0 (.lp rec)).length) (H := Hs0 (.lp rec)) (m := m3) hrd hLl ?_ (by rw [← hLl]; exact hx)
    rw [ren_range hx]; exact hv
  have hR0 := R3.lend (q := q) (ks := List.range (Hs0 (.lp rec)).length) (avs := .yv κ (envA n sl) rec.tmps :: cap) (vals := #[.func (.yield (w.heap.size + 1)) #[] #[]] ++ vs) hLe (List.nodup_range) hq0 hna (by simp [hvl]; omega) fun t ht => by
    cases t with
    | zero =>
      have e1 : ((#[.func (.yield (w.heap.size + 1)) #[] #[]] ++ vs : Array Value)).getD 0 undef = .func (.yield (w.heap.size + 1)) #[] #[] := by
        simp only [Array.getD_eq_getD_getElem?]
        rw [Array.getElem?_append_left (by simp)]; rfl
      rw [e1]
      refine hun (.yv _ _ _ _ (hs0.lt _) ⟨_, hmκ, rfl⟩ (by rw [hlenv]; exact hok.size) fun c hc => ?_) ?_
      · rw [envA_get]
        have e2 : rec.tmps = a.tmps := by rw [hrec]
        rw [e2]; exact hslot c
      · show (decide (κ < (Hs0 (.lp rec)).length) && (envA n sl).all (sc1 (Hs0 (.lp rec)).length)) = true
        rw [Bool.and_eq_true, decide_eq_true_eq]
        exact ⟨hs0.lt _, List.all_eq_true.2 fun x hx => hscm hq0 ((List.all_eq_true.1 henv) x hx)⟩
    | succ t =>
      have e1 : ((#[.func (.yield (w.heap.size + 1)) #[] #[]] ++ vs : Array Value)).getD (t + 1) undef = vs.getD t undef := by
        simp only [Array.getD_eq_getD_getElem?]
        rw [Array.getElem?_append_right (by simp)]
        simp
      rw [e1]
      have ht2 : t < cap.length := by simpa using ht
      rw [List.getElem_cons_succ]
      exact hun (hvr t ht2) ((List.all_eq_true.1 hcap) _ (List.getElem_mem ht2))
  obtain ⟨⟨fn', hfn', hnm', hbd'⟩, hcalls⟩ := hit rec hok
  refine ⟨w.heap.size + 1, [{ target := .collected w.heap.size, args := #[] }], W1, { target := .fn (.func gf) vs, args := #[.func (.yield (w.heap.size + 1)) #[] #[]] }, W1, gf,
    #[.func (.yield (w.heap.size + 1)) #[] #[]] ++ vs, W1, ?_, ?_, fun _ _ => trivial, ?_, (fun h => by cases h), ?_⟩
  · rw [← hW1, hrec]; exact run_enterLoop_outer _ _ _ _ _
  · simp only [resolve, hfe]
    simp [go_sem]
  · have hnm2 : ¬ fn'.name = "runtime.NumGoroutine" := by simpa using hnm'
    have hbd2 : ¬ fn'.body = none := by intro e; rw [e] at hbd'; simp at hbd'
    simp [invoke, callFunc, hfn', hnm2, hbd2]
  refine (callsIn_wide (n := 0)).2 ((hcalls _ _ W1 _ hR0).mono fun e w' ⟨v, m', he, R5⟩ => ?_)
  subst he
  have hks' : ∀ k ∈ List.range (Hs0 (.lp rec)).length, k < (Hs0 (.lp rec)).length := fun k hk => by simpa using hk
  obtain ⟨m2, R6, _, hm2⟩ := R3.joinQ hLe hks' R5 (hsc rec (recB b rec))
  have hD : ¬ (subC C m3 (Hs0 (.lp rec)) (List.range (Hs0 (.lp rec)).length) (Hs0 (.lp rec)) W1).B w.heap.size := by
    rintro (h | ⟨j, b0, l, a1, a2, a3, a4⟩)
    · omega
    · have hj := (List.getElem?_eq_some_iff.1 a1).1
      have a3 : m3 j = some l := by simpa [mren, hj] using a3
      rw [← a4] at hK1
      cases b0 with
      | own c =>
        rcases R3.blk j c a1 with ⟨_, hn⟩ | ⟨l', cur, e, c1, _, c2, _⟩
        · rw [a3] at hn; cases hn
        · rw [a3] at c1; cases c1
          rw [c2] at hK1; cases hK1
      | mp kk d v =>
        obtain ⟨l', ar, clk, vs, c1, _, c2, _⟩ := R3.mp.1 j kk d v a1
        rw [a3] at c1; cases c1
        rw [c2] at hK1; cases hK1
      | lp rr =>
        obtain ⟨l', c1, _, c2⟩ := R3.mp.2.2.2.1 j rr a1
        rw [a3] at c1; cases c1
        rw [c2] at hK1; cases hK1
      | _ => cases a2
  have hK5 : w'.heap[w.heap.size]? = some (.deferred (some [])) := (R5.below.block _ hD).trans hK1
  -- the state behind the call, its blocks in their places
  generalize hσ : (List.range (Hs0 (.lp rec)).length).take q ++ List.range' (Hs0 (.lp rec)).length ((Hf (.lp (recB b rec))).length - q) = σ at R6
  have htk : (List.range (Hs0 (.lp rec)).length).take q = List.range q := by rw [List.take_range, Nat.min_eq_left hq0]
  have hσl : σ.length = (Hf (.lp (recB b rec))).length := by rw [← hσ, htk]; simp; omega
  have hσk : ∀ k, k < q → σ.getD k 0 = k := fun k hk => by
    rw [← hσ, htk]
    simp only [List.getD_eq_getElem?_getD]
    rw [List.getElem?_append_left (by simpa using hk)]
    simp [hk]
  have hσnd : σ.Nodup := by
    rw [← hσ, htk]
    refine List.nodup_append.2 ⟨List.nodup_range, List.nodup_range', fun x hx y hy e => ?_⟩
    rw [List.mem_range] at hx
    rw [List.mem_range'_1] at hy
    omega
  have hσren : ∀ {x : AV}, sc1 q x = true → Go.Pv.ren σ x = x := fun {x} hx => by
    cases x <;> first | rfl | (simp only [sc1, decide_eq_true_eq] at hx; simp only [Go.Pv.ren, ren1]; rw [hσk _ hx]) | (simp [sc1] at hx)
  have hput : ∀ (j : Nat) (bb : Blk) (k : Nat), (Hf (.lp (recB b rec)))[j]? = some bb → σ[j]? = some k → (putM (kills (Hs0 (.lp rec)) ((List.range (Hs0 (.lp rec)).length).drop q)) ((List.range (Hs0 (.lp rec)).length).take q) ((Hf (.lp (recB b rec))).map (Blk.ren σ)))[k]? = some (Blk.ren σ bb) := by
    intro j bb k hj hk
    refine putM_at _ _ _ (by rw [htk]; exact List.nodup_range) (fun k hk => by rw [kills_length]; rw [htk, List.mem_range] at hk; omega) (by rw [htk]; simp; omega) j (by rw [List.getElem?_map, hj]; rfl) ?_
    rw [kills_length, List.length_map, htk, List.length_range, ← htk, hσ]
    exact hk
  have hsH := hsc rec (recB b rec)
  unfold scQ at hsH
  rw [Bool.and_eq_true, Bool.and_eq_true, Bool.and_eq_true, Bool.and_eq_true, Bool.and_eq_true, Bool.and_eq_true] at hsH
  have hs2 := hsH.1.1.1.1.1.2
  have hLe2 : LeH σ (putM (kills (Hs0 (.lp rec)) ((List.range (Hs0 (.lp rec)).length).drop q)) ((List.range (Hs0 (.lp rec)).length).take q) ((Hf (.lp (recB b rec))).map (Blk.ren σ))) σ (Hf (.lp (recB b rec))) := by
    refine LeH_of _ _ hσl fun j bb k hj hk => ?_
    have hg := hget_of (hput j bb k hj hk)
    have hs := (List.all_eq_true.1 hs2) _ (List.mem_of_getElem? hj)
    cases bb with
    | own c =>
      simp only [LeB, hg, Blk.ren]
      refine ⟨?_, by rw [hσl]; exact hs⟩
      rw [← List.length_map (f := Go.Pv.ren σ), List.take_length]
    | fro c => exact hg
    | mp kk d v => exact hg
    | lp r => exact hg
    | dead => trivial
    | anc i j => cases hs
  have R7 : Rel C (mren m2 σ) ⟨n, [], Hf (.lp (recB b rec))⟩ a.tmps w' := R6.weaken (s1 := ⟨n, [], Hf (.lp (recB b rec))⟩) ⟨rfl, hσnd, hLe2, trivial⟩
  have hlen7 : (Hf (.lp (recB b rec))).length = σ.length := hσl.symm
  have hoW := OK.weaken (C := C) (m := m2) (w := w') hLe2
  have R8 : Rel C (mren m2 σ) ⟨n, sl, Hf (.lp (recB b rec))⟩ a.tmps w' := R7.reslot R7.size fun t => by
    rcases hlk t with e | ⟨ht, hx⟩
    · rw [e]; exact .dead _
    · have hv : AVal _ m2 _ (lk ((gs, .cl gf cap) :: sl) t) (a.tmps.getD t undef) := R6.slot t
      by_cases e : t = gs
      · rw [e, hgs]; exact .dead _
      · simp only [lk] at hv
        rw [show (gs == t) = false by simpa using Ne.symm e, cond_false, ← hσren hx] at hv
        exact hv.unren (fun p v h => h.mono hoW) hlen7 (by rw [hσl]; exact hscA (hscm hq1 hx))
  -- the record
  have hm8 : mren m2 σ κ = some ⟨w.heap.size + 1, 0, 0⟩ := by
    have h1 : κ < σ.length := by omega
    have h2 : σ[κ] = κ := by have := hσk κ hκ; simpa [List.getD, List.getElem?_eq_getElem h1] using this
    simp only [mren, List.getElem?_eq_getElem h1, h2, Option.bind_some]
    rw [hm2 κ (hs0.lt _)]; exact hmκ
  obtain ⟨l8, e1, e2, e3⟩ := R8.mp.2.2.2.1 κ _ (hf.at_ _)
  rw [hm8] at e1; cases e1
  simp only at e3
  have hend := run_endLoop (P := P) e3 (by unfold recB; split <;> simp [hok.state])
  refine ⟨_, _, hend, ?_⟩
  have R9 := (R8.setLp (r' := { recB b rec with state := .exhausted }) (hf.at_ _) hm8)
  simp only [hf.set_] at R9
  have hkill := Rel.kill (a := a) R9 κ
  simp only [hf.set_] at hkill
  generalize hw4 : w'.putObj (w.heap.size + 1) (.loop { recB b rec with state := .exhausted }) = w4 at R9 hkill ⊢
  have hK6 : w4.heap[w.heap.size]? = some (.deferred (some [])) := by rw [← hw4]; exact (World.putObj_heap_other (by omega)).trans hK5
  have R10 := hkill.hold (fun x => x = w.heap.size) (fun x hx => by
    rw [hx]; exact ⟨(Array.getElem?_eq_some_iff.1 hK6).1, fun _ _ _ h => by rw [hK6] at h; cases h⟩) (fun k kk d v l h hl hx => by
    obtain ⟨l', ar, clk, vs, c1, _, c2, _⟩ := hkill.mp.1 k kk d v h
    rw [hl] at c1; cases c1
    rw [hx, hK6] at c2; cases c2) (fun x hx rr h => by rw [hx, hK6] at h; cases h)
  have hS' : SubX (holdC C (fun x => x = w.heap.size) w4) C0 := fun m s tmps w R => hS _ _ _ _ (R.unhold hkill.below)
  have hC0B : C0.B w.heap.size := (hS _ _ _ _ R).base _ (Nat.le_refl _)
  have hdfr : Dfr C0 (holdC C (fun x => x = w.heap.size) w4) ({ target := .collected w.heap.size, args := #[] } :: a.defers) := by
    obtain ⟨d1, d2⟩ := hd
    refine ⟨List.nodup_cons.2 ⟨fun hmem => ?_, d1⟩, fun d hdm => ?_⟩
    · obtain ⟨D, q1, _, _, q4⟩ := d2 _ hmem
      have : D = w.heap.size := by cases q1; rfl
      have h1 := (Array.getElem?_eq_some_iff.1 q4).1
      have h2 := R.below.size
      omega
    · rcases List.mem_cons.1 hdm with rfl | hdm
      · exact ⟨_, rfl, hC0B, fun h => h.2 rfl, hK6⟩
      · obtain ⟨D, q1, q2, q3, q4⟩ := d2 _ hdm
        exact ⟨D, q1, q2, fun h => q3 h.1, (hkill.below.block _ q3).trans q4⟩
  cases b with
  | true =>
    have hp : (recB true rec).pending = none := hok.pending
    rw [hp]
    exact ⟨_, _, _, hS', h1 rfl, R10, hdfr⟩
  | false =>
    have hp : (recB false rec).pending = some .ret := rfl
    rw [hp]
    exact wpR_ret ⟨_, _, _, hS', h2 rfl, R10, hdfr⟩

/-- On the way out: the marks are taken. -/
theorem leaves_marks {fn : Func} {s' : St} {m' : Map} {tmps : Array Value} {C0 : Ctx} {R : Ending → World → Prop} : ∀ (ds : List Deferred) (w : World), Rel C0 m' s' tmps w → ds.Nodup → (∀ d ∈ ds, ∃ D, d = { target := .collected D, args := #[] } ∧ C0.B D ∧ w.heap[D]? = some (.deferred (some []))) →
    (∀ w', Rel C0 m' s' tmps w' → ∃ v, (results fn tmps).run P w' = .ok v w' ∧ R (.returned v) w') → LeavesInM Fence.wide 0 P fn tmps R ds .returning w
  | [], w, RR, _, _, hfin => hfin w RR
  | d :: ds, w, RR, hnd, hds, hfin => by
    obtain ⟨D, e1, e2, e3⟩ := hds d (by simp)
    refine ⟨by simp, .inl ⟨D, w.putObj D (.deferred none), by rw [e1], run_takeDeferred e3, ?_⟩⟩
    refine leaves_marks ds _ (RR.setDef e2 e3) (List.nodup_cons.1 hnd).2 (fun d' hd' => ?_) hfin
    obtain ⟨D', f1, f2, f3⟩ := hds d' (by simp [hd'])
    refine ⟨D', f1, f2, ?_⟩
    have hne : D' ≠ D := fun e => (List.nodup_cons.1 hnd).1 (by rw [e1, ← e, ← f1]; exact hd')
    rw [World.putObj_heap_other hne]; exact f3

theorem fnc_ofR (hT : ∀ t ti, T t = some ti → tiOf P t = some ti) {f : FuncId} {fn : Func} {c : Code} {args : List PV} {r : PV} (hf : P.funcs[f]? = some fn) (hb : fn.body = some c) (hnm : (fn.name == "runtime.NumGoroutine") = false) (hn : args.length ≤ fn.ntmps)
    (h : HoldsR P c (Post T fn.results.toList r) (entry fn.ntmps args)) : FnC P f args r := by
  refine ⟨⟨fn, hf, hnm, by rw [hb]; rfl⟩, fun okA w vals hok hsz hrd => (callsIn_wide (n := 0)).1 (callsIn_of_wp_marks hf hb trivial ?_)⟩
  have hslot : ∀ t, (vals ++ Array.replicate (fn.ntmps - vals.size) undef).getD t undef = if t < vals.size then vals.getD t undef else undef := by
    intro t
    simp only [Array.getD_eq_getD_getElem?]
    by_cases ht : t < vals.size
    · rw [if_pos ht, Array.getElem?_append_left ht]
    · rw [if_neg ht, Array.getElem?_append_right (by omega), Array.getElem?_replicate]
      split <;> rfl
  have R : Rel (fresh okA w) (fun _ => none) (entry fn.ntmps args) (vals ++ Array.replicate (fn.ntmps - vals.size) undef) w := by
    have hOK : ∀ b, okA b → OK (fresh okA w) (fun _ => none) [] w b := fun b hb => ⟨.inl hb, hok.1 b hb, fun k c l h => by simp at h⟩
    refine ⟨fun g l hg => (hok.2 g l hg).mono hOK, BelowP.refl _ _, fun _ h => h, by simp [entry]; omega, fun k k' c c' l l' h => by simp [entry] at h, fun k c h => by simp [entry] at h, fun k c h => by simp [entry] at h, fun t => ?_, fun k kk d v h => by simp [entry] at h, fun k k' kk d v kk' d' v' l l' h => by simp [entry] at h, fun k i j h => by simp [entry] at h, fun k r h => by simp [entry] at h, fun k k' r r' l l' h => by simp [entry] at h⟩
    rw [hslot]
    unfold St.get entry
    simp only
    rw [ent_lk]
    simp only [Nat.zero_le, if_true, Nat.sub_zero]
    by_cases ht : t < args.length
    · rw [List.getElem?_eq_getElem ht, if_pos (by omega)]
      exact .p _ _ ((hrd t ht).mono hOK)
    · rw [List.getElem?_eq_none (by omega)]
      exact .dead _
  refine wpR_mono (r := none) (h _ _ _ { tmps := vals ++ Array.replicate (fn.ntmps - vals.size) undef, defers := [] } w (fun _ _ _ _ R => R) R ⟨List.nodup_nil, fun d h => by cases h⟩) fun e a' w' ⟨C', s', m', hS, h1, h2, h3⟩ => ?_
  have R0 := hS _ _ _ _ h2
  have key : endA T fn.results.toList r s' → LeavesInM Fence.wide 0 P fn a'.tmps (fun e w' => ∃ v, e = .returned v ∧ Below w.heap.size w w' ∧ Reads (okN okA w w') w' r v) a'.defers .returning w' := fun he => by
    refine leaves_marks (s' := s') (m' := m') a'.defers w' R0 h3.1 (fun d hd => ?_) fun w2 R2 => ?_
    · obtain ⟨D, q1, q2, q3, q4⟩ := h3.2 d hd
      exact ⟨D, q1, q2, (h2.below.block _ q3).trans q4⟩
    · unfold endA at he
      split at he
      · rename_i p l hl
        split at he
        · rename_i q pv b hpk
          obtain ⟨hp, hq, rfl⟩ := he
          obtain ⟨vs, e1, e2, e3⟩ := rvsA_run hT R2 fn.results.toList hl hp
          have hv := mkTup_val (w := w2) e2 e3
          have hpv := peekA_val R2 hv hpk hq
          refine ⟨_, ?_, _, rfl, R2.below.below (fun _ h => h), norm_reads hpv.1⟩
          rw [results_eq, Array.mapM_eq_mapM_toList]
          simp only [Sem.run_bind, Sem.run_map]
          rw [e1]
          simp only [Result.andThen_ok]
          rfl
        · exact he.elim
      · exact he.elim
  cases e with
  | normal => exact key h1
  | ret => exact key h1
  | _ => exact h1.elim
end
end Go.Pv

/-
  Calls that hand out fresh rows of plain values; functions with captured rows of the call's own. Conditions: none.
-/
set_option linter.all false
namespace Go.Pv
open Go.RowKit

section
variable {P : Program} {s : St}

/-- A contract whose result lies in memory that is new: whatever the arguments may be. -/
def FnF (P : Program) (f : FuncId) (args : List PV) (r : PV) : Prop :=
  Fun P f ∧ ∀ (okA : Nat → Prop) (w : World) (vals : Array Value), LaidW okA w → vals.size = args.length → (∀ i (h : i < args.length), Reads okA w args[i] (vals.getD i undef)) →
    Calls P f vals w fun e w' => ∃ v, e = .returned v ∧ Go.Pv.Below w.heap.size w w' ∧ Reads (fun b => w.heap.size ≤ b ∧ b < w'.heap.size) w' r v

/-- Plain data: no memory. -/
def PV.sc : PV → Bool
  | .int _ _ => true
  | .bool _ => true
  | .str _ => true
  | _ => false

theorem sc_reads {ok ok' : Nat → Prop} {w : World} {p : PV} {v : Value} (h : Reads ok w p v) (hs : p.sc = true) : Reads ok' w p v := by
  cases h <;> simp [PV.sc] at hs
  · exact .int _ _
  · exact .bool _
  · exact .str _

theorem FnG_fnf {f : FuncId} {args l : List PV} (h : FnG P f args (.sl 0 0 l.length) [.own (opl l)]) (hsc : l.all PV.sc = true) : FnF P f args (.list l) := by
  have hone : l.all PV.one = true := List.all_eq_true.2 fun x hx => by
    have := (List.all_eq_true.1 hsc) x hx
    cases x <;> simp [PV.sc] at this <;> rfl
  refine ⟨h.1, fun okA w vals h1 h2 h3 => (h.2 okA w vals h1 h2 h3).mono fun e w' ⟨v, m', he, hbl, ho⟩ => ⟨v, he, hbl, ?_⟩⟩
  cases ho.val with
  | sl _ _ _ _ hk hs =>
    rcases hs with ⟨h0, ad, rfl⟩ | ⟨lc, cap, hm, rfl, hc1, hc2⟩
    · have : l = [] := List.eq_nil_of_length_eq_zero h0
      subst this
      exact .list0 _ _ fun _ => rfl
    · rcases ho.blk 0 (opl l) rfl with ⟨hn, _⟩ | ⟨l', cur, e', hm2, hB, hh, hs1, hs3, hs2, hcells⟩
      · have : l = [] := List.map_eq_nil_iff.1 hn
        subst this
        exact .list0 _ _ fun h => by cases h
      · rw [hm] at hm2; cases hm2
        rw [opl_length] at hs2
        refine row_reads rfl hone ⟨hB, (Array.getElem?_eq_some_iff.1 hh).1⟩ hc1 (fun j => cur.getD (lc.o + j) undef) (fun j hj => ?_) fun j hj => ?_
        · have : lc.o + 0 + j = lc.o + j := by omega
          rw [this]; exact cell_of hh (by omega)
        · have := hcells j (by rw [opl_length]; exact hj)
          have e2 : (opl l)[j]'(by rw [opl_length]; exact hj) = .p l[j] := by simp [opl]
          rw [e2] at this
          exact sc_reads this.p_inv ((List.all_eq_true.1 hsc) _ (List.getElem_mem hj))

theorem call_doesF {o : Oper} {fo : Operand} {args : Array Operand} {ts : Array TypeId} (ho : o.op = .call { callee := .value fo, args := args, argTypes := ts }) {g : FuncId} {avs : List PV} {p : Prop} {b : Bool} {r : PV}
    (hc : FnF P g avs r) (hcall : callA s fo args = some (g, avs, p, b)) (hp : p) : DoesW P o s (.p r) s.H := by
  intro C m a w K Q R hK
  unfold callA at hcall
  split at hcall
  · rename_i g' cap hf
    split at hcall <;> simp only [Option.some.injEq, Prod.mk.injEq, reduceCtorEq] at hcall
    rename_i p' pvs b' hpl
    obtain ⟨rfl, rfl, rfl, rfl⟩ := hcall
    have hfv := R.ev fo
    rw [hf] at hfv
    generalize hfe : a.eval fo = fv at hfv
    have hfv := hfv.p_inv
    cases hfv with
    | fn _ _ vs hcl hcr =>
      obtain ⟨⟨fn, hfn, hnm, hbd⟩, hcalls⟩ := hc
      obtain ⟨e1, e2, e3⟩ := peekList_val (C := C) (m := m) (w := w) (H := s.H) (fun {x v p pv b} (hx : AVal (Reads (OK C m s.H w) w) m s.H x v) h hp => peekG_val R hx h hp) (args.toList.map s.ev) (fun c => (args.toList.map a.eval).getD c undef) (fun c hc => by
        simp only [List.length_map] at hc
        have := R.ev (args.toList[c])
        simpa [List.getD, List.getElem?_map, List.getElem?_eq_getElem hc] using this) hpl hp
      simp only [List.length_map] at e1
      have hvals : ∀ i (h : i < (pvs ++ cap).length), (args.map a.eval ++ vs).getD i undef = if i < pvs.length then (args.toList.map a.eval).getD i undef else vs.getD (i - pvs.length) undef := by
        intro i hi
        simp only [Array.getD_eq_getD_getElem?]
        by_cases hip : i < pvs.length
        · rw [if_pos hip, Array.getElem?_append_left (by simp at e1 ⊢; omega)]
          simp [List.getD]
        · rw [if_neg hip, Array.getElem?_append_right (by simp at e1 ⊢; omega)]
          congr 2
          simp at e1 ⊢; omega
      have hrun : (execOp a.eval o).run P w = .ok (.enter g' (args.map a.eval ++ vs)) w := by
        have hnm' : ¬ fn.name = "runtime.NumGoroutine" := by simpa using hnm
        have hbd' : ¬ fn.body = none := by intro e; rw [e] at hbd; simp at hbd
        simp [execOp, ho, resolve, hfe, Deferred.ofValue, invoke, callFunc, hfn, hnm', hbd']
      refine opR_of_wp (by first | rfl | (rw [ho]; rfl)) ?_
      unfold Oper.wp
      rw [hrun]
      simp only [Oper.upon]
      have hsz : (args.map a.eval ++ vs).size = (pvs ++ cap).length := by simp at e1 ⊢; omega
      refine (hcalls (fun b => b < w.heap.size) w _ R.laidLt hsz fun i hi => ?_).mono fun e w' ⟨v, he, hbl, hv⟩ => ?_
      · rw [hvals i hi]
        by_cases hip : i < pvs.length
        · rw [if_pos hip, List.getElem_append_left hip]; exact (e2 i hip).mono fun b hb => hb.2
        · rw [if_neg hip, List.getElem_append_right (by omega)]; exact (hcr _ (by simp at hi; omega)).mono fun b hb => hb.2.1
      · subst he
        refine hK v m w' (R.later hbl) (.p _ _ (hv.mono fun b hb => ⟨.inr (R.base _ hb.1), hb.2, fun k c l hk hl e' => ?_⟩))
        have := (R.wrLt hk rfl hl).2
        have := hb.1
        omega
  · cases hcall

theorem call_locF {o : Oper} {fo : Operand} {args : Array Operand} {ts : Array TypeId} (ho : o.op = .call { callee := .value fo, args := args, argTypes := ts }) {g : FuncId} {avs : List PV} {p : Prop} {b : Bool} {r : PV}
    (hc : FnF P g avs r) (hcall : callA s fo args = some (g, avs, p, b)) (hp : p) : Loc1 P o s (.p r) s.H := by
  refine ⟨fun s2 hn ha hH => ?_, fun hf => ?_, fun _ => rfl⟩
  · have := callA_congr (ts := ts) (s := s) (s2 := s2) (fo := fo) (args := args) (by rw [← ho]; exact ha) hH
    rw [hcall] at this
    rw [← hH]
    exact call_doesF ho hc this hp
  · rw [ho] at hf; simp [isT] at hf

theorem runs_callF {draw : Bool} {all : Array Oper} {rest : List Oper} {K : St → Prop} {dst : Option Tmp} {ty : TypeId} {pos : String} {aft : Array Edge} {gd : Option (Nat × Bool)} {fo : Operand} {args : Array Operand} {ts : Array TypeId} {g : FuncId} {avs : List PV} {p : Prop} {b : Bool} {r : PV}
    (hc : FnF P g avs r) (hg : guardA all s { dst := dst, op := .call { callee := .value fo, args := args, argTypes := ts }, type := ty, pos := pos, after := aft, guard := gd } = some true)
    (hcall : callA s fo args = some (g, avs, p, b)) (hd : dstOk s dst) (hp : p) (h : Runs P draw all rest K (s.put dst (.p r))) :
    Runs P draw all ({ dst := dst, op := .call { callee := .value fo, args := args, argTypes := ts }, type := ty, pos := pos, after := aft, guard := gd } :: rest) K s := by
  obtain ⟨s', hr, hK⟩ := h
  exact ⟨s', .cons (.op s (.p r) s.H hg (dstOk_spec hd) (call_doesF rfl hc hcall hp) fun _ => call_locF rfl hc hcall hp) hr, hK⟩

end

/-- A function with captured values, of whatever make. -/
theorem makeCl_does {P : Program} {s : St} {o : Oper} {f : FuncId} {first : Array Operand} {caps : Array Operand} (ho : o.op = .makeFunc (.func f) first caps) (hf : first.isEmpty = true) : DoesW P o s (.cl f (caps.toList.map s.ev)) s.H := by
  intro C m a w K Q R hK
  have hfe : first = #[] := by simpa using hf
  have hrun : (execOp a.eval o).run P w = .ok (.value (.func (.func f) #[] (caps.map a.eval))) w := by
    simp [execOp, ho, hfe, Instr.makeFunc]
  refine opR_of_wp (by first | rfl | (rw [ho]; rfl)) ?_
  unfold Oper.wp
  rw [hrun]
  refine hK _ m w R (.cl _ _ _ (by simp) fun c hc => ?_)
  have hc' : c < caps.size := by simpa using hc
  have e1 : (caps.map a.eval).getD c undef = a.eval caps[c] := by simp [Array.getD_eq_getD_getElem?, hc']
  have e2 : (caps.toList.map s.ev)[c] = s.ev caps[c] := by simp
  rw [e1, e2]
  exact R.ev _
end Go.Pv
namespace Go.Proofs.YtboadfahlflmhaaDoor
open Go.Pv

end Go.Proofs.YtboadfahlflmhaaDoor

/-
  Walks: all homomorphisms, handed out one by one. Conditions: none.
-/
set_option linter.all false
namespace Go.Pv
open Go.RowKit

theorem fnc_of_p {P : Program} {f : FuncId} {args : List PV} {pv : PV} (h : FnG P f args (.p pv) []) (hf : pv.flatOnly = true) : FnC P f args pv :=
  ⟨h.1, fun okA w vals h1 h2 h3 => (h.2 okA w vals h1 h2 h3).mono fun e w' ⟨v, m', he, hbl, ho⟩ => ⟨v, he, hbl, flatOnly_reads ho.val.p_inv hf⟩⟩

/-- What a loop over a function does, round by round: what its blocks hold; whether it goes on; how it goes on. -/
structure Prot (σ : Type) where
  c4 : σ → PV
  c51 : σ → PV
  c52 : σ → PV
  R : σ → List PV
  go : σ → PV → Bool
  nx : σ → PV → σ
  ok : σ → Prop
  okx : PV → Prop
  ok_nx : ∀ i x, ok i → okx x → go i x = true → ok (nx i x)
  ones : ∀ i, ok i → (R i).all PV.one = true

variable {σ : Type}
def foldS (p : Prot σ) : σ → List PV → σ × Bool
  | i, [] => (i, true)
  | i, x :: xs => if p.go i x then foldS p (p.nx i x) xs else (p.nx i x, false)
theorem foldS_app (p : Prot σ) : ∀ (i : σ) (xs ys : List PV), foldS p i (xs ++ ys) = if (foldS p i xs).2 then foldS p (foldS p i xs).1 ys else foldS p i xs
  | i, [], ys => by simp [foldS]
  | i, x :: xs, ys => by
    simp only [List.cons_append, foldS]
    split
    · exact foldS_app p _ xs ys
    · rfl
theorem foldS_ok (p : Prot σ) : ∀ (i : σ) (xs : List PV), p.ok i → (∀ x ∈ xs, p.okx x) → (foldS p i xs).2 = true → p.ok (foldS p i xs).1
  | i, [], h, _, _ => h
  | i, x :: xs, h, hx, hb => by
    simp only [foldS] at hb ⊢
    split at hb
    · rename_i hg
      rw [if_pos hg]
      exact foldS_ok p _ xs (p.ok_nx i x h (hx x (by simp)) hg) (fun y hy => hx y (by simp [hy])) hb
    · cases hb

end Go.Pv
namespace Go.Proofs.YtboadfahlflmhaaDoor
open Go.Pv

section
variable {n e N d : Nat} {m M : List Int}
open Classical in
/-- Where things that make the group go so: the homomorphism, if there is one. -/
noncomputable def hlf (n : Nat) (f : Nat → Nat → Nat) (N : Nat) (g : Nat → Nat → Nat) (L T : List Nat) : List (List Int) := if h : ∃ φ, Ext n f N g L T φ then [tbm n (Classical.choose h)] else []
/-- All that come, where some places are chosen. -/
noncomputable def hsq (n : Nat) (f : Nat → Nat → Nat) (e N : Nat) (g : Nat → Nat → Nat) (d : Nat) (L : List Nat) : List Nat → List Nat → List (List Int)
  | [], t => hlf n f N g L t
  | x :: r, t => ((List.range N).filter fun y => decide (ord n f e x % ord N g d y = 0)).flatMap fun y => hsq n f e N g d L r (t ++ [y])
/-- Up to a place. -/
noncomputable def hsu (n : Nat) (f : Nat → Nat → Nat) (e N : Nat) (g : Nat → Nat → Nat) (d : Nat) (L r t : List Nat) (x y : Nat) : List (List Int) :=
  ((List.range y).filter fun y => decide (ord n f e x % ord N g d y = 0)).flatMap fun y => hsq n f e N g d L r (t ++ [y])
def pls (l : List (List Int)) : List PV := l.map fun w => .list (il w)
theorem pls_app (a b : List (List Int)) : pls (a ++ b) = pls a ++ pls b := by simp [pls]
theorem hsu_succ {f g : Nat → Nat → Nat} {L r t : List Nat} {x y : Nat} : hsu n f e N g d L r t x (y + 1) = if ord n f e x % ord N g d y = 0 then hsu n f e N g d L r t x y ++ hsq n f e N g d L r (t ++ [y]) else hsu n f e N g d L r t x y := by
  unfold hsu
  rw [List.range_succ, List.filter_append, List.flatMap_append]
  by_cases h : ord n f e x % ord N g d y = 0
  · rw [if_pos h]; simp [h]
  · rw [if_neg h]; simp [h]

/-- A row that is filled so far. -/
def rwd (t : List Nat) (n : Nat) : List AV := opl (il (nl t)) ++ List.replicate (n - t.length) .dead
theorem rwd_len {t : List Nat} {n : Nat} (h : t.length ≤ n) : (rwd t n).length = n := by
  simp [rwd, opl_length, il_length, nl_len]; omega
theorem rwd_full {t : List Nat} {n : Nat} (h : t.length = n) : rwd t n = opl (il (nl t)) := by simp [rwd, h]
theorem rwd_ren (t : List Nat) (n : Nat) (π : List Nat) : (rwd t n).map (Go.Pv.ren π) = rwd t n := by
  rw [rwd, List.map_append, opl_ren, List.map_replicate]; rfl
theorem rwd_sc (t : List Nat) (n k : Nat) : (rwd t n).all (scA k) = true := by
  rw [rwd, List.all_append, opl_sc, List.all_replicate]; simp [scA, sc1]
theorem rwd_set {t : List Nat} {n y : Nat} (h : t.length < n) : (rwd t n).set t.length (.p (.int .i64 ((y : Nat) : Int))) = rwd (t ++ [y]) n := by
  have e1 : (opl (il (nl t))).length = t.length := by simp [opl_length, il_length, nl_len]
  obtain ⟨k, rfl⟩ : ∃ k, n = t.length + 1 + k := ⟨n - (t.length + 1), by omega⟩
  rw [rwd, rwd, List.set_append_right _ _ (by omega), e1, Nat.sub_self, show t.length + 1 + k - t.length = k + 1 by omega, List.replicate_succ, List.set_cons_zero,
    List.length_append, List.length_cons, List.length_nil, show t.length + 1 + k - (t.length + (0 + 1)) = k by omega, nl_snoc]
  simp [opl, il]
theorem rwd_get {t : List Nat} {n j : Nat} (h : j < t.length) : (rwd t n)[j]? = some (.p (.int .i64 ((t.getD j 0 : Nat) : Int))) := by
  rw [rwd, List.getElem?_append_left (by rw [opl_length, il_length, nl_len]; exact h)]
  simp [opl, il, nl, List.getElem?_eq_getElem h]
theorem rwd_dead {t : List Nat} {n j : Nat} (h : t.length ≤ j) (hn : j < n) : (rwd t n)[j]? = some .dead := by
  rw [rwd, List.getElem?_append_right (by rw [opl_length, il_length, nl_len]; exact h), opl_length, il_length, nl_len, List.getElem?_replicate, if_pos (by omega)]
/-- Back to what stood. -/
theorem hk_back {P:Program} {Q:Exit→St→Prop} {s:St} {c:Code} (k:Nat) {t:List Nat} {y n:Nat} (hk:hget s.H k = .own (rwd (t++[y]) n)) (hl:t.length < n) (h:Holds P c Q { s with H:=hset s.H k (.own (rwd t n)) }):Holds P c Q s:=by
 have hl1:(t++[y]).length≤n:=by simp; omega
 refine hk_cells k hk (by rw [rwd_len (by omega),rwd_len hl1]) (fun C m tmps w R j h1 h2 v hv=>?_) h
 by_cases hj:j < t.length
 ·have e:(rwd (t++[y]) n)[j]=(rwd t n)[j]:=Option.some.inj (by
   rw [← List.getElem?_eq_getElem h1,← List.getElem?_eq_getElem h2,rwd_get hj,rwd_get (by simp; omega)]
   simp [List.getElem?_append_left hj])
  rw [← e]; exact hv
 ·have e:(rwd t n)[j] = .dead:=Option.some.inj (by rw [← List.getElem?_eq_getElem h2,rwd_dead (by omega) (by rw [rwd_len (by omega)] at h2; exact h2)])
  rw [e]; exact .dead _

variable {σ : Type}
theorem sc1_up {a b : Nat} {x : AV} (h : a ≤ b) (hx : sc1 a x = true) : sc1 b x = true := by
  cases x <;> simp [sc1] at hx ⊢ <;> omega
theorem all_up {a b : Nat} {l : List AV} (h : a ≤ b) (hx : l.all (sc1 a) = true) : l.all (sc1 b) = true := by
  rw [List.all_eq_true] at hx ⊢
  exact fun x hm => sc1_up h (hx x hm)
theorem recB_true (rec : Loop) : recB true rec = rec := rfl

theorem hsq_mem {f g : Nat → Nat → Nat} {L : List Nat} : ∀ (r t : List Nat) (w : List Int), w ∈ hsq n f e N g d L r t → ∃ φ, Hmo n f N g φ ∧ w = tbm n φ
  | [], t, w, h => by
    unfold hsq hlf at h
    split at h
    · rename_i hex
      exact ⟨_, (Classical.choose_spec hex).1, by simpa using h⟩
    · simp at h
  | x :: r, t, w, h => by
    unfold hsq at h
    obtain ⟨y, _, h⟩ := List.mem_flatMap.1 h
    exact hsq_mem r _ w h
theorem hsu_mem {f g : Nat → Nat → Nat} {L r t : List Nat} {x y : Nat} (w : List Int) (h : w ∈ hsu n f e N g d L r t x y) : ∃ φ, Hmo n f N g φ ∧ w = tbm n φ := by
  unfold hsu at h
  obtain ⟨y, _, h⟩ := List.mem_flatMap.1 h
  exact hsq_mem r _ w h
theorem hsu_end {f g : Nat → Nat → Nat} {L r t : List Nat} {x : Nat} : hsq n f e N g d L (x :: r) t = hsu n f e N g d L r t x N := by
  rw [hsq]; rfl
theorem hsu_pre {f g : Nat → Nat → Nat} {L r t : List Nat} {x y : Nat} (h : y ≤ N) : ∃ z, hsq n f e N g d L (x :: r) t = hsu n f e N g d L r t x y ++ z := by
  rw [hsu_end]
  have : ∀ k, ∃ z, hsu n f e N g d L r t x (y + k) = hsu n f e N g d L r t x y ++ z := by
    intro k
    induction k with
    | zero => exact ⟨[], by simp⟩
    | succ k ih =>
      obtain ⟨z, hz⟩ := ih
      rw [← Nat.add_assoc, hsu_succ, hz]
      split
      · exact ⟨_, List.append_assoc _ _ _⟩
      · exact ⟨z, rfl⟩
  obtain ⟨k, hk⟩ : ∃ k, N = y + k := ⟨N - y, by omega⟩
  have := this k
  rwa [← hk] at this
theorem foldS_pre (p : Prot σ) {i : σ} {a b : List PV} (h : (foldS p i a).2 = false) : foldS p i (a ++ b) = foldS p i a := by
  rw [foldS_app, h]; rfl
theorem foldS_on (p : Prot σ) {i : σ} {a b : List PV} (h : (foldS p i a).2 = true) : foldS p i (a ++ b) = foldS p (foldS p i a).1 b := by
  rw [foldS_app, h]; rfl

end
end Go.Proofs.YtboadfahlflmhaaDoor

/-
  Walks: the search begun; loops over all homomorphisms. Conditions: none.
-/
set_option linter.all false
namespace Go.Pv
open Go.RowKit
theorem hk_forget {P : Program} {Q : Exit → St → Prop} {s : St} {c : Code} (k : Nat) {b : List AV} (hk : hget s.H k = .own b) (h : Holds P c Q { s with H := hset s.H k (.own (List.replicate b.length .dead)) }) : Holds P c Q s :=
  hk_cells k hk (by simp) (fun C m tmps w R j h1 h2 v hv => by rw [List.getElem_replicate]; exact .dead _) h
end Go.Pv
namespace Go.Proofs.YtboadfahlflmhaaDoor
open Go.Pv
section
variable {n e N d : Nat} {m M : List Int} {σ : Type}
end
end Go.Proofs.YtboadfahlflmhaaDoor

/-
  Walks: all homomorphisms of two groups. Conditions: none.
-/
set_option linter.all false
namespace Go.Pv
open Go.RowKit
section
variable {P : Program} {Q : Exit → St → Prop} {s : St} {C : Ctx} {m : Map} {tmps : Array Value} {w : World}
/-- A function that has pure things with it, as one with blocks. -/
theorem Rel.toCl (R : Rel C m s tmps w) {t : Nat} {f : FuncId} {ps : List PV} (h : s.get t = .p (.fn f ps)) : Rel C m { s with sl := (t, .cl f (ps.map AV.p)) :: s.sl } tmps w := by
  refine ⟨R.laid, R.below, R.base, R.size, R.inj, R.blk, R.fro, fun t' => ?_, R.mp⟩
  by_cases e : t = t'
  · subst e
    have e2 : ({ s with sl := (t, .cl f (ps.map AV.p)) :: s.sl } : St).get t = .cl f (ps.map AV.p) := by simp [St.get, lk]
    rw [e2]
    have hv := R.slot t
    rw [h] at hv
    have hv := hv.p_inv
    generalize tmps.getD t undef = v at hv
    cases hv with
    | fn _ _ vs hl hr =>
      refine .cl _ _ vs (by simpa using hl) fun c hc => ?_
      rw [List.getElem_map]
      exact .p _ _ (hr c (by simpa using hc))
  · have e2 : ({ s with sl := (t, .cl f (ps.map AV.p)) :: s.sl } : St).get t' = s.get t' := by simp [St.get, lk, show (t == t') = false by simpa using e]
    rw [e2]
    exact R.slot t'
theorem hr_cl {c : Code} (t : Nat) {f : FuncId} {ps : List PV} (h : s.get t = .p (.fn f ps)) (h' : HoldsR P c Q { s with sl := (t, .cl f (ps.map AV.p)) :: s.sl }) : HoldsR P c Q s :=
  fun C0 C m a w hS R hd => h' C0 C m a w hS (R.toCl h) hd
end
end Go.Pv
namespace Go.Proofs.YtboadfahlflmhaaDoor
open Go.Pv
section
variable {n e N d : Nat} {m M : List Int} {σ : Type}
theorem tg_ok (h : GT n m n e) (h' : GT N M N d) : tg n m N M = (0, 0) := by
  unfold tg
  rw [gf_of h, gf_of h']; rfl
end
end Go.Proofs.YtboadfahlflmhaaDoor

/-
  Walks: lists of lists, one to one, one map then another. Conditions: none.
-/
set_option linter.all false
namespace Go.Proofs.YtboadfahlflmhaaDoor
open Go.Pv

/-- A list of so many things has each of them. -/
def onto1 (l : List Int) (n : Nat) : Prop := (∀ i, i < n → ((i : Nat) : Int) ∈ l) ∧ l.length = n
instance (l : List Int) (n : Nat) : Decidable (onto1 l n) := by unfold onto1; infer_instance

/-- One map, then another. -/
def cmpl (p q : List Int) : List Int := p.map fun x => q.getD x.toNat 0

end Go.Proofs.YtboadfahlflmhaaDoor

/-
  Walks: rows of yes and no; the ring of so many things. Conditions: none.
-/
set_option linter.all false
namespace Go.Proofs.YtboadfahlflmhaaDoor
open Go.Pv

/-- A row of yes and no. -/
def hbl (n : Nat) (g : Nat → Bool) : List PV := (List.range n).map fun i => .bool (g i)
theorem hbl_len (n : Nat) (g : Nat → Bool) : (hbl n g).length = n := by simp [hbl]
theorem hbl_get {n : Nat} {g : Nat → Bool} {i : Nat} (h : i < n) : (hbl n g).getD i default = .bool (g i) := by
  simp [hbl, List.getD, List.getElem?_eq_getElem, h]
theorem hbl_all (n : Nat) (g : Nat → Bool) : (hbl n g).all PV.one = true := by simp [hbl, PV.one]

def ixb (n : Nat) (g : Nat → Bool) : Int := match fst' (fun i => !g i) n with | some i => (i : Int) | none => -1
theorem ixb_iff (n : Nat) (g : Nat → Bool) : ixb n g ≥ 0 ↔ ∃ i, i < n ∧ g i = false := by
  unfold ixb
  cases h : fst' (fun i => !g i) n with
  | none =>
    constructor
    · intro h; simp at h
    · rintro ⟨i, hi, e⟩
      have := fst_spec0 h i hi
      rw [e] at this; simp at this
  | some i =>
    obtain ⟨h1, h2, _⟩ := fst_spec h
    exact ⟨fun _ => ⟨i, h1, by simpa using h2⟩, fun _ => by simp⟩

theorem indexB_c (n:Nat) (g:Nat→Bool) (hn:n≤1000000):FnC Tryd.prog 131 [.list (hbl n g),.bool false] (.int .i64 (ixb n g)):=by
 refine fnc_of tab_ok Tryd.func131 rfl (by kernel_rfl) (by rw [Tryd.ntmps131]; exact Nat.le_add_left 2 _) ?_; rw [Tryd.ntmps131]
 refine qm ?_
 refine hk_region fun K hK=>runs_eval tab_ok ?_
 simp only [ev0,evA,evB,evP,fl,gp,tab,simprocAttr,reduceCtorEq,reduceIte]
 refine fin_run trivial (hK _ ?_)<;>clear hK<;>clear K
 refine qa (qm (qm ?_))
 refine hk_region fun K hK=>runs_eval tab_ok ?_
 simp only [ev0,evA,evB,evP,fl,gp,tab,simprocAttr,reduceCtorEq,reduceIte,hbl_len]
 refine fin_run trivial (hK _ ?_)<;>clear hK<;>clear K
 refine qa (ql ?_)
 refine hk_loop (ι:=Nat) (fun i=>⟨19,[(0,.p (.list (hbl n g))),(1,.p (.bool false)),(7,.p (.int .i64 n)),(8,.p (.int .i64 i))],[]⟩) (fun i=>i≤n∧∀ j,j < i→g j=true) (fun i=>n - i) 0 ⟨Nat.zero_le _,fun j hj=>by omega⟩ [] (by simp only [leq,leA,ev0,evA,evB,evP,fl,gp,tab,simprocAttr,reduceCtorEq,reduceIte,hbl_len]<;>trivial) fun i hi=>?_
 obtain ⟨hi1,hi2⟩:=hi
 refine qm ?_
 refine hk_region fun K hK=>runs_eval tab_ok ?_
 simp only [ev0,evA,evB,evP,fl,gp,tab,simprocAttr,reduceCtorEq,reduceIte]
 refine fin_run trivial (hK _ ?_)<;>clear hK<;>clear K
 refine qa (qm ?_)
 refine hk_cond rfl (fun hC1=>?_) (fun hC1=>?_)
 ·(try simp only [nhs] at hC1)
  have hlt:i < n:=by omega
  refine qh (qa (qm (ql (qm ?_))))
  refine hk_region fun K hK=>runs_eval tab_ok ?_
  simp only [ev0,evA,evB,evP,fl,gp,tab,simprocAttr,reduceCtorEq,reduceIte]
  refine fin_run trivial (hK _ ?_)<;>clear hK<;>clear K
  refine qa (qm ?_)
  refine hk_region fun K hK=>runs_eval tab_ok ?_
  simp only [ev0,evA,evB,evP,fl,gp,tab,simprocAttr,reduceCtorEq,reduceIte,hbl_len,hbl_get hlt]
  refine fin_run ?_ (hK _ ?_)<;>clear hK<;>clear K
  ·(first|exact trivial|omega|(simp only [In64] at *; omega)|(simp [In64] at *; omega)|(simp_all; done)|skip)
  refine qa ?_
  refine hk_cond rfl (fun hC2=>?_) (fun hC2=>?_)
  ·(try simp only [nhs] at hC2)
   refine qm ?_
   refine hk_region fun K hK=>runs_eval tab_ok ?_
   simp only [ev0,evA,evB,evP,fl,gp,tab,simprocAttr,reduceCtorEq,reduceIte]
   refine fin_run trivial (hK _ ?_)<;>clear hK<;>clear K
   refine qa (qk (qe (qb (qb (qe (qb ?_))))))
   simp only [Tryd.results131,enA,ev0,evA,evB,evP,fl,gp,tab,simprocAttr,reduceCtorEq,reduceIte]
   all_goals (unfold ixb; rw [fst_some hlt (by cases hg:g i<;>simp_all) fun j hj=>by simp [hi2 j hj]])
  ·(try simp only [nhs] at hC2)
   refine qh (qd (qa ?_))
   refine hk_region fun K hK=>runs_eval tab_ok ?_
   simp only [ev0,evA,evB,evP,fl,gp,tab,simprocAttr,reduceCtorEq,reduceIte]
   refine fin_run ?_ (hK _ ?_)<;>clear hK<;>clear K
   ·(first|exact trivial|omega|(simp only [In64] at *; omega)|(simp [In64] at *; omega)|(simp_all; done)|skip)
   refine qa ?_
   refine ⟨i + 1,[],⟨by omega,fun j hj=>?_⟩,by omega,?_⟩
   ·by_cases hj:j=i
    ·subst hj; (cases hg:g j<;>simp_all)
    ·exact hi2 j (by omega)
   ·simp only [leq,leA,ev0,evA,evB,evP,fl,gp,tab,simprocAttr,reduceCtorEq,reduceIte]<;>first|trivial|omega
 ·(try simp only [nhs] at hC1)
  refine qj (qc (qc (qf (qa (qm ?_)))))
  refine hk_region fun K hK=>runs_eval tab_ok ?_
  simp only [ev0,evA,evB,evP,fl,gp,tab,simprocAttr,reduceCtorEq,reduceIte]
  refine fin_run trivial (hK _ ?_)<;>clear hK<;>clear K
  refine qa (qk ?_)
  simp only [Tryd.results131,enA,ev0,evA,evB,evP,fl,gp,tab,simprocAttr,reduceCtorEq,reduceIte]
  all_goals (unfold ixb; rw [fst_none fun j hj=>by simp [hi2 j (by omega)]])

theorem containsB_c (n:Nat) (g:Nat→Bool) (hn:n≤1000000):FnC Tryd.prog 80 [.list (hbl n g),.bool false] (.bool (decide (ixb n g ≥ 0))):=by
 refine fnc_of tab_ok Tryd.func80 rfl (by kernel_rfl) (by rw [Tryd.ntmps80]; exact Nat.le_add_left 2 _) ?_; rw [Tryd.ntmps80]
 refine qm ?_
 refine hk_region fun K hK=>runs_eval tab_ok ?_
 simp only [ev0,evA,evB,evP,fl,gp,tab,simprocAttr,reduceCtorEq,reduceIte]
 refine fin_run trivial (hK _ ?_)<;>clear hK<;>clear K
 refine qa (qm ?_)
 refine hk_region fun K hK=>runs_eval tab_ok ?_
 simp only [ev0,evA,evB,evP,fl,gp,tab,simprocAttr,reduceCtorEq,reduceIte]
 refine fin_stop trivial (runs_call (indexB_c n g hn) rfl rfl rfl (by simp only [dstOk,Nat.reduceLT]) (by repeat (first|exact trivial|constructor)) (runs_eval tab_ok ?_))
 simp only [ev0,evA,evB,evP,fl,gp,tab,simprocAttr,reduceCtorEq,reduceIte]
 refine fin_run trivial (hK _ ?_)<;>clear hK<;>clear K
 refine qa (qk ?_)
 simp only [Tryd.results80,enA,ev0,evA,evB,evP,fl,gp,tab,simprocAttr,reduceCtorEq,reduceIte]
 all_goals ((first|exact rfl|exact ⟨rfl,rfl⟩|exact ⟨rfl,rfl,rfl⟩|exact ⟨trivial,rfl⟩|exact ⟨Nat.le_refl _,rfl⟩|trivial|(simp; done)))
end Go.Proofs.YtboadfahlflmhaaDoor

/-
  The semidirect product of two groups: plain laws, with no program in sight. Conditions: none.
-/
set_option linter.all false
namespace Go.Proofs.YtboadfahlflmhaaDoor
open Go.Pv

structure Acts (n n' : Nat) (f f' al : Nat → Nat → Nat) : Prop where
  lt : ∀ x i, x < n' → i < n → al x i < n
  hom : ∀ x i j, x < n' → i < n → j < n → al x (f i j) = f (al x i) (al x j)
  onto : ∀ x i, x < n' → i < n → ∃ j, j < n ∧ al x j = i
  mul : ∀ x y i, x < n' → y < n' → i < n → al (f' x y) i = al x (al y i)

section
variable {n n' e e' : Nat} {f f' al : Nat → Nat → Nat}

theorem Acts.one (A : Acts n n' f f' al) (G' : Grp n' f' e') {i : Nat} (hi : i < n) : al e' i = i := by
  obtain ⟨j, hj, rfl⟩ := A.onto e' i G'.el hi
  rw [← A.mul e' e' j G'.el G'.el hj, G'.one_l e' G'.el]
theorem Acts.el (A : Acts n n' f f' al) (G : Grp n f e) {x : Nat} (hx : x < n') : al x e = e := by
  have h1 := A.lt x e hx G.el
  have h2 := A.hom x e e hx G.el G.el
  rw [G.one_l e G.el] at h2
  exact (G.idem h1).1 h2.symm

end
end Go.Proofs.YtboadfahlflmhaaDoor

/-
  Walks: the ring of so many things; tables by a rule. Conditions: none.
-/
set_option linter.all false
namespace Go.Proofs.YtboadfahlflmhaaDoor
open Go.Pv

end Go.Proofs.YtboadfahlflmhaaDoor

/-
  Semidirect products: the fault, and what no fault says. Conditions: none.
-/
set_option linter.all false
namespace Go.Proofs.YtboadfahlflmhaaDoor
open Go.Pv

def mgd (m' : List Int) (n' : Nat) (ls : List (List Int)) (x : Nat) : Prop := ∀ y, y < n' → ls.getD (op m' n' x y) [] = cmpl (ls.getD y []) (ls.getD x [])
instance (m' : List Int) (n' : Nat) (ls : List (List Int)) (x : Nat) : Decidable (mgd m' n' ls x) := by unfold mgd; infer_instance
section
variable {N N' : Int} {m m' : List Int} {ls : List (List Int)} {n n' : Nat}
end
end Go.Proofs.YtboadfahlflmhaaDoor

/-
  Walks: prod.Semi. Conditions: none.
-/
set_option linter.all false
namespace Go.Proofs.YtboadfahlflmhaaDoor
open Go.Pv

def hits (l : List Int) (k i : Nat) : Bool := decide (((i : Nat) : Int) ∈ l.take k)
theorem hbl_new (n : Nat) : List.replicate n (AV.p (.bool false)) = opl (hbl n fun _ => false) := by
  refine List.ext_getElem (by simp [opl, hbl]) fun i h1 h2 => ?_
  simp [opl, hbl]
theorem hbl_set (n : Nat) (g : Nat → Bool) (v : Nat) : (opl (hbl n g)).set v (AV.p (.bool true)) = opl (hbl n fun i => decide (i = v) || g i) := by
  refine List.ext_getElem (by simp [opl, hbl]) fun i h1 h2 => ?_
  simp only [opl, hbl, List.getElem_set, List.getElem_map, List.getElem_range]
  by_cases h : v = i
  · subst h; simp
  · rw [if_neg h]; simp [Ne.symm h]
theorem hits_zero (l : List Int) (i : Nat) : hits l 0 i = false := by simp [hits]
theorem hits_succ {l : List Int} {k v : Nat} (hk : k < l.length) (hv : l.getD k 0 = ((v : Nat) : Int)) (i : Nat) : hits l (k + 1) i = (decide (i = v) || hits l k i) := by
  unfold hits
  have e : l[k] = ((v : Nat) : Int) := by rw [← hv]; simp [List.getD, List.getElem?_eq_getElem hk]
  rw [List.take_succ_eq_append_getElem hk, e, Bool.eq_iff_iff]
  simp only [List.mem_append, List.mem_singleton, Bool.or_eq_true, decide_eq_true_eq]
  constructor
  · rintro (h | h)
    · exact .inr h
    · exact .inl (by omega)
  · rintro (h | h)
    · exact .inr (by omega)
    · exact .inl h
theorem hbl_congr {n : Nat} {g g' : Nat → Bool} (h : ∀ i, i < n → g i = g' i) : hbl n g = hbl n g' := by
  unfold hbl
  exact List.map_congr_left fun i hi => by rw [h i (List.mem_range.1 hi)]

end Go.Proofs.YtboadfahlflmhaaDoor

/-
  Walks: all automorphisms of a group. Conditions: none.
-/
set_option linter.all false
namespace Go.Proofs.YtboadfahlflmhaaDoor
open Go.Pv
section
variable {n e N d : Nat} {m M : List Int} {σ : Type}
def fA (n : Nat) : PV → Bool
  | .list l => decide (onto1 (l.map pvi) n)
  | _ => false
def oA (n : Nat) (v : List Int) : Prop := v.length = n ∧ ∀ k, k < n → ∃ y : Nat, y < n ∧ v.getD k 0 = ((y : Nat) : Int)
theorem fA_il (n : Nat) (v : List Int) : fA n (.list (il v)) = decide (onto1 v n) := by
  show decide (onto1 ((il v).map pvi) n) = _
  rw [pvi_il]
end
end Go.Proofs.YtboadfahlflmhaaDoor

/-
  Walks: inner automorphisms. Conditions: none.
-/
set_option linter.all false
namespace Go.Proofs.YtboadfahlflmhaaDoor
open Go.Pv

section
variable {n e : Nat} {m : List Int}
/-- What a thing does to all. -/
def inr (n : Nat) (f : Nat → Nat → Nat) (e b : Nat) : List Int := tbm n fun x => cjr n f e x b
end
end Go.Proofs.YtboadfahlflmhaaDoor

/-
  All homomorphisms are what the search hands out; the laws of maps have begun. Conditions: none.
-/
set_option linter.all false
namespace Go.Proofs.YtboadfahlflmhaaDoor
open Go.Pv

section
variable {n e N d : Nat} {f g : Nat → Nat → Nat}
theorem Hmo.pw (G : Grp n f e) (K : Grp N g d) {φ : Nat → Nat} (h : Hmo n f N g φ) {a : Nat} (ha : a < n) : ∀ k, φ (pw f e a k) = pw g d (φ a) k
  | 0 => h.one G K
  | k + 1 => by
    show φ (f (Go.Proofs.YtboadfahlflmhaaDoor.pw f e a k) a) = g _ _
    rw [h.mul _ _ (G.pw_lt ha k) ha, Hmo.pw G K h ha k]
theorem Hmo.ord (G : Grp n f e) (K : Grp N g d) {φ : Nat → Nat} (h : Hmo n f N g φ) {a : Nat} (ha : a < n) : ord N g d (φ a) ∣ ord n f e a := by
  rw [← K.pw_eq_one (h.lt a ha), ← h.pw G K ha, G.pw_ord ha, h.one G K]
theorem Hmo.same (G : Grp n f e) (K : Grp N g d) {L : List Nat} (hgen : ∀ a, a < n → Gen n f e (fun x => decide (x ∈ L)) a) {φ ψ : Nat → Nat} (h : Hmo n f N g φ) (h' : Hmo n f N g ψ) (heq : ∀ x ∈ L, φ x = ψ x) : ∀ a, a < n → φ a = ψ a := fun a ha => by
  have key : a < n ∧ φ a = ψ a := Gen.least (H := fun a => a < n ∧ φ a = ψ a) ⟨G.el, by rw [h.one G K, h'.one G K]⟩ (fun c b hc hb hp ih => ⟨G.cl _ _ ih.1 hb, by
    rw [h.mul _ _ ih.1 hb, h'.mul _ _ ih.1 hb, ih.2, heq b (by simpa using hp)]⟩) (hgen a ha)
  exact key.2
theorem tbm_congr {φ ψ : Nat → Nat} (h : ∀ a, a < n → φ a = ψ a) : tbm n φ = tbm n ψ := List.map_congr_left fun a ha => by rw [h a (List.mem_range.1 ha)]
theorem Hmo.congr (G : Grp n f e) {φ ψ : Nat → Nat} (h : Hmo n f N g φ) (he : ∀ a, a < n → φ a = ψ a) : Hmo n f N g ψ :=
  ⟨fun a ha => by rw [← he a ha]; exact h.lt a ha, fun a b ha hb => by rw [← he _ (G.cl _ _ ha hb), ← he a ha, ← he b hb]; exact h.mul a b ha hb⟩

/-- What the search hands out: the maps that start so. -/
theorem hsq_iff (G : Grp n f e) (K : Grp N g d) {L : List Nat} (hL : ∀ x ∈ L, x < n) (hgen : ∀ a, a < n → Gen n f e (fun x => decide (x ∈ L)) a) (w : List Int) : ∀ (r t : List Nat), t.length ≤ L.length → L.drop t.length = r →
    (w ∈ hsq n f e N g d L r t ↔ ∃ φ, Hmo n f N g φ ∧ w = tbm n φ ∧ ∀ i, i < t.length → φ (L.getD i 0) = t.getD i 0)
  | [], t, h1, h2 => by
    have htl : t.length = L.length := by
      have := congrArg List.length h2
      simp at this; omega
    unfold hsq hlf
    constructor
    · intro h
      split at h
      · rename_i hex
        have hs := Classical.choose_spec hex
        exact ⟨_, hs.1, by simpa using h, fun i hi => hs.2 i (by omega)⟩
      · simp at h
    · rintro ⟨φ, k1, rfl, k2⟩
      have hex : ∃ φ, Ext n f N g L t φ := ⟨φ, k1, fun i hi => k2 i (by omega)⟩
      rw [dif_pos hex]
      have hs := Classical.choose_spec hex
      rw [List.mem_singleton]
      refine tbm_congr (Hmo.same G K hgen k1 hs.1 fun x hx => ?_)
      obtain ⟨i, hi, rfl⟩ := List.getElem_of_mem hx
      have e1 : L.getD i 0 = L[i] := by simp [List.getD, List.getElem?_eq_getElem hi]
      rw [← e1, k2 i (by omega), hs.2 i hi]
  | x :: r, t, h1, h2 => by
    have htl : t.length < L.length := by
      have := congrArg List.length h2
      simp at this; omega
    have hd : L.drop t.length = L[t.length] :: L.drop (t.length + 1) := List.drop_eq_getElem_cons htl
    rw [h2] at hd
    obtain ⟨e1, e2⟩ := List.cons.inj hd
    have ex : L.getD t.length 0 = x := by simp [List.getD, List.getElem?_eq_getElem htl, e1]
    have hxn : x < n := by rw [e1]; exact hL _ (List.getElem_mem htl)
    unfold hsq
    rw [List.mem_flatMap]
    constructor
    · rintro ⟨y, hy, hw⟩
      obtain ⟨φ, k1, k2, k3⟩ := (hsq_iff G K hL hgen w r (t ++ [y]) (by simp; omega) (by rw [List.length_append]; exact e2.symm)).1 hw
      refine ⟨φ, k1, k2, fun i hi => ?_⟩
      have := k3 i (by simp; omega)
      rw [this]
      simp [List.getD, List.getElem?_append_left hi]
    · rintro ⟨φ, k1, k2, k3⟩
      refine ⟨φ x, List.mem_filter.2 ⟨List.mem_range.2 (k1.lt x hxn), by simpa using Nat.mod_eq_zero_of_dvd (k1.ord G K hxn)⟩, ?_⟩
      refine (hsq_iff G K hL hgen w r (t ++ [φ x]) (by simp; omega) (by rw [List.length_append]; exact e2.symm)).2 ⟨φ, k1, k2, fun i hi => ?_⟩
      by_cases hit : i < t.length
      · rw [k3 i hit]; simp [List.getD, List.getElem?_append_left hit]
      · obtain rfl : i = t.length := by simp at hi; omega
        rw [ex]; simp [List.getD]
end

section
variable {n e N d : Nat} {m M : List Int}
/-- All homomorphisms, in some order. -/
noncomputable def hmW (n : Nat) (m : List Int) (e N : Nat) (M : List Int) (d : Nat) : List (List Int) := hsq n (op m n) e N (op M N) d (gl n (op m n) e n) (gl n (op m n) e n) []
theorem hmW_mem (h : GT n m n e) (h' : GT N M N d) (w : List Int) : w ∈ hmW n m e N M d ↔ ∃ φ, Hmo n (op m n) N (op M N) φ ∧ w = tbm n φ := by
  unfold hmW
  refine (hsq_iff h.2.2 h'.2.2 (fun x hx => gl_lt n (op m n) e n x hx) (gl_gen n (op m n) e h.2.2) w _ [] (Nat.zero_le _) rfl).trans ?_
  exact ⟨fun ⟨φ, a, b, _⟩ => ⟨φ, a, b⟩, fun ⟨φ, a, b⟩ => ⟨φ, a, b, fun i hi => absurd hi (Nat.not_lt_zero _)⟩⟩
end

/-! ### The laws of maps have begun -/

end Go.Proofs.YtboadfahlflmhaaDoor

/-
  Walks: the law SeriesComposes. Conditions: none.
-/
set_option linter.all false

namespace Go.Proofs.YtboadfahlflmhaaDoor
open Go.Pv

section
variable {n e : Nat} {m : List Int}

end
end Go.Proofs.YtboadfahlflmhaaDoor

/-
  The library's sort of numbers, over a row of the caller's own: what it leaves. Conditions: none; a library text.
-/
set_option linter.all false
namespace Go.Pv
open Go.RowKit

section
variable {P : Program} {ρ : Go.Shelf.Ren}
end
end Go.Pv

/-
  Plain: what the factors of a list of sets are; sorted lists. Conditions: none.
-/
set_option linter.all false
namespace Go.Proofs.YtboadfahlflmhaaDoor

open Go.Pv
section
variable {n e : Nat} {f : Nat → Nat → Nat}
noncomputable def okR (n : Nat) (f : Nat → Nat → Nat) (e : Nat) (l : List Int) : Bool := @decide (∃ p, l = thl n p ∧ Sub n f e p) (Classical.propDecidable _)
variable {l : List (List Int)}
/-- As many sets as can be. -/
structure Fw (n : Nat) (l : List (List Int)) : Prop where
  lo : 1 ≤ l.length
  hi : l.length ≤ 10
structure Fz (n : Nat) (l : List (List Int)) : Prop extends Fw n l where
  first : (l.getD 0 []).length = n
  last : (l.getD (l.length - 1) []).length = 1
/-- All in their form. -/
structure Fo (n : Nat) (f : Nat → Nat → Nat) (e : Nat) (l : List (List Int)) : Prop extends Fz n l where
  ok : ∀ i, i < l.length → okR n f e (l.getD i []) = true
end
end Go.Proofs.YtboadfahlflmhaaDoor

/-
  Walks: the law QuotMakes. Conditions: none.
-/
set_option linter.all false
namespace Go.Proofs.YtboadfahlflmhaaDoor
open Go.Pv

theorem qtb_GT {n e : Nat} {m : List Int} (h : GT n m n e) {p : Nat → Bool} (hs : Sub n (op m n) e p) (hN : Nml n (op m n) e p) : GT (cst n (dco n (op m n) p (onp e))).length (qtb n (op m n) (dco n (op m n) p (onp e))) (cst n (dco n (op m n) p (onp e))).length (clq n (dco n (op m n) p (onp e)) e) := by
  have G := h.2.2
  have E := G.dco_eqv hs G.onp_sub
  have Q := cst_qm G E fun a b c d ha hb' hc hd h1 h2 => G.rco_cong hs hN ha hb' hc hd h1 h2
  have hcl : (cst n (dco n (op m n) p (onp e))).length ≤ n := cstp_len _ _ _
  have hb := h.2.1.big
  exact tbl_GT' (by omega) (Q.grp G)
theorem qtb_op {n : Nat} {f : Nat → Nat → Nat} {r : Nat → Nat → Bool} {i j : Nat} (hi : i < (cst n r).length) (hj : j < (cst n r).length) : op (qtb n f r) (cst n r).length i j = qop f (clq n r) (rpq n r) i j := tbl_op' _ hi hj

theorem qev_sub : Sub 8 (op sq8 8) 0 ev4 := by
  refine sub_of sq8_e.2.2 (by decide) fun a b ha hb h1 h2 => ?_
  have key : ∀ a, a < 8 → ∀ b, b < 8 → ev4 a = true → ev4 b = true → ev4 (op sq8 8 a b) = true := by decide +kernel
  exact key a ha b hb h1 h2
theorem qev_nml : Nml 8 (op sq8 8) 0 ev4 := by
  have key : ∀ a, a < 8 → ∀ x, x < 8 → ev4 x = true → ev4 (cjr 8 (op sq8 8) 0 x a) = true := by decide +kernel
  exact key
theorem quotBegun_c:FnC Tryd.prog 43 [] (.bool true):=by
 have h1:thl 8 ev4=[0,2]:=by decide +kernel
 have hz:(cst 8 (dco 8 (op sq8 8) ev4 (onp 0))).length=4:=by decide +kernel
 have hw:whl 8 (dco 8 (op sq8 8) ev4 (onp 0))=[0,1,0,1,2,3,2,3]:=by decide +kernel
 have hq:qtb 8 (op sq8 8) (dco 8 (op sq8 8) ev4 (onp 0))=[0,1,2,3,1,0,3,2,2,3,0,1,3,2,1,0]:=by decide +kernel
 have hr:=quotient_ok sq8_e ev4 qev_sub qev_nml
 have hg:=qtb_GT sq8_e qev_sub qev_nml
 have hc:clq 8 (dco 8 (op sq8 8) ev4 (onp 0)) 0=0:=by decide +kernel
 rw [h1,hz,hw,hq] at hr
 rw [hz,hq,hc] at hg
 have hp:pw (op [0,1,2,3,1,0,3,2,2,3,0,1,3,2,1,0] 4) 0 1 ((2:Int) % (ord 4 (op [0,1,2,3,1,0,3,2,2,3,0,1,3,2,1,0] 4) 0 1:Nat)).toNat=0:=by decide +kernel
 have hpc:=p_c hg (a:=1) (by omega) 2
 rw [hp] at hpc
 refine fnc_of tab_ok Tryd.func43 rfl (by kernel_rfl) (by rw [Tryd.ntmps43]; exact Nat.le_add_left 0 _) ?_; rw [Tryd.ntmps43]
 refine qm ?_
 refine hk_region fun K hK=>runs_eval tab_ok ?_
 simp only [ev0,evA,evB,evP,fl,gp,tab,simprocAttr,reduceCtorEq,reduceIte]
 refine fin_run trivial (hK _ ?_)<;>clear hK<;>clear K
 refine qa (qm ?_)
 refine hk_region fun K hK=>runs_eval tab_ok ?_
 simp only [ev0,evA,evB,evP,fl,gp,tab,simprocAttr,reduceCtorEq,reduceIte]
 refine fin_stop trivial (runs_call (square_c) rfl rfl rfl (by simp only [dstOk,Nat.reduceLT]) (by repeat (first|exact trivial|constructor)) (runs_eval tab_ok ?_))
 simp only [ev0,evA,evB,evP,fl,gp,tab,simprocAttr,reduceCtorEq,reduceIte]
 refine fin_stop ?_ (runs_call (FnC.sub (args':=[gp 8 sq8,.nn (il [0,2])]) hr (And.intro (.same _) (And.intro (.nn _) trivial))) rfl rfl rfl (by simp only [dstOk,Nat.reduceLT]) (by repeat (first|exact trivial|constructor)) (runs_eval tab_ok ?_))
 ·(first|exact trivial|omega|(simp only [In64] at *; omega)|(simp [In64] at *; omega)|(simp_all; done)|skip)
 simp only [ev0,evA,evB,evP,fl,gp,tab,simprocAttr,reduceCtorEq,reduceIte]
 refine fin_run ?_ (hK _ ?_)<;>clear hK<;>clear K
 ·(first|exact trivial|omega|(simp only [In64] at *; omega)|(simp [In64] at *; omega)|(simp_all; done)|skip)
 refine qa (qm ?_)
 refine hk_region fun K hK=>runs_eval tab_ok ?_
 simp only [ev0,evA,evB,evP,fl,gp,tab,simprocAttr,reduceCtorEq,reduceIte]
 refine fin_stop trivial (runs_call (FnC.sub (args':=[.list (il [0,1,0,1,2,3,2,3]),.nn (il [0,1,0,1,2,3,2,3])]) (ints_c [0,1,0,1,2,3,2,3] [0,1,0,1,2,3,2,3] (by decide)) (And.intro (.same _) (And.intro (.nn _) trivial))) rfl rfl rfl (by simp only [dstOk,Nat.reduceLT]) (by repeat (first|exact trivial|constructor)) (runs_eval tab_ok ?_))
 simp only [ev0,evA,evB,evP,fl,gp,tab,simprocAttr,reduceCtorEq,reduceIte]
 refine fin_stop trivial (runs_call (hpc) rfl rfl rfl (by simp only [dstOk,Nat.reduceLT]) (by repeat (first|exact trivial|constructor)) (runs_eval tab_ok ?_))
 simp only [ev0,evA,evB,evP,fl,gp,tab,simprocAttr,reduceCtorEq,reduceIte]
 refine fin_run ?_ (hK _ ?_)<;>clear hK<;>clear K
 ·(first|exact trivial|omega|(simp only [In64] at *; omega)|(simp [In64] at *; omega)|(simp_all; done)|skip)
 refine qa (qk ?_)
 simp only [Tryd.results43,enA,ev0,evA,evB,evP,fl,gp,tab,simprocAttr,reduceCtorEq,reduceIte]
 all_goals (rfl)

end Go.Proofs.YtboadfahlflmhaaDoor

/-
  Walks: the law QuotSimple. Conditions: none.
-/
set_option linter.all false
namespace Go.Proofs.YtboadfahlflmhaaDoor
open Go.Pv

end Go.Proofs.YtboadfahlflmhaaDoor

/-
  Contracts of the library, laid at this dump: numbers, and that each body is the same. Conditions: none; written by a program of this repo out of the kit's own tool.
-/
set_option linter.all false
namespace Go.Proofs
open Go.Shelf
end Go.Proofs

/-
  The program's Factors. Conditions: none.
-/
set_option linter.all false
namespace Go.Proofs.YtboadfahlflmhaaDoor
open Go.Pv

section
variable {n e k d : Nat} {f g : Nat → Nat → Nat} {p q : Nat → Bool}
end

section
variable {n e : Nat} {m : List Int} {p q : Nat → Bool}
end
end Go.Proofs.YtboadfahlflmhaaDoor

/-
  Rows of equations modulo a prime, reduced as they come: what is reckoned. Conditions: none.
-/
set_option linter.all false
namespace Go.Proofs.YtboadfahlflmhaaDoor
open Go.Pv

/-- The primes that are let in. -/
def pr (p : Nat) : Prop := p = 2 ∨ p = 3 ∨ p = 5 ∨ p = 7
instance (p : Nat) : Decidable (pr p) := by unfold pr; infer_instance
theorem pr.le {p : Nat} (h : pr p) : 2 ≤ p ∧ p ≤ 7 := by unfold pr at h; omega

/-- All that is in a row is between 0 and p. -/
def rng (p : Nat) (u : List Int) : Prop := ∀ t, t < u.length → 0 ≤ u.getD t 0 ∧ u.getD t 0 < p

/-- The least number that makes 1 of another. -/
def inv (p : Nat) (x : Int) : Nat := ((List.range p).find? fun k => decide ((k * x.toNat) % p = 1)).getD 0

/-- Rows that are as they should be. -/
structure Ech (p n : Nat) (L : List (Nat × List Int)) : Prop where
  keys : (L.map (·.1)).Nodup
  lt : ∀ e ∈ L, e.1 < n
  len : ∀ e ∈ L, e.2.length = n
  rg : ∀ e ∈ L, rng p e.2
  one : ∀ e ∈ L, e.2.getD e.1 0 = 1
  zero : ∀ e ∈ L, ∀ j, j < e.1 → e.2.getD j 0 = 0

end Go.Proofs.YtboadfahlflmhaaDoor

/-
  Walks: rows of equations: a new one; a row is added. Conditions: none.
-/
set_option linter.all false
namespace Go.Proofs.YtboadfahlflmhaaDoor
open Go.Pv

end Go.Proofs.YtboadfahlflmhaaDoor

/-
  Walks: kernels and images. Conditions: none.
-/
set_option linter.all false
namespace Go.Proofs.YtboadfahlflmhaaDoor
open Go.Pv

section
variable {α : Type} [DecidableEq α]
end
section
variable {n e n' e' : Nat} {m m' l : List Int}
end
end Go.Proofs.YtboadfahlflmhaaDoor

/-
  The law HomComposes. Conditions: none.
-/
set_option linter.all false
namespace Go.Proofs.YtboadfahlflmhaaDoor
open Go.Pv

section
variable {n e n' e' : Nat} {m m' l k : List Int}
theorem Hom.hmo (hH : Hom m m' l n n') : Hmo n (op m n) n' (op m' n') (hv l) := ⟨fun a ha => (hH.2.1 a ha).2, fun a b ha hb => (hH.2.2 a ha b hb).symm⟩
theorem Hom.rng (hH : Hom m m' l n n') : ∀ x ∈ l, 0 ≤ x ∧ x < (n' : Int) := fun x hx => by
  obtain ⟨i, hi, rfl⟩ := List.getElem_of_mem hx
  obtain ⟨h1, h2⟩ := hH.2.1 i (by rw [← hH.1]; exact hi)
  rw [show l.getD i 0 = l[i] by simp [List.getD, List.getElem?_eq_getElem hi]] at h1
  rw [h1]; omega
end
end Go.Proofs.YtboadfahlflmhaaDoor

/-
  The law HomTheorem. Conditions: none.
-/
set_option linter.all false
namespace Go.Proofs.YtboadfahlflmhaaDoor
open Go.Pv

section
variable {n e N d : Nat} {f g : Nat → Nat → Nat} {φ : Nat → Nat}
theorem Hmo.iv (G : Grp n f e) (K : Grp N g d) (h : Hmo n f N g φ) {a : Nat} (ha : a < n) : φ (iv n f e a) = iv N g d (φ a) := by
  have h1 := h.lt a ha
  have h2 := h.lt _ (G.iv_lt ha)
  have h3 := h.mul a _ ha (G.iv_lt ha)
  rw [G.mul_iv ha, h.one G K] at h3
  refine K.cancel_l h1 h2 (K.iv_lt h1) ?_
  rw [← h3, K.mul_iv h1]
theorem ker_sub (G : Grp n f e) (K : Grp N g d) (h : Hmo n f N g φ) : Sub n f e fun a => decide (φ a = d) := by
  refine sub_of G (by simpa using h.one G K) fun a b ha hb h1 h2 => ?_
  simp only [decide_eq_true_eq] at h1 h2 ⊢
  rw [h.mul a b ha hb, h1, h2, K.one_l _ K.el]
theorem ker_nml (G : Grp n f e) (K : Grp N g d) (h : Hmo n f N g φ) : Nml n f e fun a => decide (φ a = d) := fun a ha x hx h1 => by
  simp only [decide_eq_true_eq] at h1 ⊢
  unfold cjr
  have hi := G.iv_lt ha
  rw [h.mul _ _ (G.cl _ _ hi hx) ha, h.mul _ _ hi hx, h1, K.one_r _ (h.lt _ hi), h.iv G K ha, K.iv_mul (h.lt a ha)]
theorem ker_co (G : Grp n f e) (K : Grp N g d) (h : Hmo n f N g φ) {a b : Nat} (ha : a < n) (hb : b < n) : dco n f (fun a => decide (φ a = d)) (onp e) a b = true ↔ φ a = φ b := by
  rw [G.rco_iff ha hb, decide_eq_true_eq, h.mul _ _ hb (G.iv_lt ha), h.iv G K ha]
  have h1 := h.lt a ha
  have h2 := h.lt b hb
  have hi := K.iv_lt h1
  constructor
  · intro hh
    have : g (g (φ b) (iv N g d (φ a))) (φ a) = g d (φ a) := by rw [hh]
    rw [K.assoc _ _ _ h2 hi h1, K.iv_mul h1, K.one_r _ h2, K.one_l _ h1] at this
    exact this.symm
  · intro hh
    rw [hh, K.mul_iv h2]
end
end Go.Proofs.YtboadfahlflmhaaDoor

/-
  Isomorphisms; Noether's first theorem. Conditions: none.
-/
set_option linter.all false
namespace Go.Proofs.YtboadfahlflmhaaDoor
open Go.Pv

/-- An isomorphism. -/
def Isom (n : Nat) (f : Nat → Nat → Nat) (N : Nat) (g : Nat → Nat → Nat) (φ : Nat → Nat) : Prop := Hmo n f N g φ ∧ onto1 (tbm n φ) N
theorem isom_iff {n N : Nat} {f g : Nat → Nat → Nat} {φ : Nat → Nat} : Isom n f N g φ ↔ Hmo n f N g φ ∧ n = N ∧ ∀ y, y < N → ∃ x, x < n ∧ φ x = y := by
  unfold Isom onto1
  rw [tbm_len]
  constructor
  · rintro ⟨h1, h2, h3⟩
    refine ⟨h1, h3, fun y hy => ?_⟩
    obtain ⟨x, hx, e⟩ := List.mem_map.1 (h2 y hy)
    exact ⟨x, List.mem_range.1 hx, by omega⟩
  · rintro ⟨h1, h2, h3⟩
    refine ⟨h1, fun y hy => ?_, h2⟩
    obtain ⟨x, hx, rfl⟩ := h3 y hy
    exact List.mem_map.2 ⟨x, List.mem_range.2 hx, rfl⟩
section
variable {n e N d : Nat} {m M : List Int} {φ : Nat → Nat}
/-- A map onto a group: the quotient by its kernel is that group. -/
theorem surj_iso {g : Nat → Nat → Nat} (G : Grp n (op m n) e) (GG : Grp N g d) (h : Hmo n (op m n) N g φ) (hs : ∀ y, y < N → ∃ x, x < n ∧ φ x = y) (ke : Nat → Bool) (hke : ∀ a, a < n → (ke a = true ↔ φ a = d)) (hk : Sub n (op m n) e ke) :
    Isom (cst n (dco n (op m n) ke (onp e))).length (op (qtb n (op m n) (dco n (op m n) ke (onp e))) (cst n (dco n (op m n) ke (onp e))).length) N g (fun c => φ (rpq n (dco n (op m n) ke (onp e)) c)) := by
  have hE := G.dco_eqv hk G.onp_sub
  have hco : ∀ a b, a < n → b < n → (dco n (op m n) ke (onp e) a b = true ↔ φ a = φ b) := fun a b ha hb => by
    rw [← ker_co G GG h ha hb, G.rco_iff ha hb, G.rco_iff ha hb, hke _ (G.cl _ _ hb (G.iv_lt ha)), decide_eq_true_eq]
  generalize dco n (op m n) ke (onp e) = r at *
  have hrep : ∀ a, a < n → φ (rpq n r (clq n r a)) = φ a := fun a ha => by
    have h1 := clq_at hE ha
    obtain ⟨r1, r2, _, _⟩ := rpq_at hE h1.1
    exact (hco _ _ r1 ha).1 ((clq_iff hE r1 ha).1 r2)
  have hmul : ∀ a b, a < (cst n r).length → b < (cst n r).length → φ (rpq n r (op (qtb n (op m n) r) (cst n r).length a b)) = g (φ (rpq n r a)) (φ (rpq n r b)) := fun a b ha hb => by
    have r1 := (rpq_at hE ha).1
    have r2 := (rpq_at hE hb).1
    rw [qtb_op ha hb]
    unfold qop
    rw [hrep _ (G.cl _ _ r1 r2), h.mul _ _ r1 r2]
  rw [isom_iff]
  refine ⟨⟨fun c hc => h.lt _ (rpq_at hE hc).1, hmul⟩, ?_, fun y hy => ?_⟩
  · -- as many classes as things
    have hp : ((List.range (cst n r).length).map fun c => φ (rpq n r c)).Perm (List.range N) := by
      refine (List.perm_ext_iff_of_nodup (nodup_map List.nodup_range fun a ha b hb hab => ?_) List.nodup_range).2 fun y => ?_
      · have ha := List.mem_range.1 ha
        have hb := List.mem_range.1 hb
        obtain ⟨a1, a2, _, _⟩ := rpq_at hE ha
        obtain ⟨b1, b2, _, _⟩ := rpq_at hE hb
        have := (clq_iff hE a1 b1).2 ((hco _ _ a1 b1).2 hab)
        rw [a2, b2] at this; exact this
      · rw [List.mem_map, List.mem_range]
        constructor
        · rintro ⟨c, hc, rfl⟩
          exact h.lt _ (rpq_at hE (List.mem_range.1 hc)).1
        · intro hy
          obtain ⟨x, hx, rfl⟩ := hs y hy
          exact ⟨clq n r x, List.mem_range.2 (clq_at hE hx).1, hrep x hx⟩
    have := hp.length_eq
    simpa using this
  · obtain ⟨x, hx, rfl⟩ := hs y hy
    exact ⟨clq n r x, (clq_at hE hx).1, hrep x hx⟩
end
section
variable {n e N d : Nat} {f g : Nat → Nat → Nat} {φ : Nat → Nat}
theorem Isom.inj (h : Isom n f N g φ) {a b : Nat} (ha : a < n) (hb : b < n) (hab : φ a = φ b) : a = b := by
  obtain ⟨h1, h2, h3⟩ := isom_iff.1 h
  subst h2
  have hc : ∀ y, ∃ x, y < n → x < n ∧ φ x = y := fun y => by
    by_cases hy : y < n
    · obtain ⟨x, hx⟩ := h3 y hy
      exact ⟨x, fun _ => hx⟩
    · exact ⟨0, fun h => absurd h hy⟩
  obtain ⟨ψ, hψ⟩ : ∃ ψ : Nat → Nat, ∀ y, y < n → ψ y < n ∧ φ (ψ y) = y := ⟨fun y => Classical.choose (hc y), fun y hy => Classical.choose_spec (hc y) hy⟩
  have hnd : ((List.range n).map ψ).Nodup := nodup_map List.nodup_range fun y hy z hz hyz => by
    rw [← (hψ y (List.mem_range.1 hy)).2, ← (hψ z (List.mem_range.1 hz)).2, hyz]
  have hall : ∀ a, a < n → ∃ y, y < n ∧ ψ y = a := fun a ha => Classical.byContradiction fun hne => by
    have hn2 : (a :: (List.range n).map ψ).Nodup := List.nodup_cons.2 ⟨fun hm => by
      obtain ⟨y, hy, e⟩ := List.mem_map.1 hm
      exact hne ⟨y, List.mem_range.1 hy, e⟩, hnd⟩
    have := nodup_lt (n := n) hn2 fun x hx => by
      rcases List.mem_cons.1 hx with rfl | hx
      · exact ha
      · obtain ⟨y, hy, rfl⟩ := List.mem_map.1 hx
        exact (hψ y (List.mem_range.1 hy)).1
    simp at this
    omega
  obtain ⟨y, hy, rfl⟩ := hall a ha
  obtain ⟨z, hz, rfl⟩ := hall b hb
  rw [(hψ y hy).2, (hψ z hz).2] at hab
  rw [hab]
open Classical in
theorem Isom.symm (G : Grp n f e) (h : Isom n f N g φ) : ∃ ψ, Isom N g n f ψ := by
  obtain ⟨h1, h2, h3⟩ := isom_iff.1 h
  have hc : ∀ y, ∃ x, y < N → x < n ∧ φ x = y := fun y => by
    by_cases hy : y < N
    · obtain ⟨x, hx⟩ := h3 y hy
      exact ⟨x, fun _ => hx⟩
    · exact ⟨0, fun h => absurd h hy⟩
  refine ⟨fun y => Classical.choose (hc y), isom_iff.2 ⟨⟨fun y hy => (Classical.choose_spec (hc y) hy).1, fun y z hy hz => ?_⟩, h2.symm, fun x hx => ?_⟩⟩
  · obtain ⟨a1, a2⟩ := Classical.choose_spec (hc y) hy
    obtain ⟨b1, b2⟩ := Classical.choose_spec (hc z) hz
    have hgl : g y z < N := by
      have := h1.lt _ (G.cl _ _ a1 b1)
      rwa [h1.mul _ _ a1 b1, a2, b2] at this
    obtain ⟨c1, c2⟩ := Classical.choose_spec (hc (g y z)) hgl
    refine h.inj c1 (G.cl _ _ a1 b1) ?_
    rw [c2, h1.mul _ _ a1 b1, a2, b2]
  · obtain ⟨c1, c2⟩ := Classical.choose_spec (hc (φ x)) (h1.lt x hx)
    exact ⟨φ x, h1.lt x hx, h.inj c1 hx c2⟩
end
end Go.Proofs.YtboadfahlflmhaaDoor

/-
  The law HomOrders. Conditions: none.
-/
set_option linter.all false
namespace Go.Proofs.YtboadfahlflmhaaDoor
open Go.Pv

section
variable {n e N d n' e' : Nat} {f g : Nat → Nat → Nat} {φ : Nat → Nat} {m m' l : List Int}
theorem pre_sub (G : Grp n f e) (K : Grp N g d) (h : Hmo n f N g φ) {r : Nat → Bool} (hr : Sub N g d r) : Sub n f e fun x => r (φ x) := by
  refine sub_of G (by simp only [h.one G K]; exact hr.one) fun a b ha hb h1 h2 => ?_
  show r (φ (f a b)) = true
  rw [h.mul a b ha hb]
  exact hr.mul _ _ (h.lt a ha) (h.lt b hb) h1 h2
end
end Go.Proofs.YtboadfahlflmhaaDoor

/-
  Noether's second and third theorems; subgroups above a normal one. Conditions: none.
-/
set_option linter.all false
namespace Go.Proofs.YtboadfahlflmhaaDoor
open Go.Pv

section
variable {n e N d k : Nat} {f g : Nat → Nat → Nat} {m : List Int} {φ ψ : Nat → Nat} {p q P : Nat → Bool}
theorem Hmo.comp {h : Nat → Nat → Nat} (a : Hmo n f N g φ) (b : Hmo N g k h ψ) : Hmo n f k h fun x => ψ (φ x) :=
  ⟨fun x hx => b.lt _ (a.lt x hx), fun x y hx hy => by rw [a.mul x y hx hy, b.mul _ _ (a.lt x hx) (a.lt y hy)]⟩
theorem cls_hmo (h : GT n m n e) (hq : Sub n (op m n) e q) (hN : Nml n (op m n) e q) : Hmo n (op m n) (cst n (dco n (op m n) q (onp e))).length (op (qtb n (op m n) (dco n (op m n) q (onp e))) (cst n (dco n (op m n) q (onp e))).length) (clq n (dco n (op m n) q (onp e))) := by
  have G := h.2.2
  have hE := G.dco_eqv hq G.onp_sub
  have hc := fun a b c d ha hb hc hd h1 h2 => G.rco_cong (p := q) hq hN (a := a) (b := b) (c := c) (d := d) ha hb hc hd h1 h2
  generalize dco n (op m n) q (onp e) = r at *
  refine ⟨fun a ha => (clq_at hE ha).1, fun a b ha hb => ?_⟩
  obtain ⟨a1, _⟩ := clq_at hE ha
  obtain ⟨b1, _⟩ := clq_at hE hb
  rw [qtb_op a1 b1]
  unfold qop
  obtain ⟨r1, r2, _, _⟩ := rpq_at hE a1
  obtain ⟨s1, s2, _, _⟩ := rpq_at hE b1
  rw [clq_iff hE (G.cl _ _ ha hb) (G.cl _ _ r1 s1)]
  exact hc _ _ _ _ ha r1 hb s1 ((clq_iff hE ha r1).1 r2.symm) ((clq_iff hE hb s1).1 s2.symm)
theorem cls_ker (G : Grp n f e) (hq : Sub n f e q) {a : Nat} (ha : a < n) : clq n (dco n f q (onp e)) a = clq n (dco n f q (onp e)) e ↔ q a = true := by
  have hE := G.dco_eqv hq G.onp_sub
  rw [eq_comm, clq_iff hE G.el ha, G.rco_iff G.el ha, G.iv_one, G.one_r _ ha]
theorem cls_on (E : Eqv n (dco n f q (onp e))) {c : Nat} (hc : c < (cst n (dco n f q (onp e))).length) : ∃ x, x < n ∧ clq n (dco n f q (onp e)) x = c :=
  ⟨_, (rpq_at E hc).1, (rpq_at E hc).2.1⟩
/-- NOETHER'S THIRD THEOREM. -/
theorem third_iso (h : GT n m n e) {K : Nat → Bool} (hq : Sub n (op m n) e q) (hN : Nml n (op m n) e q) (hK : Sub n (op m n) e K) (hKN : Nml n (op m n) e K) (hqK : ∀ a, a < n → q a = true → K a = true)
    {k1 e1 : Nat} {m1 : List Int} (hk1 : k1 = (cst n (dco n (op m n) q (onp e))).length) (hm1 : m1 = qtb n (op m n) (dco n (op m n) q (onp e))) (he1 : e1 = clq n (dco n (op m n) q (onp e)) e) {K1 : Nat → Bool} (hK1 : ∀ c, c < k1 → (K1 c = true ↔ ∃ a, a < n ∧ K a = true ∧ clq n (dco n (op m n) q (onp e)) a = c)) :
    GT k1 m1 k1 e1 ∧ Sub k1 (op m1 k1) e1 K1 ∧ Nml k1 (op m1 k1) e1 K1 ∧
    ∃ φ, Isom (cst k1 (dco k1 (op m1 k1) K1 (onp e1))).length (op (qtb k1 (op m1 k1) (dco k1 (op m1 k1) K1 (onp e1))) (cst k1 (dco k1 (op m1 k1) K1 (onp e1))).length)
      (cst n (dco n (op m n) K (onp e))).length (op (qtb n (op m n) (dco n (op m n) K (onp e))) (cst n (dco n (op m n) K (onp e))).length) φ := by
  have G := h.2.2
  have h1 := qtb_GT h hq hN
  have c1 := cls_hmo h hq hN
  have c2 := cls_hmo h hK hKN
  have E1 := G.dco_eqv hq G.onp_sub
  have E2 := G.dco_eqv hK G.onp_sub
  rw [← hk1, ← hm1, ← he1] at h1
  rw [← hk1, ← hm1] at c1
  have G1 := h1.2.2
  have hr1 : ∀ a b, a < n → b < n → (clq n (dco n (op m n) q (onp e)) a = clq n (dco n (op m n) q (onp e)) b ↔ q (op m n b (iv n (op m n) e a)) = true) := fun a b ha hb => by
    rw [clq_iff E1 ha hb, G.rco_iff ha hb]
  have hr2 : ∀ a b, a < n → b < n → (clq n (dco n (op m n) K (onp e)) a = clq n (dco n (op m n) K (onp e)) b ↔ K (op m n b (iv n (op m n) e a)) = true) := fun a b ha hb => by
    rw [clq_iff E2 ha hb, G.rco_iff ha hb]
  have h12 : ∀ a b, a < n → b < n → clq n (dco n (op m n) q (onp e)) a = clq n (dco n (op m n) q (onp e)) b → clq n (dco n (op m n) K (onp e)) a = clq n (dco n (op m n) K (onp e)) b := fun a b ha hb hab => (hr2 a b ha hb).2 (hqK _ (G.cl _ _ hb (G.iv_lt ha)) ((hr1 a b ha hb).1 hab))
  have hk2 := fun a (ha : a < n) => cls_ker G hK ha
  have hon1 : ∀ c, c < k1 → rpq n (dco n (op m n) q (onp e)) c < n ∧ clq n (dco n (op m n) q (onp e)) (rpq n (dco n (op m n) q (onp e)) c) = c := fun c hc => by
    rw [hk1] at hc; exact ⟨(rpq_at E1 hc).1, (rpq_at E1 hc).2.1⟩
  have hK2 := (qtb_GT h hK hKN).2.2
  have hon2 : ∀ c, c < (cst n (dco n (op m n) K (onp e))).length → ∃ x, x < n ∧ clq n (dco n (op m n) K (onp e)) x = c := fun c hc => cls_on E2 hc
  have hφ : Hmo k1 (op m1 k1) (cst n (dco n (op m n) K (onp e))).length (op (qtb n (op m n) (dco n (op m n) K (onp e))) (cst n (dco n (op m n) K (onp e))).length) (fun c => clq n (dco n (op m n) K (onp e)) (rpq n (dco n (op m n) q (onp e)) c)) := by
    refine ⟨fun c hc => c2.lt _ (hon1 c hc).1, fun a b ha hb => ?_⟩
    obtain ⟨a1, a2⟩ := hon1 a ha
    obtain ⟨b1, b2⟩ := hon1 b hb
    obtain ⟨x1, x2⟩ := hon1 _ (G1.cl _ _ ha hb)
    rw [← c2.mul _ _ a1 b1]
    refine h12 _ _ x1 (G.cl _ _ a1 b1) ?_
    rw [x2, c1.mul _ _ a1 b1, a2, b2]
  have hker : ∀ c, c < k1 → (K1 c = true ↔ clq n (dco n (op m n) K (onp e)) (rpq n (dco n (op m n) q (onp e)) c) = clq n (dco n (op m n) K (onp e)) e) := fun c hc => by
    obtain ⟨a1, a2⟩ := hon1 c hc
    rw [hK1 c hc]
    constructor
    · rintro ⟨a, ha, hKa, hac⟩
      have := h12 a _ ha a1 (by rw [a2, hac])
      rw [← this]
      exact (hk2 _ ha).2 hKa
    · intro h'
      exact ⟨_, a1, (hk2 _ a1).1 h', a2⟩
  have hs1 : Sub k1 (op m1 k1) e1 K1 := by
    have := ker_sub G1 hK2 hφ
    refine ⟨(hker _ G1.el).2 (by simpa using this.one), fun a b ha hb h1 h2 => (hker _ (G1.cl _ _ ha hb)).2 (by simpa using this.mul a b ha hb (by simpa using (hker a ha).1 h1) (by simpa using (hker b hb).1 h2)), fun a ha h1 => (hker _ (G1.iv_lt ha)).2 (by simpa using this.inv a ha (by simpa using (hker a ha).1 h1))⟩
  have hn1 : Nml k1 (op m1 k1) e1 K1 := fun a ha x hx hx1 => (hker _ (G1.cjr_lt hx ha)).2 (by simpa using ker_nml G1 hK2 hφ a ha x hx (by simpa using (hker x hx).1 hx1))
  exact ⟨h1, hs1, hn1, _, surj_iso G1 hK2 hφ (fun y hy => by
    obtain ⟨x, hx, rfl⟩ := hon2 y hy
    have hcx := c1.lt x hx
    obtain ⟨a1, a2⟩ := hon1 _ hcx
    exact ⟨_, hcx, h12 _ _ a1 hx a2⟩) K1 hker hs1⟩

/-- As many subgroups above as in the quotient. -/
theorem above_num (h : GT n m n e) (hq : Sub n (op m n) e q) (hN : Nml n (op m n) e q) {k1 e1 : Nat} {m1 : List Int} (hk1 : k1 = (cst n (dco n (op m n) q (onp e))).length) (hm1 : m1 = qtb n (op m n) (dco n (op m n) q (onp e))) (he1 : e1 = clq n (dco n (op m n) q (onp e)) e)
    {SL SL1 : List Nat} (hS : AllS n (op m n) e SL) (hS1 : AllS k1 (op m1 k1) e1 SL1) : (SL.filter fun z => decide (∀ a, a < n → q a = true → z.testBit a = true)).length = SL1.length := by
  have G := h.2.2
  have h1 := qtb_GT h hq hN
  have c1 := cls_hmo h hq hN
  have E1 := G.dco_eqv hq G.onp_sub
  rw [← hk1, ← hm1, ← he1] at h1
  rw [← hk1, ← hm1] at c1
  have G1 := h1.2.2
  have hon1 : ∀ c, c < k1 → rpq n (dco n (op m n) q (onp e)) c < n ∧ clq n (dco n (op m n) q (onp e)) (rpq n (dco n (op m n) q (onp e)) c) = c := fun c hc => by
    rw [hk1] at hc; exact ⟨(rpq_at E1 hc).1, (rpq_at E1 hc).2.1⟩
  have hr1 : ∀ a b, a < n → b < n → (clq n (dco n (op m n) q (onp e)) a = clq n (dco n (op m n) q (onp e)) b ↔ q (op m n b (iv n (op m n) e a)) = true) := fun a b ha hb => by
    rw [clq_iff E1 ha hb, G.rco_iff ha hb]
  generalize clq n (dco n (op m n) q (onp e)) = cl at *
  generalize rpq n (dco n (op m n) q (onp e)) = rp at *
  -- a subgroup above is a union of classes
  have hun : ∀ p, Sub n (op m n) e p → (∀ a, a < n → q a = true → p a = true) → ∀ a b, a < n → b < n → cl a = cl b → p a = true → p b = true := fun p hp hqp a b ha hb hab h => by
    have h3 := hqp _ (G.cl _ _ hb (G.iv_lt ha)) ((hr1 a b ha hb).1 hab)
    have h4 := hp.mul _ _ (G.cl _ _ hb (G.iv_lt ha)) ha h3 h
    rwa [G.assoc _ _ _ hb (G.iv_lt ha) ha, G.iv_mul ha, G.one_r _ hb] at h4
  have hdn : ∀ p, Sub n (op m n) e p → (∀ a, a < n → q a = true → p a = true) → Sub k1 (op m1 k1) e1 fun c => p (rp c) := fun p hp hqp => by
    have key : ∀ x c, x < n → c < k1 → cl x = c → p x = true → p (rp c) = true := fun x c hx hc hxc h => hun p hp hqp x _ hx (hon1 c hc).1 (by rw [hxc, (hon1 c hc).2]) h
    refine ⟨key e e1 G.el G1.el he1.symm hp.one, fun a b ha hb h2 h3 => ?_, fun a ha h2 => ?_⟩
    · exact key _ _ (G.cl _ _ (hon1 a ha).1 (hon1 b hb).1) (G1.cl _ _ ha hb) (by rw [c1.mul _ _ (hon1 a ha).1 (hon1 b hb).1, (hon1 a ha).2, (hon1 b hb).2]) (hp.mul _ _ (hon1 a ha).1 (hon1 b hb).1 h2 h3)
    · exact key _ _ (G.iv_lt (hon1 a ha).1) (G1.iv_lt ha) (by rw [c1.iv G G1 (hon1 a ha).1, (hon1 a ha).2]) (hp.inv _ (hon1 a ha).1 h2)
  have hbt : ∀ (p : Nat → Bool) a, a < n → (bo n p).testBit a = p a := fun p a ha => by rw [bo_bit]; simp [ha]
  have hp : ((SL.filter fun z => decide (∀ a, a < n → q a = true → z.testBit a = true)).map fun z => bo k1 fun c => z.testBit (rp c)).Perm SL1 := by
    refine (List.perm_ext_iff_of_nodup (nodup_map (hS.nodup.filter _) fun x hx y hy hxy => ?_) hS1.nodup).2 fun w => ?_
    · obtain ⟨x1, x2⟩ := List.mem_filter.1 hx
      obtain ⟨y1, y2⟩ := List.mem_filter.1 hy
      obtain ⟨p, hp, rfl⟩ := hS.subs x x1
      obtain ⟨p', hp', rfl⟩ := hS.subs y y1
      simp only [decide_eq_true_eq] at x2 y2
      have hx2 : ∀ a, a < n → q a = true → p a = true := fun a ha h => by rw [← hbt p a ha]; exact x2 a ha h
      have hy2 : ∀ a, a < n → q a = true → p' a = true := fun a ha h => by rw [← hbt p' a ha]; exact y2 a ha h
      refine bo_congr fun a ha => ?_
      have hca := c1.lt a ha
      have h5 := bo_inj hxy hca
      obtain ⟨r1, r2⟩ := hon1 _ hca
      rw [hbt _ _ r1, hbt _ _ r1] at h5
      rw [Bool.eq_iff_iff] at h5 ⊢
      constructor
      · intro h6
        exact hun p' hp' hy2 _ _ r1 ha r2 (h5.1 (hun p hp hx2 _ _ ha r1 r2.symm h6))
      · intro h6
        exact hun p hp hx2 _ _ r1 ha r2 (h5.2 (hun p' hp' hy2 _ _ ha r1 r2.symm h6))
    · rw [List.mem_map]
      constructor
      · rintro ⟨z, hz, rfl⟩
        obtain ⟨z1, z2⟩ := List.mem_filter.1 hz
        obtain ⟨p, hp, rfl⟩ := hS.subs z z1
        simp only [decide_eq_true_eq] at z2
        have hx2 : ∀ a, a < n → q a = true → p a = true := fun a ha h => by rw [← hbt p a ha]; exact z2 a ha h
        have e3 : bo k1 (fun c => (bo n p).testBit (rp c)) = bo k1 fun c => p (rp c) := bo_congr fun c hc => hbt p _ (hon1 c hc).1
        rw [e3]
        exact hS1.all _ (hdn p hp hx2)
      · intro hw
        obtain ⟨s, hs, rfl⟩ := hS1.subs w hw
        have hps := pre_sub G G1 c1 hs
        refine ⟨bo n fun x => s (cl x), List.mem_filter.2 ⟨hS.all _ hps, ?_⟩, bo_congr fun c hc => ?_⟩
        · simp only [decide_eq_true_eq]
          intro a ha hqa
          rw [hbt _ a ha]
          have : cl a = e1 := by rw [he1]; exact ((hr1 e a G.el ha).2 (by rwa [G.iv_one, G.one_r _ ha])).symm
          rw [this]; exact hs.one
        · rw [hbt _ _ (hon1 c hc).1, (hon1 c hc).2]
  rw [← hp.length_eq, List.length_map]
end
end Go.Proofs.YtboadfahlflmhaaDoor
