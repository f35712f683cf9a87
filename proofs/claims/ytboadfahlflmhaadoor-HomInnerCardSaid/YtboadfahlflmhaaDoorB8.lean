/-
  Texts of this proof, one behind the other: what each says stands at its head. Conditions: none.
-/
import Derived.Test.YtboadfahlflmhaaDoorB7
import Derived.Test.YtboadfahlflmhaaDoorB6
import Derived.Test.YtboadfahlflmhaaDoorRows
import Derived.Test.YtboadfahlflmhaaDoorB4
import Derived.ProofKit
import Derived.LaidMore
import Derived.OpenShut
import Derived.Stop.Joined

/-
  Walks: the inverse of a permutation; inner automorphisms told of what is no group; automorphisms of great groups. Conjugated inner automorphisms. Conditions: none.
-/
set_option linter.all false
namespace Go.Proofs.YtboadfahlflmhaaDoor
open Go.Pv

theorem inner_no (N : Int) (m : List Int) (hm : m.length ≤ 1000000000000000) (hf : ¬ (gf N m).1 = 0) : FnC Tryd.prog 15 [gp N m] (.tup [.list (ll []), fl (gf N m)]) := by
  refine fnc_of tab_ok Tryd.func15 rfl (by kernel_rfl) (by rw [Tryd.ntmps15]; exact Nat.le_add_left 1 _) ?_; rw [Tryd.ntmps15]
  refine qm ?_
  refine hk_region fun K hK => runs_eval tab_ok ?_
  simp only [ev0, evA, evB, evP, fl, gp, tab, simprocAttr, reduceCtorEq, reduceIte]
  refine fin_run ?_ (hK _ ?_) <;> clear hK <;> clear K
  · (first | exact trivial | omega | (simp only [In64] at *; omega) | (simp [In64] at *; omega) | (simp_all; done) | skip)
  refine qa (qm (qm ?_))
  refine hk_region fun K hK => runs_eval tab_ok ?_
  simp only [ev0, evA, evB, evP, fl, gp, tab, simprocAttr, reduceCtorEq, reduceIte]
  refine fin_stop trivial (runs_call (check_c N m hm) rfl rfl rfl (by simp only [dstOk, Nat.reduceLT]) (by repeat (first | exact trivial | constructor)) (runs_eval tab_ok ?_))
  simp only [ev0, evA, evB, evP, fl, gp, tab, simprocAttr, reduceCtorEq, reduceIte]
  refine fin_run ?_ (hK _ ?_) <;> clear hK <;> clear K
  · (first | exact trivial | omega | (simp only [In64] at *; omega) | (simp [In64] at *; omega) | (simp_all; done) | skip)
  refine qa (qm ?_)
  refine hk_region fun K hK => runs_eval tab_ok ?_
  simp only [ev0, evA, evB, evP, fl, gp, tab, simprocAttr, reduceCtorEq, reduceIte]
  refine fin_run ?_ (hK _ ?_) <;> clear hK <;> clear K
  · (first | exact trivial | omega | (simp only [In64] at *; omega) | (simp [In64] at *; omega) | (simp_all; done) | skip)
  refine qa ?_
  refine hk_cond rfl (fun hC1 => ?_) (fun hC1 => ?_)
  · (try simp only [nhs] at hC1)
    refine qm ?_
    refine hk_draw2 mixed fun K hK => runs2_eval tab_ok ?_
    simp only [evD, ev0, evA, evB, evP, fl, gp, tab, simprocAttr, reduceCtorEq, reduceIte]
    refine fin2_run ?_ (hK _ _ (by first | kernel_rfl | rfl) ?_) <;> clear hK <;> clear K
    · (first | exact trivial | omega | (simp only [In64] at *; omega) | (simp [In64] at *; omega) | (simp_all; done) | skip)
    refine qa (qk (qb ?_))
    simp only [Tryd.results15, enA, ev0, evA, evB, evP, fl, gp, tab, simprocAttr, reduceCtorEq, reduceIte]
    all_goals (rfl)
  · (try simp only [nhs] at hC1)
    exact absurd hC1 hf
theorem autos_big {n e : Nat} {m : List Int} (h : GT n m n e) (hm : m.length ≤ 1000000000000000) (hn : ¬ n ≤ 24) : FnC Tryd.prog 13 [gp n m] (.tup [.list (ll []), fl (2, 0)]) := by
  have hb := check_c n m hm
  rw [gf_of h] at hb
  refine fnc_ofR tab_ok Tryd.func13 rfl (by kernel_rfl) (by rw [Tryd.ntmps13]; exact Nat.le_add_left 1 _) ?_; rw [Tryd.ntmps13]
  refine hr_seqH ?_
  refine hk_region fun K hK => runs_eval tab_ok ?_
  simp only [ev0, evA, evB, evP, fl, gp, tab, simprocAttr, reduceCtorEq, reduceIte]
  refine fin_run ?_ (hK _ ?_) <;> clear hK <;> clear K
  · (first | exact trivial | omega | (simp only [In64] at *; omega) | (simp [In64] at *; omega) | (simp_all; done) | skip)
  refine qa (hr_seqH (qm ?_))
  refine hk_region fun K hK => runs_eval tab_ok ?_
  simp only [ev0, evA, evB, evP, fl, gp, tab, simprocAttr, reduceCtorEq, reduceIte]
  refine fin_stop trivial (runs_call (hb) rfl rfl rfl (by simp only [dstOk, Nat.reduceLT]) (by repeat (first | exact trivial | constructor)) (runs_eval tab_ok ?_))
  simp only [ev0, evA, evB, evP, fl, gp, tab, simprocAttr, reduceCtorEq, reduceIte]
  refine fin_run ?_ (hK _ ?_) <;> clear hK <;> clear K
  · (first | exact trivial | omega | (simp only [In64] at *; omega) | (simp [In64] at *; omega) | (simp_all; done) | skip)
  refine qa (qm ?_)
  refine hk_region fun K hK => runs_eval tab_ok ?_
  simp only [ev0, evA, evB, evP, fl, gp, tab, simprocAttr, reduceCtorEq, reduceIte]
  refine fin_run ?_ (hK _ ?_) <;> clear hK <;> clear K
  · (first | exact trivial | omega | (simp only [In64] at *; omega) | (simp [In64] at *; omega) | (simp_all; done) | skip)
  refine qa ?_
  refine hk_cond rfl (fun hC1 => ?_) (fun hC1 => ?_)
  · (try simp only [nhs] at hC1)
    simp at hC1
  · (try simp only [nhs] at hC1)
    refine qh (qa (hr_seqH (qm ?_)))
    refine hk_region fun K hK => runs_eval tab_ok ?_
    simp only [ev0, evA, evB, evP, fl, gp, tab, simprocAttr, reduceCtorEq, reduceIte]
    refine fin_run ?_ (hK _ ?_) <;> clear hK <;> clear K
    · (first | exact trivial | omega | (simp only [In64] at *; omega) | (simp [In64] at *; omega) | (simp_all; done) | skip)
    refine qa ?_
    refine hk_cond rfl (fun hC2 => ?_) (fun hC2 => ?_)
    · (try simp only [nhs] at hC2)
      refine qm ?_
      refine hk_region fun K hK => runs_eval tab_ok ?_
      simp only [ev0, evA, evB, evP, fl, gp, tab, simprocAttr, reduceCtorEq, reduceIte]
      refine fin_stop trivial (runs_call (homFlt_c 2 0) rfl rfl rfl (by simp only [dstOk, Nat.reduceLT]) (by repeat (first | exact trivial | constructor)) (runs_eval tab_ok ?_))
      simp only [ev0, evA, evB, evP, fl, gp, tab, simprocAttr, reduceCtorEq, reduceIte]
      refine fin_run ?_ (hK _ ?_) <;> clear hK <;> clear K
      · (first | exact trivial | omega | (simp only [In64] at *; omega) | (simp [In64] at *; omega) | (simp_all; done) | skip)
      refine qa (qk (qb ?_))
      simp only [Tryd.results13, enA, ev0, evA, evB, evP, fl, gp, tab, simprocAttr, reduceCtorEq, reduceIte]
      all_goals (rfl)
    · (try simp only [nhs] at hC2)
      omega

section
variable {n e : Nat} {f : Nat → Nat → Nat} {φ ψ : Nat → Nat}
/-- Two ways that undo each other. -/
structure Inv2 (n : Nat) (φ ψ : Nat → Nat) : Prop where
  lt : ∀ y, y < n → ψ y < n
  r : ∀ y, y < n → φ (ψ y) = y
  l : ∀ x, x < n → ψ (φ x) = x
theorem Isom.inv2 {N : Nat} {g : Nat → Nat → Nat} (h : Isom n f N g φ) : ∃ ψ, Inv2 n φ ψ := by
  obtain ⟨h1, h2, h3⟩ := isom_iff.1 h
  subst h2
  have hc : ∀ y, ∃ x, y < n → x < n ∧ φ x = y := fun y => by
    by_cases hy : y < n
    · obtain ⟨x, hx⟩ := h3 y hy
      exact ⟨x, fun _ => hx⟩
    · exact ⟨0, fun h => absurd h hy⟩
  refine ⟨fun y => Classical.choose (hc y), fun y hy => (Classical.choose_spec (hc y) hy).1, fun y hy => (Classical.choose_spec (hc y) hy).2, fun x hx => ?_⟩
  have h4 := Classical.choose_spec (hc (φ x)) (h1.lt x hx)
  exact h.inj h4.1 hx h4.2
theorem Hmo.cjr {N d : Nat} {g : Nat → Nat → Nat} (G : Grp n f e) (K : Grp N g d) (h : Hmo n f N g φ) {x a : Nat} (hx : x < n) (ha : a < n) : φ (cjr n f e x a) = Go.Proofs.YtboadfahlflmhaaDoor.cjr N g d (φ x) (φ a) := by
  unfold Go.Proofs.YtboadfahlflmhaaDoor.cjr
  rw [h.mul _ _ (G.cl _ _ (G.iv_lt ha) hx) ha, h.mul _ _ (G.iv_lt ha) hx, h.iv G K ha]
theorem cmpl_tbm {N : Nat} {φ ψ : Nat → Nat} (h : ∀ x, x < n → φ x < N) : cmpl (tbm n φ) (tbm N ψ) = tbm n fun x => ψ (φ x) := by
  unfold cmpl
  show ((List.range n).map _).map _ = _
  rw [List.map_map]
  refine List.map_congr_left fun x hx => ?_
  have := tbm_get (φ := ψ) (h x (List.mem_range.1 hx))
  simp only [Function.comp, Int.toNat_natCast, this]
theorem tbm_rng {N : Nat} {φ : Nat → Nat} (h : ∀ x, x < n → φ x < N) : ∀ x ∈ tbm n φ, 0 ≤ x ∧ x < (N : Int) := fun x hx => by
  obtain ⟨a, ha, rfl⟩ := List.mem_map.1 hx
  have := h a (List.mem_range.1 ha)
  omega
theorem tbm_perm (hn : n ≤ 1000) (hφ : ∀ x, x < n → φ x < n) (hi : ∀ x y, x < n → y < n → φ x = φ y → x = y) : PermOk (tbm n φ) where
  len := by rw [tbm_len]; exact hn
  rng i hi := by
    rw [tbm_len] at hi ⊢
    rw [tbm_get hi]
    have := hφ i hi
    omega
  inj i j h1 h2 h3 := by
    rw [tbm_len] at h1 h2
    rw [tbm_get h1, tbm_get h2] at h3
    exact hi i j h1 h2 (by omega)
theorem cjr_inj (G : Grp n f e) {a x y : Nat} (ha : a < n) (hx : x < n) (hy : y < n) (h : cjr n f e x a = cjr n f e y a) : x = y := by
  rw [← G.cjr_iv hx ha, h, G.cjr_iv hy ha]
theorem inr_perm (G : Grp n f e) (hn : n ≤ 1000) {a : Nat} (ha : a < n) : PermOk (inr n f e a) := tbm_perm hn (fun x hx => G.cjr_lt hx ha) fun x y hx hy h => cjr_inj G ha hx hy h
/-- An inner automorphism, conjugated by another one. -/
theorem inr_conj (G : Grp n f e) (h : Hmo n f n f φ) (hψ : Inv2 n φ ψ) {a : Nat} (ha : a < n) : cmpl (cmpl (tbm n ψ) (inr n f e a)) (tbm n φ) = inr n f e (φ a) := by
  unfold inr
  rw [cmpl_tbm hψ.lt, cmpl_tbm (fun x hx => G.cjr_lt (hψ.lt x hx) ha)]
  refine tbm_congr fun x hx => ?_
  show φ (Go.Proofs.YtboadfahlflmhaaDoor.cjr n f e (ψ x) a) = _
  rw [h.cjr G G (hψ.lt x hx) ha, hψ.r x hx]
end

def upto1 (c : Bool) (x : Nat) : List Int := if c then [((x : Nat) : Int)] else []
set_option maxHeartbeats 4000000 in
theorem inverse_c {n : Nat} {φ ψ : Nat → Nat} (hn : n ≤ 1000) (hφ : ∀ x, x < n → φ x < n) (hψ : Inv2 n φ ψ) : FnC Tryd.prog 36 [.list (il (tbm n φ))] (.list (il (tbm n ψ))) := by
  have hl := tbm_len n φ
  refine fnc_of tab_ok Tryd.func36 rfl (by kernel_rfl) (by rw [Tryd.ntmps36]; exact Nat.le_add_left 1 _) ?_; rw [Tryd.ntmps36]
  refine qm ?_
  refine hk_region fun K hK => runs_eval tab_ok ?_
  simp only [ev0, evA, evB, evP, fl, gp, tab, simprocAttr, reduceCtorEq, reduceIte]
  refine fin_run trivial (hK _ ?_) <;> clear hK <;> clear K
  refine qa (qm ?_)
  refine hk_region fun K hK => runs_eval tab_ok ?_
  simp only [ev0, evA, evB, evP, fl, gp, tab, simprocAttr, reduceCtorEq, reduceIte]
  refine fin_run trivial (hK _ ?_) <;> clear hK <;> clear K
  refine qa (qm (qm ?_))
  refine hk_own0 3 rfl ?_
  refine hk_region fun K hK => runs_eval tab_ok ?_
  simp only [ev0, evA, evB, evP, fl, gp, tab, simprocAttr, reduceCtorEq, reduceIte]
  refine fin_run trivial (hK _ ?_) <;> clear hK <;> clear K
  refine qa (ql ?_)
  refine hk_loop (ι := Nat) (fun i => ⟨29, [(0, .p (.list (il (tbm n φ)))), (3, .sl 0 0 (tbm i ψ).length), (4, .p (.int .i64 i))], [.own (ol (tbm i ψ))]⟩) (fun i => i ≤ n) (fun i => n - i) 0 (Nat.zero_le _) [0] (by simp only [leq, leA, ev0, evA, evB, evP, fl, gp, tab, simprocAttr, reduceCtorEq, reduceIte] <;> simp [tbm, ol_nil]) fun i hi => ?_
  have hil := tbm_len i ψ
  refine qm (qm ?_)
  refine hk_region fun K hK => runs_eval tab_ok ?_
  simp only [ev0, evA, evB, evP, fl, gp, tab, simprocAttr, reduceCtorEq, reduceIte, il_length, hl]
  refine fin_run trivial (hK _ ?_) <;> clear hK <;> clear K
  refine qa ?_
  refine hk_cond rfl (fun hC1 => ?_) (fun hC1 => ?_)
  · (try simp only [nhs] at hC1)
    have hlt : i < n := by omega
    have hpi := hψ.lt i hlt
    refine qh (qa (qm (ql (qm ?_))))
    refine hk_region fun K hK => runs_eval tab_ok ?_
    simp only [ev0, evA, evB, evP, fl, gp, tab, simprocAttr, reduceCtorEq, reduceIte]
    refine fin_run trivial (hK _ ?_) <;> clear hK <;> clear K
    refine qa (ql ?_)
    refine hk_loop (ι := Nat) (fun k => ⟨29, [(0, .p (.list (il (tbm n φ)))), (3, .sl 0 0 (tbm i ψ ++ upto1 (decide (ψ i < k)) (ψ i)).length), (4, .p (.int .i64 i)), (5, .p (.int .i64 k))], [.own (ol (tbm i ψ ++ upto1 (decide (ψ i < k)) (ψ i)))]⟩) (fun k => k ≤ n) (fun k => n - k) 0 (Nat.zero_le _) [0] (by
      rw [show tbm i ψ ++ upto1 (decide (ψ i < 0)) (ψ i) = tbm i ψ by simp [upto1]]
      simp only [leq, leA, ev0, evA, evB, evP, fl, gp, tab, simprocAttr, reduceCtorEq, reduceIte] <;> first | trivial | trace_state) fun k hk => ?_
    have hol : (tbm i ψ ++ upto1 (decide (ψ i < k)) (ψ i)).length ≤ i + 1 := by rw [List.length_append, hil]; unfold upto1; split <;> simp
    refine qm (qm ?_)
    refine hk_region fun K hK => runs_eval tab_ok ?_
    simp only [ev0, evA, evB, evP, fl, gp, tab, simprocAttr, reduceCtorEq, reduceIte, il_length, hl]
    refine fin_run trivial (hK _ ?_) <;> clear hK <;> clear K
    refine qa ?_
    refine hk_cond rfl (fun hC2 => ?_) (fun hC2 => ?_)
    · (try simp only [nhs] at hC2)
      have hkn : k < n := by omega
      have hg := tbm_get (φ := φ) hkn
      refine qh (qa (qm (ql (qm ?_))))
      refine hk_region fun K hK => runs_eval tab_ok ?_
      simp only [ev0, evA, evB, evP, fl, gp, tab, simprocAttr, reduceCtorEq, reduceIte, il_get (show k < (tbm n φ).length by omega), hg]
      refine fin_run ?_ (hK _ ?_) <;> clear hK <;> clear K
      · (first | exact trivial | omega | (simp only [In64] at *; omega) | (simp [In64] at *; omega) | (simp_all; done) | skip)
      refine qa ?_
      refine hk_cond rfl (fun hC3 => ?_) (fun hC3 => ?_)
      · (try simp only [nhs] at hC3)
        have hki : k = ψ i := by
          have h1 : φ k = i := by omega
          rw [← h1, hψ.l k hkn]
        have hst : tbm i ψ ++ upto1 (decide (ψ i < k + 1)) (ψ i) = (tbm i ψ ++ upto1 (decide (ψ i < k)) (ψ i)) ++ [((k : Nat) : Int)] := by
          rw [hki]; simp [upto1]
        refine hk_region fun K hK => runs_eval tab_ok ?_
        simp only [ev0, evA, evB, evP, fl, gp, tab, simprocAttr, reduceCtorEq, reduceIte]
        refine fin_run ?_ (hK _ ?_) <;> clear hK <;> clear K
        · (first | exact trivial | omega | (simp only [In64] at *; omega) | (simp [In64] at *; omega) | (simp_all; done) | skip)
        refine qd (qa ?_)
        refine hk_region fun K hK => runs_eval tab_ok ?_
        simp only [ev0, evA, evB, evP, fl, gp, tab, simprocAttr, reduceCtorEq, reduceIte]
        refine fin_run ?_ (hK _ ?_) <;> clear hK <;> clear K
        · (first | exact trivial | omega | (simp only [In64] at *; omega) | (simp [In64] at *; omega) | (simp_all; done) | skip)
        refine qa ?_
        refine ⟨k + 1, [1], by omega, by omega, ?_⟩
        rw [hst]
        generalize tbm i ψ ++ upto1 (decide (ψ i < k)) (ψ i) = T at *
        simp only [leq, leA, ev0, evA, evB, evP, fl, gp, tab, simprocAttr, reduceCtorEq, reduceIte] <;> first | trivial | omega | trace_state
      · (try simp only [nhs] at hC3)
        have hki : ¬ k = ψ i := fun he => by
          have h1 : φ k = i := by rw [he]; exact hψ.r i hlt
          omega
        have hst : tbm i ψ ++ upto1 (decide (ψ i < k + 1)) (ψ i) = tbm i ψ ++ upto1 (decide (ψ i < k)) (ψ i) := by
          congr 2
          exact decide_eq_decide.2 ⟨fun h => by omega, fun h => by omega⟩
        refine qh (qd (qa ?_))
        refine hk_region fun K hK => runs_eval tab_ok ?_
        simp only [ev0, evA, evB, evP, fl, gp, tab, simprocAttr, reduceCtorEq, reduceIte]
        refine fin_run ?_ (hK _ ?_) <;> clear hK <;> clear K
        · (first | exact trivial | omega | (simp only [In64] at *; omega) | (simp [In64] at *; omega) | (simp_all; done) | skip)
        refine qa ?_
        refine ⟨k + 1, [0], by omega, by omega, ?_⟩
        rw [hst]
        simp only [leq, leA, ev0, evA, evB, evP, fl, gp, tab, simprocAttr, reduceCtorEq, reduceIte] <;> first | trivial | omega
    · (try simp only [nhs] at hC2)
      have hfin : tbm i ψ ++ upto1 (decide (ψ i < k)) (ψ i) = tbm (i + 1) ψ := by
        rw [show decide (ψ i < k) = true from decide_eq_true (by omega), tbm_succ]; rfl
      rw [hfin]
      refine qj (qc (qc (qf (qd (qa ?_)))))
      refine hk_region fun K hK => runs_eval tab_ok ?_
      simp only [ev0, evA, evB, evP, fl, gp, tab, simprocAttr, reduceCtorEq, reduceIte]
      refine fin_run ?_ (hK _ ?_) <;> clear hK <;> clear K
      · (first | exact trivial | omega | (simp only [In64] at *; omega) | (simp [In64] at *; omega) | (simp_all; done) | skip)
      refine qa ?_
      refine ⟨i + 1, [0], by omega, by omega, ?_⟩
      simp only [leq, leA, ev0, evA, evB, evP, fl, gp, tab, simprocAttr, reduceCtorEq, reduceIte] <;> first | trivial | omega
  · (try simp only [nhs] at hC1)
    have hin : i = n := by omega
    rw [hin]
    refine hk_seal 3 0 rfl rfl ?_
    refine qj (qc (qc (qf (qa (qm ?_)))))
    refine hk_region fun K hK => runs_eval tab_ok ?_
    simp only [ev0, evA, evB, evP, fl, gp, tab, simprocAttr, reduceCtorEq, reduceIte]
    refine fin_run trivial (hK _ ?_) <;> clear hK <;> clear K
    refine qa (qk ?_)
    simp only [Tryd.results36, enA, ev0, evA, evB, evP, fl, gp, tab, simprocAttr, reduceCtorEq, reduceIte]
    all_goals (rfl)
end Go.Proofs.YtboadfahlflmhaaDoor

/-
  Walks: the law SubMakes. Conditions: none.
-/
set_option linter.all false
namespace Go.Proofs.YtboadfahlflmhaaDoor
open Go.Pv

end Go.Proofs.YtboadfahlflmhaaDoor

/-
  The law HomInner. Conditions: none.
-/
set_option linter.all false
namespace Go.Proofs.YtboadfahlflmhaaDoor
open Go.Pv

theorem hin_c (W : List (List Int)) (hW : W.length ≤ 1000000) (hr : ∀ w ∈ W, w.length ≤ 1000000) (v : List Int) (hv : v ∈ W) : FnC Tryd.prog 34 [.list (il v), .ptr [.list (ll W)]] (.bool true) := by
  obtain ⟨t, ht, hte⟩ := List.getElem_of_mem hv
  refine fnc_of tab_ok Tryd.func34 rfl (by kernel_rfl) (by rw [Tryd.ntmps34]; exact Nat.le_add_left 2 _) ?_; rw [Tryd.ntmps34]
  refine qm ?_
  refine hk_region fun K hK => runs_eval tab_ok ?_
  simp only [ev0, evA, evB, evP, fl, gp, tab, simprocAttr, reduceCtorEq, reduceIte]
  refine fin_run trivial (hK _ ?_) <;> clear hK <;> clear K
  refine qa (qm (qm ?_))
  refine hk_region fun K hK => runs_eval tab_ok ?_
  simp only [ev0, evA, evB, evP, fl, gp, tab, simprocAttr, reduceCtorEq, reduceIte]
  refine fin_run trivial (hK _ ?_) <;> clear hK <;> clear K
  refine qa (ql ?_)
  refine hk_loop (ι := Nat) (fun i => ⟨17, [(0, .p (.list (il v))), (1, .p (.ptr [.list (ll W)])), (4, .p (.int .i64 i))], []⟩) (fun i => i ≤ t) (fun i => W.length - i) 0 (Nat.zero_le _) [] (by simp only [leq, leA, ev0, evA, evB, evP, fl, gp, tab, simprocAttr, reduceCtorEq, reduceIte] <;> first | trivial | trace_state) fun i hi => ?_
  refine qm (qm ?_)
  refine hk_region fun K hK => runs_eval tab_ok ?_
  simp only [ev0, evA, evB, evP, fl, gp, tab, simprocAttr, reduceCtorEq, reduceIte, ll_length]
  refine fin_run ?_ (hK _ ?_) <;> clear hK <;> clear K
  · (first | exact trivial | omega | (simp only [In64] at *; omega) | (simp [In64] at *; omega) | (simp_all; done) | skip)
  refine qa ?_
  refine hk_cond rfl (fun hC1 => ?_) (fun hC1 => ?_)
  · (try simp only [nhs] at hC1)
    have hlt : i < W.length := by omega
    have hw : W.getD i [] ∈ W := by simp [List.getD, List.getElem?_eq_getElem hlt]
    refine qh (qa (qm (ql (qm ?_))))
    refine hk_region fun K hK => runs_eval tab_ok ?_
    simp only [ev0, evA, evB, evP, fl, gp, tab, simprocAttr, reduceCtorEq, reduceIte, ll_get hlt]
    refine fin_stop ?_ (runs_call (ints_c (W.getD i []) v (by have := hr _ hw; omega)) rfl rfl rfl (by simp only [dstOk, Nat.reduceLT]) (by repeat (first | exact trivial | constructor)) (runs_eval tab_ok ?_))
    · exact ⟨by omega, by omega⟩
    simp only [ev0, evA, evB, evP, fl, gp, tab, simprocAttr, reduceCtorEq, reduceIte, ll_get hlt]
    refine fin_run ?_ (hK _ ?_) <;> clear hK <;> clear K
    · (first | exact trivial | omega | (simp only [In64] at *; omega) | (simp [In64] at *; omega) | (simp_all; done) | skip)
    refine qa ?_
    refine hk_cond rfl (fun hC2 => ?_) (fun hC2 => ?_)
    · (try simp only [nhs] at hC2)
      refine qm ?_
      refine hk_region fun K hK => runs_eval tab_ok ?_
      simp only [ev0, evA, evB, evP, fl, gp, tab, simprocAttr, reduceCtorEq, reduceIte]
      refine fin_run trivial (hK _ ?_) <;> clear hK <;> clear K
      refine qa (qk (qe (qb (qb (qe (qb ?_))))))
      simp only [Tryd.results34, enA, ev0, evA, evB, evP, fl, gp, tab, simprocAttr, reduceCtorEq, reduceIte]
      all_goals (rfl)
    · (try simp only [nhs] at hC2)
      have hne : i ≠ t := fun he => hC2 (by subst he; simp [List.getD, List.getElem?_eq_getElem hlt, hte])
      refine qh (qd (qa ?_))
      refine hk_region fun K hK => runs_eval tab_ok ?_
      simp only [ev0, evA, evB, evP, fl, gp, tab, simprocAttr, reduceCtorEq, reduceIte]
      refine fin_run ?_ (hK _ ?_) <;> clear hK <;> clear K
      · (first | exact trivial | omega | (simp only [In64] at *; omega) | (simp [In64] at *; omega) | (simp_all; done) | skip)
      refine qa ?_
      refine ⟨i + 1, [], by omega, by omega, ?_⟩
      simp only [leq, leA, ev0, evA, evB, evP, fl, gp, tab, simprocAttr, reduceCtorEq, reduceIte] <;> first | trivial | omega
  · (try simp only [nhs] at hC1)
    exfalso; omega

theorem cent_zenI (m : List Int) (n a : Nat) : cent m n (fun _ => true) a = zen n (op m n) a := by
  rw [Bool.eq_iff_iff, zen_iff]
  simp [cent]
theorem inner_key (N : Int) (m : List Int) (hm : m.length ≤ 17592186043904) : ¬ (gf N m).1 = 0 ∨ ∃ n e : Nat, ∃ NN LL : List (List Int), ∃ z : Nat → Bool, ∃ w : Int × Int, GT N m n e ∧ NN.length * (thl n z).length = n ∧ (∀ v ∈ NN, ∃ a, a < n ∧ v = inr n (op m n) e a) ∧ (∀ a, a < n → inr n (op m n) e a ∈ NN) ∧
      FnC Tryd.prog 15 [gp N m] (.tup [.list (ll NN), fl (0, 0)]) ∧ FnC Tryd.prog 33 [gp N m] (.tup [.list (il (thl n z)), fl (0, 0)]) ∧ FnC Tryd.prog 13 [gp N m] (.tup [.list (ll LL), fl w]) ∧ LL.length ≤ 1000 ∧
      (w = (2, 0) ∨ w = (9, 0) ∨ (w = (0, 0) ∧ LL.length * NN.length > 2000) ∨ (w = (0, 0) ∧ ¬ LL.length * NN.length > 2000 ∧ ∀ v ∈ LL, ∃ φ ψ, Hmo n (op m n) n (op m n) φ ∧ Inv2 n φ ψ ∧ v = tbm n φ)) := by
  by_cases h1 : (gf N m).1 = 0
  · right
    obtain ⟨n, e, h, _⟩ := gf_ok h1
    obtain rfl := h.1
    have G := h.2.2
    have hz := inn_num (z := zen n (op m n)) G (fun a ha => zen_iff) G.zen_sub
    have hct : thl n (cent m n fun _ => true) = thl n (zen n (op m n)) := thl_congr fun a _ => cent_zenI m n a
    have hC := centre_ok h
    rw [hct] at hC
    have hN : ∀ v, v ∈ cps [] (srtL (inl' n (op m n) e n)) ↔ ∃ a, a < n ∧ v = inr n (op m n) e a := fun v => by
      rw [mem_cps, ← (srtL_perm _).mem_iff]
      unfold inl'
      rw [List.mem_map]
      exact ⟨fun ⟨a, ha, e⟩ => ⟨a, List.mem_range.1 ha, e.symm⟩, fun ⟨a, ha, e⟩ => ⟨a, List.mem_range.2 ha, e.symm⟩⟩
    obtain ⟨LL, w, a, b, c⟩ : ∃ (LL : List (List Int)) (w : Int × Int), FnC Tryd.prog 13 [gp n m] (.tup [.list (ll LL), fl w]) ∧ LL.length ≤ 1000 ∧ (w = (2, 0) ∨ w = (9, 0) ∨ (w = (0, 0) ∧ LL.length * (cps [] (srtL (inl' n (op m n) e n))).length > 2000) ∨ (w = (0, 0) ∧ ¬ LL.length * (cps [] (srtL (inl' n (op m n) e n))).length > 2000 ∧ ∀ v ∈ LL, ∃ φ ψ, Hmo n (op m n) n (op m n) φ ∧ Inv2 n φ ψ ∧ v = tbm n φ)) := by
      by_cases h2 : n ≤ 24
      · by_cases h3 : (auW n m e).length ≤ 1000
        · have hA := autos_ok h h2 (by omega)
          rw [if_pos h3, if_pos h3] at hA
          have hl : (srtL (auW n m e)).length ≤ 1000 := by rw [← (srtL_perm _).length_eq]; exact h3
          refine ⟨_, _, hA, hl, ?_⟩
          by_cases h4 : (srtL (auW n m e)).length * (cps [] (srtL (inl' n (op m n) e n))).length > 2000
          · exact .inr (.inr (.inl ⟨rfl, h4⟩))
          · refine .inr (.inr (.inr ⟨rfl, h4, fun v hv => ?_⟩))
            obtain ⟨⟨φ, hφ, rfl⟩, ho⟩ := (auW_mem h v).1 ((srtL_perm _).mem_iff.2 hv)
            obtain ⟨ψ, hψ⟩ := Isom.inv2 (⟨hφ, ho⟩ : Isom n (op m n) n (op m n) φ)
            exact ⟨φ, ψ, hφ, hψ, rfl⟩
        · have hA := autos_ok h h2 (by omega)
          rw [if_neg h3, if_neg h3] at hA
          exact ⟨[], _, hA, by simp, .inr (.inl rfl)⟩
      · exact ⟨[], _, autos_big h (by omega) h2, by simp, .inl rfl⟩
    exact ⟨n, e, cps [] (srtL (inl' n (op m n) e n)), LL, zen n (op m n), w, h, hz, fun v hv => (hN v).1 hv, fun a ha => (hN _).2 ⟨a, ha, rfl⟩, inner_ok h (by omega), hC, a, b, c⟩
  · exact .inl h1

set_option maxHeartbeats 8000000 in
set_option maxRecDepth 20000 in
theorem homInner_c (N : Int) (m : List Int) (hm : m.length ≤ 17592186043904) : FnC Tryd.prog 5 [gp N m] (.bool true) := by
  have hG := gf_c N m (by omega)
  have key := inner_key N m hm
  refine fnc_of tab_ok Tryd.func5 rfl (by kernel_rfl) (by rw [Tryd.ntmps5]; exact Nat.le_add_left 1 _) ?_; rw [Tryd.ntmps5]
  refine qm ?_
  refine hk_region fun K hK => runs_eval tab_ok ?_
  simp only [ev0, evA, evB, evP, fl, gp, tab, simprocAttr, reduceCtorEq, reduceIte]
  refine fin_run ?_ (hK _ ?_) <;> clear hK <;> clear K
  · (first | exact trivial | omega | (simp only [In64] at *; omega) | (simp [In64] at *; omega) | (simp_all; done) | skip)
  refine qa (qm (qm ?_))
  refine hk_region fun K hK => runs_eval tab_ok ?_
  simp only [ev0, evA, evB, evP, fl, gp, tab, simprocAttr, reduceCtorEq, reduceIte]
  refine fin_stop trivial (runs_call (homBegun_c) rfl rfl rfl (by simp only [dstOk, Nat.reduceLT]) (by repeat (first | exact trivial | constructor)) (runs_eval tab_ok ?_))
  simp only [ev0, evA, evB, evP, fl, gp, tab, simprocAttr, reduceCtorEq, reduceIte]
  refine fin_run trivial (hK _ ?_) <;> clear hK <;> clear K
  refine qa ?_
  refine hk_cond rfl (fun hC1 => ?_) (fun hC1 => ?_)
  · cases hC1
  · (try simp only [nhs] at hC1)
    refine qh (qa (qm ?_))
    rcases key with hf | ⟨n, e, NN, LL, z, w, h, hI, hN1, hN2, cI, cZ, cA, hL, hw | hw | ⟨hw, hw2⟩ | ⟨hw, hw2, hA⟩⟩
    · have cI := inner_no N m (by omega) hf
      have cZ := centre_no N m (by omega) hf
      refine hk_region fun K hK => runs_eval tab_ok ?_
      simp only [ev0, evA, evB, evP, fl, gp, tab, simprocAttr, reduceCtorEq, reduceIte]
      refine fin_stop trivial (runs_call (cI) rfl rfl rfl (by simp only [dstOk, Nat.reduceLT]) (by repeat (first | exact trivial | constructor)) (runs_eval tab_ok ?_))
      simp only [ev0, evA, evB, evP, fl, gp, tab, simprocAttr, reduceCtorEq, reduceIte]
      refine fin_run ?_ (hK _ ?_) <;> clear hK <;> clear K
      · (first | exact trivial | omega | (simp only [In64] at *; omega) | (simp [In64] at *; omega) | (simp_all; done) | skip)
      refine qa (qm ?_)
      refine hk_region fun K hK => runs_eval tab_ok ?_
      simp only [ev0, evA, evB, evP, fl, gp, tab, simprocAttr, reduceCtorEq, reduceIte]
      refine fin_stop trivial (runs_call (cZ) rfl rfl rfl (by simp only [dstOk, Nat.reduceLT]) (by repeat (first | exact trivial | constructor)) (runs_eval tab_ok ?_))
      simp only [ev0, evA, evB, evP, fl, gp, tab, simprocAttr, reduceCtorEq, reduceIte]
      refine fin_run ?_ (hK _ ?_) <;> clear hK <;> clear K
      · (first | exact trivial | omega | (simp only [In64] at *; omega) | (simp [In64] at *; omega) | (simp_all; done) | skip)
      refine qa (qm (qm ?_))
      refine hk_region fun K hK => runs_eval tab_ok ?_
      simp only [ev0, evA, evB, evP, fl, gp, tab, simprocAttr, reduceCtorEq, reduceIte, decide_eq_false hf]
      refine fin_run ?_ (hK _ ?_) <;> clear hK <;> clear K
      · (first | exact trivial | omega | (simp only [In64] at *; omega) | (simp [In64] at *; omega) | (simp_all; done) | skip)
      refine qa ?_
      refine hk_cond rfl (fun hC2 => ?_) (fun hC2 => ?_)
      · refine qm ?_
        refine hk_region fun K hK => runs_eval tab_ok ?_
        simp only [ev0, evA, evB, evP, fl, gp, tab, simprocAttr, reduceCtorEq, reduceIte, decide_eq_false hf]
        refine fin_stop trivial (runs_call (hG) rfl rfl rfl (by simp only [dstOk, Nat.reduceLT]) (by repeat (first | exact trivial | constructor)) (runs_eval tab_ok ?_))
        simp only [ev0, evA, evB, evP, fl, gp, tab, simprocAttr, reduceCtorEq, reduceIte, decide_eq_false hf]
        refine fin_run ?_ (hK _ ?_) <;> clear hK <;> clear K
        · (first | exact trivial | omega | (simp only [In64] at *; omega) | (simp [In64] at *; omega) | (simp_all; done) | skip)
        refine qa (qk (qb ?_))
        simp only [Tryd.results5, enA, ev0, evA, evB, evP, fl, gp, tab, simprocAttr, reduceCtorEq, reduceIte]
        all_goals (rfl)
      · cases hC2
    · obtain rfl := h.1
      subst hw
      have hI' : ((NN.length : Nat) : Int) * ((thl n z).length : Nat) = (n : Nat) := by rw [← Int.natCast_mul, hI]
      have hn := h.2.1.big
      have hNN : NN.length ≤ n := Nat.le_of_dvd h.2.1.pos ⟨_, hI.symm⟩
      have hLN : LL.length * NN.length ≤ 1000 * 60 := Nat.mul_le_mul hL (by omega)
      refine hk_region fun K hK => runs_eval tab_ok ?_
      simp only [ev0, evA, evB, evP, fl, gp, tab, simprocAttr, reduceCtorEq, reduceIte]
      refine fin_stop trivial (runs_call (cI) rfl rfl rfl (by simp only [dstOk, Nat.reduceLT]) (by repeat (first | exact trivial | constructor)) (runs_eval tab_ok ?_))
      simp only [ev0, evA, evB, evP, fl, gp, tab, simprocAttr, reduceCtorEq, reduceIte]
      refine fin_run ?_ (hK _ ?_) <;> clear hK <;> clear K
      · (first | exact trivial | omega | (simp only [In64] at *; omega) | (simp [In64] at *; omega) | (simp_all; done) | skip)
      refine qa (qm ?_)
      refine hk_region fun K hK => runs_eval tab_ok ?_
      simp only [ev0, evA, evB, evP, fl, gp, tab, simprocAttr, reduceCtorEq, reduceIte]
      refine fin_stop trivial (runs_call (cZ) rfl rfl rfl (by simp only [dstOk, Nat.reduceLT]) (by repeat (first | exact trivial | constructor)) (runs_eval tab_ok ?_))
      simp only [ev0, evA, evB, evP, fl, gp, tab, simprocAttr, reduceCtorEq, reduceIte]
      refine fin_run ?_ (hK _ ?_) <;> clear hK <;> clear K
      · (first | exact trivial | omega | (simp only [In64] at *; omega) | (simp [In64] at *; omega) | (simp_all; done) | skip)
      refine qa (qm (qm ?_))
      refine hk_region fun K hK => runs_eval tab_ok ?_
      simp only [ev0, evA, evB, evP, fl, gp, tab, simprocAttr, reduceCtorEq, reduceIte]
      refine fin_run ?_ (hK _ ?_) <;> clear hK <;> clear K
      · (first | exact trivial | omega | (simp only [In64] at *; omega) | (simp [In64] at *; omega) | (simp_all; done) | skip)
      refine qa ?_
      refine hk_cond rfl (fun hC2 => ?_) (fun hC2 => ?_)
      · cases hC2
      · (try simp only [nhs] at hC2)
        refine qh (qa (qm (qm ?_)))
        refine hk_region fun K hK => runs_eval tab_ok ?_
        simp only [ev0, evA, evB, evP, fl, gp, tab, simprocAttr, reduceCtorEq, reduceIte, ll_length, il_length]
        refine fin_run ?_ (hK _ ?_) <;> clear hK <;> clear K
        · rw [hI']; simp only [In64]; omega
        refine qa ?_
        refine hk_cond rfl (fun hC3 => ?_) (fun hC3 => ?_)
        · (try simp only [nhs] at hC3)
          exact absurd hI' hC3
        · (try simp only [nhs] at hC3)
          refine qh (qa (qm ?_))
          refine hk_region fun K hK => runs_eval tab_ok ?_
          simp only [ev0, evA, evB, evP, fl, gp, tab, simprocAttr, reduceCtorEq, reduceIte]
          refine fin_stop trivial (runs_call (cA) rfl rfl rfl (by simp only [dstOk, Nat.reduceLT]) (by repeat (first | exact trivial | constructor)) (runs_eval tab_ok ?_))
          simp only [ev0, evA, evB, evP, fl, gp, tab, simprocAttr, reduceCtorEq, reduceIte]
          refine fin_run ?_ (hK _ ?_) <;> clear hK <;> clear K
          · (first | exact trivial | omega | (simp only [In64] at *; omega) | (simp [In64] at *; omega) | (simp_all; done) | skip)
          refine qa (qm (qm ?_))
          refine hk_region fun K hK => runs_eval tab_ok ?_
          simp only [ev0, evA, evB, evP, fl, gp, tab, simprocAttr, reduceCtorEq, reduceIte, ll_length]
          refine fin_run ?_ (hK _ ?_) <;> clear hK <;> clear K
          · (first | exact trivial | omega | (simp only [In64] at *; omega) | (simp [In64] at *; omega) | (simp_all; done) | skip)
          refine qa ?_
          refine hk_cond rfl (fun hC4 => ?_) (fun hC4 => ?_)
          · refine qm ?_
            refine hk_region fun K hK => runs_eval tab_ok ?_
            simp only [ev0, evA, evB, evP, fl, gp, tab, simprocAttr, reduceCtorEq, reduceIte]
            refine fin_run ?_ (hK _ ?_) <;> clear hK <;> clear K
            · (first | exact trivial | omega | (simp only [In64] at *; omega) | (simp [In64] at *; omega) | (simp_all; done) | skip)
            refine qa (qk (qb ?_))
            simp only [Tryd.results5, enA, ev0, evA, evB, evP, fl, gp, tab, simprocAttr, reduceCtorEq, reduceIte]
            all_goals (rfl)
          · cases hC4
    · obtain rfl := h.1
      subst hw
      have hI' : ((NN.length : Nat) : Int) * ((thl n z).length : Nat) = (n : Nat) := by rw [← Int.natCast_mul, hI]
      have hn := h.2.1.big
      have hNN : NN.length ≤ n := Nat.le_of_dvd h.2.1.pos ⟨_, hI.symm⟩
      have hLN : LL.length * NN.length ≤ 1000 * 60 := Nat.mul_le_mul hL (by omega)
      refine hk_region fun K hK => runs_eval tab_ok ?_
      simp only [ev0, evA, evB, evP, fl, gp, tab, simprocAttr, reduceCtorEq, reduceIte]
      refine fin_stop trivial (runs_call (cI) rfl rfl rfl (by simp only [dstOk, Nat.reduceLT]) (by repeat (first | exact trivial | constructor)) (runs_eval tab_ok ?_))
      simp only [ev0, evA, evB, evP, fl, gp, tab, simprocAttr, reduceCtorEq, reduceIte]
      refine fin_run ?_ (hK _ ?_) <;> clear hK <;> clear K
      · (first | exact trivial | omega | (simp only [In64] at *; omega) | (simp [In64] at *; omega) | (simp_all; done) | skip)
      refine qa (qm ?_)
      refine hk_region fun K hK => runs_eval tab_ok ?_
      simp only [ev0, evA, evB, evP, fl, gp, tab, simprocAttr, reduceCtorEq, reduceIte]
      refine fin_stop trivial (runs_call (cZ) rfl rfl rfl (by simp only [dstOk, Nat.reduceLT]) (by repeat (first | exact trivial | constructor)) (runs_eval tab_ok ?_))
      simp only [ev0, evA, evB, evP, fl, gp, tab, simprocAttr, reduceCtorEq, reduceIte]
      refine fin_run ?_ (hK _ ?_) <;> clear hK <;> clear K
      · (first | exact trivial | omega | (simp only [In64] at *; omega) | (simp [In64] at *; omega) | (simp_all; done) | skip)
      refine qa (qm (qm ?_))
      refine hk_region fun K hK => runs_eval tab_ok ?_
      simp only [ev0, evA, evB, evP, fl, gp, tab, simprocAttr, reduceCtorEq, reduceIte]
      refine fin_run ?_ (hK _ ?_) <;> clear hK <;> clear K
      · (first | exact trivial | omega | (simp only [In64] at *; omega) | (simp [In64] at *; omega) | (simp_all; done) | skip)
      refine qa ?_
      refine hk_cond rfl (fun hC2 => ?_) (fun hC2 => ?_)
      · cases hC2
      · (try simp only [nhs] at hC2)
        refine qh (qa (qm (qm ?_)))
        refine hk_region fun K hK => runs_eval tab_ok ?_
        simp only [ev0, evA, evB, evP, fl, gp, tab, simprocAttr, reduceCtorEq, reduceIte, ll_length, il_length]
        refine fin_run ?_ (hK _ ?_) <;> clear hK <;> clear K
        · rw [hI']; simp only [In64]; omega
        refine qa ?_
        refine hk_cond rfl (fun hC3 => ?_) (fun hC3 => ?_)
        · (try simp only [nhs] at hC3)
          exact absurd hI' hC3
        · (try simp only [nhs] at hC3)
          refine qh (qa (qm ?_))
          refine hk_region fun K hK => runs_eval tab_ok ?_
          simp only [ev0, evA, evB, evP, fl, gp, tab, simprocAttr, reduceCtorEq, reduceIte]
          refine fin_stop trivial (runs_call (cA) rfl rfl rfl (by simp only [dstOk, Nat.reduceLT]) (by repeat (first | exact trivial | constructor)) (runs_eval tab_ok ?_))
          simp only [ev0, evA, evB, evP, fl, gp, tab, simprocAttr, reduceCtorEq, reduceIte]
          refine fin_run ?_ (hK _ ?_) <;> clear hK <;> clear K
          · (first | exact trivial | omega | (simp only [In64] at *; omega) | (simp [In64] at *; omega) | (simp_all; done) | skip)
          refine qa (qm (qm ?_))
          refine hk_region fun K hK => runs_eval tab_ok ?_
          simp only [ev0, evA, evB, evP, fl, gp, tab, simprocAttr, reduceCtorEq, reduceIte, ll_length]
          refine fin_run ?_ (hK _ ?_) <;> clear hK <;> clear K
          · (first | exact trivial | omega | (simp only [In64] at *; omega) | (simp [In64] at *; omega) | (simp_all; done) | skip)
          refine qa ?_
          refine hk_cond rfl (fun hC4 => ?_) (fun hC4 => ?_)
          · refine qm ?_
            refine hk_region fun K hK => runs_eval tab_ok ?_
            simp only [ev0, evA, evB, evP, fl, gp, tab, simprocAttr, reduceCtorEq, reduceIte]
            refine fin_run ?_ (hK _ ?_) <;> clear hK <;> clear K
            · (first | exact trivial | omega | (simp only [In64] at *; omega) | (simp [In64] at *; omega) | (simp_all; done) | skip)
            refine qa (qk (qb ?_))
            simp only [Tryd.results5, enA, ev0, evA, evB, evP, fl, gp, tab, simprocAttr, reduceCtorEq, reduceIte]
            all_goals (rfl)
          · cases hC4
    · obtain rfl := h.1
      subst hw
      have hI' : ((NN.length : Nat) : Int) * ((thl n z).length : Nat) = (n : Nat) := by rw [← Int.natCast_mul, hI]
      have hn := h.2.1.big
      have hNN : NN.length ≤ n := Nat.le_of_dvd h.2.1.pos ⟨_, hI.symm⟩
      have hLN : LL.length * NN.length ≤ 1000 * 60 := Nat.mul_le_mul hL (by omega)
      refine hk_region fun K hK => runs_eval tab_ok ?_
      simp only [ev0, evA, evB, evP, fl, gp, tab, simprocAttr, reduceCtorEq, reduceIte]
      refine fin_stop trivial (runs_call (cI) rfl rfl rfl (by simp only [dstOk, Nat.reduceLT]) (by repeat (first | exact trivial | constructor)) (runs_eval tab_ok ?_))
      simp only [ev0, evA, evB, evP, fl, gp, tab, simprocAttr, reduceCtorEq, reduceIte]
      refine fin_run ?_ (hK _ ?_) <;> clear hK <;> clear K
      · (first | exact trivial | omega | (simp only [In64] at *; omega) | (simp [In64] at *; omega) | (simp_all; done) | skip)
      refine qa (qm ?_)
      refine hk_region fun K hK => runs_eval tab_ok ?_
      simp only [ev0, evA, evB, evP, fl, gp, tab, simprocAttr, reduceCtorEq, reduceIte]
      refine fin_stop trivial (runs_call (cZ) rfl rfl rfl (by simp only [dstOk, Nat.reduceLT]) (by repeat (first | exact trivial | constructor)) (runs_eval tab_ok ?_))
      simp only [ev0, evA, evB, evP, fl, gp, tab, simprocAttr, reduceCtorEq, reduceIte]
      refine fin_run ?_ (hK _ ?_) <;> clear hK <;> clear K
      · (first | exact trivial | omega | (simp only [In64] at *; omega) | (simp [In64] at *; omega) | (simp_all; done) | skip)
      refine qa (qm (qm ?_))
      refine hk_region fun K hK => runs_eval tab_ok ?_
      simp only [ev0, evA, evB, evP, fl, gp, tab, simprocAttr, reduceCtorEq, reduceIte]
      refine fin_run ?_ (hK _ ?_) <;> clear hK <;> clear K
      · (first | exact trivial | omega | (simp only [In64] at *; omega) | (simp [In64] at *; omega) | (simp_all; done) | skip)
      refine qa ?_
      refine hk_cond rfl (fun hC2 => ?_) (fun hC2 => ?_)
      · cases hC2
      · (try simp only [nhs] at hC2)
        refine qh (qa (qm (qm ?_)))
        refine hk_region fun K hK => runs_eval tab_ok ?_
        simp only [ev0, evA, evB, evP, fl, gp, tab, simprocAttr, reduceCtorEq, reduceIte, ll_length, il_length]
        refine fin_run ?_ (hK _ ?_) <;> clear hK <;> clear K
        · rw [hI']; simp only [In64]; omega
        refine qa ?_
        refine hk_cond rfl (fun hC3 => ?_) (fun hC3 => ?_)
        · (try simp only [nhs] at hC3)
          exact absurd hI' hC3
        · (try simp only [nhs] at hC3)
          refine qh (qa (qm ?_))
          refine hk_region fun K hK => runs_eval tab_ok ?_
          simp only [ev0, evA, evB, evP, fl, gp, tab, simprocAttr, reduceCtorEq, reduceIte]
          refine fin_stop trivial (runs_call (cA) rfl rfl rfl (by simp only [dstOk, Nat.reduceLT]) (by repeat (first | exact trivial | constructor)) (runs_eval tab_ok ?_))
          simp only [ev0, evA, evB, evP, fl, gp, tab, simprocAttr, reduceCtorEq, reduceIte]
          refine fin_run ?_ (hK _ ?_) <;> clear hK <;> clear K
          · (first | exact trivial | omega | (simp only [In64] at *; omega) | (simp [In64] at *; omega) | (simp_all; done) | skip)
          refine qa (qm (qm ?_))
          refine hk_region fun K hK => runs_eval tab_ok ?_
          simp only [ev0, evA, evB, evP, fl, gp, tab, simprocAttr, reduceCtorEq, reduceIte, ll_length]
          refine fin_run ?_ (hK _ ?_) <;> clear hK <;> clear K
          · simp only [In64]; rw [← Int.natCast_mul]; omega
          refine qa ?_
          refine hk_cond rfl (fun hC4 => ?_) (fun hC4 => ?_)
          · (try simp only [nhs] at hC4)
            refine qm ?_
            refine hk_region fun K hK => runs_eval tab_ok ?_
            simp only [ev0, evA, evB, evP, fl, gp, tab, simprocAttr, reduceCtorEq, reduceIte]
            refine fin_run ?_ (hK _ ?_) <;> clear hK <;> clear K
            · (first | exact trivial | omega | (simp only [In64] at *; omega) | (simp [In64] at *; omega) | (simp_all; done) | skip)
            refine qa (qk (qb ?_))
            simp only [Tryd.results5, enA, ev0, evA, evB, evP, fl, gp, tab, simprocAttr, reduceCtorEq, reduceIte]
            all_goals (rfl)
          · (try simp only [nhs] at hC4)
            exact absurd (by rw [← Int.natCast_mul]; omega) hC4
    · obtain rfl := h.1
      subst hw
      have hI' : ((NN.length : Nat) : Int) * ((thl n z).length : Nat) = (n : Nat) := by rw [← Int.natCast_mul, hI]
      have hn := h.2.1.big
      have hNN : NN.length ≤ n := Nat.le_of_dvd h.2.1.pos ⟨_, hI.symm⟩
      have hLN : LL.length * NN.length ≤ 1000 * 60 := Nat.mul_le_mul hL (by omega)
      refine hk_region fun K hK => runs_eval tab_ok ?_
      simp only [ev0, evA, evB, evP, fl, gp, tab, simprocAttr, reduceCtorEq, reduceIte]
      refine fin_stop trivial (runs_call (cI) rfl rfl rfl (by simp only [dstOk, Nat.reduceLT]) (by repeat (first | exact trivial | constructor)) (runs_eval tab_ok ?_))
      simp only [ev0, evA, evB, evP, fl, gp, tab, simprocAttr, reduceCtorEq, reduceIte]
      refine fin_run ?_ (hK _ ?_) <;> clear hK <;> clear K
      · (first | exact trivial | omega | (simp only [In64] at *; omega) | (simp [In64] at *; omega) | (simp_all; done) | skip)
      refine qa (qm ?_)
      refine hk_region fun K hK => runs_eval tab_ok ?_
      simp only [ev0, evA, evB, evP, fl, gp, tab, simprocAttr, reduceCtorEq, reduceIte]
      refine fin_stop trivial (runs_call (cZ) rfl rfl rfl (by simp only [dstOk, Nat.reduceLT]) (by repeat (first | exact trivial | constructor)) (runs_eval tab_ok ?_))
      simp only [ev0, evA, evB, evP, fl, gp, tab, simprocAttr, reduceCtorEq, reduceIte]
      refine fin_run ?_ (hK _ ?_) <;> clear hK <;> clear K
      · (first | exact trivial | omega | (simp only [In64] at *; omega) | (simp [In64] at *; omega) | (simp_all; done) | skip)
      refine qa (qm (qm ?_))
      refine hk_region fun K hK => runs_eval tab_ok ?_
      simp only [ev0, evA, evB, evP, fl, gp, tab, simprocAttr, reduceCtorEq, reduceIte]
      refine fin_run ?_ (hK _ ?_) <;> clear hK <;> clear K
      · (first | exact trivial | omega | (simp only [In64] at *; omega) | (simp [In64] at *; omega) | (simp_all; done) | skip)
      refine qa ?_
      refine hk_cond rfl (fun hC2 => ?_) (fun hC2 => ?_)
      · cases hC2
      · (try simp only [nhs] at hC2)
        refine qh (qa (qm (qm ?_)))
        refine hk_region fun K hK => runs_eval tab_ok ?_
        simp only [ev0, evA, evB, evP, fl, gp, tab, simprocAttr, reduceCtorEq, reduceIte, ll_length, il_length]
        refine fin_run ?_ (hK _ ?_) <;> clear hK <;> clear K
        · rw [hI']; simp only [In64]; omega
        refine qa ?_
        refine hk_cond rfl (fun hC3 => ?_) (fun hC3 => ?_)
        · (try simp only [nhs] at hC3)
          exact absurd hI' hC3
        · (try simp only [nhs] at hC3)
          refine qh (qa (qm ?_))
          refine hk_region fun K hK => runs_eval tab_ok ?_
          simp only [ev0, evA, evB, evP, fl, gp, tab, simprocAttr, reduceCtorEq, reduceIte]
          refine fin_stop trivial (runs_call (cA) rfl rfl rfl (by simp only [dstOk, Nat.reduceLT]) (by repeat (first | exact trivial | constructor)) (runs_eval tab_ok ?_))
          simp only [ev0, evA, evB, evP, fl, gp, tab, simprocAttr, reduceCtorEq, reduceIte]
          refine fin_run ?_ (hK _ ?_) <;> clear hK <;> clear K
          · (first | exact trivial | omega | (simp only [In64] at *; omega) | (simp [In64] at *; omega) | (simp_all; done) | skip)
          refine qa (qm (qm ?_))
          refine hk_region fun K hK => runs_eval tab_ok ?_
          simp only [ev0, evA, evB, evP, fl, gp, tab, simprocAttr, reduceCtorEq, reduceIte, ll_length]
          refine fin_run ?_ (hK _ ?_) <;> clear hK <;> clear K
          · simp only [In64]; rw [← Int.natCast_mul]; omega
          refine qa ?_
          refine hk_cond rfl (fun hC4 => ?_) (fun hC4 => ?_)
          · (try simp only [nhs] at hC4)
            exfalso; rw [← Int.natCast_mul] at hC4; omega
          · (try simp only [nhs] at hC4)
            refine qh (qa (qm ?_))
            refine hk_freeze 1 rfl rfl ?_
            refine hk_pure 3 rfl (Nat.zero_le _) ?_
            simp only [hset, List.drop_zero]
            refine hk_region fun K hK => runs_eval tab_ok ?_
            simp only [ev0, evA, evB, evP, fl, gp, tab, simprocAttr, reduceCtorEq, reduceIte]
            refine fin_run ?_ (hK _ ?_) <;> clear hK <;> clear K
            · (first | exact trivial | omega | (simp only [In64] at *; omega) | (simp [In64] at *; omega) | (simp_all; done) | skip)
            refine qa (qm (qm ?_))
            refine hk_region fun K hK => runs_eval tab_ok ?_
            simp only [ev0, evA, evB, evP, fl, gp, tab, simprocAttr, reduceCtorEq, reduceIte]
            refine fin_run trivial (hK _ ?_) <;> clear hK <;> clear K
            refine qa (ql ?_)
            refine hk_loop (ι := Nat) (fun i => ⟨142, [(1, .ptr 0 0), (3, .p (.ptr [.list (ll NN)])), (7, .p (.list (ll LL))), (9, .p (.fn 34 [.ptr [.list (ll NN)]])), (10, .p (.int .i64 i))], [.own [.p (.int .i64 n), .p (.list (il m))]]⟩) (fun i => i ≤ LL.length) (fun i => LL.length - i) 0 (Nat.zero_le _) [0] (by simp only [leq, leA, ev0, evA, evB, evP, fl, gp, tab, simprocAttr, reduceCtorEq, reduceIte] <;> first | trivial | trace_state) fun i hi => ?_
            refine qm (qm ?_)
            refine hk_region fun K hK => runs_eval tab_ok ?_
            simp only [ev0, evA, evB, evP, fl, gp, tab, simprocAttr, reduceCtorEq, reduceIte, ll_length]
            refine fin_run trivial (hK _ ?_) <;> clear hK <;> clear K
            refine qa ?_
            refine hk_cond rfl (fun hC5 => ?_) (fun hC5 => ?_)
            · (try simp only [nhs] at hC5)
              have hil : i < LL.length := by omega
              obtain ⟨φ, ψ, hφ, hψ, hv⟩ := hA (LL.getD i []) (by simp [List.getD, List.getElem?_eq_getElem hil])
              have htl := tbm_len n φ
              have htl2 := tbm_len n ψ
              have hP : PermOk (tbm n φ) := tbm_perm (by omega) hφ.lt fun x y hx hy he => by rw [← hψ.l x hx, he, hψ.l y hy]
              have G := h.2.2
              refine qh (qa (qm (ql (qm (qm ?_)))))
              refine hk_draw mixed (by kernel_rfl) fun K hK => runs_eval tab_ok ?_
              simp only [ev0, evA, evB, evP, fl, gp, tab, simprocAttr, reduceCtorEq, reduceIte, ll_length, ll_get hil, hv, il_length, htl]
              refine fin_stop ?_ (runs_call (permFault_c hP) rfl rfl rfl (by simp only [dstOk, Nat.reduceLT]) (by repeat (first | exact trivial | constructor)) (runs_eval tab_ok ?_))
              · (first | exact trivial | omega | (simp only [In64] at *; omega) | (simp [In64] at *; omega) | (simp_all; done) | skip)
              simp only [ev0, evA, evB, evP, fl, gp, tab, simprocAttr, reduceCtorEq, reduceIte, ll_length, ll_get hil, hv, il_length, htl]
              refine fin_run ?_ (hK _ ?_) <;> clear hK <;> clear K
              · (first | exact trivial | omega | (simp only [In64] at *; omega) | (simp [In64] at *; omega) | (simp_all; done) | skip)
              refine qa ?_
              refine hk_cond rfl (fun hC6 => ?_) (fun hC6 => ?_)
              · cases hC6
              · (try simp only [nhs] at hC6)
                refine qh (qa (qm ?_))
                refine hk_region fun K hK => runs_eval tab_ok ?_
                simp only [ev0, evA, evB, evP, fl, gp, tab, simprocAttr, reduceCtorEq, reduceIte, ll_length, ll_get hil, hv]
                refine fin_stop ?_ (runs_call (inverse_c (by omega) hφ.lt hψ) rfl rfl rfl (by simp only [dstOk, Nat.reduceLT]) (by repeat (first | exact trivial | constructor)) (runs_eval tab_ok ?_))
                · (first | exact trivial | omega | (simp only [In64] at *; omega) | (simp [In64] at *; omega) | (simp_all; done) | skip)
                simp only [ev0, evA, evB, evP, fl, gp, tab, simprocAttr, reduceCtorEq, reduceIte, ll_length, ll_get hil, hv]
                refine fin_run ?_ (hK _ ?_) <;> clear hK <;> clear K
                · (first | exact trivial | omega | (simp only [In64] at *; omega) | (simp [In64] at *; omega) | (simp_all; done) | skip)
                refine qa (qm ?_)
                refine hk_region fun K hK => runs_eval tab_ok ?_
                simp only [ev0, evA, evB, evP, fl, gp, tab, simprocAttr, reduceCtorEq, reduceIte]
                refine fin_run trivial (hK _ ?_) <;> clear hK <;> clear K
                refine qa (ql ?_)
                refine hk_loop (ι := Nat) (fun k => ⟨142, [(1, .ptr 0 0), (3, .p (.ptr [.list (ll NN)])), (7, .p (.list (ll LL))), (9, .p (.fn 34 [.ptr [.list (ll NN)]])), (10, .p (.int .i64 i)), (11, .p (.list (il (tbm n ψ)))), (12, .p (.int .i64 k))], [.own [.p (.int .i64 n), .p (.list (il m))]]⟩) (fun k => k ≤ NN.length) (fun k => NN.length - k) 0 (Nat.zero_le _) [0] (by simp only [leq, leA, ev0, evA, evB, evP, fl, gp, tab, simprocAttr, reduceCtorEq, reduceIte] <;> first | trivial | trace_state) fun k hk => ?_
                refine qm (qm ?_)
                refine hk_region fun K hK => runs_eval tab_ok ?_
                simp only [ev0, evA, evB, evP, fl, gp, tab, simprocAttr, reduceCtorEq, reduceIte, ll_length]
                refine fin_run ?_ (hK _ ?_) <;> clear hK <;> clear K
                · (first | exact trivial | omega | (simp only [In64] at *; omega) | (simp [In64] at *; omega) | (simp_all; done) | skip)
                refine qa ?_
                refine hk_cond rfl (fun hC7 => ?_) (fun hC7 => ?_)
                · (try simp only [nhs] at hC7)
                  have hkl : k < NN.length := by omega
                  obtain ⟨a, ha, hva⟩ := hN1 (NN.getD k []) (by simp [List.getD, List.getElem?_eq_getElem hkl])
                  have hal : (inr n (op m n) e a).length = n := tbm_len _ _
                  have hT1 := thenR_c (tbm n ψ) (inr n (op m n) e a) (fun x hx => by rw [hal]; exact tbm_rng hψ.lt x hx) (by omega) (by omega)
                  have hT2 : FnC Tryd.prog 37 [.list (il (cmpl (tbm n ψ) (inr n (op m n) e a))), .list (il (tbm n φ))] (.list (il (inr n (op m n) e (φ a)))) := by
                    rw [← inr_conj G hφ hψ ha]
                    have e1 : cmpl (tbm n ψ) (inr n (op m n) e a) = tbm n fun x => cjr n (op m n) e (ψ x) a := cmpl_tbm hψ.lt
                    refine thenR_c _ _ (fun x hx => ?_) (by rw [e1, tbm_len]; omega) (by omega)
                    rw [e1] at hx
                    rw [htl]
                    exact tbm_rng (fun x hx => G.cjr_lt (hψ.lt x hx) ha) x hx
                  have hT3 := hin_c NN (by omega) (fun w hw => by obtain ⟨b, _, rfl⟩ := hN1 w hw; unfold inr; rw [tbm_len]; omega) _ (hN2 _ (hφ.lt a ha))
                  refine qh (qa (qm (ql (qm ?_))))
                  refine hk_draw2 mixed fun K hK => runs2_eval tab_ok ?_
                  simp only [evD, ev0, evA, evB, evP, fl, gp, tab, simprocAttr, reduceCtorEq, reduceIte, ll_length, ll_get hkl, hva, ll_get hil, hv, il_length, hal]
                  refine fin2_stop ?_ (runs2_call (permFault_c (inr_perm G (by omega) ha)) rfl rfl rfl rfl (by simp only [dstOk, Nat.reduceLT]) (by repeat (first | exact trivial | constructor)) (runs2_eval tab_ok ?_))
                  · (first | exact trivial | omega | (simp only [In64] at *; omega) | (simp [In64] at *; omega) | (simp_all; done) | skip)
                  simp only [evD, ev0, evA, evB, evP, fl, gp, tab, simprocAttr, reduceCtorEq, reduceIte, ll_length, ll_get hkl, hva, ll_get hil, hv, il_length, hal]
                  refine fin2_stop ?_ (runs2_call (hT1) rfl rfl rfl rfl (by simp only [dstOk, Nat.reduceLT]) (by repeat (first | exact trivial | constructor)) (runs2_eval tab_ok ?_))
                  · (first | exact trivial | omega | (simp only [In64] at *; omega) | (simp [In64] at *; omega) | (simp_all; done) | skip)
                  simp only [evD, ev0, evA, evB, evP, fl, gp, tab, simprocAttr, reduceCtorEq, reduceIte, ll_length, ll_get hkl, hva, ll_get hil, hv, il_length, hal]
                  refine fin2_stop ?_ (runs2_call (hT2) rfl rfl rfl rfl (by simp only [dstOk, Nat.reduceLT]) (by repeat (first | exact trivial | constructor)) (runs2_eval tab_ok ?_))
                  · (first | exact trivial | omega | (simp only [In64] at *; omega) | (simp [In64] at *; omega) | (simp_all; done) | skip)
                  simp only [evD, ev0, evA, evB, evP, fl, gp, tab, simprocAttr, reduceCtorEq, reduceIte, ll_length, ll_get hkl, hva, ll_get hil, hv, il_length, hal]
                  refine fin2_stop trivial (runs2_call (hT3) rfl rfl rfl rfl (by simp only [dstOk, Nat.reduceLT]) (by repeat (first | exact trivial | constructor)) (runs2_eval tab_ok ?_))
                  simp only [evD, ev0, evA, evB, evP, fl, gp, tab, simprocAttr, reduceCtorEq, reduceIte, ll_length, ll_get hkl, hva, ll_get hil, hv, il_length, hal]
                  refine fin2_run ?_ (hK _ _ (by first | kernel_rfl | rfl) ?_) <;> clear hK <;> clear K
                  · (first | exact trivial | omega | (simp only [In64] at *; omega) | (simp [In64] at *; omega) | (simp_all; done) | skip)
                  refine qa ?_
                  refine hk_cond rfl (fun hC8 => ?_) (fun hC8 => ?_)
                  · cases hC8
                  · (try simp only [nhs] at hC8)
                    refine qh (qd (qa ?_))
                    refine hk_region fun K hK => runs_eval tab_ok ?_
                    simp only [ev0, evA, evB, evP, fl, gp, tab, simprocAttr, reduceCtorEq, reduceIte]
                    refine fin_run ?_ (hK _ ?_) <;> clear hK <;> clear K
                    · (first | exact trivial | omega | (simp only [In64] at *; omega) | (simp [In64] at *; omega) | (simp_all; done) | skip)
                    refine qa ?_
                    refine ⟨k + 1, [0], by omega, by omega, ?_⟩
                    simp only [leq, leA, ev0, evA, evB, evP, fl, gp, tab, simprocAttr, reduceCtorEq, reduceIte] <;> first | trivial | omega | trace_state
                · (try simp only [nhs] at hC7)
                  refine qj (qc (qc (qf (qd (qa ?_)))))
                  refine hk_region fun K hK => runs_eval tab_ok ?_
                  simp only [ev0, evA, evB, evP, fl, gp, tab, simprocAttr, reduceCtorEq, reduceIte]
                  refine fin_run ?_ (hK _ ?_) <;> clear hK <;> clear K
                  · (first | exact trivial | omega | (simp only [In64] at *; omega) | (simp [In64] at *; omega) | (simp_all; done) | skip)
                  refine qa ?_
                  refine ⟨i + 1, [0], by omega, by omega, ?_⟩
                  simp only [leq, leA, ev0, evA, evB, evP, fl, gp, tab, simprocAttr, reduceCtorEq, reduceIte] <;> first | trivial | omega | trace_state
            · (try simp only [nhs] at hC5)
              refine qj (qc (qc (qf (qa (qm ?_)))))
              refine hk_region fun K hK => runs_eval tab_ok ?_
              simp only [ev0, evA, evB, evP, fl, gp, tab, simprocAttr, reduceCtorEq, reduceIte]
              refine fin_run trivial (hK _ ?_) <;> clear hK <;> clear K
              refine qa (qk ?_)
              simp only [Tryd.results5, enA, ev0, evA, evB, evP, fl, gp, tab, simprocAttr, reduceCtorEq, reduceIte]
              all_goals (rfl)
end Go.Proofs.YtboadfahlflmhaaDoor

/-
  What the listed package-level variable gives a walk: a table of numbers. Conditions: none; written by a program of this repo.
-/
set_option linter.all false
namespace Go.Proofs.YtboadfahlflmhaaDoor
open Go.Pv Go.ChangeShapes Go.WideShapes Go.ChangeAt Go.WideElems Go.RowKit

theorem own : ownKnob Tryd.prog.godebug = none := by kernel_rfl
theorem laidOut : laidOutB Tryd.prog = true := by kernel_rfl
theorem gG : Tryd.prog.globalNamed "math/bits.deBruijn64tab" = some 0 := by kernel_rfl
theorem tG : (Tryd.prog.globals[0]?).map (·.type) = some 135 := by kernel_rfl
theorem cG : Tryd.prog.cellsOf 5 = 1 := by kernel_rfl
/-- The door's own heap meets the condition. -/
theorem door_met (os : Os) (args : Array Value) : laidMetH Tryd.prog [("math/bits.deBruijn64tab", Rows.laid_math_bits_deBruijn64tab)] ((World.doorLaid Tryd.prog 4000 os).forCall (fun _ _ => 0) ⟨#[], args, []⟩).memory :=
  laidMetH_of_parts3 (fuel := 8) (laidMet_of_run' 8 (by kernel_rfl) (by kernel_rfl)) (by kernel_rfl) (by kernel_rfl)

def convD : DataW Unit → PV
  | .lit (.int k n) => .int k n
  | _ => .nil
def datum : List (DataW Unit) → List PV := List.map convD
theorem glob_datum : (match (Rows.laid_math_bits_deBruijn64tab : DataW Unit) with | .agg l => datum l | _ => []) = glob0 := rfl

theorem laid_ok {W : World} (h : laidMetH Tryd.prog [("math/bits.deBruijn64tab", Rows.laid_math_bits_deBruijn64tab)] W) : LaidW (fun b => b < W.heap.size) W := by
  refine ⟨fun b h => h, fun g l hg => ?_⟩
  have hg2 : g = 0 ∧ l = glob0 := by
    unfold gv at hg
    by_cases e : g = 0
    · subst e; exact ⟨rfl, (Option.some.inj hg).symm⟩
    · have : (g == 0) = false := by simpa using e
      rw [this] at hg; simp at hg
  obtain ⟨rfl, rfl⟩ := hg2
  rw [MakeChecks.laidMetH_plain _ _ _ (by kernel_rfl)] at h
  obtain ⟨ps, ⟨g0, t0, cs0, f0, p0, q0, hg0, ht0, hv0, hd0, _, _⟩, _, _⟩ := h
  obtain rfl := Option.some.inj (gG.symm.trans hg0)
  obtain rfl := Option.some.inj (tG.symm.trans ht0)
  obtain ⟨xs, m1, rfl, hx1, hlen, hn3, hel⟩ := DataW.trod_array Tryd.underlying135 hd0
  have hd1 : Rows.laid_math_bits_deBruijn64tab = DataW.agg (xs.map (·.1)) := congrArg Prod.fst hx1
  have hgl : glob0 = datum (xs.map (·.1)) := by
    rw [← glob_datum, hd1]
  have key : ∀ c (h : c < glob0.length), W.cell? ⟨0, 0 + c, none⟩ = some ((cs0[c]?).getD undef) ∧ Reads (fun b => b < W.heap.size) W glob0[c] ((cs0[c]?).getD undef) := by
    intro c hc
    have hc2 : c < 64 := Nat.lt_of_lt_of_le hc (by decide)
    have hcx : c < xs.length := by omega
    have h1 := hel c hc2
    rw [List.getElem?_eq_getElem hcx] at h1
    obtain ⟨k, e1, e2, _⟩ := DataW.trod_int Tryd.underlying5 h1
    rw [cG] at e1
    have e3 : cs0.toList[c]? = some (.int .u8 k) := by
      have := congrArg (fun l => l[0]?) e1
      simpa [List.getElem?_take, List.getElem?_drop] using this
    have e4 : cs0[c]? = some (.int .u8 k) := by simpa using e3
    have e5 : glob0[c] = .int .u8 k := by
      have : glob0[c]? = (datum (xs.map (·.1)))[c]? := by rw [hgl]
      rw [List.getElem?_eq_getElem hc] at this
      simp only [datum, List.getElem?_map, List.getElem?_eq_getElem hcx, Option.map_some, Option.some.injEq] at this
      exact this.trans (by rw [e2]; rfl)
    refine ⟨?_, ?_⟩
    · rw [e4, Nat.zero_add, World.var?_cell gG hv0 c, e4]; rfl
    · rw [e4]
      exact e5 ▸ (Reads.int .u8 k)
  refine .ptr _ _ _ (fun c => (cs0[c]?).getD undef) ?_ (fun c hc => (key c hc).1) fun c hc => (key c hc).2
  have := (key 0 (by decide)).1
  unfold World.cell? at this
  rcases Nat.lt_or_ge 0 W.heap.size with h | h
  · exact h
  · exfalso
    rw [Array.getElem?_eq_none h] at this
    simp at this
end Go.Proofs.YtboadfahlflmhaaDoor
