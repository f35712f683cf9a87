/-
  Texts of this proof, one behind the other: what each says stands at its head. Conditions: none.
-/
import Derived.Test.YtboadfahlflmhaaB6
import Derived.Test.YtboadfahlflmhaaB5
import Derived.Test.YtboadfahlflmhaaB4
import Derived.ChangeKeysEq

/-
  Walks: the reference's Homs, for a seat without sets. Conditions: none.
-/
set_option linter.all false
namespace Go.Proofs.Ytboadfahlflmhaa
open Go.Pv

def srtL (xs : List (List Int)) : List (List Int) := xs.mergeSort fun v w => decide (¬ cmpL w v < 0)
theorem srtL_perm (xs : List (List Int)) : xs.Perm (srtL xs) := (List.mergeSort_perm xs _).symm
theorem srtL_sorted (xs : List (List Int)) : (srtL xs).Pairwise fun v w => ¬ cmpL w v < 0 := by
  have := List.pairwise_mergeSort (le := fun v w : List Int => decide (¬ cmpL w v < 0)) (fun a b c h1 h2 => by
    simp only [decide_eq_true_eq] at *
    exact cmpL_ntrans _ _ _ h2 h1) (fun a b => by
    simp only [Bool.or_eq_true, decide_eq_true_eq]
    by_cases h : cmpL b a < 0
    · right
      intro h2
      have := cmpL_trans _ _ _ h h2
      rw [cmpL_self] at this; exact absurd this (by decide)
    · exact .inl h) xs
  exact this.imp fun h => by simpa using h
/- maps that keep products -/

section
variable {n e N d : Nat} {f g : Nat → Nat → Nat}
theorem Hmo.pw (G : Grp n f e) (K : Grp N g d) {φ : Nat → Nat} (h : Hmo n f N g φ) {a : Nat} (ha : a < n) : ∀ k, φ (pw f e a k) = pw g d (φ a) k
  | 0 => h.one G K
  | k + 1 => by
    show φ (f (Go.Proofs.Ytboadfahlflmhaa.pw f e a k) a) = g _ _
    rw [h.mul _ _ (G.pw_lt ha k) ha, Hmo.pw G K h ha k]
theorem Hmo.ord (G : Grp n f e) (K : Grp N g d) {φ : Nat → Nat} (h : Hmo n f N g φ) {a : Nat} (ha : a < n) : ord N g d (φ a) ∣ ord n f e a := by
  rw [← K.pw_eq_one (h.lt a ha), ← h.pw G K ha, G.pw_ord ha, h.one G K]
theorem Hmo.same (G : Grp n f e) (K : Grp N g d) {L : List Nat} (hgen : ∀ a, a < n → Gen n f e (fun x => decide (x ∈ L)) a) {φ ψ : Nat → Nat} (h : Hmo n f N g φ) (h' : Hmo n f N g ψ) (heq : ∀ x ∈ L, φ x = ψ x) : ∀ a, a < n → φ a = ψ a := fun a ha => by
  have key : a < n ∧ φ a = ψ a := Gen.least (H := fun a => a < n ∧ φ a = ψ a) ⟨G.el, by rw [h.one G K, h'.one G K]⟩ (fun c b hc hb hp ih => ⟨G.cl _ _ ih.1 hb, by
    rw [h.mul _ _ ih.1 hb, h'.mul _ _ ih.1 hb, ih.2, heq b (by simpa using hp)]⟩) (hgen a ha)
  exact key.2
theorem tbm_congr {φ ψ : Nat → Nat} (h : ∀ a, a < n → φ a = ψ a) : tbm n φ = tbm n ψ := List.map_congr_left fun a ha => by rw [h a (List.mem_range.1 ha)]
theorem tbm_inj {φ ψ : Nat → Nat} (h : tbm n φ = tbm n ψ) : ∀ a, a < n → φ a = ψ a := fun a ha => by
  have h1 := tbm_get (φ := φ) ha
  rw [h, tbm_get ha] at h1
  omega
theorem Hmo.congr (G : Grp n f e) {φ ψ : Nat → Nat} (h : Hmo n f N g φ) (he : ∀ a, a < n → φ a = ψ a) : Hmo n f N g ψ :=
  ⟨fun a ha => by rw [← he a ha]; exact h.lt a ha, fun a b ha hb => by rw [← he _ (G.cl _ _ ha hb), ← he a ha, ← he b hb]; exact h.mul a b ha hb⟩

/-- What the search hands out: the maps that start so. -/
theorem hsq_iff (G : Grp n f e) (K : Grp N g d) {L : List Nat} (hL : ∀ x ∈ L, x < n) (hgen : ∀ a, a < n → Gen n f e (fun x => decide (x ∈ L)) a) (w : List Int) : ∀ (r t : List Nat), t.length ≤ L.length → L.drop t.length = r →
    (w ∈ hsq n f e N g d L r t ↔ ∃ φ, Hmo n f N g φ ∧ w = tbm n φ ∧ ∀ i, i < t.length → φ (L.getD i 0) = t.getD i 0)
  | [], t, h1, h2 => by
    have htl : t.length = L.length := by
      have := congrArg List.length h2
      simp at this; omega
    unfold hsq hlf
    constructor
    · intro h
      split at h
      · rename_i hex
        have hs := Classical.choose_spec hex
        exact ⟨_, hs.1, by simpa using h, fun i hi => hs.2 i (by omega)⟩
      · simp at h
    · rintro ⟨φ, k1, rfl, k2⟩
      have hex : ∃ φ, Ext n f N g L t φ := ⟨φ, k1, fun i hi => k2 i (by omega)⟩
      rw [dif_pos hex]
      have hs := Classical.choose_spec hex
      rw [List.mem_singleton]
      refine tbm_congr (Hmo.same G K hgen k1 hs.1 fun x hx => ?_)
      obtain ⟨i, hi, rfl⟩ := List.getElem_of_mem hx
      have e1 : L.getD i 0 = L[i] := by simp [List.getD, List.getElem?_eq_getElem hi]
      rw [← e1, k2 i (by omega), hs.2 i hi]
  | x :: r, t, h1, h2 => by
    have htl : t.length < L.length := by
      have := congrArg List.length h2
      simp at this; omega
    have hd : L.drop t.length = L[t.length] :: L.drop (t.length + 1) := List.drop_eq_getElem_cons htl
    rw [h2] at hd
    obtain ⟨e1, e2⟩ := List.cons.inj hd
    have ex : L.getD t.length 0 = x := by simp [List.getD, List.getElem?_eq_getElem htl, e1]
    have hxn : x < n := by rw [e1]; exact hL _ (List.getElem_mem htl)
    unfold hsq
    rw [List.mem_flatMap]
    constructor
    · rintro ⟨y, hy, hw⟩
      obtain ⟨φ, k1, k2, k3⟩ := (hsq_iff G K hL hgen w r (t ++ [y]) (by simp; omega) (by rw [List.length_append]; exact e2.symm)).1 hw
      refine ⟨φ, k1, k2, fun i hi => ?_⟩
      have := k3 i (by simp; omega)
      rw [this]
      simp [List.getD, List.getElem?_append_left hi]
    · rintro ⟨φ, k1, k2, k3⟩
      refine ⟨φ x, List.mem_filter.2 ⟨List.mem_range.2 (k1.lt x hxn), by simpa using Nat.mod_eq_zero_of_dvd (k1.ord G K hxn)⟩, ?_⟩
      refine (hsq_iff G K hL hgen w r (t ++ [φ x]) (by simp; omega) (by rw [List.length_append]; exact e2.symm)).2 ⟨φ, k1, k2, fun i hi => ?_⟩
      by_cases hit : i < t.length
      · rw [k3 i hit]; simp [List.getD, List.getElem?_append_left hit]
      · obtain rfl : i = t.length := by simp at hi; omega
        rw [ex]; simp [List.getD]
theorem hsq_nodup (G : Grp n f e) (K : Grp N g d) {L : List Nat} (hL : ∀ x ∈ L, x < n) (hgen : ∀ a, a < n → Gen n f e (fun x => decide (x ∈ L)) a) : ∀ (r t : List Nat), t.length ≤ L.length → L.drop t.length = r → (hsq n f e N g d L r t).Nodup
  | [], t, h1, h2 => by
    unfold hsq hlf
    split <;> simp
  | x :: r, t, h1, h2 => by
    have htl : t.length < L.length := by
      have := congrArg List.length h2
      simp at this; omega
    have hd : L.drop t.length = L[t.length] :: L.drop (t.length + 1) := List.drop_eq_getElem_cons htl
    rw [h2] at hd
    obtain ⟨e1, e2⟩ := List.cons.inj hd
    have ex : L.getD t.length 0 = x := by simp [List.getD, List.getElem?_eq_getElem htl, e1]
    have hxn : x < n := by rw [e1]; exact hL _ (List.getElem_mem htl)
    have hl2 : ∀ y, (t ++ [y]).length ≤ L.length ∧ L.drop (t ++ [y]).length = r := fun y => ⟨by simp; omega, by rw [List.length_append]; exact e2.symm⟩
    unfold hsq List.Nodup
    rw [List.pairwise_flatMap]
    refine ⟨fun y _ => hsq_nodup G K hL hgen r (t ++ [y]) (hl2 y).1 (hl2 y).2, ?_⟩
    refine List.Pairwise.imp (R := fun a b => a ≠ b) (fun {y z} hyz w hw w' hw' he => hyz ?_) (List.Pairwise.filter _ List.nodup_range)
    subst he
    obtain ⟨φ, _, k2, k3⟩ := (hsq_iff G K hL hgen w r (t ++ [y]) (hl2 y).1 (hl2 y).2).1 hw
    obtain ⟨ψ, _, q2, q3⟩ := (hsq_iff G K hL hgen w r (t ++ [z]) (hl2 z).1 (hl2 z).2).1 hw'
    have h1 := tbm_inj (k2.symm.trans q2) x hxn
    have h3 := k3 t.length (by simp)
    have h4 := q3 t.length (by simp)
    rw [ex] at h3 h4
    simp [List.getD] at h3 h4
    omega
end

section
variable {n e N d : Nat} {m M : List Int}
/-- All homomorphisms, in some order. -/
noncomputable def hmW (n : Nat) (m : List Int) (e N : Nat) (M : List Int) (d : Nat) : List (List Int) := hsq n (op m n) e N (op M N) d (gl n (op m n) e n) (gl n (op m n) e n) []
theorem hmW_mem (h : GT n m n e) (h' : GT N M N d) (w : List Int) : w ∈ hmW n m e N M d ↔ ∃ φ, Hmo n (op m n) N (op M N) φ ∧ w = tbm n φ := by
  unfold hmW
  refine (hsq_iff h.2.2 h'.2.2 (fun x hx => gl_lt n (op m n) e n x hx) (gl_gen n (op m n) e h.2.2) w _ [] (Nat.zero_le _) rfl).trans ?_
  exact ⟨fun ⟨φ, a, b, _⟩ => ⟨φ, a, b⟩, fun ⟨φ, a, b⟩ => ⟨φ, a, b, fun i hi => absurd hi (Nat.not_lt_zero _)⟩⟩
theorem hmW_nodup (h : GT n m n e) (h' : GT N M N d) : (hmW n m e N M d).Nodup :=
  hsq_nodup h.2.2 h'.2.2 (fun x hx => gl_lt n (op m n) e n x hx) (gl_gen n (op m n) e h.2.2) _ [] (Nat.zero_le _) rfl
end

def tn (l : List Int) : List Nat := l.map Int.toNat
theorem tn_len (l : List Int) : (tn l).length = l.length := by simp [tn]
theorem nl_tn {l : List Int} (h : ∀ i, i < l.length → 0 ≤ l.getD i 0) : nl (tn l) = l := by
  refine List.ext_getElem (by rw [nl_len, tn_len]) fun i h1 h2 => ?_
  have := h i h2
  simp only [List.getD, List.getElem?_eq_getElem h2, Option.getD_some] at this
  simp [nl, tn]
  omega
theorem thl_full (n : Nat) (q : Nat → Bool) : (∀ a, a < n → q a = true) ↔ (thl n q).length = n := by
  constructor
  · intro h
    rw [thl_len]
    unfold thn'
    rw [List.filter_eq_self.2 fun a ha => h a (List.mem_range.1 ha), List.length_range]
  · intro h a ha
    rw [thl_len] at h
    unfold thn' at h
    refine Classical.byContradiction fun hq => ?_
    have := List.length_filter_lt_length_iff_exists.2 ⟨a, List.mem_range.2 ha, hq⟩
    rw [List.length_range] at this
    omega
/- rising -/

/-- Less, letter by letter. -/
def lsb : List Int → List Int → Bool
  | a :: r, b :: t => bif decide (a = b) then lsb r t else decide (a < b)
  | _, _ => false
theorem lsb_at {v w : List Int} : ∀ {i : Nat}, (∀ j, j < i → v.getD j 0 = w.getD j 0) → i < v.length → i < w.length → ¬ v.getD i 0 = w.getD i 0 → lsb v w = decide (v.getD i 0 < w.getD i 0) := by
  intro i
  induction i generalizing v w with
  | zero =>
    intro _ hv hw hne
    cases v with
    | nil => simp at hv
    | cons a r =>
      cases w with
      | nil => simp at hw
      | cons b t =>
        have hne' : ¬ a = b := by simpa using hne
        unfold lsb; rw [decide_eq_false hne']; simp
  | succ i ih =>
    intro hall hv hw hne
    cases v with
    | nil => simp at hv
    | cons a r =>
      cases w with
      | nil => simp at hw
      | cons b t =>
        have hab : a = b := by simpa using hall 0 (by omega)
        unfold lsb; rw [decide_eq_true hab]
        have := ih (v := r) (w := t) (fun j hj => by simpa using hall (j + 1) (by omega)) (by simpa using hv) (by simpa using hw) (by simpa using hne)
        simpa using this
theorem lsb_eq {v w : List Int} (hall : ∀ j, j < v.length → v.getD j 0 = w.getD j 0) : lsb v w = false := by
  induction v generalizing w with
  | nil => rfl
  | cons a r ih =>
    cases w with
    | nil => rfl
    | cons b t =>
      have hab : a = b := by simpa using hall 0 (by simp)
      unfold lsb; rw [decide_eq_true hab]
      exact ih fun j hj => by simpa using hall (j + 1) (by simpa using hj)
theorem less_r (v w : List Int) (hv : v.length ≤ 1000000) (hl : w.length = v.length) : FnC Try.prog 53 [.list (il v), .list (il w)] (.bool (lsb v w)) := by
  refine fnc_of tab_ok Try.func53 rfl (by kernel_rfl) (by rw [Try.ntmps53]; exact Nat.le_add_left 2 _) ?_; rw [Try.ntmps53]
  refine qm ?_
  refine hk_region fun K hK => runs_eval tab_ok ?_
  simp only [ev0, evA, evB, evP, fl, gp, tab, simprocAttr, reduceCtorEq, reduceIte]
  refine fin_run trivial (hK _ ?_) <;> clear hK <;> clear K
  refine qa (qm (qm ?_))
  refine hk_region fun K hK => runs_eval tab_ok ?_
  simp only [ev0, evA, evB, evP, fl, gp, tab, simprocAttr, reduceCtorEq, reduceIte]
  refine fin_run trivial (hK _ ?_) <;> clear hK <;> clear K
  refine qa (ql ?_)
  refine hk_loop (ι := Nat) (fun i => ⟨30, [(0, .p (.list (il v))), (1, .p (.list (il w))), (5, .p (.int .i64 i))], []⟩) (fun i => i ≤ v.length ∧ ∀ j, j < i → v.getD j 0 = w.getD j 0) (fun i => v.length - i) 0 ⟨Nat.zero_le _, fun j hj => by omega⟩ [] (by simp only [leq, leA, ev0, evA, evB, evP, fl, gp, tab, simprocAttr, reduceCtorEq, reduceIte] <;> trivial) fun i hi => ?_
  obtain ⟨hi1, hi2⟩ := hi
  refine qm (qm ?_)
  refine hk_region fun K hK => runs_eval tab_ok ?_
  simp only [ev0, evA, evB, evP, fl, gp, tab, simprocAttr, reduceCtorEq, reduceIte]
  refine fin_run trivial (hK _ ?_) <;> clear hK <;> clear K
  refine qa ?_
  refine hk_cond rfl (fun hC1 => ?_) (fun hC1 => ?_)
  · (try simp only [nhs] at hC1)
    have hlt : i < v.length := by omega
    have hlw : i < w.length := by omega
    refine qh (qa (qm (ql (qm ?_))))
    refine hk_draw mixed (by kernel_rfl) fun K hK => runs_eval tab_ok ?_
    simp only [ev0, evA, evB, evP, fl, gp, tab, simprocAttr, reduceCtorEq, reduceIte, il_get hlt, il_get hlw]
    refine fin_run ?_ (hK _ ?_) <;> clear hK <;> clear K
    · (first | exact trivial | omega | (simp only [In64] at *; omega) | (simp [In64] at *; omega) | (simp_all; done) | skip)
    refine qa ?_
    refine hk_cond rfl (fun hC2 => ?_) (fun hC2 => ?_)
    · (try simp only [nhs] at hC2)
      refine qm ?_
      refine hk_draw mixed (by kernel_rfl) fun K hK => runs_eval tab_ok ?_
      simp only [ev0, evA, evB, evP, fl, gp, tab, simprocAttr, reduceCtorEq, reduceIte, il_get hlt, il_get hlw]
      refine fin_run ?_ (hK _ ?_) <;> clear hK <;> clear K
      · (first | exact trivial | omega | (simp only [In64] at *; omega) | (simp [In64] at *; omega) | (simp_all; done) | skip)
      refine qa (qk (qe (qb (qb (qe (qb ?_))))))
      simp only [Try.results53, enA, ev0, evA, evB, evP, fl, gp, tab, simprocAttr, reduceCtorEq, reduceIte]
      all_goals (rw [lsb_at hi2 hlt hlw hC2])
    · (try simp only [nhs] at hC2)
      refine qh (qd (qa ?_))
      refine hk_region fun K hK => runs_eval tab_ok ?_
      simp only [ev0, evA, evB, evP, fl, gp, tab, simprocAttr, reduceCtorEq, reduceIte]
      refine fin_run ?_ (hK _ ?_) <;> clear hK <;> clear K
      · (first | exact trivial | omega | (simp only [In64] at *; omega) | (simp [In64] at *; omega) | (simp_all; done) | skip)
      refine qa ?_
      refine ⟨i + 1, [], ⟨by omega, fun j hj => ?_⟩, by omega, ?_⟩
      · by_cases hj : j = i
        · subst hj; exact hC2
        · exact hi2 j (by omega)
      · simp only [leq, leA, ev0, evA, evB, evP, fl, gp, tab, simprocAttr, reduceCtorEq, reduceIte] <;> omega
  · (try simp only [nhs] at hC1)
    refine qj (qc (qc (qf (qa (qm ?_)))))
    refine hk_region fun K hK => runs_eval tab_ok ?_
    simp only [ev0, evA, evB, evP, fl, gp, tab, simprocAttr, reduceCtorEq, reduceIte]
    refine fin_run trivial (hK _ ?_) <;> clear hK <;> clear K
    refine qa (qk ?_)
    simp only [Try.results53, enA, ev0, evA, evB, evP, fl, gp, tab, simprocAttr, reduceCtorEq, reduceIte]
    all_goals (rw [lsb_eq fun j hj => hi2 j (by omega)])
theorem lsb_cmp {v w : List Int} (hl : v.length = w.length) (h : cmpL v w < 0) : lsb v w = true := by
  induction v generalizing w with
  | nil =>
    cases w with
    | nil => rw [cmpL_self] at h; exact absurd h (by decide)
    | cons b t => simp at hl
  | cons a r ih =>
    cases w with
    | nil => simp at hl
    | cons b t =>
      unfold lsb
      rcases cmpL_cons_lt.1 h with h1 | ⟨h1, h2⟩
      · rw [decide_eq_false (by omega), decide_eq_true h1]; rfl
      · rw [decide_eq_true h1]; exact ih (by simpa using hl) h2

theorem cmp_lsb {v w : List Int} (hl : v.length = w.length) (h : lsb v w = true) : cmpL v w < 0 := by
  induction v generalizing w with
  | nil => unfold lsb at h; cases h
  | cons a r ih =>
    cases w with
    | nil => simp at hl
    | cons b t =>
      unfold lsb at h
      refine cmpL_cons_lt.2 ?_
      by_cases hab : a = b
      · rw [decide_eq_true hab, cond_true] at h
        exact .inr ⟨hab, ih (by simpa using hl) h⟩
      · rw [decide_eq_false hab, cond_false, decide_eq_true_eq] at h
        exact .inl h
theorem pw_unique {α : Type} {R : α → α → Prop} (anti : ∀ a b, R a b → R b a → a = b) : ∀ (xs ys : List α), xs.Perm ys → xs.Pairwise R → ys.Pairwise R → xs = ys
  | [], ys, h, _, _ => h.symm.eq_nil.symm
  | x :: r, [], h, _, _ => h.eq_nil
  | x :: r, y :: s, h, h1, h2 => by
    have hxy : x = y := by
      have m1 : x ∈ y :: s := h.mem_iff.1 (by simp)
      have m2 : y ∈ x :: r := h.mem_iff.2 (by simp)
      rcases List.mem_cons.1 m1 with h3 | h3
      · exact h3
      · rcases List.mem_cons.1 m2 with h4 | h4
        · exact h4.symm
        · exact anti _ _ ((List.pairwise_cons.1 h1).1 y h4) ((List.pairwise_cons.1 h2).1 x h3)
    subst hxy
    rw [pw_unique anti r s (List.Perm.cons_inv h) (List.pairwise_cons.1 h1).2 (List.pairwise_cons.1 h2).2]
theorem srtL_unique {xs ys : List (List Int)} (h : xs.Perm ys) (hs : ys.Pairwise fun v w => ¬ cmpL w v < 0) : ys = srtL xs :=
  pw_unique (fun a b h1 h2 => cmpL_tot _ _ h2 h1) _ _ (h.symm.trans (srtL_perm xs)) hs (srtL_sorted xs)

/-- Where the sorting stands: up to i in order, but for what stands at k. -/
structure Rsn (c : Nat) (xs : List (List Int)) (i k : Nat) (R : List (List Int)) : Prop where
  perm : R.Perm xs
  ord : ∀ a b, a < b → b ≤ i → b ≠ k → lsb (R.getD b []) (R.getD a []) = false
theorem lsb_tr {c : Nat} {u v w : List Int} (hu : u.length = c) (hv : v.length = c) (hw : w.length = c) (h1 : lsb v u = false) (h2 : lsb w v = false) : lsb w u = false := by
  rw [Bool.eq_false_iff]
  intro h3
  have h3 := cmp_lsb (by omega) h3
  have h1 : ¬ cmpL v u < 0 := fun h => by rw [lsb_cmp (by omega) h] at h1; cases h1
  have h2 : ¬ cmpL w v < 0 := fun h => by rw [lsb_cmp (by omega) h] at h2; cases h2
  exact cmpL_ntrans _ _ _ h2 h1 h3
theorem lsb_as {c : Nat} {v w : List Int} (hv : v.length = c) (hw : w.length = c) (h : lsb v w = true) : lsb w v = false := by
  rw [Bool.eq_false_iff]
  intro h3
  have h4 := cmpL_trans _ _ _ (cmp_lsb (by omega) h) (cmp_lsb (by omega) h3)
  rw [cmpL_self] at h4
  exact absurd h4 (by decide)
section
variable {c : Nat} {xs R : List (List Int)} {i k : Nat}
theorem Rsn.len (h : Rsn c xs i k R) (hc : ∀ v ∈ xs, v.length = c) {a : Nat} (ha : a < xs.length) : (R.getD a []).length = c := by
  have hl := h.perm.length_eq
  refine hc _ (h.perm.mem_iff.1 ?_)
  simp [List.getD, List.getElem?_eq_getElem (show a < R.length by omega)]
theorem Rsn.stop (h : Rsn c xs i k R) (hc : ∀ v ∈ xs, v.length = c) (hi : i < xs.length) (hk : k ≤ i) (hs : k = 0 ∨ lsb (R.getD k []) (R.getD (k - 1) []) = false) : ∀ a b, a < b → b ≤ i → lsb (R.getD b []) (R.getD a []) = false := fun a b hab hb => by
  by_cases hbk : b = k
  · subst hbk
    rcases hs with hs | hs
    · omega
    · by_cases hak : a = b - 1
      · rw [hak]; exact hs
      · exact lsb_tr (h.len hc (by omega)) (h.len hc (show b - 1 < xs.length by omega)) (h.len hc (by omega)) (h.ord a (b - 1) (by omega) (by omega) (by omega)) hs
  · exact h.ord a b hab hb hbk
theorem Rsn.swap (h : Rsn c xs i (k + 1) R) (hc : ∀ v ∈ xs, v.length = c) (hi : i < xs.length) (hk : k + 1 ≤ i) (hs : lsb (R.getD (k + 1) []) (R.getD k []) = true) : Rsn c xs i k ((R.set (k + 1) (R.getD k [])).set k (R.getD (k + 1) [])) := by
  have hl := h.perm.length_eq
  have e1 : R.getD k [] = R[k]'(by omega) := by simp [List.getD, List.getElem?_eq_getElem (show k < R.length by omega)]
  have e2 : R.getD (k + 1) [] = R[k + 1]'(by omega) := by simp [List.getD, List.getElem?_eq_getElem (show k + 1 < R.length by omega)]
  have hg : ∀ j, j < xs.length → ((R.set (k + 1) (R.getD k [])).set k (R.getD (k + 1) [])).getD j [] = if j = k then R.getD (k + 1) [] else if j = k + 1 then R.getD k [] else R.getD j [] := fun j hj => by
    by_cases j1 : j = k
    · subst j1
      rw [if_pos rfl]
      simp [List.getD, show j < R.length by omega]
    · rw [if_neg j1]
      by_cases j2 : j = k + 1
      · subst j2
        rw [if_pos rfl]
        simp only [List.getD, List.getElem?_set_ne (show k ≠ k + 1 by omega)]
        simp [show k + 1 < R.length by omega]
      · rw [if_neg j2]
        simp only [List.getD, List.getElem?_set_ne (Ne.symm j1), List.getElem?_set_ne (Ne.symm j2)]
  refine ⟨?_, fun a b hab hb hbk => ?_⟩
  · have := List.set_set_perm (show k + 1 < R.length by omega) (show k < R.length by omega)
    rw [e1, e2]
    exact this.trans h.perm
  · rw [hg a (by omega), hg b (by omega), if_neg hbk]
    by_cases b1 : b = k + 1
    · rw [if_pos b1]
      by_cases a1 : a = k
      · rw [if_pos a1]
        exact lsb_as (h.len hc (by omega)) (h.len hc (by omega)) hs
      · rw [if_neg a1, if_neg (by omega)]
        exact h.ord a k (by omega) (by omega) (by omega)
    · rw [if_neg b1]
      by_cases a1 : a = k
      · rw [if_pos a1]
        exact h.ord (k + 1) b (by omega) hb b1
      · rw [if_neg a1]
        by_cases a2 : a = k + 1
        · rw [if_pos a2]
          exact h.ord k b (by omega) hb b1
        · rw [if_neg a2]
          exact h.ord a b hab hb b1
end

set_option maxHeartbeats 4000000 in
theorem rising_c (c : Nat) (xs : List (List Int)) (hl : xs.length ≤ 1000000) (hcl : c ≤ 1000000) (hc : ∀ v ∈ xs, v.length = c) : FnM Try.prog 33 [.sl 0 0 xs.length] [.own (opl (ll xs))] (.sl 0 0 xs.length) [.own (opl (ll (srtL xs)))] := by
  refine fnm_of tab_ok Try.func33 rfl (by kernel_rfl) (by rw [Try.ntmps33]; exact Nat.le_add_left 1 _) ?_; rw [Try.ntmps33]; simp only [ancs, entA, List.length_cons, List.length_nil, List.cons_append, List.nil_append, Nat.reduceAdd, Nat.zero_add]
  refine qm ?_
  refine hk_region fun K hK => runs_eval tab_ok ?_
  simp only [ev0, evA, evB, evP, fl, gp, tab, simprocAttr, reduceCtorEq, reduceIte]
  refine fin_run trivial (hK _ ?_) <;> clear hK <;> clear K
  refine qa (qm (qm ?_))
  refine hk_region fun K hK => runs_eval tab_ok ?_
  simp only [ev0, evA, evB, evP, fl, gp, tab, simprocAttr, reduceCtorEq, reduceIte]
  refine fin_run trivial (hK _ ?_) <;> clear hK <;> clear K
  refine qa (ql ?_)
  refine hk_loop (ι := Nat × List (List Int)) (fun p => ⟨45, [(0, .sl 0 0 xs.length), (3, .p (.int .i64 ((p.1 + 1 : Nat) : Int)))], [.own (opl (ll p.2)), .anc 0 0]⟩) (fun p => (p.1 + 1 ≤ xs.length ∨ p.1 = 0) ∧ p.2.Perm xs ∧ ∀ a b, a < b → b ≤ p.1 → lsb (p.2.getD b []) (p.2.getD a []) = false) (fun p => xs.length - p.1) (0, xs) ⟨.inr rfl, List.Perm.refl _, fun a b h1 h2 => by omega⟩ [0, 1] (by simp only [leq, leA, ev0, evA, evB, evP, fl, gp, tab, simprocAttr, reduceCtorEq, reduceIte, ll_takeL] <;> first | trivial | trace_state) fun p hp => ?_
  obtain ⟨i, R⟩ := p
  obtain ⟨h1, h2, h3⟩ := hp
  simp only at h1 h2 h3
  have hRl := h2.length_eq
  have hRtk : List.take xs.length (ll R) = ll R := List.take_of_length_le (by rw [ll_length]; omega)
  refine qm (qm ?_)
  refine hk_region fun K hK => runs_eval tab_ok ?_
  simp only [ev0, evA, evB, evP, fl, gp, tab, simprocAttr, reduceCtorEq, reduceIte]
  refine fin_run trivial (hK _ ?_) <;> clear hK <;> clear K
  refine qa ?_
  refine hk_cond rfl (fun hC1 => ?_) (fun hC1 => ?_)
  · (try simp only [nhs] at hC1)
    have hil : i + 1 < xs.length := by omega
    refine qh (qa (qm (ql (qm ?_))))
    refine hk_region fun K hK => runs_eval tab_ok ?_
    simp only [ev0, evA, evB, evP, fl, gp, tab, simprocAttr, reduceCtorEq, reduceIte]
    refine fin_run trivial (hK _ ?_) <;> clear hK <;> clear K
    refine qa (ql ?_)
    refine hk_loop (ι := Nat × List (List Int)) (fun p => ⟨45, [(0, .sl 0 0 xs.length), (3, .p (.int .i64 ((i + 1 : Nat) : Int))), (4, .p (.int .i64 p.1))], [.own (opl (ll p.2)), .anc 0 0]⟩) (fun p => p.1 ≤ i + 1 ∧ Rsn c xs (i + 1) p.1 p.2) (fun p => p.1) (i + 1, R) ⟨Nat.le_refl _, h2, fun a b q1 q2 q3 => h3 a b q1 (by omega)⟩ [0, 1] (by simp only [leq, leA, ev0, evA, evB, evP, fl, gp, tab, simprocAttr, reduceCtorEq, reduceIte, ll_takeL] <;> first | trivial | trace_state) fun p hp => ?_
    obtain ⟨k, R2⟩ := p
    obtain ⟨r1, r2⟩ := hp
    simp only at r1 r2
    have hR2 := r2.perm.length_eq
    refine qm (qm ?_)
    rcases Nat.eq_zero_or_pos k with hk0 | hk0
    · subst hk0
      refine hk_draw mixed (by kernel_rfl) fun K hK => runs_eval tab_ok ?_
      simp only [ev0, evA, evB, evP, fl, gp, tab, simprocAttr, reduceCtorEq, reduceIte, decide_eq_false (show ¬ ((0 : Nat) : Int) > 0 by omega)]
      refine fin_run trivial (hK _ ?_) <;> clear hK <;> clear K
      refine qa ?_
      refine hk_cond rfl (fun hC2 => ?_) (fun hC2 => ?_)
      · cases hC2
      · refine qj (qc (qc (qf (qd (qa ?_)))))
        refine hk_region fun K hK => runs_eval tab_ok ?_
        simp only [ev0, evA, evB, evP, fl, gp, tab, simprocAttr, reduceCtorEq, reduceIte]
        refine fin_run ?_ (hK _ ?_) <;> clear hK <;> clear K
        · (first | exact trivial | omega | (simp only [In64] at *; omega) | (simp [In64] at *; omega) | (simp_all; done) | skip)
        refine qa ?_
        have htk2 : List.take xs.length (ll R2) = ll R2 := List.take_of_length_le (by rw [ll_length]; omega)
        refine ⟨(i + 1, R2), [0, 1], ⟨.inl (by simp only; omega), r2.perm, r2.stop hc hil (by omega) (.inl rfl)⟩, by simp only; omega, ?_⟩
        simp only [leq, leA, ev0, evA, evB, evP, fl, gp, tab, simprocAttr, reduceCtorEq, reduceIte, ll_takeL] <;> first | trivial | omega | trace_state
    · obtain ⟨j, rfl⟩ : ∃ j, k = j + 1 := ⟨k - 1, by omega⟩
      have ej : ((j + 1 : Nat) : Int) - 1 = ((j : Nat) : Int) := by omega
      refine hk_draw mixed (by kernel_rfl) fun K hK => runs_eval tab_ok ?_
      simp only [ev0, evA, evB, evP, fl, gp, tab, simprocAttr, reduceCtorEq, reduceIte, decide_eq_true (show ((j + 1 : Nat) : Int) > 0 by omega), ej, oll_get (show j + 1 < R2.length by omega), oll_get (show j < R2.length by omega)]
      refine fin_stop ?_ (runs_call (less_r (R2.getD (j + 1) []) (R2.getD j []) (by rw [r2.len hc (by omega)]; exact hcl) (by rw [r2.len hc (by omega), r2.len hc (by omega)])) rfl rfl rfl (by simp only [dstOk, Nat.reduceLT]) (by repeat (first | exact trivial | constructor)) (runs_eval tab_ok ?_))
      · exact ⟨⟨⟨⟨⟨by omega, by omega⟩, by omega⟩, by simp only [In64]; omega⟩, by omega, by omega⟩, by omega⟩
      simp only [ev0, evA, evB, evP, fl, gp, tab, simprocAttr, reduceCtorEq, reduceIte, decide_eq_true (show ((j + 1 : Nat) : Int) > 0 by omega), ej, oll_get (show j + 1 < R2.length by omega), oll_get (show j < R2.length by omega)]
      refine fin_run ?_ (hK _ ?_) <;> clear hK <;> clear K
      · (first | exact trivial | omega | (simp only [In64] at *; omega) | (simp [In64] at *; omega) | (simp_all; done) | skip)
      refine qa ?_
      refine hk_cond rfl (fun hC2 => ?_) (fun hC2 => ?_)
      · (try simp only [nhs] at hC2)
        refine qh (qa (qm (ql ?_)))
        refine hk_draw mixed (by kernel_rfl) fun K hK => runs_eval tab_ok ?_
        simp only [ev0, evA, evB, evP, fl, gp, tab, simprocAttr, reduceCtorEq, reduceIte, ej, oll_get (show j + 1 < R2.length by omega), oll_get (show j < R2.length by omega), oll_set2]
        refine fin_run ?_ (hK _ ?_) <;> clear hK <;> clear K
        · (first | exact trivial | omega | (simp only [In64] at *; omega) | (simp [In64] at *; omega) | (simp_all; done) | skip)
        refine qd (qa ?_)
        refine hk_region fun K hK => runs_eval tab_ok ?_
        simp only [ev0, evA, evB, evP, fl, gp, tab, simprocAttr, reduceCtorEq, reduceIte]
        refine fin_run ?_ (hK _ ?_) <;> clear hK <;> clear K
        · (first | exact trivial | omega | (simp only [In64] at *; omega) | (simp [In64] at *; omega) | (simp_all; done) | skip)
        refine qa ?_
        have hsw := r2.swap hc (by omega) (by omega) (by simpa using hC2)
        have hpl := hsw.perm.length_eq
        have htk2 : List.take xs.length (ll ((R2.set (j + 1) (R2.getD j [])).set j (R2.getD (j + 1) []))) = ll ((R2.set (j + 1) (R2.getD j [])).set j (R2.getD (j + 1) [])) := List.take_of_length_le (by rw [ll_length]; omega)
        refine ⟨(j, (R2.set (j + 1) (R2.getD j [])).set j (R2.getD (j + 1) [])), [0, 1], ⟨by simp only; omega, hsw⟩, by simp only; omega, ?_⟩
        simp only [leq, leA, ev0, evA, evB, evP, fl, gp, tab, simprocAttr, reduceCtorEq, reduceIte, ll_takeL] <;> first | trivial | omega | exact ⟨rfl, by omega⟩ | trace_state
      · (try simp only [nhs] at hC2)
        refine qj (qc (qc (qf (qd (qa ?_)))))
        refine hk_region fun K hK => runs_eval tab_ok ?_
        simp only [ev0, evA, evB, evP, fl, gp, tab, simprocAttr, reduceCtorEq, reduceIte]
        refine fin_run ?_ (hK _ ?_) <;> clear hK <;> clear K
        · (first | exact trivial | omega | (simp only [In64] at *; omega) | (simp [In64] at *; omega) | (simp_all; done) | skip)
        refine qa ?_
        have htk2 : List.take xs.length (ll R2) = ll R2 := List.take_of_length_le (by rw [ll_length]; omega)
        refine ⟨(i + 1, R2), [0, 1], ⟨.inl (by simp only; omega), r2.perm, r2.stop hc hil (by omega) (.inr (by simpa using hC2))⟩, by simp only; omega, ?_⟩
        simp only [leq, leA, ev0, evA, evB, evP, fl, gp, tab, simprocAttr, reduceCtorEq, reduceIte, ll_takeL] <;> first | trivial | omega | trace_state
  · (try simp only [nhs] at hC1)
    have hR : R = srtL xs := srtL_unique h2.symm (by
      refine List.pairwise_iff_getElem.2 fun a b ha hb hab hlt => ?_
      have h4 := h3 a b hab (by omega)
      have e1 : R.getD a [] = R[a] := by simp [List.getD, List.getElem?_eq_getElem ha]
      have e2 : R.getD b [] = R[b] := by simp [List.getD, List.getElem?_eq_getElem hb]
      rw [e1, e2, lsb_cmp (by rw [hc _ (h2.mem_iff.1 (List.getElem_mem ha)), hc _ (h2.mem_iff.1 (List.getElem_mem hb))]) hlt] at h4
      cases h4)
    rw [hR]
    have hsl := (srtL_perm xs).length_eq
    have htk2 : List.take (srtL xs).length (ll (srtL xs)) = ll (srtL xs) := ll_takeL _
    refine qj (qc (qc (qf (qa (qm ?_)))))
    refine hk_region fun K hK => runs_eval tab_ok ?_
    simp only [ev0, evA, evB, evP, fl, gp, tab, simprocAttr, reduceCtorEq, reduceIte]
    refine fin_run trivial (hK _ ?_) <;> clear hK <;> clear K
    refine qa (qk ?_)
    simp only [Try.results33, PostG, endG, rvsA, rvA, mkTup, ev0, evA, evB, evP, fl, gp, tab, simprocAttr, reduceCtorEq, reduceIte]
    all_goals (exact ⟨[0, 1], rfl, rfl, by simp only [leq, leA, ev0, evA, evB, evP, fl, gp, tab, simprocAttr, reduceCtorEq, reduceIte] <;> first | trivial | (rw [htk2]; done) | trace_state⟩)

open Classical in
/-- The makers: from the last thing down, what is not made yet. -/
noncomputable def mkS (n : Nat) (m : List Int) (e : Nat) : Nat → List Int
  | 0 => []
  | i + 1 => if Gen n (op m n) e (tst (mkS n m e i)) (n - 1 - i) then mkS n m e i else mkS n m e i ++ [((n - 1 - i : Nat) : Int)]

theorem mkS_len (n : Nat) (m : List Int) (e : Nat) : ∀ i, (mkS n m e i).length ≤ i
  | 0 => by simp [mkS]
  | i + 1 => by
    have := mkS_len n m e i
    rw [mkS]
    split
    · omega
    · simp; omega
theorem mkS_mem {n : Nat} {m : List Int} {e : Nat} (hn : 1 ≤ n) : ∀ i, ∀ x ∈ mkS n m e i, ∃ a, a < n ∧ x = ((a : Nat) : Int)
  | 0 => by simp [mkS]
  | i + 1 => by
    have ih := mkS_mem (m := m) (e := e) hn i
    rw [mkS]
    split
    · exact ih
    · intro x hx
      rcases List.mem_append.1 hx with hx | hx
      · exact ih x hx
      · rw [List.mem_singleton] at hx
        exact ⟨n - 1 - i, by omega, hx⟩
theorem mkS_mono {n : Nat} {m : List Int} {e : Nat} {i : Nat} {a : Nat} (h : tst (mkS n m e i) a = true) : tst (mkS n m e (i + 1)) a = true := by
  rw [mkS]
  split
  · exact h
  · unfold tst at *
    simp only [decide_eq_true_eq] at *
    exact List.mem_append_left _ h
theorem mkS_gen {n : Nat} {m : List Int} {e : Nat} (G : Grp n (op m n) e) : ∀ i, i ≤ n → ∀ a, n - i ≤ a → a < n → Gen n (op m n) e (tst (mkS n m e i)) a
  | 0, _, a, h1, h2 => by omega
  | i + 1, hi, a, h1, h2 => by
    by_cases ha : n - i ≤ a
    · exact Gen.mono (fun b _ hb => mkS_mono hb) (mkS_gen G i (by omega) a ha h2)
    · have hai : a = n - 1 - i := by omega
      rw [mkS]
      split
      · rw [hai]; assumption
      · refine Gen.mem G h2 ?_
        unfold tst
        rw [hai]
        simp
theorem mkS_all {n : Nat} {m : List Int} {e : Nat} {i : Nat} (h : ∀ a, a < n → Gen n (op m n) e (tst (mkS n m e i)) a) (hn : 1 ≤ n) : ∀ d, mkS n m e (i + d) = mkS n m e i
  | 0 => rfl
  | d + 1 => by
    have ih := mkS_all h hn d
    rw [← Nat.add_assoc, mkS, ih, if_pos (h _ (by omega))]

/-- What the makers make is all. -/
theorem mk_gen {n : Nat} {m : List Int} {e : Nat} (G : Grp n (op m n) e) {a : Nat} (ha : a < n) : Gen n (op m n) e (tst (mkS n m e n)) a := mkS_gen G n (Nat.le_refl _) a (by omega) ha

theorem makers_c {n e : Nat} {m : List Int} (h : GT n m n e) : FnC Try.prog 29 [gp n m] (.list (il (mkS n m e n))) := by
  have T := h.2.1
  have G := h.2.2
  have hb := T.big
  have hpos := T.pos
  refine fnc_of tab_ok Try.func29 rfl (by kernel_rfl) (by rw [Try.ntmps29]; exact Nat.le_add_left 1 _) ?_; rw [Try.ntmps29]
  refine qm ?_
  refine hk_region fun K hK => runs_eval tab_ok ?_
  simp only [ev0, evA, evB, evP, fl, gp, tab, simprocAttr, reduceCtorEq, reduceIte]
  refine fin_run ?_ (hK _ ?_) <;> clear hK <;> clear K
  · (first | exact trivial | omega | (simp only [In64] at *; omega) | (simp [In64] at *; omega) | (simp_all; done) | skip)
  refine qa (qm ?_)
  refine hk_region fun K hK => runs_eval tab_ok ?_
  simp only [ev0, evA, evB, evP, fl, gp, tab, simprocAttr, reduceCtorEq, reduceIte]
  refine fin_run trivial (hK _ ?_) <;> clear hK <;> clear K
  refine qa (qm (qm ?_))
  refine hk_own0 3 rfl ?_
  refine hk_region fun K hK => runs_eval tab_ok ?_
  simp only [ev0, evA, evB, evP, fl, gp, tab, simprocAttr, reduceCtorEq, reduceIte]
  refine fin_run ?_ (hK _ ?_) <;> clear hK <;> clear K
  · (first | exact trivial | omega | (simp only [In64] at *; omega) | (simp [In64] at *; omega) | (simp_all; done) | skip)
  refine qa (ql ?_)
  refine hk_loop (ι := Nat) (fun i => ⟨32, [(1, .ptr 0 0), (3, .sl 1 0 (mkS n m e i).length), (4, .p (.int .i64 ((n : Int) - 1 - i)))], [.own [.p (.int .i64 n), .p (.list (il m))], .own (ol (mkS n m e i))]⟩) (fun i => i ≤ n) (fun i => n - i) 0 (Nat.zero_le _) [0, 1] (by simp only [leq, leA, ev0, evA, evB, evP, fl, gp, tab, simprocAttr, reduceCtorEq, reduceIte] <;> simp [mkS, ol_nil]) fun i hi => ?_
  have hl := mkS_len n m e i
  have hmem := mkS_mem (m := m) (e := e) hpos i
  obtain ⟨q, hq⟩ := gen_ex n (op m n) e (tst (mkS n m e i))
  have hsp := span_f h (mkS n m e i) (by omega) hmem q hq
  have hql := thl_le n q
  refine qm (qm ?_)
  by_cases g3a : (n : Int) - 1 - (i : Int) ≥ 0
  · refine hk_draw mixed (by kernel_rfl) fun K hK => runs_eval tab_ok ?_
    simp only [ev0, evA, evB, evP, fl, gp, tab, simprocAttr, reduceCtorEq, reduceIte, decide_eq_true g3a]
    refine fin_stop ?_ (runs_callF (hsp) rfl (by simp only [callA, peekList, peekG, peekS, List.map_cons, List.map_nil, List.append_nil, enA, ev0, evA, evB, evP, fl, gp, tab, simprocAttr, reduceCtorEq, reduceIte, List.drop_zero, ol_drop, ol_take, take_len, ol_allP, il_all, il_length]; rfl) (by simp only [dstOk, Nat.reduceLT]) ?_ (runs_eval tab_ok ?_))
    · (first | exact trivial | omega | (simp only [In64] at *; omega) | (simp [In64] at *; omega) | (simp_all; done) | skip)
    · (first | exact trivial | omega | (simp only [In64] at *; omega) | (simp [In64] at *; omega) | (simp_all; done) | skip)
    simp only [ev0, evA, evB, evP, fl, gp, tab, simprocAttr, reduceCtorEq, reduceIte, decide_eq_true g3a]
    refine fin_run ?_ (hK _ ?_) <;> clear hK <;> clear K
    · (first | exact trivial | omega | (simp only [In64] at *; omega) | (simp [In64] at *; omega) | (simp_all; done) | skip)
    refine qa ?_
    refine hk_cond rfl (fun hC1 => ?_) (fun hC1 => ?_)
    · (try simp only [nhs] at hC1)
      have hil : i < n := by omega
      have hai : (n : Int) - 1 - (i : Int) = ((n - 1 - i : Nat) : Int) := by omega
      refine qh (qa (qm (ql (qm ?_))))
      refine hk_region fun K hK => runs_eval tab_ok ?_
      simp only [ev0, evA, evB, evP, fl, gp, tab, simprocAttr, reduceCtorEq, reduceIte, hai]
      refine fin_stop ?_ (runs_callF (hsp) rfl (by simp only [callA, peekList, peekG, peekS, List.map_cons, List.map_nil, List.append_nil, enA, ev0, evA, evB, evP, fl, gp, tab, simprocAttr, reduceCtorEq, reduceIte, List.drop_zero, ol_drop, ol_take, take_len, ol_allP, il_all, il_length]; rfl) (by simp only [dstOk, Nat.reduceLT]) ?_ (runs_eval tab_ok ?_))
      · (first | exact trivial | omega | (simp only [In64] at *; omega) | (simp [In64] at *; omega) | (simp_all; done) | skip)
      · (first | exact trivial | omega | (simp only [In64] at *; omega) | (simp [In64] at *; omega) | (simp_all; done) | skip)
      simp only [ev0, evA, evB, evP, fl, gp, tab, simprocAttr, reduceCtorEq, reduceIte, hai]
      refine fin_stop trivial (runs_call (has_r (thl n q) (n - 1 - i : Nat) (by omega)) rfl rfl rfl (by simp only [dstOk, Nat.reduceLT]) (by repeat (first | exact trivial | constructor)) (runs_eval tab_ok ?_))
      simp only [ev0, evA, evB, evP, fl, gp, tab, simprocAttr, reduceCtorEq, reduceIte, hai]
      refine fin_run ?_ (hK _ ?_) <;> clear hK <;> clear K
      · (first | exact trivial | omega | (simp only [In64] at *; omega) | (simp [In64] at *; omega) | (simp_all; done) | skip)
      refine qa ?_
      refine hk_cond rfl (fun hC2 => ?_) (fun hC2 => ?_)
      · (try simp only [nhs] at hC2)
        have hng : ¬ Gen n (op m n) e (tst (mkS n m e i)) (n - 1 - i) := fun hg => hC2 (mem_thl.2 ⟨_, by omega, (hq _ (by omega)).2 hg, rfl⟩)
        have hmk : mkS n m e (i + 1) = mkS n m e i ++ [((n - 1 - i : Nat) : Int)] := by rw [mkS, if_neg hng]
        refine hk_region fun K hK => runs_eval tab_ok ?_
        simp only [ev0, evA, evB, evP, fl, gp, tab, simprocAttr, reduceCtorEq, reduceIte, hai]
        refine fin_run ?_ (hK _ ?_) <;> clear hK <;> clear K
        · (first | exact trivial | omega | (simp only [In64] at *; omega) | (simp [In64] at *; omega) | (simp_all; done) | skip)
        refine qd (qa ?_)
        refine hk_region fun K hK => runs_eval tab_ok ?_
        simp only [ev0, evA, evB, evP, fl, gp, tab, simprocAttr, reduceCtorEq, reduceIte]
        refine fin_run ?_ (hK _ ?_) <;> clear hK <;> clear K
        · (first | exact trivial | omega | (simp only [In64] at *; omega) | (simp [In64] at *; omega) | (simp_all; done) | skip)
        refine qa ?_
        refine ⟨i + 1, [0, 2], by omega, by omega, ?_⟩
        rw [hmk]
        simp only [leq, leA, ev0, evA, evB, evP, fl, gp, tab, simprocAttr, reduceCtorEq, reduceIte] <;> first | trivial | omega
      · (try simp only [nhs] at hC2)
        have hg : Gen n (op m n) e (tst (mkS n m e i)) (n - 1 - i) := by
          obtain ⟨a, a1, a2, a3⟩ := mem_thl.1 hC2
          have : n - 1 - i = a := by omega
          rw [this]; exact (hq a a1).1 a2
        have hmk : mkS n m e (i + 1) = mkS n m e i := by rw [mkS, if_pos hg]
        refine qh (qd (qa ?_))
        refine hk_region fun K hK => runs_eval tab_ok ?_
        simp only [ev0, evA, evB, evP, fl, gp, tab, simprocAttr, reduceCtorEq, reduceIte]
        refine fin_run ?_ (hK _ ?_) <;> clear hK <;> clear K
        · (first | exact trivial | omega | (simp only [In64] at *; omega) | (simp [In64] at *; omega) | (simp_all; done) | skip)
        refine qa ?_
        refine ⟨i + 1, [0, 1], by omega, by omega, ?_⟩
        rw [hmk]
        simp only [leq, leA, ev0, evA, evB, evP, fl, gp, tab, simprocAttr, reduceCtorEq, reduceIte] <;> first | trivial | omega
    · (try simp only [nhs] at hC1)
      refine qj (qc (qc (qf (qa (qm ?_)))))
      refine hk_region fun K hK => runs_eval tab_ok ?_
      simp only [ev0, evA, evB, evP, fl, gp, tab, simprocAttr, reduceCtorEq, reduceIte]
      refine fin_run trivial (hK _ ?_) <;> clear hK <;> clear K
      refine qa (qk ?_)
      simp only [Try.results29, enA, ev0, evA, evB, evP, fl, gp, tab, simprocAttr, reduceCtorEq, reduceIte]
      have hall : ∀ a, a < n → Gen n (op m n) e (tst (mkS n m e i)) a := fun a ha => (hq a ha).1 ((thl_full n q).2 (by omega) a ha)
      have hmk := mkS_all hall hpos (n - i)
      rw [show i + (n - i) = n by omega] at hmk
      simp [hmk]
  · refine hk_draw mixed (by kernel_rfl) fun K hK => runs_eval tab_ok ?_
    simp only [ev0, evA, evB, evP, fl, gp, tab, simprocAttr, reduceCtorEq, reduceIte, decide_eq_false g3a]
    refine fin_run trivial (hK _ ?_) <;> clear hK <;> clear K
    refine qa ?_
    refine hk_cond rfl (fun hC1 => ?_) (fun hC1 => ?_)
    · cases hC1
    · refine qj (qc (qc (qf (qa (qm ?_)))))
      refine hk_region fun K hK => runs_eval tab_ok ?_
      simp only [ev0, evA, evB, evP, fl, gp, tab, simprocAttr, reduceCtorEq, reduceIte]
      refine fin_run trivial (hK _ ?_) <;> clear hK <;> clear K
      refine qa (qk ?_)
      simp only [Try.results29, enA, ev0, evA, evB, evP, fl, gp, tab, simprocAttr, reduceCtorEq, reduceIte]
      have hin : i = n := by omega
      simp [hin]

theorem hk_forget {P : Program} {Q : Exit → St → Prop} {s : St} {c : Code} (k : Nat) {b : List AV} (hk : hget s.H k = .own b) (h : Holds P c Q { s with H := hset s.H k (.own (List.replicate b.length .dead)) }) : Holds P c Q s :=
  hk_cells k hk (by simp) (fun C m tmps w R j h1 h2 v hv => by rw [List.getElem_replicate]; exact .dead _) h

/- the search -/

section
variable {n e N d : Nat} {m M : List Int}
/-- The list's protocol: all, up to a thousand. -/
def prH (mo : Nat) : Prot (List PV) where
  c4 _ := .nil
  c51 _ := .int .i64 0
  c52 _ := .int .i64 0
  R l := l
  go l x := decide (l.length + 1 ≤ mo)
  nx l x := l ++ [x]
  ok l := l.length ≤ mo ∧ l.all PV.one = true
  okx x := ∃ v, x = .list (il v)
  ok_nx l x h hx hg := by
    simp only [decide_eq_true_eq] at hg
    refine ⟨by simp; omega, ?_⟩
    rw [List.all_append, h.2]
    obtain ⟨v, rfl⟩ := hx
    rfl
  ones l h := h.2
theorem foldH (mo : Nat) : ∀ (xs l : List PV), (l ++ xs).length ≤ mo → foldS (prH mo) l xs = (l ++ xs, true)
  | [], l, h => by simp [foldS]
  | x :: xs, l, h => by
    unfold foldS
    have h1 : l.length + 1 ≤ mo := by simp at h; omega
    have hg : (prH mo).go l x = true := decide_eq_true h1
    rw [hg, if_pos rfl]
    have := foldH mo xs (l ++ [x]) (by simpa [List.append_assoc] using h)
    rw [List.append_assoc] at this
    exact this
theorem foldH_no (mo : Nat) : ∀ (xs l : List PV), l.length ≤ mo → ¬ (l ++ xs).length ≤ mo → ∃ j, foldS (prH mo) l xs = (j, false)
  | [], l, h, h' => absurd (by simpa using h) h'
  | x :: xs, l, h, h' => by
    unfold foldS
    by_cases h1 : l.length + 1 ≤ mo
    · have hg : (prH mo).go l x = true := decide_eq_true h1
      rw [hg, if_pos rfl]
      exact foldH_no mo xs (l ++ [x]) (by simp; omega) (by simpa [List.append_assoc] using h')
    · have hg : (prH mo).go l x = false := decide_eq_false h1
      rw [hg]
      exact ⟨_, rfl⟩
def odl (N : Nat) (M : List Int) (d : Nat) : List Int := tbm N fun y => ord N (op M N) d y
def HM (mo n : Nat) (m : List Int) (N : Nat) (M : List Int) (d : Nat) (L t : List Nat) (i : List PV) : Heap :=
  [.own [.sl 3 0 L.length], .own [.sl 4 0 i.length], .own [.cl 31 [.p (.ptr [.list (il (nl L))]), .p (.ptr [.int .i64 n, .list (il m)]), .p (.ptr [.int .i64 N, .list (il M)]), .ptr 0 0, .ptr 1 0, .p (.ptr [.int .i64 (mo : Nat)]), .p (.ptr [.list (il (odl N M d))]), .ptr 2 0]],
   .own (rwd t L.length), .own (opl i)]
def RNext (mo n : Nat) (m : List Int) (e N : Nat) (M : List Int) (d : Nat) (L r t : List Nat) (i : List PV) : Prop :=
  FnQ Try.prog 4 31 [.p (.int .i64 t.length), .p (.ptr [.list (il (nl L))]), .p (.ptr [.int .i64 n, .list (il m)]), .p (.ptr [.int .i64 N, .list (il M)]), .ptr 0 0, .ptr 1 0, .p (.ptr [.int .i64 (mo : Nat)]), .p (.ptr [.list (il (odl N M d))]), .ptr 2 0]
    (HM mo n m N M d L t i) (.p (.bool (foldS (prH mo) i (pls (hsq n (op m n) e N (op M N) d L r t))).2)) (HM mo n m N M d L t (foldS (prH mo) i (pls (hsq n (op m n) e N (op M N) d L r t))).1)

set_option maxHeartbeats 8000000 in
set_option maxRecDepth 20000 in
theorem rleaf1 {mo : Nat} (hmo : mo ≤ 100000) (h : GT n m n e) (h' : GT N M N d) (L : List Nat) (hll : L.length ≤ n) (hLlt : ∀ x ∈ L, x < n) (hLg : ∀ a, a < n → Gen n (op m n) e (fun x => decide (x ∈ L)) a) (t : List Nat) (i : List PV) (htl : t.length = L.length) (hty : ∀ y ∈ t, y < N) (hi : (prH mo).ok i) (hex : ∃ φ, Ext n (op m n) N (op M N) L t φ) : RNext mo n m e N M d L [] t i := by
  have hn := h.2.1.big
  have hN := h'.2.1.big
  have hpos : 0 < n := h.2.1.pos
  have hnt := nl_len t
  have hnL := nl_len L
  obtain ⟨hi1, hi2⟩ := hi
  have hio := opl_ok hi2
  have hF : ∀ i, i < L.length → L.getD i 0 < n := fun i hi => hLlt _ (by simp [List.getD, List.getElem?_eq_getElem hi])
  have hT : ∀ i, i < L.length → t.getD i 0 < N := fun i hi => hty _ (by simp [List.getD, List.getElem?_eq_getElem (show i < t.length by omega)])
  have hnn : (nl L).length = (nl t).length := by omega
  unfold RNext
  have hs : hsq n (op m n) e N (op M N) d L [] t = [tbm n (Classical.choose hex)] := by unfold hsq hlf; rw [dif_pos hex]
  have hφ := Classical.choose_spec hex
  generalize Classical.choose hex = φ at hs hφ
  have hsp := rspread_yes h h' L t htl.symm (by omega) hF hT hLg hφ
  have hpl : pls (hsq n (op m n) e N (op M N) d L [] t) = [.list (il (tbm n φ))] := by rw [hs]; rfl
  have htb := tbm_len n φ
  have hne : il (tbm n φ) ≠ [] := by
    intro hh
    have h1 := congrArg List.length hh
    rw [il_length, htb] at h1
    simp only [List.length_nil] at h1
    omega
  rw [hpl]
  have hf1 : foldS (prH mo) i [PV.list (il (tbm n φ))] = (i ++ [.list (il (tbm n φ))], decide (i.length + 1 ≤ mo)) := by
    have h1 : (prH mo).go i (.list (il (tbm n φ))) = decide (i.length + 1 ≤ mo) := by simp [prH]
    have h2 : (prH mo).nx i (.list (il (tbm n φ))) = i ++ [.list (il (tbm n φ))] := by simp [prH]
    simp only [foldS, h1, h2]
    split <;> simp_all
  rw [hf1]
  refine fnq_of (q := 4) tab_ok Try.func31 rfl (by kernel_rfl) (by rw [Try.ntmps31]; exact Nat.le_add_left 9 _) ?_; rw [Try.ntmps31]; simp only [ancs, entA, List.length_cons, List.length_nil, List.cons_append, List.nil_append, Nat.reduceAdd, Nat.zero_add]
  simp only [HM, rwd_full htl, List.append_nil, List.cons_append, List.nil_append]
  rw [show L.length = (nl t).length by omega]
  refine qm ?_
  refine hk_region fun K hK => runs_eval tab_ok ?_
  simp only [ev0, evA, evB, evP, fl, gp, tab, simprocAttr, reduceCtorEq, reduceIte]
  refine fin_run trivial (hK _ ?_) <;> clear hK <;> clear K
  refine qa (qm (qm ?_))
  refine hk_region fun K hK => runs_eval tab_ok ?_
  simp only [ev0, evA, evB, evP, fl, gp, tab, simprocAttr, reduceCtorEq, reduceIte, il_length, hnn]
  refine fin_run ?_ (hK _ ?_) <;> clear hK <;> clear K
  · (first | exact trivial | omega | (simp only [In64] at *; omega) | (simp [In64] at *; omega) | (simp_all; done) | skip)
  refine qa ?_
  refine hk_cond rfl (fun hC1 => ?_) (fun hC1 => ?_)
  · (try simp only [nhs] at hC1)
    refine qm ?_
    refine hk_region fun K hK => runs_eval tab_ok ?_
    simp only [ev0, evA, evB, evP, fl, gp, tab, simprocAttr, reduceCtorEq, reduceIte]
    refine fin_stop ?_ (runs_callF (FnG_fnf hsp (by simp [il, PV.sc])) rfl (by simp only [callA, peekList, peekG, peekS, List.map_cons, List.map_nil, List.append_nil, enA, ev0, evA, evB, evP, fl, gp, tab, simprocAttr, reduceCtorEq, reduceIte, List.drop_zero, ol_drop, ol_take, take_len, ol_allP, il_all, il_length]; rfl) (by simp only [dstOk, Nat.reduceLT]) ?_ (runs_eval tab_ok ?_))
    · (first | exact trivial | omega | (simp only [In64] at *; omega) | (simp [In64] at *; omega) | (simp_all; done) | skip)
    · (first | exact trivial | omega | (simp only [In64] at *; omega) | (simp [In64] at *; omega) | (simp_all; done) | skip)
    simp only [ev0, evA, evB, evP, fl, gp, tab, simprocAttr, reduceCtorEq, reduceIte]
    refine fin_run ?_ (hK _ ?_) <;> clear hK <;> clear K
    · (first | exact trivial | omega | (simp only [In64] at *; omega) | (simp [In64] at *; omega) | (simp_all; done) | skip)
    refine qa (qm (qm ?_))
    refine hk_region fun K hK => runs_eval tab_ok ?_
    simp only [ev0, evA, evB, evP, fl, gp, tab, simprocAttr, reduceCtorEq, reduceIte, binA.eq_def, Option.map_some]
    refine fin_run ?_ (hK _ ?_) <;> clear hK <;> clear K
    · first | exact hne | trivial
    refine qa ?_
    refine hk_cond rfl (fun hC2 => ?_) (fun hC2 => ?_)
    · (try simp only [nhs] at hC2)
      refine hk_region fun K hK => runs_eval tab_ok ?_
      simp only [ev0, evA, evB, evP, fl, gp, tab, simprocAttr, reduceCtorEq, reduceIte]
      refine fin_run ?_ (hK _ ?_) <;> clear hK <;> clear K
      · exact ⟨hio, Nat.le_refl _, by omega, by omega⟩
      refine qa (qm ?_)
      refine hk_region fun K hK => runs_eval tab_ok ?_
      simp only [ev0, evA, evB, evP, fl, gp, tab, simprocAttr, reduceCtorEq, reduceIte]
      refine fin_run ?_ (hK _ ?_) <;> clear hK <;> clear K
      · (first | exact trivial | omega | (simp only [In64] at *; omega) | (simp [In64] at *; omega) | (simp_all; done) | skip)
      refine qa (qk (qb ?_))
      simp only [Try.results31, PostG, endG, rvsA, rvA, mkTup, ev0, evA, evB, evP, fl, gp, tab, simprocAttr, reduceCtorEq, reduceIte]
      have hd : decide (((i.length + 1 : Nat) : Int) ≤ (mo : Nat)) = decide (i.length + 1 ≤ mo) := decide_eq_decide.2 (by omega)
      rw [hd]
      exact ⟨[0, 1, 2, 3, 9, 5, 6, 7, 8], rfl, rfl, by simp only [leq, leA, ev0, evA, evB, evP, fl, gp, tab, simprocAttr, reduceCtorEq, reduceIte] <;> first | trivial | (simp; done) | trace_state⟩
    · (try simp only [nhs] at hC2)
      simp at hC2
  · (try simp only [nhs] at hC1)
    omega

set_option maxHeartbeats 8000000 in
set_option maxRecDepth 20000 in
theorem rleaf2 {mo : Nat} (hmo : mo ≤ 100000) (h : GT n m n e) (h' : GT N M N d) (L : List Nat) (hll : L.length ≤ n) (hLlt : ∀ x ∈ L, x < n) (hLg : ∀ a, a < n → Gen n (op m n) e (fun x => decide (x ∈ L)) a) (t : List Nat) (i : List PV) (htl : t.length = L.length) (hty : ∀ y ∈ t, y < N) (hi : (prH mo).ok i) (hex : ¬ ∃ φ, Ext n (op m n) N (op M N) L t φ) : RNext mo n m e N M d L [] t i := by
  have hn := h.2.1.big
  have hN := h'.2.1.big
  have hpos : 0 < n := h.2.1.pos
  have hnt := nl_len t
  have hnL := nl_len L
  obtain ⟨hi1, hi2⟩ := hi
  have hio := opl_ok hi2
  have hF : ∀ i, i < L.length → L.getD i 0 < n := fun i hi => hLlt _ (by simp [List.getD, List.getElem?_eq_getElem hi])
  have hT : ∀ i, i < L.length → t.getD i 0 < N := fun i hi => hty _ (by simp [List.getD, List.getElem?_eq_getElem (show i < t.length by omega)])
  have hnn : (nl L).length = (nl t).length := by omega
  unfold RNext
  have hs : hsq n (op m n) e N (op M N) d L [] t = [] := by unfold hsq hlf; rw [dif_neg hex]
  have hsp := fnc_of_p (rspread_no h h' L t htl.symm (by omega) hF hT hLg fun φ hφ => hex ⟨φ, hφ⟩) rfl
  have hpl : pls (hsq n (op m n) e N (op M N) d L [] t) = [] := by rw [hs]; rfl
  rw [hpl]
  simp only [foldS]
  refine fnq_of (q := 4) tab_ok Try.func31 rfl (by kernel_rfl) (by rw [Try.ntmps31]; exact Nat.le_add_left 9 _) ?_; rw [Try.ntmps31]; simp only [ancs, entA, List.length_cons, List.length_nil, List.cons_append, List.nil_append, Nat.reduceAdd, Nat.zero_add]
  simp only [HM, rwd_full htl, List.append_nil, List.cons_append, List.nil_append]
  rw [show L.length = (nl t).length by omega]
  refine qm ?_
  refine hk_region fun K hK => runs_eval tab_ok ?_
  simp only [ev0, evA, evB, evP, fl, gp, tab, simprocAttr, reduceCtorEq, reduceIte]
  refine fin_run trivial (hK _ ?_) <;> clear hK <;> clear K
  refine qa (qm (qm ?_))
  refine hk_region fun K hK => runs_eval tab_ok ?_
  simp only [ev0, evA, evB, evP, fl, gp, tab, simprocAttr, reduceCtorEq, reduceIte, il_length, hnn]
  refine fin_run ?_ (hK _ ?_) <;> clear hK <;> clear K
  · (first | exact trivial | omega | (simp only [In64] at *; omega) | (simp [In64] at *; omega) | (simp_all; done) | skip)
  refine qa ?_
  refine hk_cond rfl (fun hC1 => ?_) (fun hC1 => ?_)
  · (try simp only [nhs] at hC1)
    refine qm ?_
    refine hk_region fun K hK => runs_eval tab_ok ?_
    simp only [ev0, evA, evB, evP, fl, gp, tab, simprocAttr, reduceCtorEq, reduceIte]
    refine fin_stop ?_ (runs_call (b := false) (hsp) rfl (by simp only [callA, peekList, peekG, peekS, List.map_cons, List.map_nil, List.append_nil, enA, ev0, evA, evB, evP, fl, gp, tab, simprocAttr, reduceCtorEq, reduceIte, List.drop_zero, ol_drop, ol_take, take_len, ol_allP, il_all, il_length, List.length_replicate, List.take_replicate, Nat.min_self]; rfl) rfl (by simp only [dstOk, Nat.reduceLT]) ?_ (runs_eval tab_ok ?_))
    · (first | exact trivial | omega | (simp only [In64] at *; omega) | (simp [In64] at *; omega) | (simp_all; done) | skip)
    · (first | exact trivial | omega | (simp only [In64] at *; omega) | (simp [In64] at *; omega) | (simp_all; done) | skip)
    simp only [ev0, evA, evB, evP, fl, gp, tab, simprocAttr, reduceCtorEq, reduceIte]
    refine fin_run ?_ (hK _ ?_) <;> clear hK <;> clear K
    · (first | exact trivial | omega | (simp only [In64] at *; omega) | (simp [In64] at *; omega) | (simp_all; done) | skip)
    refine qa (qm (qm ?_))
    refine hk_region fun K hK => runs_eval tab_ok ?_
    simp only [ev0, evA, evB, evP, fl, gp, tab, simprocAttr, reduceCtorEq, reduceIte, binA.eq_def, Option.map_some]
    refine fin_run ?_ (hK _ ?_) <;> clear hK <;> clear K
    · first | exact hne | trivial
    refine qa ?_
    refine hk_cond rfl (fun hC2 => ?_) (fun hC2 => ?_)
    · (try simp only [nhs] at hC2)
      simp at hC2
    · (try simp only [nhs] at hC2)
      refine qh (qa (qm ?_))
      refine hk_region fun K hK => runs_eval tab_ok ?_
      simp only [ev0, evA, evB, evP, fl, gp, tab, simprocAttr, reduceCtorEq, reduceIte]
      refine fin_run ?_ (hK _ ?_) <;> clear hK <;> clear K
      · (first | exact trivial | omega | (simp only [In64] at *; omega) | (simp [In64] at *; omega) | (simp_all; done) | skip)
      refine qa (qk (qb ?_))
      simp only [Try.results31, PostG, endG, rvsA, rvA, mkTup, ev0, evA, evB, evP, fl, gp, tab, simprocAttr, reduceCtorEq, reduceIte]
      have hd : decide (((i.length : Nat) : Int) ≤ (mo : Nat)) = true := decide_eq_true (by omega)
      rw [hd]
      exact ⟨[0, 1, 2, 3, 4, 5, 6, 7, 8], rfl, rfl, by simp only [leq, leA, ev0, evA, evB, evP, fl, gp, tab, simprocAttr, reduceCtorEq, reduceIte] <;> first | trivial | trace_state⟩
  · (try simp only [nhs] at hC1)
    omega

set_option maxHeartbeats 8000000 in
set_option maxRecDepth 20000 in
theorem rstep {mo : Nat} (hmo : mo ≤ 100000) (h : GT n m n e) (h' : GT N M N d) (L : List Nat) (hll : L.length ≤ n) (hLlt : ∀ x ∈ L, x < n) (hLg : ∀ a, a < n → Gen n (op m n) e (fun x => decide (x ∈ L)) a) (x : Nat) (r t : List Nat) (i : List PV) (hx : L.getD t.length 0 = x) (htl : t.length < L.length) (hi : (prH mo).ok i)
    (IH : ∀ y, y < N → ∀ i, (prH mo).ok i → RNext mo n m e N M d L r (t ++ [y]) i) : RNext mo n m e N M d L (x :: r) t i := by
  have hn := h.2.1.big
  have hN := h'.2.1.big
  have hpos : 0 < n := h.2.1.pos
  have hnt := nl_len t
  have hnL := nl_len L
  have hxn : x < n := by rw [← hx]; exact hLlt _ (by simp [List.getD, List.getElem?_eq_getElem htl])
  have hox : ∀ y, ∀ v ∈ pls (hsu n (op m n) e N (op M N) d L r t x y), (prH mo).okx v := fun y v hv => by
    obtain ⟨w, _, rfl⟩ := List.mem_map.1 hv
    exact ⟨w, rfl⟩
  have hrl := rwd_len (Nat.le_of_lt htl)
  have h00 : foldS (prH mo) i (pls (hsu n (op m n) e N (op M N) d L r t x 0)) = (i, true) := rfl
  have hodl : (odl N M d).length = N := tbm_len _ _
  unfold RNext
  refine fnq_of (q := 4) tab_ok Try.func31 rfl (by kernel_rfl) (by rw [Try.ntmps31]; exact Nat.le_add_left 9 _) ?_; rw [Try.ntmps31]; simp only [ancs, entA, List.length_cons, List.length_nil, List.cons_append, List.nil_append, Nat.reduceAdd, Nat.zero_add]
  simp only [HM, List.append_nil, List.cons_append, List.nil_append]
  refine qm ?_
  refine hk_region fun K hK => runs_eval tab_ok ?_
  simp only [ev0, evA, evB, evP, fl, gp, tab, simprocAttr, reduceCtorEq, reduceIte]
  refine fin_run trivial (hK _ ?_) <;> clear hK <;> clear K
  refine qa (qm (qm ?_))
  refine hk_region fun K hK => runs_eval tab_ok ?_
  simp only [ev0, evA, evB, evP, fl, gp, tab, simprocAttr, reduceCtorEq, reduceIte, il_length, hnL]
  refine fin_run ?_ (hK _ ?_) <;> clear hK <;> clear K
  · (first | exact trivial | omega | (simp only [In64] at *; omega) | (simp [In64] at *; omega) | (simp_all; done) | skip)
  refine qa ?_
  refine hk_cond rfl (fun hC1 => ?_) (fun hC1 => ?_)
  · (try simp only [nhs] at hC1)
    omega
  · (try simp only [nhs] at hC1)
    refine qh (qa (qm ?_))
    refine hk_draw mixed (by kernel_rfl) fun K hK => runs_eval tab_ok ?_
    simp only [ev0, evA, evB, evP, fl, gp, tab, simprocAttr, reduceCtorEq, reduceIte, il_get (show t.length < (nl L).length by omega), nl_get htl, hx]
    refine fin_stop ?_ (runs_call (o_c h hxn) rfl rfl rfl (by simp only [dstOk, Nat.reduceLT]) (by repeat (first | exact trivial | constructor)) (runs_eval tab_ok ?_))
    · exact ⟨by omega, by omega⟩
    simp only [ev0, evA, evB, evP, fl, gp, tab, simprocAttr, reduceCtorEq, reduceIte, il_get (show t.length < (nl L).length by omega), nl_get htl, hx]
    refine fin_run ?_ (hK _ ?_) <;> clear hK <;> clear K
    · (first | exact trivial | omega | (simp only [In64] at *; omega) | (simp [In64] at *; omega) | (simp_all; done) | skip)
    refine qa (qm (qm ?_))
    refine hk_region fun K hK => runs_eval tab_ok ?_
    simp only [ev0, evA, evB, evP, fl, gp, tab, simprocAttr, reduceCtorEq, reduceIte]
    refine fin_run trivial (hK _ ?_) <;> clear hK <;> clear K
    refine qa (ql ?_)
    refine hk_loop (ι := Nat) (fun y => ⟨61, [(0, .p (.int .i64 t.length)), (3, .p (.ptr [.int .i64 N, .list (il M)])), (4, .ptr 0 0), (7, .p (.ptr [.list (il (odl N M d))])), (8, .ptr 2 0), (12, .p (.int .i64 (ord n (op m n) e x : Nat))), (13, .p (.int .i64 y))], [.own [.sl 3 0 L.length], .own [.sl 4 0 ((foldS (prH mo) i (pls (hsu n (op m n) e N (op M N) d L r t x y))).1).length], .own [.cl 31 [.p (.ptr [.list (il (nl L))]), .p (.ptr [.int .i64 n, .list (il m)]), .p (.ptr [.int .i64 N, .list (il M)]), .ptr 0 0, .ptr 1 0, .p (.ptr [.int .i64 (mo : Nat)]), .p (.ptr [.list (il (odl N M d))]), .ptr 2 0]], .own (rwd t L.length), .own (opl ((foldS (prH mo) i (pls (hsu n (op m n) e N (op M N) d L r t x y))).1)), .anc 0 0, .anc 1 1, .anc 2 2, .anc 3 3]⟩) (fun y => y ≤ N ∧ (foldS (prH mo) i (pls (hsu n (op m n) e N (op M N) d L r t x y))).2 = true) (fun y => N - y) 0 ⟨Nat.zero_le _, rfl⟩ [0, 1, 2, 3, 4, 5, 6, 7, 8] (by simp only [leq, leA, ev0, evA, evB, evP, fl, gp, tab, simprocAttr, reduceCtorEq, reduceIte, h00, rwd_ren, rwd_sc] <;> first | trivial | trace_state) fun y hy => ?_
    obtain ⟨hy1, hy2⟩ := hy
    have hok := foldS_ok (prH mo) i _ hi (hox y) hy2
    have hsc := @hsu_succ n e N d (op m n) (op M N) L r t x y
    obtain ⟨j, hj⟩ : ∃ j, (foldS (prH mo) i (pls (hsu n (op m n) e N (op M N) d L r t x y))).1 = j := ⟨_, rfl⟩
    rw [hj] at hok ⊢
    refine qm (qm ?_)
    refine hk_region fun K hK => runs_eval tab_ok ?_
    simp only [ev0, evA, evB, evP, fl, gp, tab, simprocAttr, reduceCtorEq, reduceIte]
    refine fin_run ?_ (hK _ ?_) <;> clear hK <;> clear K
    · (first | exact trivial | omega | (simp only [In64] at *; omega) | (simp [In64] at *; omega) | (simp_all; done) | skip)
    refine qa ?_
    refine hk_cond rfl (fun hC3 => ?_) (fun hC3 => ?_)
    · (try simp only [nhs] at hC3)
      have hyN : y < N := by omega
      have hoy := h'.2.2.ord_pos hyN
      have hod : (odl N M d).getD y 0 = ((ord N (op M N) d y : Nat) : Int) := tbm_get hyN
      refine qh (qa (qm (ql (qm (qm ?_)))))
      refine hk_region fun K hK => runs_eval tab_ok ?_
      simp only [ev0, evA, evB, evP, fl, gp, tab, simprocAttr, reduceCtorEq, reduceIte, il_get (show y < (odl N M d).length by omega), hod, il_length, hodl]
      refine fin_run ?_ (hK _ ?_) <;> clear hK <;> clear K
      · (first | exact trivial | omega | (simp only [In64] at *; omega) | (simp [In64] at *; omega) | (simp_all; done) | skip)
      refine qa ?_
      refine hk_cond rfl (fun hC4 => ?_) (fun hC4 => ?_)
      · (try simp only [nhs] at hC4)
        have hm : ¬ ord n (op m n) e x % ord N (op M N) d y = 0 := by omega
        rw [if_neg hm] at hsc
        have e1 : foldS (prH mo) i (pls (hsu n (op m n) e N (op M N) d L r t x (y + 1))) = (j, true) := by
          rw [hsc, ← hj, ← hy2]
        refine qj (qc (qf (qa ?_)))
        refine hk_region fun K hK => runs_eval tab_ok ?_
        simp only [ev0, evA, evB, evP, fl, gp, tab, simprocAttr, reduceCtorEq, reduceIte]
        refine fin_run ?_ (hK _ ?_) <;> clear hK <;> clear K
        · (first | exact trivial | omega | (simp only [In64] at *; omega) | (simp [In64] at *; omega) | (simp_all; done) | skip)
        refine qa ?_
        refine ⟨y + 1, [0, 1, 2, 3, 4, 5, 6, 7, 8], ⟨by omega, by rw [e1]⟩, by omega, ?_⟩
        simp only [leq, leA, ev0, evA, evB, evP, fl, gp, tab, simprocAttr, reduceCtorEq, reduceIte, e1, rwd_ren, rwd_sc] <;> first | trivial | omega | trace_state
      · (try simp only [nhs] at hC4)
        have hm : ord n (op m n) e x % ord N (op M N) d y = 0 := by omega
        rw [if_pos hm] at hsc
        have hIH := IH y hyN j hok
        have hto := foldS_on (prH mo) (b := pls (hsq n (op m n) e N (op M N) d L r (t ++ [y]))) hy2
        rw [hj] at hto
        unfold RNext at hIH
        obtain ⟨B, hB⟩ : ∃ B, (foldS (prH mo) j (pls (hsq n (op m n) e N (op M N) d L r (t ++ [y])))).2 = B := ⟨_, rfl⟩
        obtain ⟨j2, hj2⟩ : ∃ j2, (foldS (prH mo) j (pls (hsq n (op m n) e N (op M N) d L r (t ++ [y])))).1 = j2 := ⟨_, rfl⟩
        rw [hB, hj2] at hIH
        have hcn : ((t ++ [y]).length : Int) = (t.length : Int) + 1 := by simp
        rw [hcn] at hIH
        simp only [HM] at hIH
        refine qh (qa (qm ?_))
        refine hk_region fun K hK => runs_eval tab_ok ?_
        simp only [ev0, evA, evB, evP, fl, gp, tab, simprocAttr, reduceCtorEq, reduceIte, rwd_set htl, hrl]
        refine fin_run ?_ (hK _ ?_) <;> clear hK <;> clear K
        · (first | exact trivial | omega | (simp only [In64] at *; omega) | (simp [In64] at *; omega) | (simp_all; done) | skip)
        refine qa (qm ?_)
        refine hk_region fun K hK => runs_eval tab_ok ?_
        simp only [ev0, evA, evB, evP, fl, gp, tab, simprocAttr, reduceCtorEq, reduceIte]
        refine fin_stop ?_ (runs_callQ [0, 1, 2, 3, 4] (hIH) rfl rfl ?_ (by simp only [leA, ev0, evA, evB, evP, fl, gp, tab, simprocAttr, reduceCtorEq, reduceIte, rwd_ren, rwd_sc]; first | trivial | (simp only [ll_takeL]; first | trivial | (repeat constructor; done)) | (repeat constructor)) (by decide) (by first | rfl | (simp only [List.length_cons, List.length_nil, List.length_append]; decide)) (by first | rfl | (simp [scQ, scA, sc1, mpKeep, notAnc, Blk.spc, opl_sc, rwd_ren, rwd_sc]; done)) (by simp only [dstOk, Nat.reduceLT]) (runs_eval tab_ok ?_))
        · (first | exact trivial | omega | (simp only [In64] at *; omega) | (simp [In64] at *; omega) | (simp_all; done) | skip)
        · (simp only [argsM, argM1, peekG, peekS, scA, sc1, ren, ren1, List.map_cons, List.map_nil, List.append_nil, List.cons_append, List.nil_append, enA, ev0, evA, evB, evP, fl, gp, tab, simprocAttr, reduceCtorEq, reduceIte]; try trivial)
        simp only [putM, kills, hset, List.take_succ_cons, List.take_zero, List.drop_succ_cons, List.drop_zero, List.range', Blk.ren, ren, ren1, List.map_cons, List.map_nil, List.cons_append, List.nil_append, List.append_nil, List.length_cons, List.length_nil, ev0, evA, evB, evP, fl, gp, tab, simprocAttr, reduceCtorEq, reduceIte, rwd_ren, rwd_sc]
        refine fin_run ?_ (hK _ ?_) <;> clear hK <;> clear K
        · (first | exact trivial | omega | (simp only [In64] at *; omega) | (simp [In64] at *; omega) | (simp_all; done) | skip)
        refine qa ?_
        refine hk_back 3 rfl htl ?_
        refine hk_cond rfl (fun hC5 => ?_) (fun hC5 => ?_)
        · (try simp only [nhs] at hC5)
          subst hC5
          obtain ⟨z, hz⟩ := @hsu_pre n e N d (op m n) (op M N) L r t x (y + 1) (by omega)
          have hfin : foldS (prH mo) i (pls (hsq n (op m n) e N (op M N) d L (x :: r) t)) = (j2, false) := by
            have e1 : foldS (prH mo) i (pls (hsu n (op m n) e N (op M N) d L r t x (y + 1))) = (j2, false) := by
              rw [hsc, pls_app, hto, ← hj2, ← hB]
            rw [hz, pls_app, foldS_pre (prH mo) (by rw [e1]), e1]
          rw [hfin]
          refine qm ?_
          refine hk_region fun K hK => runs_eval tab_ok ?_
          simp only [ev0, evA, evB, evP, fl, gp, tab, simprocAttr, reduceCtorEq, reduceIte]
          refine fin_run trivial (hK _ ?_) <;> clear hK <;> clear K
          refine qa (qk (qe (qb (qb (qe (qb ?_))))))
          simp only [Try.results31, PostG, endG, rvsA, rvA, mkTup, ev0, evA, evB, evP, fl, gp, tab, simprocAttr, reduceCtorEq, reduceIte]
          all_goals (exact ⟨[0, 1, 2, 3, 9, 5, 6, 7, 8], rfl, rfl, by simp only [leq, leA, ev0, evA, evB, evP, fl, gp, tab, simprocAttr, reduceCtorEq, reduceIte, rwd_ren, rwd_sc] <;> first | trivial | trace_state⟩)
        · (try simp only [nhs] at hC5)
          obtain rfl : B = true := by simpa using hC5
          have e1 : foldS (prH mo) i (pls (hsu n (op m n) e N (op M N) d L r t x (y + 1))) = (j2, true) := by
            rw [hsc, pls_app, hto, ← hj2, ← hB]
          refine qh (qd (qa ?_))
          refine hk_region fun K hK => runs_eval tab_ok ?_
          simp only [ev0, evA, evB, evP, fl, gp, tab, simprocAttr, reduceCtorEq, reduceIte]
          refine fin_run ?_ (hK _ ?_) <;> clear hK <;> clear K
          · (first | exact trivial | omega | (simp only [In64] at *; omega) | (simp [In64] at *; omega) | (simp_all; done) | skip)
          refine qa ?_
          refine ⟨y + 1, [0, 1, 2, 3, 9, 5, 6, 7, 8], ⟨by omega, by rw [e1]⟩, by omega, ?_⟩
          simp only [leq, leA, ev0, evA, evB, evP, fl, gp, tab, simprocAttr, reduceCtorEq, reduceIte, e1, rwd_ren, rwd_sc] <;> first | trivial | omega | trace_state
    · (try simp only [nhs] at hC3)
      obtain rfl : y = N := by omega
      have hfin : foldS (prH mo) i (pls (hsq n (op m n) e y (op M y) d L (x :: r) t)) = (j, true) := by
        rw [hsu_end, ← hj, ← hy2]
      rw [hfin]
      refine qj (qc (qc (qf (qa (qm ?_)))))
      refine hk_region fun K hK => runs_eval tab_ok ?_
      simp only [ev0, evA, evB, evP, fl, gp, tab, simprocAttr, reduceCtorEq, reduceIte]
      refine fin_run trivial (hK _ ?_) <;> clear hK <;> clear K
      refine qa (qk ?_)
      simp only [Try.results31, PostG, endG, rvsA, rvA, mkTup, ev0, evA, evB, evP, fl, gp, tab, simprocAttr, reduceCtorEq, reduceIte]
      all_goals (exact ⟨[0, 1, 2, 3, 4, 5, 6, 7, 8], rfl, rfl, by simp only [leq, leA, ev0, evA, evB, evP, fl, gp, tab, simprocAttr, reduceCtorEq, reduceIte, rwd_ren, rwd_sc] <;> first | trivial | trace_state⟩)

theorem rnext_c {mo : Nat} (hmo : mo ≤ 100000) (h : GT n m n e) (h' : GT N M N d) (L : List Nat) (hll : L.length ≤ n) (hLlt : ∀ x ∈ L, x < n) (hLg : ∀ a, a < n → Gen n (op m n) e (fun x => decide (x ∈ L)) a) : ∀ (r t : List Nat) (i : List PV), t.length ≤ L.length → L.drop t.length = r → (∀ y ∈ t, y < N) → (prH mo).ok i → RNext mo n m e N M d L r t i
  | [], t, i, h1, h2, h3, hi => by
    have htl : t.length = L.length := by
      have := congrArg List.length h2
      simp at this; omega
    by_cases hex : ∃ φ, Ext n (op m n) N (op M N) L t φ
    · exact rleaf1 hmo h h' L hll hLlt hLg t i htl h3 hi hex
    · exact rleaf2 hmo h h' L hll hLlt hLg t i htl h3 hi hex
  | x :: r, t, i, h1, h2, h3, hi => by
    have htl : t.length < L.length := by
      have := congrArg List.length h2
      simp at this; omega
    have hd : L.drop t.length = L[t.length] :: L.drop (t.length + 1) := List.drop_eq_getElem_cons htl
    rw [h2] at hd
    obtain ⟨e1, e2⟩ := List.cons.inj hd
    refine rstep hmo h h' L hll hLlt hLg x r t i (by simp [List.getD, List.getElem?_eq_getElem htl, e1]) htl hi fun y hy j hj => ?_
    exact rnext_c hmo h h' L hll hLlt hLg r (t ++ [y]) j (by simp; omega) (by rw [List.length_append]; exact e2.symm) (fun z hz => by
      rcases List.mem_append.1 hz with hz | hz
      · exact h3 z hz
      · have : z = y := by simpa using hz
        omega) hj
end

section
variable {n e N d : Nat} {m M : List Int}
/-- What the reference hands out, in its order. -/
noncomputable def rfW (n : Nat) (m : List Int) (e N : Nat) (M : List Int) (d : Nat) : List (List Int) := hsq n (op m n) e N (op M N) d (tn (mkS n m e n)) (tn (mkS n m e n)) []
theorem tst_tn {l : List Int} (h : ∀ x ∈ l, ∃ a, a < n ∧ x = ((a : Nat) : Int)) : tst l = fun x => decide (x ∈ tn l) := funext fun x => by
  unfold tst
  refine decide_eq_decide.2 ⟨fun hx => List.mem_map.2 ⟨_, hx, rfl⟩, fun hx => ?_⟩
  obtain ⟨y, hy, he⟩ := List.mem_map.1 hx
  obtain ⟨a, _, rfl⟩ := h y hy
  rw [← he]; exact hy
theorem mk_facts (h : GT n m n e) : nl (tn (mkS n m e n)) = mkS n m e n ∧ (tn (mkS n m e n)).length ≤ n ∧ (∀ x ∈ tn (mkS n m e n), x < n) ∧ ∀ a, a < n → Gen n (op m n) e (fun x => decide (x ∈ tn (mkS n m e n))) a := by
  have hm := mkS_mem (m := m) (e := e) h.2.1.pos n
  refine ⟨nl_tn fun i hi => ?_, by rw [tn_len]; exact mkS_len n m e n, fun x hx => ?_, fun a ha => ?_⟩
  · obtain ⟨a, _, h1⟩ := hm _ (List.getElem_mem hi)
    simp only [List.getD, List.getElem?_eq_getElem hi, Option.getD_some]
    omega
  · obtain ⟨y, hy, rfl⟩ := List.mem_map.1 hx
    obtain ⟨a, ha, rfl⟩ := hm y hy
    simpa using ha
  · rw [← tst_tn hm]; exact mk_gen h.2.2 ha
theorem rfW_perm (h : GT n m n e) (h' : GT N M N d) : (hmW n m e N M d).Perm (rfW n m e N M d) := by
  obtain ⟨_, h2, h3, h4⟩ := mk_facts h
  refine (List.perm_ext_iff_of_nodup (hmW_nodup h h') (hsq_nodup h.2.2 h'.2.2 h3 h4 _ [] (Nat.zero_le _) rfl)).2 fun w => ?_
  rw [hmW_mem h h']
  refine Iff.symm ((hsq_iff h.2.2 h'.2.2 h3 h4 w _ [] (Nat.zero_le _) rfl).trans ?_)
  exact ⟨fun ⟨φ, a, b, _⟩ => ⟨φ, a, b⟩, fun ⟨φ, a, b⟩ => ⟨φ, a, b, fun i hi => absurd hi (Nat.not_lt_zero _)⟩⟩

set_option maxHeartbeats 8000000 in
set_option maxRecDepth 20000 in
theorem homs_c (mo : Nat) (hmo : mo ≤ 100000) (h : GT n m n e) (h' : GT N M N d) : FnC Try.prog 9 [gp n m, gp N M, .int .i64 (mo : Nat)] (.tup [if (hmW n m e N M d).length ≤ mo then .list (ll (srtL (hmW n m e N M d))) else .list [], .bool (decide ((hmW n m e N M d).length ≤ mo))]) := by
  obtain ⟨hmk, hLl, hLlt, hLg⟩ := mk_facts h
  have hmc := makers_c h
  have hpe := rfW_perm h h'
  have hple := hpe.length_eq
  have hWm : ∀ v ∈ rfW n m e N M d, v.length = n := fun v hv => by
    obtain ⟨φ, _, rfl⟩ := hsq_mem _ _ v hv
    exact tbm_len n φ
  have hNx := rnext_c hmo h h' (tn (mkS n m e n)) hLl hLlt hLg (tn (mkS n m e n)) [] [] (Nat.zero_le _) rfl (fun y hy => by simp at hy) ⟨by simp, rfl⟩
  unfold RNext at hNx
  have hW : hsq n (op m n) e N (op M N) d (tn (mkS n m e n)) (tn (mkS n m e n)) [] = rfW n m e N M d := rfl
  rw [hW] at hNx
  obtain ⟨j, b, hf, hj1, hj2⟩ : ∃ j b, foldS (prH mo) [] (pls (rfW n m e N M d)) = (j, b) ∧ ((rfW n m e N M d).length ≤ mo → b = true ∧ j = ll (rfW n m e N M d)) ∧ (¬ (rfW n m e N M d).length ≤ mo → b = false) := by
    by_cases hw : (rfW n m e N M d).length ≤ mo
    · have := foldH mo (pls (rfW n m e N M d)) [] (by simpa [pls] using hw)
      exact ⟨_, _, this, fun _ => ⟨rfl, rfl⟩, fun h => absurd hw h⟩
    · obtain ⟨j, h1⟩ := foldH_no mo (pls (rfW n m e N M d)) [] (by simp) (by simpa [pls] using hw)
      exact ⟨j, false, h1, fun h => absurd h hw, fun _ => rfl⟩
  rw [hf] at hNx
  simp only [HM] at hNx
  have hc0 : ((([] : List Nat).length : Nat) : Int) = 0 := rfl
  rw [hc0] at hNx
  have hL := tn_len (mkS n m e n)
  rw [hmk] at hNx
  simp only [hL, show opl [] = [] from rfl, List.length_nil] at hNx
  have hn := h.2.1.big
  have hN := h'.2.1.big
  have hrw : List.replicate (List.replicate (mkS n m e n).length (AV.p (.int .i64 0))).length AV.dead = rwd [] (mkS n m e n).length := by simp [rwd, nl, il, opl]
  have hrz : (rgz N fun y => if y < 0 then ((ord N (op M N) d y : Nat) : Int) else 0) = rgz N fun _ => 0 := rgz_congr fun a ha => by simp
  have rwd_tk : List.take (rwd [] (mkS n m e n).length).length (rwd [] (mkS n m e n).length) = rwd [] (mkS n m e n).length := List.take_length
  refine fnc_of tab_ok Try.func9 rfl (by kernel_rfl) (by rw [Try.ntmps9]; exact Nat.le_add_left 3 _) ?_; rw [Try.ntmps9]
  refine qm ?_
  refine hk_region fun K hK => runs_eval tab_ok ?_
  simp only [ev0, evA, evB, evP, fl, gp, tab, simprocAttr, reduceCtorEq, reduceIte]
  refine fin_run ?_ (hK _ ?_) <;> clear hK <;> clear K
  · (first | exact trivial | omega | (simp only [In64] at *; omega) | (simp [In64] at *; omega) | (simp_all; done) | skip)
  refine qa (qm ?_)
  refine hk_region fun K hK => runs_eval tab_ok ?_
  simp only [ev0, evA, evB, evP, fl, gp, tab, simprocAttr, reduceCtorEq, reduceIte]
  refine fin_stop trivial (runs_call (hmc) rfl rfl rfl (by simp only [dstOk, Nat.reduceLT]) (by repeat (first | exact trivial | constructor)) (runs_eval tab_ok ?_))
  simp only [ev0, evA, evB, evP, fl, gp, tab, simprocAttr, reduceCtorEq, reduceIte]
  refine fin_run ?_ (hK _ ?_) <;> clear hK <;> clear K
  · (first | exact trivial | omega | (simp only [In64] at *; omega) | (simp [In64] at *; omega) | (simp_all; done) | skip)
  refine qa (qm ?_)
  refine hk_region fun K hK => runs_eval tab_ok ?_
  simp only [ev0, evA, evB, evP, fl, gp, tab, simprocAttr, reduceCtorEq, reduceIte]
  refine fin_run ?_ (hK _ ?_) <;> clear hK <;> clear K
  · have := mkS_len n m e n
    exact ⟨by omega, by omega, by omega, by omega⟩
  refine qa (qm ?_)
  refine hk_region fun K hK => runs_eval tab_ok ?_
  simp only [ev0, evA, evB, evP, fl, gp, tab, simprocAttr, reduceCtorEq, reduceIte]
  refine fin_run ?_ (hK _ ?_) <;> clear hK <;> clear K
  · (first | exact trivial | omega | (simp only [In64] at *; omega) | (simp [In64] at *; omega) | (simp_all; done) | skip)
  refine qa (qm ?_)
  refine hk_forget 4 rfl ?_
  simp only [hset, hrw]
  refine hk_region fun K hK => runs_eval tab_ok ?_
  simp only [ev0, evA, evB, evP, fl, gp, tab, simprocAttr, reduceCtorEq, reduceIte, makeSliceA.eq_def, rgz_new]
  refine fin_run ?_ (hK _ ?_) <;> clear hK <;> clear K
  · exact ⟨by omega, by omega, by omega, by omega⟩
  refine qa (qm (qm ?_))
  refine hk_region fun K hK => runs_eval tab_ok ?_
  simp only [ev0, evA, evB, evP, fl, gp, tab, simprocAttr, reduceCtorEq, reduceIte]
  refine fin_run trivial (hK _ ?_) <;> clear hK <;> clear K
  refine qa (ql ?_)
  refine hk_loop (ι := Nat) (fun k => ⟨40, [(3, .ptr 0 0), (4, .ptr 1 0), (5, .ptr 2 0), (8, .ptr 3 0), (9, .ptr 5 0), (10, .ptr 6 0), (11, .ptr 8 0), (12, .p (.int .i64 k))], [.own [.p (.int .i64 n), .p (.list (il m))], .own [.p (.int .i64 N), .p (.list (il M))], .own [.p (.int .i64 (mo : Nat))], .own [.p (.list (il (mkS n m e n)))], .own (rwd [] (mkS n m e n).length), .own [.sl 4 0 (mkS n m e n).length], .own [.p .nil], .own (ol (rgz N fun y => if y < k then ((ord N (op M N) d y : Nat) : Int) else 0)), .own [.sl 7 0 N]]⟩) (fun k => k ≤ N) (fun k => N - k) 0 (Nat.zero_le _) [0, 1, 2, 3, 4, 5, 6, 7, 8] (by simp only [leq, leA, ev0, evA, evB, evP, fl, gp, tab, simprocAttr, reduceCtorEq, reduceIte, rwd_ren, rwd_sc, rwd_tk] <;> first | trivial | exact ⟨rfl, rfl⟩ | (rw [hrz, List.take_of_length_le (by rw [rgz_len]; exact Nat.le_refl _)]; done) | (simp [rgz_len]; done) | trace_state) fun k hk => ?_
  have hr := rgz_len N fun y => if y < k then ((ord N (op M N) d y : Nat) : Int) else 0
  refine qm (qm ?_)
  refine hk_region fun K hK => runs_eval tab_ok ?_
  simp only [ev0, evA, evB, evP, fl, gp, tab, simprocAttr, reduceCtorEq, reduceIte]
  refine fin_run ?_ (hK _ ?_) <;> clear hK <;> clear K
  · (first | exact trivial | omega | (simp only [In64] at *; omega) | (simp [In64] at *; omega) | (simp_all; done) | skip)
  refine qa ?_
  refine hk_cond rfl (fun hC1 => ?_) (fun hC1 => ?_)
  · (try simp only [nhs] at hC1)
    have hkl : k < N := by omega
    have hse : (rgz N fun y => if y < k then ((ord N (op M N) d y : Nat) : Int) else 0).set k ((ord N (op M N) d k : Nat) : Int) = rgz N fun y => if y < k + 1 then ((ord N (op M N) d y : Nat) : Int) else 0 := by
      rw [rgz_set]
      exact rgz_congr fun a ha => by
        by_cases e : a = k
        · simp [e]
        · by_cases e2 : a < k
          · simp [e, e2, show a < k + 1 by omega]
          · simp [e, e2, show ¬ a < k + 1 by omega]
    refine qh (qa (qm (ql ?_)))
    refine hk_draw mixed (by kernel_rfl) fun K hK => runs_eval tab_ok ?_
    simp only [ev0, evA, evB, evP, fl, gp, tab, simprocAttr, reduceCtorEq, reduceIte, ol_set, hse]
    refine fin_stop trivial (runs_call (o_c h' hkl) rfl rfl rfl (by simp only [dstOk, Nat.reduceLT]) (by repeat (first | exact trivial | constructor)) (runs_eval tab_ok ?_))
    simp only [ev0, evA, evB, evP, fl, gp, tab, simprocAttr, reduceCtorEq, reduceIte, ol_set, hse]
    refine fin_run ?_ (hK _ ?_) <;> clear hK <;> clear K
    · (first | exact trivial | omega | (simp only [In64] at *; omega) | (simp [In64] at *; omega) | (simp_all; done) | skip)
    refine qd (qa ?_)
    refine hk_region fun K hK => runs_eval tab_ok ?_
    simp only [ev0, evA, evB, evP, fl, gp, tab, simprocAttr, reduceCtorEq, reduceIte]
    refine fin_run ?_ (hK _ ?_) <;> clear hK <;> clear K
    · (first | exact trivial | omega | (simp only [In64] at *; omega) | (simp [In64] at *; omega) | (simp_all; done) | skip)
    refine qa ?_
    refine ⟨k + 1, [0, 1, 2, 3, 4, 5, 6, 7, 8], by omega, by omega, ?_⟩
    simp only [leq, leA, ev0, evA, evB, evP, fl, gp, tab, simprocAttr, reduceCtorEq, reduceIte, rwd_ren, rwd_sc, rwd_tk] <;> first | trivial | omega | (simp [ol_length, rgz_len]; done) | trace_state
  · (try simp only [nhs] at hC1)
    obtain rfl : k = N := by omega
    have hod : (rgz k fun y => if y < k then ((ord k (op M k) d y : Nat) : Int) else 0) = odl k M d := by
      unfold rgz odl tbm
      exact List.map_congr_left fun a ha => by rw [if_pos (List.mem_range.1 ha)]
    have hodl : (odl k M d).length = k := tbm_len _ _
    rw [hod]
    refine qj (qc (qc (qf (qa (qm ?_)))))
    refine hk_region fun K hK => runs_eval tab_ok ?_
    simp only [ev0, evA, evB, evP, fl, gp, tab, simprocAttr, reduceCtorEq, reduceIte]
    refine fin_run ?_ (hK _ ?_) <;> clear hK <;> clear K
    · (first | exact trivial | omega | (simp only [In64] at *; omega) | (simp [In64] at *; omega) | (simp_all; done) | skip)
    refine qa (qm ?_)
    refine hk_freeze 7 rfl (opl_allP (il (odl k M d))) ?_
    refine hk_purec 8 0 rfl rfl rfl ⟨by rw [il_length]; omega, ?_⟩ ?_
    · exact (List.all_eq_true.2 fun x hx => List.all_eq_true.1 (il_all _) x (List.mem_of_mem_drop (List.mem_of_mem_take hx)))
    refine hk_freeze 0 rfl rfl ?_
    refine hk_freeze 1 rfl rfl ?_
    refine hk_freeze 2 rfl rfl ?_
    refine hk_freeze 3 rfl rfl ?_
    refine hk_own0c 6 0 rfl rfl ?_
    simp only [hset, List.set_cons_zero, List.set, List.drop_zero, List.cons_append, List.nil_append, List.length_cons, List.length_nil, Nat.reduceAdd, Nat.zero_add]
    rw [show List.take k (il (odl k M d)) = il (odl k M d) from List.take_of_length_le (by rw [il_length]; omega)]
    refine hk_freeze 8 rfl rfl ?_
    refine hk_pure 3 rfl (Nat.zero_le _) ?_
    refine hk_pure 4 rfl (Nat.zero_le _) ?_
    refine hk_pure 5 rfl (Nat.zero_le _) ?_
    refine hk_pure 8 rfl (Nat.zero_le _) ?_
    refine hk_pure 11 rfl (Nat.zero_le _) ?_
    simp only [hset, List.drop_zero]
    refine hk_region fun K hK => runs_eval tab_ok ?_
    simp only [ev0, evA, evB, evP, fl, gp, tab, simprocAttr, reduceCtorEq, reduceIte]
    refine fin_stop ?_ (runs_op (makeCl_does rfl rfl) rfl (by simp only [dstOk, Nat.reduceLT]) (runs_eval tab_ok ?_))
    · (first | exact trivial | omega | (simp only [In64] at *; omega) | (simp [In64] at *; omega) | (simp_all; done) | skip)
    simp only [ev0, evA, evB, evP, fl, gp, tab, simprocAttr, reduceCtorEq, reduceIte]
    refine fin_run ?_ (hK _ ?_) <;> clear hK <;> clear K
    · (first | exact trivial | omega | (simp only [In64] at *; omega) | (simp [In64] at *; omega) | (simp_all; done) | skip)
    refine qa (qm (qm ?_))
    refine hk_region fun K hK => runs_eval tab_ok ?_
    simp only [ev0, evA, evB, evP, fl, gp, tab, simprocAttr, reduceCtorEq, reduceIte]
    refine fin_stop ?_ (runs_callQ [5, 6, 9, 4, 10] (hNx) rfl rfl ?_ (by simp only [leA, ev0, evA, evB, evP, fl, gp, tab, simprocAttr, reduceCtorEq, reduceIte, rwd_ren, rwd_sc]; first | trivial | (simp only [ll_takeL]; first | trivial | (repeat constructor; done)) | (repeat constructor)) (by decide) (by first | rfl | (simp only [List.length_cons, List.length_nil, List.length_append]; decide)) (by first | rfl | (simp [scQ, scA, sc1, mpKeep, notAnc, Blk.spc, opl_sc, rwd_ren, rwd_sc]; done)) (by simp only [dstOk, Nat.reduceLT]) (runs_eval tab_ok ?_))
    · (first | exact trivial | omega | (simp only [In64] at *; omega) | (simp [In64] at *; omega) | (simp_all; done) | skip)
    · (simp only [argsM, argM1, peekG, peekS, scA, sc1, ren, ren1, List.map_cons, List.map_nil, List.append_nil, List.cons_append, List.nil_append, enA, ev0, evA, evB, evP, fl, gp, tab, simprocAttr, reduceCtorEq, reduceIte]; try trivial)
    simp only [putM, kills, hset, List.take_succ_cons, List.take_zero, List.drop_succ_cons, List.drop_zero, List.range', Blk.ren, ren, ren1, List.map_cons, List.map_nil, List.cons_append, List.nil_append, List.append_nil, List.length_cons, List.length_nil, ev0, evA, evB, evP, fl, gp, tab, simprocAttr, reduceCtorEq, reduceIte, rwd_ren, rwd_sc]
    refine fin_run ?_ (hK _ ?_) <;> clear hK <;> clear K
    · (first | exact trivial | omega | (simp only [In64] at *; omega) | (simp [In64] at *; omega) | (simp_all; done) | skip)
    refine qa ?_
    refine hk_cond rfl (fun hC2 => ?_) (fun hC2 => ?_)
    · (try simp only [nhs] at hC2)
      have hw : ¬ (hmW n m e k M d).length ≤ mo := fun hw => by
        rw [(hj1 (by omega)).1] at hC2; simp at hC2
      refine qm ?_
      refine hk_region fun K hK => runs_eval tab_ok ?_
      simp only [ev0, evA, evB, evP, fl, gp, tab, simprocAttr, reduceCtorEq, reduceIte]
      refine fin_run trivial (hK _ ?_) <;> clear hK <;> clear K
      refine qa (qk (qb ?_))
      simp only [Try.results9, enA, ev0, evA, evB, evP, fl, gp, tab, simprocAttr, reduceCtorEq, reduceIte]
      all_goals (rw [if_neg hw, decide_eq_false hw]; exact ⟨rfl, rfl⟩)
    · (try simp only [nhs] at hC2)
      have hw : (hmW n m e k M d).length ≤ mo := Classical.byContradiction fun hw => by
        rw [hj2 (by omega)] at hC2; simp at hC2
      obtain ⟨_, rfl⟩ := hj1 (by omega)
      have hsl := (srtL_perm (rfW n m e k M d)).length_eq
      have hsu : srtL (rfW n m e k M d) = srtL (hmW n m e k M d) := srtL_unique (hpe.trans (srtL_perm _)) (srtL_sorted _)
      refine qh (qa (qm ?_))
      refine hk_region fun K hK => runs_eval tab_ok ?_
      simp only [ev0, evA, evB, evP, fl, gp, tab, simprocAttr, reduceCtorEq, reduceIte]
      refine fin_stop ?_ (runs_callM [11] (rising_c n (rfW n m e k M d) (by omega) (by omega) hWm) rfl rfl ?_ (by simp only [leA, ev0, evA, evB, evP, fl, gp, tab, simprocAttr, reduceCtorEq, reduceIte]; first | trivial | (simp only [ll_takeL]; first | trivial | (repeat constructor; done)) | (repeat constructor)) (by decide) (by first | rfl | (simp only [List.length_cons, List.length_nil, List.length_append]; decide)) (by first | rfl | (simp only [scM, opl_sc, List.all_cons, List.all_nil, List.length_cons, List.length_nil]; first | rfl | decide) | (simp [scM, scA, sc1, mpKeep, notAnc]; done)) (by simp only [dstOk, Nat.reduceLT]) (runs_eval tab_ok ?_))
      · (first | exact trivial | omega | (simp only [In64] at *; omega) | (simp [In64] at *; omega) | (simp_all; done) | skip)
      · (simp only [argsM, argM1, peekG, peekS, scA, sc1, ren, ren1, List.map_cons, List.map_nil, List.append_nil, List.cons_append, List.nil_append, enA, ev0, evA, evB, evP, fl, gp, tab, simprocAttr, reduceCtorEq, reduceIte]; try trivial)
      simp only [putM, hset, List.range', Blk.ren, ren, ren1, List.map_cons, List.map_nil, List.cons_append, List.nil_append, List.append_nil, List.length_cons, List.length_nil, ev0, evA, evB, evP, fl, gp, tab, simprocAttr, reduceCtorEq, reduceIte]
      refine fin_run ?_ (hK _ ?_) <;> clear hK <;> clear K
      · (first | exact trivial | omega | (simp only [In64] at *; omega) | (simp [In64] at *; omega) | (simp_all; done) | skip)
      refine qa (qk ?_)
      simp only [Try.results9, enA, ev0, evA, evB, evP, fl, gp, tab, simprocAttr, reduceCtorEq, reduceIte]
      rw [if_pos hw, decide_eq_true hw, ← hsu, List.take_of_length_le (show (ll (srtL (rfW n m e k M d))).length ≤ (rfW n m e k M d).length by rw [ll_length]; omega)]
      exact ⟨⟨by omega, ll_all _⟩, rfl, rfl⟩
end
end Go.Proofs.Ytboadfahlflmhaa

/-
  Rows of equations modulo a prime, reduced as they come: what is reckoned. Conditions: none.
-/
set_option linter.all false
namespace Go.Proofs.Ytboadfahlflmhaa
open Go.Pv

/-- The primes that are let in. -/
def pr (p : Nat) : Prop := p = 2 ∨ p = 3 ∨ p = 5 ∨ p = 7
instance (p : Nat) : Decidable (pr p) := by unfold pr; infer_instance
theorem pr.le {p : Nat} (h : pr p) : 2 ≤ p ∧ p ≤ 7 := by unfold pr at h; omega

/-- A row, written anew from i to j. -/
def updR (f : Nat → Int) (i j : Nat) (u : List Int) : List Int := (List.range u.length).map fun t => if i ≤ t ∧ t < j then f t else u.getD t 0

theorem updR_len (f : Nat → Int) (i j : Nat) (u : List Int) : (updR f i j u).length = u.length := by simp [updR]
theorem updR_get {f : Nat → Int} {i j t : Nat} {u : List Int} (h : t < u.length) : (updR f i j u).getD t 0 = if i ≤ t ∧ t < j then f t else u.getD t 0 := by
  simp [updR, List.getD, List.getElem?_map, List.getElem?_range h]
theorem updR_start (f : Nat → Int) (i : Nat) (u : List Int) : updR f i i u = u := by
  apply List.ext_getElem (by rw [updR_len])
  intro t h1 h2
  have := updR_get (f := f) (i := i) (j := i) (t := t) (u := u) h2
  rw [if_neg (by omega)] at this
  simpa [List.getD, List.getElem?_eq_getElem h1, List.getElem?_eq_getElem h2] using this
theorem updR_set {f : Nat → Int} {i j : Nat} {u : List Int} (hi : i ≤ j) (hj : j < u.length) : (updR f i j u).set j (f j) = updR f i (j + 1) u := by
  apply List.ext_getElem (by simp [updR_len])
  intro t h1 h2
  have h3 : t < u.length := by simpa [updR_len] using h2
  have e1 := updR_get (f := f) (i := i) (j := j) (t := t) (u := u) h3
  have e2 := updR_get (f := f) (i := i) (j := j + 1) (t := t) (u := u) h3
  simp only [List.getD, List.getElem?_eq_getElem (show t < (updR f i j u).length by rw [updR_len]; exact h3), List.getElem?_eq_getElem h2, Option.getD_some] at e1 e2
  rw [e2, List.getElem_set]
  by_cases e : j = t
  · subst e
    rw [if_pos rfl, if_pos (by omega)]
  · rw [if_neg e, e1]
    by_cases h4 : i ≤ t ∧ t < j
    · rw [if_pos h4, if_pos (by omega)]
    · rw [if_neg h4, if_neg (by omega)]

/-- All that is in a row is between 0 and p. -/
def rng (p : Nat) (u : List Int) : Prop := ∀ t, t < u.length → 0 ≤ u.getD t 0 ∧ u.getD t 0 < p

theorem updR_rng {p : Nat} {f : Nat → Int} {i j : Nat} {u : List Int} (hf : ∀ t, i ≤ t → t < j → 0 ≤ f t ∧ f t < p) (hu : ∀ t, t < u.length → ¬ (i ≤ t ∧ t < j) → 0 ≤ u.getD t 0 ∧ u.getD t 0 < p) : rng p (updR f i j u) := by
  intro t ht
  rw [updR_len] at ht
  rw [updR_get ht]
  split
  · rename_i h; exact hf t h.1 h.2
  · rename_i h; exact hu t ht h

/-- The least number that makes 1 of another. -/
def inv (p : Nat) (x : Int) : Nat := ((List.range p).find? fun k => decide ((k * x.toNat) % p = 1)).getD 0

theorem inv_spec {p : Nat} {x : Int} (hp : pr p) (h0 : 0 < x) (h1 : x < p) : 1 ≤ inv p x ∧ inv p x < p ∧ ((inv p x : Int) * x) % p = 1 ∧ ∀ k : Nat, k < inv p x → ((k : Int) * x) % p ≠ 1 := by
  have key : ∀ p ∈ [2, 3, 5, 7], ∀ x < p, 0 < x → 1 ≤ inv p (x : Nat) ∧ inv p (x : Nat) < p ∧ (inv p (x : Nat) * x) % p = 1 ∧ ∀ k < inv p (x : Nat), (k * x) % p ≠ 1 := by decide
  obtain ⟨y, rfl⟩ : ∃ y : Nat, x = (y : Int) := ⟨x.toNat, by omega⟩
  obtain ⟨a1, a2, a3, a4⟩ := key p (by unfold pr at hp; simp; omega) y (by omega) (by omega)
  refine ⟨a1, a2, ?_, fun k hk => ?_⟩
  · have : ((inv p (y : Nat) : Int) * y) % p = ((inv p (y : Nat) * y % p : Nat) : Int) := by push_cast; rfl
    rw [this, a3]; rfl
  · have : ((k : Int) * y) % p = ((k * y % p : Nat) : Int) := by push_cast; rfl
    rw [this]
    have := a4 k hk
    omega

/-- The rows that are there, by where they begin. -/
def dOf : List (Nat × List Int) → Int → Bool
  | [] => fun _ => false
  | e :: L => fun u => u == (e.1 : Int) || dOf L u
def vOf : List (Nat × List Int) → Int → PV
  | [] => fun _ => default
  | e :: L => fun u => bif u == (e.1 : Int) then .list (il e.2) else vOf L u
def lkp : List (Nat × List Int) → Nat → Option (List Int)
  | [], _ => none
  | e :: L, i => if i = e.1 then some e.2 else lkp L i

theorem dOf_iff : ∀ {L : List (Nat × List Int)} {i : Nat}, dOf L (i : Int) = (lkp L i).isSome
  | [], i => rfl
  | e :: L, i => by
    simp only [dOf, lkp]
    by_cases h : i = e.1
    · rw [if_pos h, h]; simp
    · have : ((i : Int) == (e.1 : Int)) = false := by simp; omega
      rw [if_neg h, this, Bool.false_or, dOf_iff]
theorem vOf_some : ∀ {L : List (Nat × List Int)} {i : Nat} {w : List Int}, lkp L i = some w → vOf L (i : Int) = .list (il w)
  | [], i, w, h => by cases h
  | e :: L, i, w, h => by
    simp only [vOf, lkp] at h ⊢
    by_cases h1 : i = e.1
    · rw [if_pos h1] at h
      cases h
      rw [h1]; simp
    · have : ((i : Int) == (e.1 : Int)) = false := by simp; omega
      rw [if_neg h1] at h
      rw [this, cond_false]; exact vOf_some h

/-- A row without another's multiple. -/
def redAt (p : Nat) (w : List Int) (i : Nat) (u : List Int) : List Int := updR (fun t => (u.getD t 0 - u.getD i 0 * w.getD t 0) % p) i u.length u
def mulAll (p : Nat) (k : Int) (u : List Int) : List Int := updR (fun t => u.getD t 0 * k % p) 0 u.length u
def nrm (p : Nat) (u : List Int) : List Int := updR (fun t => u.getD t 0 % p) 0 u.length u

def scan (p : Nat) (L : List (Nat × List Int)) : Nat → Nat → List Int → List (Nat × List Int) × Bool
  | 0, _, _ => (L, false)
  | m + 1, i, u =>
    if u.getD i 0 = 0 then scan p L m (i + 1) u else
    match lkp L i with
    | none => ((i, mulAll p (inv p (u.getD i 0)) u) :: L, true)
    | some w => scan p L m (i + 1) (redAt p w i u)

def addL (p : Nat) (L : List (Nat × List Int)) (v : List Int) : List (Nat × List Int) × Bool := scan p L v.length 0 (nrm p v)

/-- Rows that are as they should be. -/
structure Ech (p n : Nat) (L : List (Nat × List Int)) : Prop where
  keys : (L.map (·.1)).Nodup
  lt : ∀ e ∈ L, e.1 < n
  len : ∀ e ∈ L, e.2.length = n
  rg : ∀ e ∈ L, rng p e.2
  one : ∀ e ∈ L, e.2.getD e.1 0 = 1
  zero : ∀ e ∈ L, ∀ j, j < e.1 → e.2.getD j 0 = 0

theorem lkp_mem : ∀ {L : List (Nat × List Int)} {i : Nat} {w : List Int}, lkp L i = some w → (i, w) ∈ L
  | [], i, w, h => by cases h
  | e :: L, i, w, h => by
    simp only [lkp] at h
    by_cases h1 : i = e.1
    · rw [if_pos h1] at h; cases h; rw [h1]; simp
    · rw [if_neg h1] at h; exact List.mem_cons_of_mem _ (lkp_mem h)
theorem lkp_none : ∀ {L : List (Nat × List Int)} {i : Nat}, lkp L i = none → ∀ e ∈ L, e.1 ≠ i
  | [], i, _ => by simp
  | e :: L, i, h => by
    simp only [lkp] at h
    by_cases h1 : i = e.1
    · rw [if_pos h1] at h; cases h
    · rw [if_neg h1] at h
      intro e' he'
      rcases List.mem_cons.1 he' with rfl | he'
      · exact fun e => h1 e.symm
      · exact lkp_none h e' he'

theorem emod_rng {p : Nat} (hp : 0 < p) (x : Int) : 0 ≤ x % (p : Int) ∧ x % (p : Int) < p := ⟨Int.emod_nonneg _ (by omega), Int.emod_lt_of_pos _ (by omega)⟩

theorem nrm_rng {p : Nat} (hp : 0 < p) (u : List Int) : rng p (nrm p u) := updR_rng (fun t _ _ => emod_rng hp _) fun t ht h => absurd ⟨Nat.zero_le _, ht⟩ h
theorem mulAll_rng {p : Nat} (hp : 0 < p) (k : Int) (u : List Int) : rng p (mulAll p k u) := updR_rng (fun t _ _ => emod_rng hp _) fun t ht h => absurd ⟨Nat.zero_le _, ht⟩ h
theorem redAt_rng {p : Nat} (hp : 0 < p) {w : List Int} {i : Nat} {u : List Int} (hu : rng p u) : rng p (redAt p w i u) := updR_rng (fun t _ _ => emod_rng hp _) fun t ht _ => hu t ht

/-- What Go's remainder, taken twice, comes to. -/
theorem tmod2 {p : Nat} (hp : 0 < p) (x : Int) : Int.tmod (Int.tmod x p + p) p = x % p := by
  have h1 : Int.tmod x p + p ≥ 0 := by
    have h2 := Int.lt_tmod_of_pos x (show (0 : Int) < p by omega)
    omega
  rw [Int.tmod_eq_emod_of_nonneg h1, Int.add_emod_right]
  have h3 := Int.tmod_def x p
  rw [h3, show x - (p : Int) * x.tdiv p = x + (p : Int) * (-(x.tdiv p)) by rw [Int.mul_neg]; omega, Int.add_mul_emod_self_left]

end Go.Proofs.Ytboadfahlflmhaa

/-
  Walks: rows of equations: a new one; a row is added. Conditions: none.
-/
set_option linter.all false
namespace Go.Proofs.Ytboadfahlflmhaa
open Go.Pv

theorem mul49 {a x : Int} (h1 : 0 ≤ a) (h2 : a ≤ 7) (h3 : 0 ≤ x) (h4 : x ≤ 7) : 0 ≤ a * x ∧ a * x ≤ 49 :=
  ⟨Int.mul_nonneg h1 h3, Int.le_trans (Int.mul_le_mul h2 h4 h3 (by omega)) (by omega)⟩

theorem newRows_c (p : Nat) : FnM Try.prog 24 [.p (.int .i64 p)] [] (.ptr 0 0) [.own [.p (.int .i64 p), .mptr 1], .mp .i64 (dOf []) (vOf [])] := by
  refine fnm_of tab_ok Try.func24 rfl (by kernel_rfl) (by rw [Try.ntmps24]; exact Nat.le_add_left 1 _) ?_; rw [Try.ntmps24]; simp only [ancs, entA, List.length_cons, List.length_nil, List.cons_append, List.nil_append, Nat.reduceAdd, Nat.zero_add]
  refine qm ?_
  refine hk_region fun K hK => runs_eval tab_ok ?_
  simp only [ev0, evA, evB, evP, fl, gp, tab, simprocAttr, reduceCtorEq, reduceIte]
  refine fin_run trivial (hK _ ?_) <;> clear hK <;> clear K
  refine qa (qm ?_)
  refine hk_region fun K hK => runs_eval tab_ok ?_
  simp only [ev0, evA, evB, evP, fl, gp, tab, simprocAttr, reduceCtorEq, reduceIte]
  refine fin_run ?_ (hK _ ?_) <;> clear hK <;> clear K
  · (first | exact trivial | omega | (simp only [In64] at *; omega) | (simp [In64] at *; omega) | (simp_all; done) | skip)
  refine qa (qk ?_)
  simp only [Try.results24, PostG, endG, rvsA, rvA, mkTup, ev0, evA, evB, evP, fl, gp, tab, simprocAttr, reduceCtorEq, reduceIte]
  all_goals (refine ⟨[1, 0], rfl, rfl, rfl, by simp, ⟨⟨rfl, rfl⟩, rfl, trivial⟩, trivial⟩)

theorem clone_c (v : List Int) (h0 : v ≠ []) (hl : v.length ≤ 1000000) : FnG Try.prog 57 [.list (il v)] (.sl 0 0 v.length) [.own (ol v)] := by
  have hp : 0 < v.length := List.length_pos_iff.2 h0
  refine fng_of tab_ok Try.func57 rfl (by kernel_rfl) (by rw [Try.ntmps57]; exact Nat.le_add_left 1 _) ?_; rw [Try.ntmps57]
  refine qm ?_
  refine hk_region fun K hK => runs_eval tab_ok ?_
  simp only [ev0, evA, evB, evP, fl, gp, tab, simprocAttr, reduceCtorEq, reduceIte]
  refine fin_run trivial (hK _ ?_) <;> clear hK <;> clear K
  refine qa (qm (qm ?_))
  refine hk_region fun K hK => runs_eval tab_ok ?_
  simp only [ev0, evA, evB, evP, fl, gp, tab, simprocAttr, reduceCtorEq, reduceIte]
  refine fin_run ?_ (hK _ ?_) <;> clear hK <;> clear K
  · simp [il, h0]
  refine qa ?_
  refine hk_cond rfl (fun hC1 => ?_) (fun hC1 => ?_)
  · cases hC1
  · (try simp only [nhs] at hC1)
    refine qh (qa (qm ?_))
    refine hk_region fun K hK => runs_eval tab_ok ?_
    simp only [ev0, evA, evB, evP, fl, gp, tab, simprocAttr, reduceCtorEq, reduceIte]
    refine fin_run ?_ (hK _ ?_) <;> clear hK <;> clear K
    · (first | exact trivial | omega | (simp only [In64] at *; omega) | (simp [In64] at *; omega) | (simp_all; done) | skip)
    refine qa (qk ?_)
    simp only [Try.results57, PostG, endG, rvsA, rvA, mkTup, ev0, evA, evB, evP, fl, gp, tab, simprocAttr, reduceCtorEq, reduceIte]
    refine ⟨[0], rfl, rfl, rfl, by simp, ⟨⟨?_, ol_sc _ _⟩, trivial⟩, trivial⟩
    rw [ol_ren, take_len]

theorem add_c {p n : Nat} (hp : pr p) (hn : 0 < n) (hn2 : n ≤ 1000) (L : List (Nat × List Int)) (hL : Ech p n L) (v : List Int) (hv : v.length = n) (hb : ∀ t, t < n → -1000 ≤ v.getD t 0 ∧ v.getD t 0 ≤ 1000) :
    FnM Try.prog 26 [.ptr 0 0, .p (.list (il v))] [.own [.p (.int .i64 p), .mptr 1], .mp .i64 (dOf L) (vOf L)] (.p (.bool (addL p L v).2)) [.own [.p (.int .i64 p), .mptr 1], .mp .i64 (dOf (addL p L v).1) (vOf (addL p L v).1)] := by
  obtain ⟨hp2, hp7⟩ := hp.le
  have hp0 : 0 < p := by omega
  have hne : v ≠ [] := by intro e; rw [e] at hv; simp at hv; omega
  refine fnm_of tab_ok Try.func26 rfl (by kernel_rfl) (by rw [Try.ntmps26]; exact Nat.le_add_left 2 _) ?_; rw [Try.ntmps26]; simp only [ancs, entA, List.length_cons, List.length_nil, List.cons_append, List.nil_append, Nat.reduceAdd, Nat.zero_add]
  refine qm ?_
  refine hk_region fun K hK => runs_eval tab_ok ?_
  simp only [ev0, evA, evB, evP, fl, gp, tab, simprocAttr, reduceCtorEq, reduceIte]
  refine fin_run trivial (hK _ ?_) <;> clear hK <;> clear K
  refine qa (qm ?_)
  refine hk_region fun K hK => runs_eval tab_ok ?_
  simp only [ev0, evA, evB, evP, fl, gp, tab, simprocAttr, reduceCtorEq, reduceIte]
  refine fin_stop trivial (runs_callG (clone_c v hne (by omega)) rfl rfl (by first | rfl | (simp [scG, scA, sc1, opl]; done) | (simp only [scG, List.all_cons, List.all_nil, ol_sc, Bool.and_true]; rfl)) (by simp only [dstOk, Nat.reduceLT]) (by repeat (first | exact trivial | constructor)) (runs_eval tab_ok ?_))
  simp only [Go.Pv.shf, List.range', Blk.ren, opl_ren, ren, ren1, ev0, evA, evB, evP, fl, gp, tab, simprocAttr, reduceCtorEq, reduceIte, hv, ol_sc, ol_ren]
  refine fin_run trivial (hK _ ?_) <;> clear hK <;> clear K
  refine qa (qm (qm ?_))
  refine hk_region fun K hK => runs_eval tab_ok ?_
  simp only [ev0, evA, evB, evP, fl, gp, tab, simprocAttr, reduceCtorEq, reduceIte]
  refine fin_run trivial (hK _ ?_) <;> clear hK <;> clear K
  refine qa (ql ?_)
  refine hk_loop (ι := Nat) (fun i => ⟨145, [(0, .ptr 0 0), (1, .sl 4 0 n), (16, .p (.int .i64 n)), (17, .p (.int .i64 i))], [.own [.p (.int .i64 p), .mptr 1], .mp .i64 (dOf L) (vOf L), .anc 0 0, .anc 1 1, .own (ol (updR (fun t => v.getD t 0 % p) 0 i v))]⟩) (fun i => i ≤ n) (fun i => n - i) 0 (Nat.zero_le _) [0, 1, 2, 3, 4] (by rw [updR_start]; simp only [leq, leA, ev0, evA, evB, evP, fl, gp, tab, simprocAttr, reduceCtorEq, reduceIte] <;> simp [hv, ol_length, ← hv, take_len]) fun i hi => ?_
  refine qm ?_
  refine hk_region fun K hK => runs_eval tab_ok ?_
  simp only [ev0, evA, evB, evP, fl, gp, tab, simprocAttr, reduceCtorEq, reduceIte]
  refine fin_run trivial (hK _ ?_) <;> clear hK <;> clear K
  refine qa (qm ?_)
  refine hk_cond rfl (fun hC1 => ?_) (fun hC1 => ?_)
  · (try simp only [nhs] at hC1)
    have hi1 : i < n := by omega
    have hl : (updR (fun t => v.getD t 0 % (p : Int)) 0 i v).length = n := by rw [updR_len, hv]
    have hg : ∀ d, (ol (updR (fun t => v.getD t 0 % (p : Int)) 0 i v)).getD i d = .p (.int .i64 (v.getD i 0)) := fun d => by
      rw [ol_get (by omega), updR_get (by omega), if_neg (by omega)]
    have hs : (updR (fun t => v.getD t 0 % (p : Int)) 0 i v).set i (v.getD i 0 % p) = updR (fun t => v.getD t 0 % (p : Int)) 0 (i + 1) v := updR_set (f := fun t => v.getD t 0 % (p : Int)) (Nat.zero_le _) (by omega)
    have hbi := hb i hi1
    have ht1 := Int.lt_tmod_of_pos (v.getD i 0) (show (0 : Int) < p by omega)
    have ht2 := Int.tmod_lt_of_pos (v.getD i 0) (show (0 : Int) < p by omega)
    refine qh (qa (qm (ql (qm ?_))))
    refine hk_region fun K hK => runs_eval tab_ok ?_
    simp only [ev0, evA, evB, evP, fl, gp, tab, simprocAttr, reduceCtorEq, reduceIte]
    refine fin_run trivial (hK _ ?_) <;> clear hK <;> clear K
    refine qa ?_
    refine hk_draw mixed (by kernel_rfl) fun K hK => runs_eval tab_ok ?_
    simp only [ev0, evA, evB, evP, fl, gp, tab, simprocAttr, reduceCtorEq, reduceIte, hg, tmod2 hp0, ol_set, hs, hl]
    refine fin_run ?_ (hK _ ?_) <;> clear hK <;> clear K
    · (first | exact trivial | omega | (simp only [In64] at *; omega) | (simp [In64] at *; omega) | (simp_all; done) | skip)
    refine qd (qa ?_)
    refine hk_region fun K hK => runs_eval tab_ok ?_
    simp only [ev0, evA, evB, evP, fl, gp, tab, simprocAttr, reduceCtorEq, reduceIte]
    refine fin_run ?_ (hK _ ?_) <;> clear hK <;> clear K
    · (first | exact trivial | omega | (simp only [In64] at *; omega) | (simp [In64] at *; omega) | (simp_all; done) | skip)
    refine qa ?_
    refine ⟨i + 1, [0, 1, 2, 3, 4], by omega, by omega, ?_⟩
    simp only [leq, leA, ev0, evA, evB, evP, fl, gp, tab, simprocAttr, reduceCtorEq, reduceIte] <;> omega
  · (try simp only [nhs] at hC1)
    refine qj (qc (qc (qf (qa (qm (qm ?_))))))
    refine hk_region fun K hK => runs_eval tab_ok ?_
    simp only [ev0, evA, evB, evP, fl, gp, tab, simprocAttr, reduceCtorEq, reduceIte]
    refine fin_run trivial (hK _ ?_) <;> clear hK <;> clear K
    refine qa (ql ?_)
    have hL2 : (updR (fun t => v.getD t 0 % (p : Int)) 0 i v) = nrm p v := by
      unfold nrm
      rw [show i = v.length by simp at hC1; omega]
    refine hk_loop (ι := Nat × List Int) (fun x => ⟨145, [(0, .ptr 0 0), (1, .sl 4 0 n), (44, .p (.int .i64 n)), (45, .p (.int .i64 x.1))], [.own [.p (.int .i64 p), .mptr 1], .mp .i64 (dOf L) (vOf L), .anc 0 0, .anc 1 1, .own (ol x.2)]⟩) (fun x => x.1 ≤ n ∧ x.2.length = n ∧ rng p x.2 ∧ scan p L (n - x.1) x.1 x.2 = addL p L v) (fun x => n - x.1) (0, nrm p v) ⟨Nat.zero_le _, by rw [nrm, updR_len, hv], nrm_rng hp0 v, by rw [addL, hv]; rfl⟩ [0, 1, 2, 3, 4] (by rw [hL2]; simp only [leq, leA, ev0, evA, evB, evP, fl, gp, tab, simprocAttr, reduceCtorEq, reduceIte]) fun x hx => ?_
    obtain ⟨j, u⟩ := x
    obtain ⟨hj1, hu1, hu2, hu3⟩ := hx
    simp only at hj1 hu1 hu2 hu3
    refine qm ?_
    refine hk_region fun K hK => runs_eval tab_ok ?_
    simp only [ev0, evA, evB, evP, fl, gp, tab, simprocAttr, reduceCtorEq, reduceIte]
    refine fin_run trivial (hK _ ?_) <;> clear hK <;> clear K
    refine qa (qm ?_)
    refine hk_cond rfl (fun hC2 => ?_) (fun hC2 => ?_)
    · (try simp only [nhs] at hC2)
      have hjn : j < n := by omega
      obtain ⟨m, hm⟩ : ∃ m, n - j = m + 1 := ⟨n - j - 1, by omega⟩
      have hg : ∀ d, (ol u).getD j d = .p (.int .i64 (u.getD j 0)) := fun d => ol_get (by omega) d
      obtain ⟨hr1, hr2⟩ := hu2 j (by omega)
      refine qh (qa (qm (ql (qm ?_))))
      refine hk_region fun K hK => runs_eval tab_ok ?_
      simp only [ev0, evA, evB, evP, fl, gp, tab, simprocAttr, reduceCtorEq, reduceIte]
      refine fin_run trivial (hK _ ?_) <;> clear hK <;> clear K
      refine qa (qm (qm ?_))
      refine hk_region fun K hK => runs_eval tab_ok ?_
      simp only [ev0, evA, evB, evP, fl, gp, tab, simprocAttr, reduceCtorEq, reduceIte, hg]
      refine fin_run ?_ (hK _ ?_) <;> clear hK <;> clear K
      · (first | exact trivial | omega | (simp only [In64] at *; omega) | (simp [In64] at *; omega) | (simp_all; done) | skip)
      refine qa ?_
      refine hk_cond rfl (fun hC3 => ?_) (fun hC3 => ?_)
      · (try simp only [nhs] at hC3)
        refine qj (qc (qf (qa ?_)))
        refine hk_region fun K hK => runs_eval tab_ok ?_
        simp only [ev0, evA, evB, evP, fl, gp, tab, simprocAttr, reduceCtorEq, reduceIte]
        refine fin_run ?_ (hK _ ?_) <;> clear hK <;> clear K
        · (first | exact trivial | omega | (simp only [In64] at *; omega) | (simp [In64] at *; omega) | (simp_all; done) | skip)
        refine qa ?_
        refine ⟨(j + 1, u), [0, 1, 2, 3, 4], ⟨by omega, hu1, hu2, ?_⟩, by omega, ?_⟩
        · rw [hm] at hu3
          rw [scan, if_pos hC3] at hu3
          rw [show n - (j + 1) = m by omega]; exact hu3
        · simp only [leq, leA, ev0, evA, evB, evP, fl, gp, tab, simprocAttr, reduceCtorEq, reduceIte] <;> omega
      · (try simp only [nhs] at hC3)
        refine qh (qa (qm ?_))
        rcases hk : lkp L j with _ | w
        · refine hk_region fun K hK => runs_eval tab_ok ?_
          simp only [ev0, evA, evB, evP, fl, gp, tab, simprocAttr, reduceCtorEq, reduceIte, (show dOf L (j : Int) = false by rw [dOf_iff, hk]; rfl)]
          refine fin_run ?_ (hK _ ?_) <;> clear hK <;> clear K
          · (first | exact trivial | omega | (simp only [In64] at *; omega) | (simp [In64] at *; omega) | (simp_all; done) | skip)
          refine qa (qm (qm ?_))
          refine hk_region fun K hK => runs_eval tab_ok ?_
          simp only [ev0, evA, evB, evP, fl, gp, tab, simprocAttr, reduceCtorEq, reduceIte]
          refine fin_run trivial (hK _ ?_) <;> clear hK <;> clear K
          refine qa ?_
          refine hk_cond rfl (fun hC4 => ?_) (fun hC4 => ?_)
          · (try simp only [nhs] at hC4)
            refine qm ?_
            refine hk_region fun K hK => runs_eval tab_ok ?_
            simp only [ev0, evA, evB, evP, fl, gp, tab, simprocAttr, reduceCtorEq, reduceIte]
            refine fin_run trivial (hK _ ?_) <;> clear hK <;> clear K
            refine qa (qm (ql ?_))
            have h0 : 0 < u.getD j 0 := by omega
            obtain ⟨k1, k2, k3, k4⟩ := inv_spec hp h0 hr2
            have hR : addL p L v = ((j, mulAll p (inv p (u.getD j 0)) u) :: L, true) := by
              rw [← hu3, hm, scan, if_neg hC3, hk]
            refine hk_loop (ι := Nat) (fun k => ⟨145, [(0, .ptr 0 0), (1, .sl 4 0 n), (6, .p (.int .i64 j)), (9, .p (.int .i64 k))], [.own [.p (.int .i64 p), .mptr 1], .mp .i64 (dOf L) (vOf L), .anc 0 0, .anc 1 1, .own (ol u)]⟩) (fun k => k ≤ inv p (u.getD j 0)) (fun k => 8 - k) 1 k1 [0, 1, 2, 3, 4] (by simp only [leq, leA, ev0, evA, evB, evP, fl, gp, tab, simprocAttr, reduceCtorEq, reduceIte]) fun k hk3 => ?_
            have h49 := mul49 (a := (k : Int)) (x := u.getD j 0) (by omega) (by omega) hr1 (by omega)
            have htm : Int.tmod ((k : Int) * u.getD j 0) p = ((k : Int) * u.getD j 0) % p := Int.tmod_eq_emod_of_nonneg h49.1
            refine qm (qm ?_)
            refine hk_draw mixed (by kernel_rfl) fun K hK => runs_eval tab_ok ?_
            simp only [ev0, evA, evB, evP, fl, gp, tab, simprocAttr, reduceCtorEq, reduceIte, hg, htm]
            refine fin_run ?_ (hK _ ?_) <;> clear hK <;> clear K
            · (first | exact trivial | omega | (simp only [In64] at *; omega) | (simp [In64] at *; omega) | (simp_all; done) | skip)
            refine qa ?_
            refine hk_cond rfl (fun hC5 => ?_) (fun hC5 => ?_)
            · (try simp only [nhs] at hC5)
              refine qh (qa (ql ?_))
              refine hk_region fun K hK => runs_eval tab_ok ?_
              simp only [ev0, evA, evB, evP, fl, gp, tab, simprocAttr, reduceCtorEq, reduceIte]
              refine fin_run ?_ (hK _ ?_) <;> clear hK <;> clear K
              · (first | exact trivial | omega | (simp only [In64] at *; omega) | (simp [In64] at *; omega) | (simp_all; done) | skip)
              refine qd (qa ?_)
              have hne3 : k ≠ inv p (u.getD j 0) := fun e => hC5 (by rw [e]; exact k3)
              refine ⟨k + 1, [0, 1, 2, 3, 4], by omega, by omega, ?_⟩
              simp only [leq, leA, ev0, evA, evB, evP, fl, gp, tab, simprocAttr, reduceCtorEq, reduceIte] <;> omega
            · (try simp only [nhs] at hC5)
              refine qj (qc (qc (qf (qa (qm (qm ?_))))))
              refine hk_region fun K hK => runs_eval tab_ok ?_
              simp only [ev0, evA, evB, evP, fl, gp, tab, simprocAttr, reduceCtorEq, reduceIte]
              refine fin_run trivial (hK _ ?_) <;> clear hK <;> clear K
              refine qa (ql ?_)
              have hke : k = inv p (u.getD j 0) := by
                rcases Nat.lt_or_ge k (inv p (u.getD j 0)) with h | h
                · exact absurd (by simpa using hC5) (k4 k h)
                · omega
              subst hke
              refine hk_loop (ι := Nat) (fun t => ⟨145, [(0, .ptr 0 0), (1, .sl 4 0 n), (6, .p (.int .i64 j)), (9, .p (.int .i64 (inv p (u.getD j 0) : Nat))), (79, .p (.int .i64 n)), (80, .p (.int .i64 t))], [.own [.p (.int .i64 p), .mptr 1], .mp .i64 (dOf L) (vOf L), .anc 0 0, .anc 1 1, .own (ol (updR (fun q => u.getD q 0 * (inv p (u.getD j 0) : Nat) % p) 0 t u))]⟩) (fun t => t ≤ n) (fun t => n - t) 0 (Nat.zero_le _) [0, 1, 2, 3, 4] (by rw [updR_start]; simp only [leq, leA, ev0, evA, evB, evP, fl, gp, tab, simprocAttr, reduceCtorEq, reduceIte]) fun t ht => ?_
              refine qm ?_
              refine hk_region fun K hK => runs_eval tab_ok ?_
              simp only [ev0, evA, evB, evP, fl, gp, tab, simprocAttr, reduceCtorEq, reduceIte]
              refine fin_run trivial (hK _ ?_) <;> clear hK <;> clear K
              refine qa (qm ?_)
              refine hk_cond rfl (fun hC6 => ?_) (fun hC6 => ?_)
              · (try simp only [nhs] at hC6)
                have htn : t < n := by omega
                obtain ⟨hq1, hq2⟩ := hu2 t (by omega)
                have hl : (updR (fun q => u.getD q 0 * (inv p (u.getD j 0) : Nat) % (p : Int)) 0 t u).length = n := by rw [updR_len, hu1]
                have hg2 : ∀ d, (ol (updR (fun q => u.getD q 0 * (inv p (u.getD j 0) : Nat) % (p : Int)) 0 t u)).getD t d = .p (.int .i64 (u.getD t 0)) := fun d => by
                  rw [ol_get (by omega), updR_get (by omega), if_neg (by omega)]
                have hs : (updR (fun q => u.getD q 0 * (inv p (u.getD j 0) : Nat) % (p : Int)) 0 t u).set t (u.getD t 0 * (inv p (u.getD j 0) : Nat) % p) = updR (fun q => u.getD q 0 * (inv p (u.getD j 0) : Nat) % (p : Int)) 0 (t + 1) u := updR_set (f := fun q => u.getD q 0 * (inv p (u.getD j 0) : Nat) % (p : Int)) (Nat.zero_le _) (by omega)
                have h49 := mul49 (a := u.getD t 0) (x := (inv p (u.getD j 0) : Nat)) hq1 (by omega) (by omega) (by omega)
                have htm : Int.tmod (u.getD t 0 * (inv p (u.getD j 0) : Nat)) p = (u.getD t 0 * (inv p (u.getD j 0) : Nat)) % p := Int.tmod_eq_emod_of_nonneg h49.1
                refine qh (qa (qm (ql (qm ?_))))
                refine hk_region fun K hK => runs_eval tab_ok ?_
                simp only [ev0, evA, evB, evP, fl, gp, tab, simprocAttr, reduceCtorEq, reduceIte]
                refine fin_run trivial (hK _ ?_) <;> clear hK <;> clear K
                refine qa ?_
                refine hk_draw mixed (by kernel_rfl) fun K hK => runs_eval tab_ok ?_
                simp only [ev0, evA, evB, evP, fl, gp, tab, simprocAttr, reduceCtorEq, reduceIte, hg2, htm, ol_set, hs, hl]
                refine fin_run ?_ (hK _ ?_) <;> clear hK <;> clear K
                · (first | exact trivial | omega | (simp only [In64] at *; omega) | (simp [In64] at *; omega) | (simp_all; done) | skip)
                refine qd (qa ?_)
                refine hk_region fun K hK => runs_eval tab_ok ?_
                simp only [ev0, evA, evB, evP, fl, gp, tab, simprocAttr, reduceCtorEq, reduceIte]
                refine fin_run ?_ (hK _ ?_) <;> clear hK <;> clear K
                · (first | exact trivial | omega | (simp only [In64] at *; omega) | (simp [In64] at *; omega) | (simp_all; done) | skip)
                refine qa ?_
                refine ⟨t + 1, [0, 1, 2, 3, 4], by omega, by omega, ?_⟩
                simp only [leq, leA, ev0, evA, evB, evP, fl, gp, tab, simprocAttr, reduceCtorEq, reduceIte] <;> omega
              · (try simp only [nhs] at hC6)
                refine qj (qc (qc (qf (qa (qm ?_)))))
                have hte : t = n := by simp at hC6; omega
                subst hte
                have hml : (mulAll p (inv p (u.getD j 0) : Nat) u).length = t := by rw [mulAll, updR_len, hu1]
                refine hk_seal 1 4 (w := mulAll p (inv p (u.getD j 0) : Nat) u) (by rw [hml]; rfl) (by rw [← hu1]; rfl) ?_
                refine hk_region fun K hK => runs_eval tab_ok ?_
                simp only [ev0, evA, evB, evP, fl, gp, tab, simprocAttr, reduceCtorEq, reduceIte]
                refine fin_run ?_ (hK _ ?_) <;> clear hK <;> clear K
                · (first | exact trivial | omega | (simp only [In64] at *; omega) | (simp [In64] at *; omega) | (simp_all; done) | skip)
                refine qa (qm ?_)
                refine hk_region fun K hK => runs_eval tab_ok ?_
                simp only [ev0, evA, evB, evP, fl, gp, tab, simprocAttr, reduceCtorEq, reduceIte]
                refine fin_run trivial (hK _ ?_) <;> clear hK <;> clear K
                refine qa (qk (qb (qe (qb (qb (qe (qb ?_)))))))
                simp only [Try.results26, PostG, endG, rvsA, rvA, mkTup, ev0, evA, evB, evP, fl, gp, tab, simprocAttr, reduceCtorEq, reduceIte]
                rw [hR]
                exact ⟨[0, 1, 2, 3], rfl, rfl, rfl, by simp, ⟨⟨rfl, rfl⟩, rfl, ⟨rfl, by decide⟩, ⟨rfl, by decide⟩, trivial⟩, trivial⟩
          · cases hC4
        · refine hk_region fun K hK => runs_eval tab_ok ?_
          simp only [ev0, evA, evB, evP, fl, gp, tab, simprocAttr, reduceCtorEq, reduceIte, (show dOf L (j : Int) = true by rw [dOf_iff, hk]; rfl), vOf_some hk]
          refine fin_run ?_ (hK _ ?_) <;> clear hK <;> clear K
          · (first | exact trivial | omega | (simp only [In64] at *; omega) | (simp [In64] at *; omega) | (simp_all; done) | skip)
          refine qa (qm (qm ?_))
          refine hk_region fun K hK => runs_eval tab_ok ?_
          simp only [ev0, evA, evB, evP, fl, gp, tab, simprocAttr, reduceCtorEq, reduceIte]
          refine fin_run trivial (hK _ ?_) <;> clear hK <;> clear K
          refine qa ?_
          refine hk_cond rfl (fun hC4 => ?_) (fun hC4 => ?_)
          · cases hC4
          · (try simp only [nhs] at hC4)
            refine qh (qa (qm ?_))
            refine hk_region fun K hK => runs_eval tab_ok ?_
            simp only [ev0, evA, evB, evP, fl, gp, tab, simprocAttr, reduceCtorEq, reduceIte]
            refine fin_run ?_ (hK _ ?_) <;> clear hK <;> clear K
            · (first | exact trivial | omega | (simp only [In64] at *; omega) | (simp [In64] at *; omega) | (simp_all; done) | skip)
            refine qa (qm ?_)
            refine hk_region fun K hK => runs_eval tab_ok ?_
            simp only [ev0, evA, evB, evP, fl, gp, tab, simprocAttr, reduceCtorEq, reduceIte]
            refine fin_run trivial (hK _ ?_) <;> clear hK <;> clear K
            refine qa (ql ?_)
            have hwl : w.length = n := hL.len _ (lkp_mem hk)
            have hwr : rng p w := hL.rg _ (lkp_mem hk)
            refine hk_loop (ι := Nat) (fun t => ⟨145, [(0, .ptr 0 0), (1, .sl 4 0 n), (7, .p (.list (il w))), (11, .p (.int .i64 (u.getD j 0))), (12, .p (.int .i64 t)), (44, .p (.int .i64 n)), (45, .p (.int .i64 j))], [.own [.p (.int .i64 p), .mptr 1], .mp .i64 (dOf L) (vOf L), .anc 0 0, .anc 1 1, .own (ol (updR (fun q => (u.getD q 0 - u.getD j 0 * w.getD q 0) % p) j t u))]⟩) (fun t => j ≤ t ∧ t ≤ n) (fun t => n - t) j ⟨Nat.le_refl _, hj1⟩ [0, 1, 2, 3, 4] (by rw [updR_start]; simp only [leq, leA, ev0, evA, evB, evP, fl, gp, tab, simprocAttr, reduceCtorEq, reduceIte]; exact hg _) fun t ht => ?_
            obtain ⟨ht1, ht2⟩ := ht
            refine qm (qm ?_)
            refine hk_region fun K hK => runs_eval tab_ok ?_
            simp only [ev0, evA, evB, evP, fl, gp, tab, simprocAttr, reduceCtorEq, reduceIte]
            refine fin_run trivial (hK _ ?_) <;> clear hK <;> clear K
            refine qa ?_
            refine hk_cond rfl (fun hC7 => ?_) (fun hC7 => ?_)
            · (try simp only [nhs] at hC7)
              have htn : t < n := by omega
              obtain ⟨hq1, hq2⟩ := hu2 t (by omega)
              obtain ⟨hw1, hw2⟩ := hwr t (by omega)
              have hl : (updR (fun q => (u.getD q 0 - u.getD j 0 * w.getD q 0) % (p : Int)) j t u).length = n := by rw [updR_len, hu1]
              have hg2 : ∀ d, (ol (updR (fun q => (u.getD q 0 - u.getD j 0 * w.getD q 0) % (p : Int)) j t u)).getD t d = .p (.int .i64 (u.getD t 0)) := fun d => by
                rw [ol_get (by omega), updR_get (by omega), if_neg (by omega)]
              have hs : (updR (fun q => (u.getD q 0 - u.getD j 0 * w.getD q 0) % (p : Int)) j t u).set t ((u.getD t 0 - u.getD j 0 * w.getD t 0) % p) = updR (fun q => (u.getD q 0 - u.getD j 0 * w.getD q 0) % (p : Int)) j (t + 1) u := updR_set (f := fun q => (u.getD q 0 - u.getD j 0 * w.getD q 0) % (p : Int)) ht1 (by omega)
              have h49 := mul49 (a := u.getD j 0) (x := w.getD t 0) hr1 (by omega) hw1 (by omega)
              have hy1 := Int.lt_tmod_of_pos (u.getD t 0 - u.getD j 0 * w.getD t 0) (show (0 : Int) < p by omega)
              have hy2 := Int.tmod_lt_of_pos (u.getD t 0 - u.getD j 0 * w.getD t 0) (show (0 : Int) < p by omega)
              refine qh (qa (qm (ql ?_)))
              refine hk_draw mixed (by kernel_rfl) fun K hK => runs_eval tab_ok ?_
              simp only [ev0, evA, evB, evP, fl, gp, tab, simprocAttr, reduceCtorEq, reduceIte, hg2, il_get (show t < w.length by omega), tmod2 hp0, ol_set, hs, hl]
              refine fin_run ?_ (hK _ ?_) <;> clear hK <;> clear K
              · (first | exact trivial | omega | (simp only [In64] at *; omega) | (simp [In64] at *; omega) | (simp_all; done) | skip)
              refine qd (qa ?_)
              refine hk_region fun K hK => runs_eval tab_ok ?_
              simp only [ev0, evA, evB, evP, fl, gp, tab, simprocAttr, reduceCtorEq, reduceIte]
              refine fin_run ?_ (hK _ ?_) <;> clear hK <;> clear K
              · (first | exact trivial | omega | (simp only [In64] at *; omega) | (simp [In64] at *; omega) | (simp_all; done) | skip)
              refine qa ?_
              refine ⟨t + 1, [0, 1, 2, 3, 4], ⟨by omega, by omega⟩, by omega, ?_⟩
              simp only [leq, leA, ev0, evA, evB, evP, fl, gp, tab, simprocAttr, reduceCtorEq, reduceIte] <;> omega
            · (try simp only [nhs] at hC7)
              refine qj (qc (qc (qf (qd (qa ?_)))))
              refine hk_region fun K hK => runs_eval tab_ok ?_
              simp only [ev0, evA, evB, evP, fl, gp, tab, simprocAttr, reduceCtorEq, reduceIte]
              refine fin_run ?_ (hK _ ?_) <;> clear hK <;> clear K
              · (first | exact trivial | omega | (simp only [In64] at *; omega) | (simp [In64] at *; omega) | (simp_all; done) | skip)
              refine qa ?_
              have hte : t = n := by simp at hC7; omega
              refine ⟨(j + 1, redAt p w j u), [0, 1, 2, 3, 4], ⟨by omega, by rw [redAt, updR_len, hu1], redAt_rng hp0 hu2, ?_⟩, by omega, ?_⟩
              · rw [hm, scan, if_neg hC3, hk] at hu3
                rw [show n - (j + 1) = m by omega]; exact hu3
              · rw [redAt, hu1, ← hte]
                simp only [leq, leA, ev0, evA, evB, evP, fl, gp, tab, simprocAttr, reduceCtorEq, reduceIte] <;> omega
    · (try simp only [nhs] at hC2)
      refine qj (qc (qc (qf (qa (qm ?_)))))
      refine hk_region fun K hK => runs_eval tab_ok ?_
      simp only [ev0, evA, evB, evP, fl, gp, tab, simprocAttr, reduceCtorEq, reduceIte]
      refine fin_run trivial (hK _ ?_) <;> clear hK <;> clear K
      refine qa (qk ?_)
      simp only [Try.results26, PostG, endG, rvsA, rvA, mkTup, ev0, evA, evB, evP, fl, gp, tab, simprocAttr, reduceCtorEq, reduceIte]
      have hR : addL p L v = (L, false) := by
        rw [← hu3, show n - j = 0 by simp at hC2; omega]; rfl
      rw [hR]
      exact ⟨[0, 1, 2, 3], rfl, rfl, rfl, by simp, ⟨⟨rfl, rfl⟩, rfl, ⟨rfl, by decide⟩, ⟨rfl, by decide⟩, trivial⟩, trivial⟩

end Go.Proofs.Ytboadfahlflmhaa

/-
  Rows of equations modulo a prime: what they span. Plain law. Conditions: none.
-/
set_option linter.all false
namespace Go.Proofs.Ytboadfahlflmhaa
open Go.Pv

def lsum (c : Nat → Int) : List (Nat × List Int) → Nat → Int
  | [], _ => 0
  | e :: L, j => c e.1 * e.2.getD j 0 + lsum c L j

/-- What rows span. -/
def Sp (p n : Nat) (L : List (Nat × List Int)) (v : Nat → Int) : Prop := ∃ c : Nat → Int, ∀ j, j < n → (p : Int) ∣ v j - lsum c L j

theorem lsum_lin (a b : Int) (c d : Nat → Int) (j : Nat) : ∀ L, lsum (fun k => a * c k + b * d k) L j = a * lsum c L j + b * lsum d L j
  | [] => by simp [lsum]
  | e :: L => by
    simp only [lsum, lsum_lin a b c d j L, Int.add_mul, Int.mul_add, Int.mul_assoc]; omega

theorem lsum_congr {c d : Nat → Int} {j : Nat} : ∀ {L : List (Nat × List Int)}, (∀ e ∈ L, c e.1 = d e.1) → lsum c L j = lsum d L j
  | [], _ => rfl
  | e :: L, h => by
    simp only [lsum]
    rw [h e (by simp), lsum_congr fun e' he => h e' (by simp [he])]

theorem lsum_dvd {p : Int} {c : Nat → Int} {j : Nat} : ∀ {L : List (Nat × List Int)}, (∀ e ∈ L, p ∣ c e.1 * e.2.getD j 0) → p ∣ lsum c L j
  | [], _ => by simp [lsum]
  | e :: L, h => by
    simp only [lsum]
    exact Int.dvd_add (h e (by simp)) (lsum_dvd fun e' he => h e' (by simp [he]))

theorem lsum_zero {j : Nat} : ∀ {L : List (Nat × List Int)}, lsum (fun _ => 0) L j = 0
  | [] => rfl
  | e :: L => by simp only [lsum, lsum_zero (L := L)]; omega

def dl1 (i k : Nat) : Int := if k = i then 1 else 0

theorem lsum_dl {i j : Nat} : ∀ {L : List (Nat × List Int)}, (L.map (·.1)).Nodup → ∀ {w}, (i, w) ∈ L → lsum (dl1 i) L j = w.getD j 0
  | [], _, w, h => by cases h
  | e :: L, hn, w, h => by
    rw [List.map_cons, List.nodup_cons] at hn
    simp only [lsum]
    rcases List.mem_cons.1 h with rfl | h
    · have : lsum (dl1 i) L j = lsum (fun _ => 0) L j := lsum_congr fun e' he => by
        have : e'.1 ≠ i := fun e => hn.1 (by simp only; rw [← e]; exact List.mem_map_of_mem (f := (·.1)) he)
        simp [dl1, this]
      rw [this, lsum_zero]
      simp [dl1]
    · have hne : e.1 ≠ i := fun e' => hn.1 (by rw [e']; exact List.mem_map_of_mem (f := (·.1)) h)
      rw [lsum_dl hn.2 h]
      simp [dl1, hne]

theorem Sp.lin {p n : Nat} {L : List (Nat × List Int)} {v u : Nat → Int} (h1 : Sp p n L v) (h2 : Sp p n L u) (a b : Int) : Sp p n L (fun j => a * v j + b * u j) := by
  obtain ⟨c, hc⟩ := h1
  obtain ⟨d, hd⟩ := h2
  refine ⟨fun k => a * c k + b * d k, fun j hj => ?_⟩
  rw [lsum_lin]
  have e : a * v j + b * u j - (a * lsum c L j + b * lsum d L j) = a * (v j - lsum c L j) + b * (u j - lsum d L j) := by
    rw [Int.mul_sub, Int.mul_sub]; omega
  rw [e]
  exact Int.dvd_add (Int.dvd_mul_of_dvd_right (hc j hj)) (Int.dvd_mul_of_dvd_right (hd j hj))

theorem Sp.congr {p n : Nat} {L : List (Nat × List Int)} {v u : Nat → Int} (h : Sp p n L v) (he : ∀ j, j < n → (p : Int) ∣ u j - v j) : Sp p n L u := by
  obtain ⟨c, hc⟩ := h
  refine ⟨c, fun j hj => ?_⟩
  rw [show u j - lsum c L j = (u j - v j) + (v j - lsum c L j) by omega]
  exact Int.dvd_add (he j hj) (hc j hj)

theorem Sp.mem {p n : Nat} {L : List (Nat × List Int)} (hn : (L.map (·.1)).Nodup) {i : Nat} {w : List Int} (h : (i, w) ∈ L) : Sp p n L (fun j => w.getD j 0) :=
  ⟨dl1 i, fun j _ => by rw [lsum_dl hn h, Int.sub_self]; exact Int.dvd_zero _⟩

theorem Sp.zero {p n : Nat} {L : List (Nat × List Int)} {v : Nat → Int} (h : ∀ j, j < n → (p : Int) ∣ v j) : Sp p n L v :=
  ⟨fun _ => 0, fun j hj => by rw [lsum_zero, Int.sub_zero]; exact h j hj⟩

theorem Sp_cons {p n : Nat} {L : List (Nat × List Int)} {i : Nat} {w : List Int} (hi : ∀ e ∈ L, e.1 ≠ i) {v : Nat → Int} : Sp p n ((i, w) :: L) v ↔ ∃ x : Int, Sp p n L (fun j => v j - x * w.getD j 0) := by
  constructor
  · rintro ⟨c, hc⟩
    refine ⟨c i, c, fun j hj => ?_⟩
    have := hc j hj
    simp only [lsum] at this
    rw [show v j - c i * w.getD j 0 - lsum c L j = v j - (c i * w.getD j 0 + lsum c L j) by omega]
    exact this
  · rintro ⟨x, c, hc⟩
    refine ⟨fun k => if k = i then x else c k, fun j hj => ?_⟩
    simp only [lsum, if_true]
    rw [lsum_congr (d := c) fun e he => by simp [hi e he], show v j - (x * w.getD j 0 + lsum c L j) = v j - x * w.getD j 0 - lsum c L j by omega]
    exact hc j hj

/-- Where all before is nothing, and no row begins, nothing stands in what rows span. -/
theorem Ech.pivot {p n : Nat} {L : List (Nat × List Int)} (h : Ech p n L) {u : Nat → Int} {i : Nat} (hi : i < n) (h0 : ∀ j, j < i → (p : Int) ∣ u j) (hk : ∀ e ∈ L, e.1 ≠ i) (hs : Sp p n L u) : (p : Int) ∣ u i := by
  obtain ⟨c, hc⟩ := hs
  have key : ∀ t, t < i → ∀ e ∈ L, e.1 = t → (p : Int) ∣ c t := by
    intro t
    induction t using Nat.strongRecOn with
    | _ t ih =>
      intro ht e he het
      obtain ⟨e1, w⟩ := e
      simp only at het
      subst het
      have h1 : (p : Int) ∣ lsum c L e1 := by
        have h2 := Int.dvd_sub (h0 e1 ht) (hc e1 (by omega))
        rwa [show u e1 - (u e1 - lsum c L e1) = lsum c L e1 by omega] at h2
      have h3 : lsum (fun k => 1 * c k + (-(c e1)) * dl1 e1 k) L e1 = 1 * lsum c L e1 + (-(c e1)) * 1 := by
        rw [lsum_lin, lsum_dl h.keys he]
        have := h.one _ he
        simp only at this
        rw [this]
      have h4 : (p : Int) ∣ lsum (fun k => 1 * c k + (-(c e1)) * dl1 e1 k) L e1 := by
        refine lsum_dvd fun e' he' => ?_
        rcases Nat.lt_trichotomy e'.1 e1 with hlt | heq | hgt
        · have := ih e'.1 hlt (by omega) e' he' rfl
          have hd : dl1 e1 e'.1 = 0 := by simp [dl1]; omega
          simp only [hd, Int.mul_zero, Int.add_zero, Int.one_mul]
          exact Int.dvd_mul_of_dvd_left this
        · have hd : dl1 e1 e'.1 = 1 := by simp [dl1, heq]
          rw [hd, heq, show 1 * c e1 + -c e1 * 1 = 0 by omega, Int.zero_mul]; exact Int.dvd_zero _
        · rw [h.zero e' he' e1 hgt, Int.mul_zero]; exact Int.dvd_zero _
      rw [h3] at h4
      have := Int.dvd_sub h1 h4
      rwa [show lsum c L e1 - (1 * lsum c L e1 + -c e1 * 1) = c e1 by omega] at this
  have h1 : (p : Int) ∣ lsum c L i := by
    refine lsum_dvd fun e he => ?_
    rcases Nat.lt_trichotomy e.1 i with hlt | heq | hgt
    · exact Int.dvd_mul_of_dvd_left (key e.1 hlt e he rfl)
    · exact absurd heq (hk e he)
    · rw [h.zero e he i hgt, Int.mul_zero]; exact Int.dvd_zero _
  have := Int.dvd_add (hc i hi) h1
  rwa [show u i - lsum c L i + lsum c L i = u i by omega] at this

theorem dvd_emod_sub (p : Nat) (x : Int) : (p : Int) ∣ x % (p : Int) - x := by
  rw [Int.emod_def]
  exact ⟨-(x / p), by rw [Int.mul_neg]; omega⟩

theorem no_dvd {p : Nat} {x : Int} (h0 : 0 ≤ x) (h1 : x < p) (h : (p : Int) ∣ x) : x = 0 := by
  obtain ⟨k, rfl⟩ := h
  by_cases hk : k ≤ 0
  · rcases Int.lt_or_eq_of_le hk with hk | rfl
    · have : (p : Int) * k < 0 ∨ (p : Int) * k = 0 := by
        by_cases hp : (p : Int) = 0
        · right; rw [hp, Int.zero_mul]
        · left; exact Int.mul_neg_of_pos_of_neg (by omega) hk
      omega
    · exact Int.mul_zero _
  · have : (p : Int) * 1 ≤ p * k := Int.mul_le_mul_of_nonneg_left (by omega) (by omega)
    omega

theorem scan_spec {p n : Nat} (hp : pr p) {L : List (Nat × List Int)} (hL : Ech p n L) : ∀ (m i : Nat) (u : List Int), i + m = n → u.length = n → rng p u → (∀ j, j < i → u.getD j 0 = 0) →
    ((scan p L m i u).2 = false → (scan p L m i u).1 = L ∧ Sp p n L (fun j => u.getD j 0)) ∧
    ((scan p L m i u).2 = true → ∃ i0 w, (scan p L m i u).1 = (i0, w) :: L ∧ (∀ e ∈ L, e.1 ≠ i0) ∧ i0 < n ∧ w.length = n ∧ rng p w ∧ w.getD i0 0 = 1 ∧ (∀ j, j < i0 → w.getD j 0 = 0) ∧
      (∀ v : Nat → Int, (∃ t : Int, Sp p n L (fun j => v j - t * u.getD j 0)) ↔ ∃ t : Int, Sp p n L (fun j => v j - t * w.getD j 0)) ∧ ¬ Sp p n L (fun j => u.getD j 0))
  | 0, i, u, hi, hu, hr, h0 => by
    refine ⟨fun _ => ⟨rfl, Sp.zero fun j hj => ?_⟩, fun h => by simp [scan] at h⟩
    rw [h0 j (by omega)]; exact Int.dvd_zero _
  | m + 1, i, u, hi, hu, hr, h0 => by
    have hp2 := hp.le
    have hp0 : 0 < p := by omega
    obtain ⟨r1, r2⟩ := hr i (by omega)
    by_cases hz : u.getD i 0 = 0
    · have e : scan p L (m + 1) i u = scan p L m (i + 1) u := by rw [scan, if_pos hz]
      rw [e]
      refine scan_spec hp hL m (i + 1) u (by omega) hu hr fun j hj => ?_
      by_cases e : j = i
      · rw [e]; exact hz
      · exact h0 j (by omega)
    · cases hk : lkp L i with
      | none =>
        have e : scan p L (m + 1) i u = ((i, mulAll p (inv p (u.getD i 0)) u) :: L, true) := by rw [scan, if_neg hz, hk]
        rw [e]
        obtain ⟨k1, k2, k3, _⟩ := inv_spec hp (show 0 < u.getD i 0 by omega) r2
        generalize hke : (inv p (u.getD i 0) : Int) = k at *
        have hw : ∀ j, j < n → (mulAll p k u).getD j 0 = u.getD j 0 * k % p := fun j hj => by
          unfold mulAll; rw [updR_get (by omega), if_pos ⟨by omega, by omega⟩]
        have hwk : ∀ j, j < n → (p : Int) ∣ (mulAll p k u).getD j 0 - k * u.getD j 0 := fun j hj => by
          rw [hw j hj, Int.mul_comm k]; exact dvd_emod_sub _ _
        have hk1 : (p : Int) ∣ k * u.getD i 0 - 1 := by
          have := dvd_emod_sub p (k * u.getD i 0)
          rw [k3] at this
          have := Int.dvd_neg.2 this
          rwa [show -(1 - k * u.getD i 0) = k * u.getD i 0 - 1 by omega] at this
        refine ⟨fun h => by simp at h, fun _ => ⟨i, _, rfl, lkp_none hk, by omega, by rw [mulAll, updR_len, hu], mulAll_rng hp0 k u, ?_, fun j hj => ?_, fun v => ⟨?_, ?_⟩, fun hs => ?_⟩⟩
        · rw [hw i (by omega), Int.mul_comm, k3]
        · rw [hw j (by omega), h0 j hj, Int.zero_mul]; simp
        · rintro ⟨t, ht⟩
          refine ⟨t * u.getD i 0, ht.congr fun j hj => ?_⟩
          -- v - t ui w - (v - t u) = t (u - ui w)
          have h1 := hwk j hj
          have e : v j - t * u.getD i 0 * (mulAll p k u).getD j 0 - (v j - t * u.getD j 0) = (-(t * u.getD i 0)) * ((mulAll p k u).getD j 0 - k * u.getD j 0) + (-(t * u.getD j 0)) * (k * u.getD i 0 - 1) := by
            generalize (mulAll p k u).getD j 0 = W
            generalize u.getD i 0 = x
            generalize u.getD j 0 = y
            simp only [Int.mul_sub, Int.neg_mul, Int.mul_one]
            rw [show t * x * (k * y) = t * y * (k * x) by simp only [Int.mul_comm, Int.mul_left_comm, Int.mul_assoc]]
            omega
          rw [e]
          exact Int.dvd_add (Int.dvd_mul_of_dvd_right h1) (Int.dvd_mul_of_dvd_right hk1)
        · rintro ⟨t, ht⟩
          refine ⟨t * k, ht.congr fun j hj => ?_⟩
          have h1 := hwk j hj
          rw [show v j - t * k * u.getD j 0 - (v j - t * (mulAll p k u).getD j 0) = t * ((mulAll p k u).getD j 0 - k * u.getD j 0) by rw [Int.mul_sub, ← Int.mul_assoc]; omega]
          exact Int.dvd_mul_of_dvd_right h1
        · have := hL.pivot (i := i) (by omega) (fun j hj => by rw [h0 j hj]; exact Int.dvd_zero _) (lkp_none hk) hs
          exact hz (no_dvd r1 r2 this)
      | some w0 =>
        have e : scan p L (m + 1) i u = scan p L m (i + 1) (redAt p w0 i u) := by rw [scan, if_neg hz, hk]
        rw [e]
        have hm := lkp_mem hk
        have hw : ∀ j, j < n → (p : Int) ∣ (redAt p w0 i u).getD j 0 - (u.getD j 0 - u.getD i 0 * w0.getD j 0) := fun j hj => by
          unfold redAt
          rw [updR_get (by omega)]
          split
          · exact dvd_emod_sub _ _
          · rename_i h
            have hji : j < i := by omega
            have := hL.zero _ hm j hji
            simp only at this
            rw [this, Int.mul_zero, Int.sub_zero, Int.sub_self]; exact Int.dvd_zero _
        have hz2 : ∀ j, j < i + 1 → (redAt p w0 i u).getD j 0 = 0 := fun j hj => by
          unfold redAt
          rw [updR_get (by omega)]
          split
          · have hji : j = i := by omega
            have := hL.one _ hm
            simp only at this
            rw [hji, this, Int.mul_one, Int.sub_self]; simp
          · exact h0 j (by omega)
        have hsw : Sp p n L (fun j => w0.getD j 0) := Sp.mem hL.keys hm
        obtain ⟨g1, g2⟩ := scan_spec hp hL m (i + 1) (redAt p w0 i u) (by omega) (by rw [redAt, updR_len, hu]) (redAt_rng hp0 hr) hz2
        have back : Sp p n L (fun j => (redAt p w0 i u).getD j 0) → Sp p n L (fun j => u.getD j 0) := fun h => by
          refine (h.lin hsw 1 (u.getD i 0)).congr fun j hj => ?_
          have := Int.dvd_neg.2 (hw j hj)
          rwa [show -((redAt p w0 i u).getD j 0 - (u.getD j 0 - u.getD i 0 * w0.getD j 0)) = u.getD j 0 - (1 * (redAt p w0 i u).getD j 0 + u.getD i 0 * w0.getD j 0) by omega] at this
        refine ⟨fun h => ⟨(g1 h).1, back (g1 h).2⟩, fun h => ?_⟩
        obtain ⟨i0, w, a1, a2, a3, a4, a5, a6, a7, a8, a9⟩ := g2 h
        refine ⟨i0, w, a1, a2, a3, a4, a5, a6, a7, fun v => ?_, fun hs => a9 ?_⟩
        · rw [← a8 v]
          constructor
          · rintro ⟨t, ht⟩
            refine ⟨t, (ht.lin hsw 1 (t * u.getD i 0)).congr fun j hj => ?_⟩
            rw [show v j - t * (redAt p w0 i u).getD j 0 - (1 * (v j - t * u.getD j 0) + t * u.getD i 0 * w0.getD j 0) = (-t) * ((redAt p w0 i u).getD j 0 - (u.getD j 0 - u.getD i 0 * w0.getD j 0)) by
              simp only [Int.neg_mul, Int.mul_sub, Int.one_mul, Int.mul_assoc]; omega]
            exact Int.dvd_mul_of_dvd_right (hw j hj)
          · rintro ⟨t, ht⟩
            refine ⟨t, (ht.lin hsw 1 (-(t * u.getD i 0))).congr fun j hj => ?_⟩
            rw [show v j - t * u.getD j 0 - (1 * (v j - t * (redAt p w0 i u).getD j 0) + -(t * u.getD i 0) * w0.getD j 0) = t * ((redAt p w0 i u).getD j 0 - (u.getD j 0 - u.getD i 0 * w0.getD j 0)) by
              simp only [Int.neg_mul, Int.mul_sub, Int.one_mul, Int.mul_assoc]; omega]
            exact Int.dvd_mul_of_dvd_right (hw j hj)
        · refine (hs.lin hsw 1 (-(u.getD i 0))).congr fun j hj => ?_
          have := hw j hj
          rwa [show (redAt p w0 i u).getD j 0 - (u.getD j 0 - u.getD i 0 * w0.getD j 0) = (redAt p w0 i u).getD j 0 - (1 * u.getD j 0 + -(u.getD i 0) * w0.getD j 0) by rw [Int.neg_mul]; omega] at this

theorem nrm_dvd {p : Nat} {v : List Int} {j : Nat} (hj : j < v.length) : (p : Int) ∣ (nrm p v).getD j 0 - v.getD j 0 := by
  unfold nrm
  rw [updR_get hj, if_pos ⟨Nat.zero_le _, hj⟩]
  exact dvd_emod_sub _ _

theorem nrm_sp {p n : Nat} {L : List (Nat × List Int)} {v : List Int} (hv : v.length = n) : Sp p n L (fun j => (nrm p v).getD j 0) ↔ Sp p n L (fun j => v.getD j 0) :=
  ⟨fun h => h.congr fun j hj => by
    have := Int.dvd_neg.2 (nrm_dvd (p := p) (v := v) (j := j) (by omega))
    rwa [show -((nrm p v).getD j 0 - v.getD j 0) = v.getD j 0 - (nrm p v).getD j 0 by omega] at this, fun h => h.congr fun j hj => nrm_dvd (by omega)⟩

/-- A ROW IS ADDED. -/
theorem addL_spec {p n : Nat} (hp : pr p) {L : List (Nat × List Int)} (hL : Ech p n L) {v : List Int} (hv : v.length = n) :
    Ech p n (addL p L v).1 ∧ ((addL p L v).2 = false ↔ Sp p n L (fun j => v.getD j 0)) ∧ (∀ x : Nat → Int, Sp p n (addL p L v).1 x ↔ ∃ t : Int, Sp p n L (fun j => x j - t * v.getD j 0)) ∧
      (addL p L v).1.length = L.length + (if (addL p L v).2 then 1 else 0) := by
  have hp2 := hp.le
  obtain ⟨g1, g2⟩ := scan_spec hp hL n 0 (nrm p v) (by omega) (by rw [nrm, updR_len, hv]) (nrm_rng (by omega) v) fun j hj => by omega
  have e : addL p L v = scan p L n 0 (nrm p v) := by rw [addL, hv]
  rw [← e] at g1 g2
  have rel : ∀ x : Nat → Int, (∃ t : Int, Sp p n L (fun j => x j - t * (nrm p v).getD j 0)) ↔ ∃ t : Int, Sp p n L (fun j => x j - t * v.getD j 0) := fun x => by
    constructor
    · rintro ⟨t, ht⟩
      refine ⟨t, ht.congr fun j hj => ?_⟩
      rw [show x j - t * v.getD j 0 - (x j - t * (nrm p v).getD j 0) = t * ((nrm p v).getD j 0 - v.getD j 0) by rw [Int.mul_sub]; omega]
      exact Int.dvd_mul_of_dvd_right (nrm_dvd (by omega))
    · rintro ⟨t, ht⟩
      refine ⟨t, ht.congr fun j hj => ?_⟩
      rw [show x j - t * (nrm p v).getD j 0 - (x j - t * v.getD j 0) = (-t) * ((nrm p v).getD j 0 - v.getD j 0) by rw [Int.neg_mul, Int.mul_sub]; omega]
      exact Int.dvd_mul_of_dvd_right (nrm_dvd (by omega))
  cases hb : (addL p L v).2 with
  | false =>
    obtain ⟨a1, a2⟩ := g1 hb
    have a3 := (nrm_sp hv).1 a2
    rw [a1]
    refine ⟨hL, ⟨fun _ => a3, fun _ => rfl⟩, fun x => ⟨fun h => ⟨0, h.congr fun j _ => by rw [Int.zero_mul, Int.sub_zero, Int.sub_self]; exact Int.dvd_zero _⟩, fun ⟨t, ht⟩ => ?_⟩, by simp⟩
    refine (ht.lin a3 1 t).congr fun j _ => ?_
    rw [show x j - (1 * (x j - t * v.getD j 0) + t * v.getD j 0) = 0 by omega]; exact Int.dvd_zero _
  | true =>
    obtain ⟨i0, w, a1, a2, a3, a4, a5, a6, a7, a8, a9⟩ := g2 hb
    rw [a1]
    refine ⟨⟨?_, ?_, ?_, ?_, ?_, ?_⟩, ⟨(fun h => by cases h), fun h => absurd ((nrm_sp hv).2 h) a9⟩, fun x => by rw [Sp_cons a2, ← a8 x, rel x], by simp⟩
    · rw [List.map_cons, List.nodup_cons]
      refine ⟨fun h => ?_, hL.keys⟩
      obtain ⟨e', he, h⟩ := List.mem_map.1 h
      exact a2 e' he h
    · intro e he; rcases List.mem_cons.1 he with rfl | he
      · exact a3
      · exact hL.lt e he
    · intro e he; rcases List.mem_cons.1 he with rfl | he
      · exact a4
      · exact hL.len e he
    · intro e he; rcases List.mem_cons.1 he with rfl | he
      · exact a5
      · exact hL.rg e he
    · intro e he; rcases List.mem_cons.1 he with rfl | he
      · exact a6
      · exact hL.one e he
    · intro e he; rcases List.mem_cons.1 he with rfl | he
      · exact a7
      · exact hL.zero e he

theorem Ech.nil (p n : Nat) : Ech p n [] := ⟨by simp, by simp, by simp, by simp, by simp, by simp⟩

/-- How many rows there are. -/
theorem Ech.count {p n : Nat} {L : List (Nat × List Int)} (h : Ech p n L) : mpLen (dOf L) = L.length := by
  have key : ∀ (L : List (Nat × List Int)) (z : Int), z ∈ L.map (fun e => (e.1 : Int)) ↔ dOf L z = true := by
    intro L z
    induction L with
    | nil => simp [dOf]
    | cons e L ih => simp only [List.map_cons, List.mem_cons, dOf, Bool.or_eq_true, beq_iff_eq, ih]
  rw [mpLen_eq (l := L.map fun e => (e.1 : Int)) ?_ (key L), List.length_map]
  have := h.keys
  rw [show (L.map fun e => (e.1 : Int)) = (L.map (·.1)).map (fun k : Nat => (k : Int)) by rw [List.map_map]; rfl]
  exact List.pairwise_map.2 (List.Pairwise.imp (fun h e => h (by omega)) this)

end Go.Proofs.Ytboadfahlflmhaa

/-
  Walks: extensions: what is looked at; cocycles; bounds; spans. Conditions: none.
-/
set_option linter.all false
namespace Go.Proofs.Ytboadfahlflmhaa
open Go.Pv

theorem xfault_c (c a : Int) : FnC Try.prog 55 [.int .i64 c, .int .i64 a] (fl (c, a)) := by
  refine fnc_of tab_ok Try.func55 rfl (by kernel_rfl) (by rw [Try.ntmps55]; exact Nat.le_add_left 2 _) ?_; rw [Try.ntmps55]
  refine qm ?_
  refine hk_region fun K hK => runs_eval tab_ok ?_
  simp only [ev0, evA, evB, evP, fl, gp, tab, simprocAttr, reduceCtorEq, reduceIte]
  refine fin_run ?_ (hK _ ?_) <;> clear hK <;> clear K
  · (first | exact trivial | omega | (simp only [In64] at *; omega) | (simp [In64] at *; omega) | (simp_all; done) | skip)
  refine qa (qm ?_)
  refine hk_region fun K hK => runs_eval tab_ok ?_
  simp only [ev0, evA, evB, evP, fl, gp, tab, simprocAttr, reduceCtorEq, reduceIte]
  refine fin_run ?_ (hK _ ?_) <;> clear hK <;> clear K
  · (first | exact trivial | omega | (simp only [In64] at *; omega) | (simp [In64] at *; omega) | (simp_all; done) | skip)
  refine qa (qk ?_)
  simp only [Try.results55, enA, ev0, evA, evB, evP, fl, gp, tab, simprocAttr, reduceCtorEq, reduceIte]
  all_goals (rfl)

/-- The fault of a group and a prime. -/
def xf (N : Int) (m : List Int) (p : Int) : Int × Int :=
  if ¬ (gf N m).1 = 0 then gf N m else if N > 12 then (2, 0) else if ¬ (p = 2 ∨ p = 3 ∨ p = 5 ∨ p = 7) then (3, 1) else (0, 0)

theorem ix4 (p : Int) : ix [2, 3, 5, 7] p ≥ 0 ↔ p = 2 ∨ p = 3 ∨ p = 5 ∨ p = 7 := by
  rw [ix_mem]
  constructor
  · rintro ⟨i, hi, e⟩
    match i, hi with
    | 0, _ => exact .inl (by simpa using e.symm)
    | 1, _ => exact .inr (.inl (by simpa using e.symm))
    | 2, _ => exact .inr (.inr (.inl (by simpa using e.symm)))
    | 3, _ => exact .inr (.inr (.inr (by simpa using e.symm)))
  · rintro (h | h | h | h)
    · exact ⟨0, by simp, by simp [h]⟩
    · exact ⟨1, by simp, by simp [h]⟩
    · exact ⟨2, by simp, by simp [h]⟩
    · exact ⟨3, by simp, by simp [h]⟩

theorem xlook_c (N : Int) (m : List Int) (p : Int) (hm : m.length ≤ 1000000000000000) : FnC Try.prog 23 [gp N m, .int .i64 p] (fl (xf N m p)) := by
  refine fnc_of tab_ok Try.func23 rfl (by kernel_rfl) (by rw [Try.ntmps23]; exact Nat.le_add_left 2 _) ?_; rw [Try.ntmps23]
  refine qm ?_
  refine hk_region fun K hK => runs_eval tab_ok ?_
  simp only [ev0, evA, evB, evP, fl, gp, tab, simprocAttr, reduceCtorEq, reduceIte]
  refine fin_run ?_ (hK _ ?_) <;> clear hK <;> clear K
  · (first | exact trivial | omega | (simp only [In64] at *; omega) | (simp [In64] at *; omega) | (simp_all; done) | skip)
  refine qa (qm (qm ?_))
  refine hk_region fun K hK => runs_eval tab_ok ?_
  simp only [ev0, evA, evB, evP, fl, gp, tab, simprocAttr, reduceCtorEq, reduceIte]
  refine fin_stop trivial (runs_call (check_c N m hm) rfl rfl rfl (by simp only [dstOk, Nat.reduceLT]) (by repeat (first | exact trivial | constructor)) (runs_eval tab_ok ?_))
  simp only [ev0, evA, evB, evP, fl, gp, tab, simprocAttr, reduceCtorEq, reduceIte]
  refine fin_run ?_ (hK _ ?_) <;> clear hK <;> clear K
  · (first | exact trivial | omega | (simp only [In64] at *; omega) | (simp [In64] at *; omega) | (simp_all; done) | skip)
  refine qa (qm ?_)
  refine hk_region fun K hK => runs_eval tab_ok ?_
  simp only [ev0, evA, evB, evP, fl, gp, tab, simprocAttr, reduceCtorEq, reduceIte]
  refine fin_run ?_ (hK _ ?_) <;> clear hK <;> clear K
  · (first | exact trivial | omega | (simp only [In64] at *; omega) | (simp [In64] at *; omega) | (simp_all; done) | skip)
  refine qa ?_
  refine hk_cond rfl (fun hC1 => ?_) (fun hC1 => ?_)
  · (try simp only [nhs] at hC1)
    refine qm ?_
    refine hk_region fun K hK => runs_eval tab_ok ?_
    simp only [ev0, evA, evB, evP, fl, gp, tab, simprocAttr, reduceCtorEq, reduceIte]
    refine fin_run ?_ (hK _ ?_) <;> clear hK <;> clear K
    · (first | exact trivial | omega | (simp only [In64] at *; omega) | (simp [In64] at *; omega) | (simp_all; done) | skip)
    refine qa (qk (qb ?_))
    simp only [Try.results23, enA, ev0, evA, evB, evP, fl, gp, tab, simprocAttr, reduceCtorEq, reduceIte]
    all_goals (unfold xf; rw [if_pos hC1]; simp)
  · (try simp only [nhs] at hC1)
    refine qh (qa (qm (qm ?_)))
    refine hk_region fun K hK => runs_eval tab_ok ?_
    simp only [ev0, evA, evB, evP, fl, gp, tab, simprocAttr, reduceCtorEq, reduceIte]
    refine fin_run ?_ (hK _ ?_) <;> clear hK <;> clear K
    · (first | exact trivial | omega | (simp only [In64] at *; omega) | (simp [In64] at *; omega) | (simp_all; done) | skip)
    refine qa ?_
    refine hk_cond rfl (fun hC2 => ?_) (fun hC2 => ?_)
    · (try simp only [nhs] at hC2)
      refine qm ?_
      refine hk_region fun K hK => runs_eval tab_ok ?_
      simp only [ev0, evA, evB, evP, fl, gp, tab, simprocAttr, reduceCtorEq, reduceIte]
      refine fin_stop trivial (runs_call (xfault_c 2 0) rfl rfl rfl (by simp only [dstOk, Nat.reduceLT]) (by repeat (first | exact trivial | constructor)) (runs_eval tab_ok ?_))
      simp only [ev0, evA, evB, evP, fl, gp, tab, simprocAttr, reduceCtorEq, reduceIte]
      refine fin_run ?_ (hK _ ?_) <;> clear hK <;> clear K
      · (first | exact trivial | omega | (simp only [In64] at *; omega) | (simp [In64] at *; omega) | (simp_all; done) | skip)
      refine qa (qk (qb ?_))
      simp only [Try.results23, enA, ev0, evA, evB, evP, fl, gp, tab, simprocAttr, reduceCtorEq, reduceIte]
      all_goals (unfold xf; rw [if_neg (by simpa using hC1), if_pos hC2]; simp)
    · (try simp only [nhs] at hC2)
      refine qh (qa (qm (qm ?_)))
      refine hk_region fun K hK => runs_eval tab_ok ?_
      simp only [ev0, evA, evB, evP, fl, gp, tab, simprocAttr, reduceCtorEq, reduceIte]
      refine fin_stop trivial (runs_call (FnC.sub (args' := [.nn (il [2, 3, 5, 7]), .int .i64 p]) (contains_c [2, 3, 5, 7] p (by decide)) (And.intro (.nn _) (And.intro (.same _) trivial))) rfl rfl rfl (by simp only [dstOk, Nat.reduceLT]) (by repeat (first | exact trivial | constructor)) (runs_eval tab_ok ?_))
      simp only [ev0, evA, evB, evP, fl, gp, tab, simprocAttr, reduceCtorEq, reduceIte]
      refine fin_run ?_ (hK _ ?_) <;> clear hK <;> clear K
      · (first | exact trivial | omega | (simp only [In64] at *; omega) | (simp [In64] at *; omega) | (simp_all; done) | skip)
      refine qa ?_
      refine hk_cond rfl (fun hC3 => ?_) (fun hC3 => ?_)
      · (try simp only [nhs] at hC3)
        refine qm ?_
        refine hk_region fun K hK => runs_eval tab_ok ?_
        simp only [ev0, evA, evB, evP, fl, gp, tab, simprocAttr, reduceCtorEq, reduceIte]
        refine fin_stop trivial (runs_call (xfault_c 3 1) rfl rfl rfl (by simp only [dstOk, Nat.reduceLT]) (by repeat (first | exact trivial | constructor)) (runs_eval tab_ok ?_))
        simp only [ev0, evA, evB, evP, fl, gp, tab, simprocAttr, reduceCtorEq, reduceIte]
        refine fin_run ?_ (hK _ ?_) <;> clear hK <;> clear K
        · (first | exact trivial | omega | (simp only [In64] at *; omega) | (simp [In64] at *; omega) | (simp_all; done) | skip)
        refine qa (qk (qb ?_))
        simp only [Try.results23, enA, ev0, evA, evB, evP, fl, gp, tab, simprocAttr, reduceCtorEq, reduceIte]
        all_goals (unfold xf; rw [if_neg (by simpa using hC1), if_neg hC2, if_pos (by rw [← ix4]; exact hC3)]; simp)
      · (try simp only [nhs] at hC3)
        refine qh (qa (qm ?_))
        refine hk_region fun K hK => runs_eval tab_ok ?_
        simp only [ev0, evA, evB, evP, fl, gp, tab, simprocAttr, reduceCtorEq, reduceIte]
        refine fin_run ?_ (hK _ ?_) <;> clear hK <;> clear K
        · (first | exact trivial | omega | (simp only [In64] at *; omega) | (simp [In64] at *; omega) | (simp_all; done) | skip)
        refine qa (qk ?_)
        simp only [Try.results23, enA, ev0, evA, evB, evP, fl, gp, tab, simprocAttr, reduceCtorEq, reduceIte]
        all_goals (unfold xf; rw [if_neg (by simpa using hC1), if_neg hC2, if_neg (by rw [← ix4]; simpa using hC3)]; simp)

theorem xf_ok {N : Int} {m : List Int} {p : Int} (h : (xf N m p).1 = 0) : ∃ (n e q : Nat), GT N m n e ∧ n ≤ 12 ∧ p = (q : Int) ∧ pr q ∧ xf N m p = (0, 0) := by
  unfold xf at h ⊢
  by_cases h1 : (gf N m).1 = 0
  · rw [if_neg (by simpa using h1)] at h ⊢
    by_cases h2 : N > 12
    · rw [if_pos h2] at h; simp at h
    · rw [if_neg h2] at h ⊢
      by_cases h3 : p = 2 ∨ p = 3 ∨ p = 5 ∨ p = 7
      · rw [if_neg (fun h => h h3)]
        obtain ⟨n, e, hg, _⟩ := gf_ok h1
        obtain rfl := hg.1
        exact ⟨n, e, p.toNat, hg, by omega, by omega, by unfold pr; omega, rfl⟩
      · rw [if_pos h3] at h; simp at h
  · rw [if_pos h1] at h; exact absurd h h1

theorem xf_of {n e : Nat} {m : List Int} {q : Nat} (h : GT n m n e) (hn : n ≤ 12) (hq : pr q) : xf n m q = (0, 0) := by
  unfold xf
  rw [if_neg (by rw [gf_of h]; simp), if_neg (by omega), if_neg (by unfold pr at hq; omega)]

/-! ### Cocycles -/

/-- A list, as a rule of two things. -/
def F2 (n : Nat) (f : List Int) (a b : Nat) : Int := f.getD (a * n + b) 0

def coc (n : Nat) (m : List Int) (p : Nat) (f : List Int) (a b c : Nat) : Prop :=
  (F2 n f b c + F2 n f a (op m n b c)) % (p : Int) = (F2 n f (op m n a b) c + F2 n f a b) % (p : Int)
instance (n : Nat) (m : List Int) (p : Nat) (f : List Int) (a b c : Nat) : Decidable (coc n m p f a b c) := by unfold coc; infer_instance
def cocA (n : Nat) (m : List Int) (p : Nat) (f : List Int) (a : Nat) : Prop := ∀ b, b < n → ∀ c, c < n → coc n m p f a b c
instance (n : Nat) (m : List Int) (p : Nat) (f : List Int) (a : Nat) : Decidable (cocA n m p f a) := by unfold cocA; infer_instance

/-! ### Bounds -/

def dB (n : Nat) (m : List Int) (c : Nat → Int) (t : Nat) : Int := c (t / n) + c (t % n) - c (op m n (t / n) (t % n))
def dl (n : Nat) (m : List Int) (p : Nat) (c : List Int) : List Int := updR (fun t => dB n m (fun a => c.getD a 0) t % (p : Int)) 0 (n * n) (List.replicate (n * n) 0)

theorem dl_len (n : Nat) (m : List Int) (p : Nat) (c : List Int) : (dl n m p c).length = n * n := by rw [dl, updR_len, List.length_replicate]
theorem dl_get {n : Nat} {m : List Int} {p : Nat} {c : List Int} {t : Nat} (ht : t < n * n) : (dl n m p c).getD t 0 = dB n m (fun a => c.getD a 0) t % (p : Int) := by
  rw [dl, updR_get (by rw [List.length_replicate]; exact ht), if_pos ⟨Nat.zero_le _, ht⟩]
theorem dl_rng {n : Nat} {m : List Int} {p : Nat} (hp : 0 < p) (c : List Int) : rng p (dl n m p c) := fun t ht => by
  rw [dl_len] at ht
  rw [dl_get ht]; exact emod_rng hp _

theorem dm_at {n a b : Nat} (hb : b < n) : (a * n + b) / n = a ∧ (a * n + b) % n = b := by
  constructor
  · rw [Nat.mul_comm, Nat.mul_add_div (by omega), Nat.div_eq_of_lt hb]; omega
  · rw [Nat.mul_comm, Nat.mul_add_mod, Nat.mod_eq_of_lt hb]

theorem bounds_c {n e p : Nat} {m : List Int} (h : GT n m n e) (hn : n ≤ 12) (hp : pr p) (c : List Int) (hc : c.length = n) (hr : ∀ t, t < n → -1000 ≤ c.getD t 0 ∧ c.getD t 0 ≤ 1000) :
    FnC Try.prog 58 [gp n m, .int .i64 p, .list (il c)] (.list (il (dl n m p c))) := by
  have T := h.2.1
  have hp2 := hp.le
  have hsq : n * n ≤ 144 := Nat.mul_le_mul hn hn
  have c0 : (n : Int) * (n : Int) = ((n * n : Nat) : Int) := (Int.natCast_mul n n).symm
  refine fnc_of tab_ok Try.func58 rfl (by kernel_rfl) (by rw [Try.ntmps58]; exact Nat.le_add_left 3 _) ?_; rw [Try.ntmps58]
  refine qm ?_
  refine hk_region fun K hK => runs_eval tab_ok ?_
  simp only [ev0, evA, evB, evP, fl, gp, tab, simprocAttr, reduceCtorEq, reduceIte]
  refine fin_run ?_ (hK _ ?_) <;> clear hK <;> clear K
  · (first | exact trivial | omega | (simp only [In64] at *; omega) | (simp [In64] at *; omega) | (simp_all; done) | skip)
  refine qa (qm ?_)
  refine hk_region fun K hK => runs_eval tab_ok ?_
  simp only [ev0, evA, evB, evP, fl, gp, tab, simprocAttr, reduceCtorEq, reduceIte, c0, ol_replicate]
  refine fin_run ?_ (hK _ ?_) <;> clear hK <;> clear K
  · simp only [In64]; omega
  refine qa (qm (qm ?_))
  refine hk_region fun K hK => runs_eval tab_ok ?_
  simp only [ev0, evA, evB, evP, fl, gp, tab, simprocAttr, reduceCtorEq, reduceIte]
  refine fin_run ?_ (hK _ ?_) <;> clear hK <;> clear K
  · (first | exact trivial | omega | (simp only [In64] at *; omega) | (simp [In64] at *; omega) | (simp_all; done) | skip)
  refine qa (ql ?_)
  refine hk_loop (ι := Nat) (fun a => ⟨60, [(1, .p (.int .i64 p)), (2, .p (.list (il c))), (3, .ptr 0 0), (7, .sl 1 0 (n * n)), (17, .p (.int .i64 n)), (18, .p (.int .i64 a))], [.own [.p (.int .i64 n), .p (.list (il m))], .own (ol (updR (fun t => dB n m (fun a => c.getD a 0) t % (p : Int)) 0 (a * n) (List.replicate (n * n) 0)))]⟩) (fun a => a ≤ n) (fun a => n - a) 0 (Nat.zero_le _) [0, 1] (by rw [Nat.zero_mul, updR_start]; simp only [leq, leA, ev0, evA, evB, evP, fl, gp, tab, simprocAttr, reduceCtorEq, reduceIte]) fun a ha => ?_
  refine qm ?_
  refine hk_region fun K hK => runs_eval tab_ok ?_
  simp only [ev0, evA, evB, evP, fl, gp, tab, simprocAttr, reduceCtorEq, reduceIte]
  refine fin_run trivial (hK _ ?_) <;> clear hK <;> clear K
  refine qa (qm ?_)
  refine hk_cond rfl (fun hC1 => ?_) (fun hC1 => ?_)
  · (try simp only [nhs] at hC1)
    have hal : a < n := by omega
    refine qh (qa (qm (ql (qm ?_))))
    refine hk_region fun K hK => runs_eval tab_ok ?_
    simp only [ev0, evA, evB, evP, fl, gp, tab, simprocAttr, reduceCtorEq, reduceIte]
    refine fin_run trivial (hK _ ?_) <;> clear hK <;> clear K
    refine qa (qm ?_)
    refine hk_region fun K hK => runs_eval tab_ok ?_
    simp only [ev0, evA, evB, evP, fl, gp, tab, simprocAttr, reduceCtorEq, reduceIte]
    refine fin_run ?_ (hK _ ?_) <;> clear hK <;> clear K
    · (first | exact trivial | omega | (simp only [In64] at *; omega) | (simp [In64] at *; omega) | (simp_all; done) | skip)
    refine qa (ql ?_)
    refine hk_loop (ι := Nat) (fun b => ⟨60, [(1, .p (.int .i64 p)), (2, .p (.list (il c))), (3, .ptr 0 0), (7, .sl 1 0 (n * n)), (8, .p (.int .i64 a)), (17, .p (.int .i64 n)), (18, .p (.int .i64 a)), (22, .p (.int .i64 n)), (23, .p (.int .i64 b))], [.own [.p (.int .i64 n), .p (.list (il m))], .own (ol (updR (fun t => dB n m (fun a => c.getD a 0) t % (p : Int)) 0 (a * n + b) (List.replicate (n * n) 0)))]⟩) (fun b => b ≤ n) (fun b => n - b) 0 (Nat.zero_le _) [0, 1] (by rw [Nat.add_zero]; simp only [leq, leA, ev0, evA, evB, evP, fl, gp, tab, simprocAttr, reduceCtorEq, reduceIte]) fun b hb => ?_
    refine qm ?_
    refine hk_region fun K hK => runs_eval tab_ok ?_
    simp only [ev0, evA, evB, evP, fl, gp, tab, simprocAttr, reduceCtorEq, reduceIte]
    refine fin_run trivial (hK _ ?_) <;> clear hK <;> clear K
    refine qa (qm ?_)
    refine hk_cond rfl (fun hC2 => ?_) (fun hC2 => ?_)
    · (try simp only [nhs] at hC2)
      have hbl : b < n := by omega
      have hab := T.lt hal hbl
      have hat := at_lt hal hbl
      have r1 := hr a hal
      have r2 := hr b hbl
      have r3 := hr _ hab
      obtain ⟨d1, d2⟩ := dm_at (a := a) hbl
      have hl : (updR (fun t => dB n m (fun a => c.getD a 0) t % (p : Int)) 0 (a * n + b) (List.replicate (n * n) 0)).length = n * n := by rw [updR_len, List.length_replicate]
      have hs : (updR (fun t => dB n m (fun a => c.getD a 0) t % (p : Int)) 0 (a * n + b) (List.replicate (n * n) 0)).set (a * n + b) ((c.getD a 0 + c.getD b 0 - c.getD (op m n a b) 0) % (p : Int)) = updR (fun t => dB n m (fun a => c.getD a 0) t % (p : Int)) 0 (a * n + b + 1) (List.replicate (n * n) 0) := by
        rw [← updR_set (Nat.zero_le _) (by rw [List.length_replicate]; exact hat)]
        simp only [dB, d1, d2]
      have c1 : (a : Int) * (n : Int) = ((a * n : Nat) : Int) := (Int.natCast_mul a n).symm
      have ht1 := Int.lt_tmod_of_pos (c.getD a 0 + c.getD b 0 - c.getD (op m n a b) 0) (show (0 : Int) < p by omega)
      have ht2 := Int.tmod_lt_of_pos (c.getD a 0 + c.getD b 0 - c.getD (op m n a b) 0) (show (0 : Int) < p by omega)
      refine qh (qa (qm (ql (qm ?_))))
      refine hk_region fun K hK => runs_eval tab_ok ?_
      simp only [ev0, evA, evB, evP, fl, gp, tab, simprocAttr, reduceCtorEq, reduceIte]
      refine fin_run trivial (hK _ ?_) <;> clear hK <;> clear K
      refine qa ?_
      refine hk_draw mixed (by kernel_rfl) fun K hK => runs_eval tab_ok ?_
      simp only [ev0, evA, evB, evP, fl, gp, tab, simprocAttr, reduceCtorEq, reduceIte, at_nat, il_get (show a < c.length by omega), il_get (show b < c.length by omega), il_get (show op m n a b < c.length by omega), tmod2 (show 0 < p by omega), ol_set, hs, hl]
      refine fin_stop ?_ (runs_call (of_c T hal hbl) rfl rfl rfl (by simp only [dstOk, Nat.reduceLT]) (by repeat (first | exact trivial | constructor)) (runs_eval tab_ok ?_))
      · simp only [c1, In64]; omega
      simp only [ev0, evA, evB, evP, fl, gp, tab, simprocAttr, reduceCtorEq, reduceIte, at_nat, il_get (show a < c.length by omega), il_get (show b < c.length by omega), il_get (show op m n a b < c.length by omega), tmod2 (show 0 < p by omega), ol_set, hs, hl]
      refine fin_run ?_ (hK _ ?_) <;> clear hK <;> clear K
      · rw [c1]; simp only [In64]; omega
      refine qd (qa ?_)
      refine hk_region fun K hK => runs_eval tab_ok ?_
      simp only [ev0, evA, evB, evP, fl, gp, tab, simprocAttr, reduceCtorEq, reduceIte]
      refine fin_run ?_ (hK _ ?_) <;> clear hK <;> clear K
      · (first | exact trivial | omega | (simp only [In64] at *; omega) | (simp [In64] at *; omega) | (simp_all; done) | skip)
      refine qa ?_
      refine ⟨b + 1, [0, 1], by omega, by omega, ?_⟩
      rw [← Nat.add_assoc]
      simp only [leq, leA, ev0, evA, evB, evP, fl, gp, tab, simprocAttr, reduceCtorEq, reduceIte] <;> omega
    · (try simp only [nhs] at hC2)
      refine qj (qc (qc (qf (qd (qa ?_)))))
      refine hk_region fun K hK => runs_eval tab_ok ?_
      simp only [ev0, evA, evB, evP, fl, gp, tab, simprocAttr, reduceCtorEq, reduceIte]
      refine fin_run ?_ (hK _ ?_) <;> clear hK <;> clear K
      · (first | exact trivial | omega | (simp only [In64] at *; omega) | (simp [In64] at *; omega) | (simp_all; done) | skip)
      refine qa ?_
      have hbn : b = n := by omega
      refine ⟨a + 1, [0, 1], by omega, by omega, ?_⟩
      rw [show (a + 1) * n = a * n + b by rw [Nat.add_mul, Nat.one_mul, hbn]]
      simp only [leq, leA, ev0, evA, evB, evP, fl, gp, tab, simprocAttr, reduceCtorEq, reduceIte] <;> omega
  · (try simp only [nhs] at hC1)
    refine qj (qc (qc (qf (qa (qm ?_)))))
    refine hk_region fun K hK => runs_eval tab_ok ?_
    simp only [ev0, evA, evB, evP, fl, gp, tab, simprocAttr, reduceCtorEq, reduceIte]
    refine fin_run trivial (hK _ ?_) <;> clear hK <;> clear K
    refine qa (qk ?_)
    simp only [Try.results58, enA, ev0, evA, evB, evP, fl, gp, tab, simprocAttr, reduceCtorEq, reduceIte]
    have han : a = n := by omega
    rw [han]
    have hl : (updR (fun t => dB n m (fun a => c.getD a 0) t % (p : Int)) 0 (n * n) (List.replicate (n * n) 0)).length = n * n := by rw [updR_len, List.length_replicate]
    simp only [dl]
    rw [List.take_of_length_le (by omega)]
    simp [updR_len]

end Go.Proofs.Ytboadfahlflmhaa

/-
  Walks: extensions: what all bounds span; bounds; what is the same; what is made. Conditions: none.
-/
set_option linter.all false
namespace Go.Proofs.Ytboadfahlflmhaa
open Go.Pv

/-- A list that is 1 at one place. -/
def un1 (n a : Nat) : List Int := (List.replicate n 0).set a 1

theorem un1_len (n a : Nat) : (un1 n a).length = n := by simp [un1]
theorem un1_get {n a t : Nat} (ha : a < n) (ht : t < n) : (un1 n a).getD t 0 = if t = a then 1 else 0 := by
  unfold un1
  rw [List.getD_eq_getElem?_getD, List.getElem?_set]
  by_cases h : a = t
  · subst h; simp [ha]
  · rw [if_neg h, if_neg (fun e => h e.symm)]; simp [ht]

/-- The rows of the first things' bounds. -/
def spK (n : Nat) (m : List Int) (p : Nat) : Nat → List (Nat × List Int)
  | 0 => []
  | k + 1 => (addL p (spK n m p k) (dl n m p (un1 n k))).1

theorem spK_ech {n p : Nat} (hp : pr p) (m : List Int) : ∀ k, Ech p (n * n) (spK n m p k)
  | 0 => Ech.nil _ _
  | k + 1 => (addL_spec hp (spK_ech hp m k) (dl_len n m p (un1 n k))).1

theorem dB_lin {n : Nat} {m : List Int} (a b : Int) (c d : Nat → Int) (t : Nat) : dB n m (fun k => a * c k + b * d k) t = a * dB n m c t + b * dB n m d t := by
  simp only [dB, Int.mul_add, Int.mul_sub]; omega

theorem dB_congr {n : Nat} {m : List Int} (T : Tab n m) {c d : Nat → Int} (h : ∀ a, a < n → c a = d a) {t : Nat} (ht : t < n * n) : dB n m c t = dB n m d t := by
  have hn := T.pos
  have h1 : t / n < n := (Nat.div_lt_iff_lt_mul (by omega)).2 ht
  have h2 : t % n < n := Nat.mod_lt _ (by omega)
  simp only [dB, h _ h1, h _ h2, h _ (T.lt h1 h2)]

theorem spK_sp {n p : Nat} (hp : pr p) {m : List Int} (T : Tab n m) : ∀ k, k ≤ n → ∀ x : Nat → Int, Sp p (n * n) (spK n m p k) x ↔ ∃ c : Nat → Int, (∀ a, k ≤ a → c a = 0) ∧ ∀ t, t < n * n → (p : Int) ∣ x t - dB n m c t
  | 0, _, x => by
    constructor
    · rintro ⟨c, hc⟩
      refine ⟨fun _ => 0, fun _ _ => rfl, fun t ht => ?_⟩
      have := hc t ht
      simpa [spK, lsum, dB] using this
    · rintro ⟨c, hc0, hc⟩
      refine Sp.zero fun t ht => ?_
      have := hc t ht
      simpa [dB, hc0] using this
  | k + 1, hk, x => by
    have hdl : ∀ t, t < n * n → (p : Int) ∣ (dl n m p (un1 n k)).getD t 0 - dB n m (dl1 k) t := fun t ht => by
      rw [dl_get ht, dB_congr T (c := fun a => (un1 n k).getD a 0) (d := dl1 k) (fun a ha => by rw [un1_get (by omega) ha]; rfl) ht]
      exact dvd_emod_sub _ _
    have h1 := (addL_spec hp (spK_ech hp m k) (dl_len n m p (un1 n k))).2.2.1 x
    show Sp p (n * n) (addL p (spK n m p k) (dl n m p (un1 n k))).1 x ↔ _
    rw [h1]
    constructor
    · rintro ⟨t, ht⟩
      obtain ⟨c, c1, c2⟩ := (spK_sp hp T k (by omega) _).1 ht
      refine ⟨fun a => 1 * c a + t * dl1 k a, fun a ha => by simp [c1 a (by omega), dl1, show a ≠ k by omega], fun j hj => ?_⟩
      rw [dB_lin]
      have e : x j - (1 * dB n m c j + t * dB n m (dl1 k) j) = (x j - t * (dl n m p (un1 n k)).getD j 0 - dB n m c j) + t * ((dl n m p (un1 n k)).getD j 0 - dB n m (dl1 k) j) := by
        rw [Int.mul_sub]; omega
      rw [e]
      exact Int.dvd_add (c2 j hj) (Int.dvd_mul_of_dvd_right (hdl j hj))
    · rintro ⟨c, c1, c2⟩
      refine ⟨c k, (spK_sp hp T k (by omega) _).2 ⟨fun a => 1 * c a + (-(c k)) * dl1 k a, fun a ha => ?_, fun j hj => ?_⟩⟩
      · by_cases h : a = k
        · subst h; simp [dl1]; omega
        · simp [c1 a (by omega), dl1, h]
      · rw [dB_lin]
        have e : x j - c k * (dl n m p (un1 n k)).getD j 0 - (1 * dB n m c j + -(c k) * dB n m (dl1 k) j) = (x j - dB n m c j) + (-(c k)) * ((dl n m p (un1 n k)).getD j 0 - dB n m (dl1 k) j) := by
          rw [Int.mul_sub, Int.neg_mul, Int.neg_mul]; omega
        rw [e]
        exact Int.dvd_add (c2 j hj) (Int.dvd_mul_of_dvd_right (hdl j hj))

theorem xspan_c {n e p : Nat} {m : List Int} (h : GT n m n e) (hn : n ≤ 12) (hp : pr p) :
    FnM Try.prog 27 [.p (gp n m), .p (.int .i64 p)] [] (.ptr 0 0) [.own [.p (.int .i64 p), .mptr 1], .mp .i64 (dOf (spK n m p n)) (vOf (spK n m p n))] := by
  have T := h.2.1
  have hpos := T.pos
  have hp2 := hp.le
  have hsq : n * n ≤ 144 := Nat.mul_le_mul hn hn
  have hsq1 : 0 < n * n := Nat.mul_pos hpos hpos
  refine fnm_of tab_ok Try.func27 rfl (by kernel_rfl) (by rw [Try.ntmps27]; exact Nat.le_add_left 2 _) ?_; rw [Try.ntmps27]; simp only [ancs, entA, List.length_cons, List.length_nil, List.cons_append, List.nil_append, Nat.reduceAdd, Nat.zero_add]
  refine qm ?_
  refine hk_region fun K hK => runs_eval tab_ok ?_
  simp only [ev0, evA, evB, evP, fl, gp, tab, simprocAttr, reduceCtorEq, reduceIte]
  refine fin_run ?_ (hK _ ?_) <;> clear hK <;> clear K
  · (first | exact trivial | omega | (simp only [In64] at *; omega) | (simp [In64] at *; omega) | (simp_all; done) | skip)
  refine qa (qm ?_)
  refine hk_region fun K hK => runs_eval tab_ok ?_
  simp only [ev0, evA, evB, evP, fl, gp, tab, simprocAttr, reduceCtorEq, reduceIte]
  refine fin_stop ?_ (runs_callM [] (newRows_c p) rfl rfl ?_ (by simp only [leA, ev0, evA, evB, evP, fl, gp, tab, simprocAttr, reduceCtorEq, reduceIte]; first | trivial | (simp only [ll_takeL]; first | trivial | (repeat constructor; done)) | (repeat constructor)) (by decide) (by first | rfl | (simp only [List.length_cons, List.length_nil, List.length_append]; decide)) (by first | rfl | (simp only [scM, opl_sc, List.all_cons, List.all_nil, List.length_cons, List.length_nil]; first | rfl | decide) | (simp [scM, scA, sc1, mpKeep, notAnc]; done)) (by simp only [dstOk, Nat.reduceLT]) (runs_eval tab_ok ?_))
  · (first | exact trivial | omega | (simp only [In64] at *; omega) | (simp [In64] at *; omega) | (simp_all; done) | skip)
  · (simp only [argsM, argM1, peekG, peekS, scA, sc1, ren, ren1, List.map_cons, List.map_nil, List.append_nil, List.cons_append, List.nil_append, enA, ev0, evA, evB, evP, fl, gp, tab, simprocAttr, reduceCtorEq, reduceIte]; try trivial)
  simp only [putM, hset, List.range', Blk.ren, ren, ren1, List.map_cons, List.map_nil, List.cons_append, List.nil_append, List.append_nil, List.length_cons, List.length_nil, ev0, evA, evB, evP, fl, gp, tab, simprocAttr, reduceCtorEq, reduceIte]
  refine fin_run trivial (hK _ ?_) <;> clear hK <;> clear K
  refine qa (qm (qm ?_))
  refine hk_region fun K hK => runs_eval tab_ok ?_
  simp only [ev0, evA, evB, evP, fl, gp, tab, simprocAttr, reduceCtorEq, reduceIte]
  refine fin_run ?_ (hK _ ?_) <;> clear hK <;> clear K
  · (first | exact trivial | omega | (simp only [In64] at *; omega) | (simp [In64] at *; omega) | (simp_all; done) | skip)
  refine qa (ql ?_)
  refine hk_loop (ι := Nat) (fun a => ⟨29, [(1, .p (.int .i64 p)), (2, .ptr 0 0), (5, .ptr 1 0), (11, .p (.int .i64 n)), (12, .p (.int .i64 a))], [.own [.p (.int .i64 n), .p (.list (il m))], .own [.p (.int .i64 p), .mptr 2], .mp .i64 (dOf (spK n m p a)) (vOf (spK n m p a))]⟩) (fun a => a ≤ n) (fun a => n - a) 0 (Nat.zero_le _) [0, 1, 2] (by simp only [leq, leA, ev0, evA, evB, evP, fl, gp, tab, simprocAttr, reduceCtorEq, reduceIte]; rfl) fun a ha => ?_
  refine qm ?_
  refine hk_region fun K hK => runs_eval tab_ok ?_
  simp only [ev0, evA, evB, evP, fl, gp, tab, simprocAttr, reduceCtorEq, reduceIte]
  refine fin_run trivial (hK _ ?_) <;> clear hK <;> clear K
  refine qa (qm ?_)
  refine hk_cond rfl (fun hC1 => ?_) (fun hC1 => ?_)
  · (try simp only [nhs] at hC1)
    have hal : a < n := by omega
    refine qh (qa (qm (ql (qm ?_))))
    refine hk_region fun K hK => runs_eval tab_ok ?_
    simp only [ev0, evA, evB, evP, fl, gp, tab, simprocAttr, reduceCtorEq, reduceIte]
    refine fin_run trivial (hK _ ?_) <;> clear hK <;> clear K
    refine qa (qm ?_)
    refine hk_region fun K hK => runs_eval tab_ok ?_
    simp only [ev0, evA, evB, evP, fl, gp, tab, simprocAttr, reduceCtorEq, reduceIte, ol_replicate]
    refine fin_run ?_ (hK _ ?_) <;> clear hK <;> clear K
    · (first | exact trivial | omega | (simp only [In64] at *; omega) | (simp [In64] at *; omega) | (simp_all; done) | skip)
    refine qa (qm ?_)
    refine hk_region fun K hK => runs_eval tab_ok ?_
    simp only [ev0, evA, evB, evP, fl, gp, tab, simprocAttr, reduceCtorEq, reduceIte, ol_set]
    refine fin_run ?_ (hK _ ?_) <;> clear hK <;> clear K
    · (first | exact trivial | omega | (simp only [In64] at *; omega) | (simp [In64] at *; omega) | (simp_all; done) | skip)
    refine qa ?_
    refine hk_seal 7 3 (w := un1 n a) (by rw [un1_len]; rfl) rfl ?_
    refine hk_region fun K hK => runs_eval tab_ok ?_
    simp only [ev0, evA, evB, evP, fl, gp, tab, simprocAttr, reduceCtorEq, reduceIte]
    refine fin_stop trivial (runs_call (bounds_c h hn hp (un1 n a) (un1_len n a) (fun t ht => by rw [un1_get hal ht]; split <;> omega)) rfl rfl rfl (by simp only [dstOk, Nat.reduceLT]) (by repeat (first | exact trivial | constructor)) (runs_eval tab_ok ?_))
    simp only [ev0, evA, evB, evP, fl, gp, tab, simprocAttr, reduceCtorEq, reduceIte]
    refine fin_stop ?_ (runs_callM [1, 2] (add_c hp hsq1 (by omega) (spK n m p a) (spK_ech hp m a) (dl n m p (un1 n a)) (dl_len n m p _) (fun t ht => by have := dl_rng (show 0 < p by omega) (n := n) (m := m) (un1 n a) t (by rw [dl_len]; exact ht); omega)) rfl rfl ?_ (by simp only [leA, ev0, evA, evB, evP, fl, gp, tab, simprocAttr, reduceCtorEq, reduceIte]; first | trivial | (simp only [ll_takeL]; first | trivial | (repeat constructor; done)) | (repeat constructor)) (by decide) (by first | rfl | (simp only [List.length_cons, List.length_nil, List.length_append]; decide)) (by first | rfl | (simp only [scM, opl_sc, List.all_cons, List.all_nil, List.length_cons, List.length_nil]; first | rfl | decide) | (simp [scM, scA, sc1, mpKeep, notAnc]; done)) (by simp only [dstOk, Nat.reduceLT]) (runs_eval tab_ok ?_))
    · (first | exact trivial | omega | (simp only [In64] at *; omega) | (simp [In64] at *; omega) | (simp_all; done) | skip)
    · (simp only [argsM, argM1, peekG, peekS, scA, sc1, ren, ren1, List.map_cons, List.map_nil, List.append_nil, List.cons_append, List.nil_append, enA, ev0, evA, evB, evP, fl, gp, tab, simprocAttr, reduceCtorEq, reduceIte]; try trivial)
    simp only [putM, hset, List.range', Blk.ren, ren, ren1, List.map_cons, List.map_nil, List.cons_append, List.nil_append, List.append_nil, List.length_cons, List.length_nil, ev0, evA, evB, evP, fl, gp, tab, simprocAttr, reduceCtorEq, reduceIte]
    refine fin_run ?_ (hK _ ?_) <;> clear hK <;> clear K
    · (first | exact trivial | omega | (simp only [In64] at *; omega) | (simp [In64] at *; omega) | (simp_all; done) | skip)
    refine qd (qa ?_)
    refine hk_region fun K hK => runs_eval tab_ok ?_
    simp only [ev0, evA, evB, evP, fl, gp, tab, simprocAttr, reduceCtorEq, reduceIte]
    refine fin_run ?_ (hK _ ?_) <;> clear hK <;> clear K
    · (first | exact trivial | omega | (simp only [In64] at *; omega) | (simp [In64] at *; omega) | (simp_all; done) | skip)
    refine qa ?_
    refine ⟨a + 1, [0, 1, 2], by omega, by omega, ?_⟩
    simp only [leq, leA, ev0, evA, evB, evP, fl, gp, tab, simprocAttr, reduceCtorEq, reduceIte] <;> first | trivial | omega
  · (try simp only [nhs] at hC1)
    refine qj (qc (qc (qf (qa (qm ?_)))))
    refine hk_region fun K hK => runs_eval tab_ok ?_
    simp only [ev0, evA, evB, evP, fl, gp, tab, simprocAttr, reduceCtorEq, reduceIte]
    refine fin_run trivial (hK _ ?_) <;> clear hK <;> clear K
    refine qa (qk ?_)
    simp only [Try.results27, PostG, endG, rvsA, rvA, mkTup, ev0, evA, evB, evP, fl, gp, tab, simprocAttr, reduceCtorEq, reduceIte]
    have han : a = n := by omega
    rw [han]
    exact ⟨[1, 2], rfl, rfl, rfl, by simp, ⟨⟨rfl, rfl⟩, rfl, trivial⟩, trivial⟩

end Go.Proofs.Ytboadfahlflmhaa

/-
  Walks: lists of lists, one to one, one map then another. Conditions: none.
-/
set_option linter.all false
namespace Go.Proofs.Ytboadfahlflmhaa
open Go.Pv

/-- A list of so many things has each of them. -/
def onto1 (l : List Int) (n : Nat) : Prop := (∀ i, i < n → ((i : Nat) : Int) ∈ l) ∧ l.length = n
instance (l : List Int) (n : Nat) : Decidable (onto1 l n) := by unfold onto1; infer_instance

end Go.Proofs.Ytboadfahlflmhaa

/-
  Walks: rows of yes and no; the ring of so many things. Conditions: none.
-/
set_option linter.all false
namespace Go.Proofs.Ytboadfahlflmhaa
open Go.Pv

/-- A row of yes and no. -/
def hbl (n : Nat) (g : Nat → Bool) : List PV := (List.range n).map fun i => .bool (g i)
end Go.Proofs.Ytboadfahlflmhaa

/-
  The semidirect product of two groups: plain laws, with no program in sight. Conditions: none.
-/
set_option linter.all false
namespace Go.Proofs.Ytboadfahlflmhaa
open Go.Pv

structure Acts (n n' : Nat) (f f' al : Nat → Nat → Nat) : Prop where
  lt : ∀ x i, x < n' → i < n → al x i < n
  hom : ∀ x i j, x < n' → i < n → j < n → al x (f i j) = f (al x i) (al x j)
  onto : ∀ x i, x < n' → i < n → ∃ j, j < n ∧ al x j = i
  mul : ∀ x y i, x < n' → y < n' → i < n → al (f' x y) i = al x (al y i)

section
variable {n n' e e' : Nat} {f f' al : Nat → Nat → Nat}

theorem Acts.one (A : Acts n n' f f' al) (G' : Grp n' f' e') {i : Nat} (hi : i < n) : al e' i = i := by
  obtain ⟨j, hj, rfl⟩ := A.onto e' i G'.el hi
  rw [← A.mul e' e' j G'.el G'.el hj, G'.one_l e' G'.el]
theorem Acts.el (A : Acts n n' f f' al) (G : Grp n f e) {x : Nat} (hx : x < n') : al x e = e := by
  have h1 := A.lt x e hx G.el
  have h2 := A.hom x e e hx G.el G.el
  rw [G.one_l e G.el] at h2
  exact (G.idem h1).1 h2.symm

end
end Go.Proofs.Ytboadfahlflmhaa

/-
  Walks: the ring of so many things; tables by a rule. Conditions: none.
-/
set_option linter.all false
namespace Go.Proofs.Ytboadfahlflmhaa
open Go.Pv

theorem ringOf_c (n : Nat) (h1 : 1 ≤ n) (hn : n ≤ 60) : FnC Try.prog 10 [.int .i64 n] (gp n (tbl (fun a b => (((a + b) % n : Nat) : Int)) n)) := by
  have hsq := sq_le hn
  have hlen := tbr_len (fun a b => (((a + b) % n : Nat) : Int)) n
  refine fnc_of tab_ok Try.func10 rfl (by kernel_rfl) (by rw [Try.ntmps10]; exact Nat.le_add_left 1 _) ?_; rw [Try.ntmps10]
  refine qm ?_
  refine hk_region fun K hK => runs_eval tab_ok ?_
  simp only [ev0, evA, evB, evP, fl, gp, tab, simprocAttr, reduceCtorEq, reduceIte]
  refine fin_run ?_ (hK _ ?_) <;> clear hK <;> clear K
  · (first | exact trivial | omega | (simp only [In64] at *; omega) | (simp [In64] at *; omega) | (simp_all; done) | skip)
  refine qa (qm ?_)
  refine hk_region fun K hK => runs_eval tab_ok ?_
  simp only [ev0, evA, evB, evP, fl, gp, tab, simprocAttr, reduceCtorEq, reduceIte]
  refine fin_run ?_ (hK _ ?_) <;> clear hK <;> clear K
  · (first | exact trivial | omega | (simp only [In64] at *; omega) | (simp [In64] at *; omega) | (simp_all; done) | skip)
  refine qa (qm (qm ?_))
  refine hk_own0c 1 1 rfl rfl ?_
  simp only [hset, List.cons_append, List.nil_append, List.set, List.length_cons, List.length_nil]
  refine hk_region fun K hK => runs_eval tab_ok ?_
  simp only [ev0, evA, evB, evP, fl, gp, tab, simprocAttr, reduceCtorEq, reduceIte]
  refine fin_run trivial (hK _ ?_) <;> clear hK <;> clear K
  refine qa (ql ?_)
  refine hk_loop (ι := Nat) (fun a => ⟨29, [(0, .p (.int .i64 n)), (2, .ptr 0 0), (3, .ptr 1 0), (4, .p (.int .i64 a))], [.own [.p (.int .i64 0), .p .nil], .own [.p (.int .i64 n), .sl 2 0 (tbr (fun a b => (((a + b) % n : Nat) : Int)) n (a * n)).length], .own (ol (tbr (fun a b => (((a + b) % n : Nat) : Int)) n (a * n)))]⟩) (fun a => a ≤ n) (fun a => n - a) 0 (Nat.zero_le _) [0, 1, 2] (by rw [Nat.zero_mul]; simp only [leq, leA, ev0, evA, evB, evP, fl, gp, tab, simprocAttr, reduceCtorEq, reduceIte] <;> simp [tbr, rg, ol_nil]) fun a ha => ?_
  refine qm (qm ?_)
  refine hk_region fun K hK => runs_eval tab_ok ?_
  simp only [ev0, evA, evB, evP, fl, gp, tab, simprocAttr, reduceCtorEq, reduceIte]
  refine fin_run trivial (hK _ ?_) <;> clear hK <;> clear K
  refine qa ?_
  refine hk_cond rfl (fun hC1 => ?_) (fun hC1 => ?_)
  · (try simp only [nhs] at hC1)
    have hal : a < n := by omega
    refine qh (qa (qm (ql (qm ?_))))
    refine hk_region fun K hK => runs_eval tab_ok ?_
    simp only [ev0, evA, evB, evP, fl, gp, tab, simprocAttr, reduceCtorEq, reduceIte]
    refine fin_run trivial (hK _ ?_) <;> clear hK <;> clear K
    refine qa (ql ?_)
    refine hk_loop (ι := Nat) (fun b => ⟨29, [(0, .p (.int .i64 n)), (2, .ptr 0 0), (3, .ptr 1 0), (4, .p (.int .i64 a)), (5, .p (.int .i64 b))], [.own [.p (.int .i64 0), .p .nil], .own [.p (.int .i64 n), .sl 2 0 (tbr (fun a b => (((a + b) % n : Nat) : Int)) n (a * n + b)).length], .own (ol (tbr (fun a b => (((a + b) % n : Nat) : Int)) n (a * n + b)))]⟩) (fun b => b ≤ n) (fun b => n - b) 0 (Nat.zero_le _) [0, 1, 2] (by rw [Nat.add_zero]; simp only [leq, leA, ev0, evA, evB, evP, fl, gp, tab, simprocAttr, reduceCtorEq, reduceIte] <;> trivial) fun b hb => ?_
    refine qm (qm ?_)
    refine hk_region fun K hK => runs_eval tab_ok ?_
    simp only [ev0, evA, evB, evP, fl, gp, tab, simprocAttr, reduceCtorEq, reduceIte]
    refine fin_run trivial (hK _ ?_) <;> clear hK <;> clear K
    refine qa ?_
    refine hk_cond rfl (fun hC2 => ?_) (fun hC2 => ?_)
    · (try simp only [nhs] at hC2)
      have hbl : b < n := by omega
      have hat := at_lt hal hbl
      have hl := hlen (a * n + b)
      have hab : (a : Int) + (b : Int) = ((a + b : Nat) : Int) := rfl
      refine qh (qa (qm (ql ?_)))
      refine hk_draw mixed (by kernel_rfl) fun K hK => runs_eval tab_ok ?_
      simp only [ev0, evA, evB, evP, fl, gp, tab, simprocAttr, reduceCtorEq, reduceIte, hab, tm_nat]
      refine fin_run ?_ (hK _ ?_) <;> clear hK <;> clear K
      · (first | exact trivial | omega | (simp only [In64] at *; omega) | (simp [In64] at *; omega) | (simp_all; done) | skip)
      refine qd (qa ?_)
      refine hk_region fun K hK => runs_eval tab_ok ?_
      simp only [ev0, evA, evB, evP, fl, gp, tab, simprocAttr, reduceCtorEq, reduceIte]
      refine fin_run ?_ (hK _ ?_) <;> clear hK <;> clear K
      · (first | exact trivial | omega | (simp only [In64] at *; omega) | (simp [In64] at *; omega) | (simp_all; done) | skip)
      refine qa ?_
      refine ⟨b + 1, [0, 1, 3], by omega, by omega, ?_⟩
      rw [tbr_succ _ hbl]
      simp only [leq, leA, ev0, evA, evB, evP, fl, gp, tab, simprocAttr, reduceCtorEq, reduceIte] <;> first | trivial | omega
    · (try simp only [nhs] at hC2)
      have hbn : b = n := by omega
      refine qj (qc (qc (qf (qd (qa ?_)))))
      refine hk_region fun K hK => runs_eval tab_ok ?_
      simp only [ev0, evA, evB, evP, fl, gp, tab, simprocAttr, reduceCtorEq, reduceIte]
      refine fin_run ?_ (hK _ ?_) <;> clear hK <;> clear K
      · (first | exact trivial | omega | (simp only [In64] at *; omega) | (simp [In64] at *; omega) | (simp_all; done) | skip)
      refine qa ?_
      refine ⟨a + 1, [0, 1, 2], by omega, by omega, ?_⟩
      rw [hbn, show (a + 1) * n = a * n + n by rw [Nat.add_mul, Nat.one_mul]]
      simp only [leq, leA, ev0, evA, evB, evP, fl, gp, tab, simprocAttr, reduceCtorEq, reduceIte] <;> first | trivial | omega
  · (try simp only [nhs] at hC1)
    have han : a = n := by omega
    refine qj (qc (qc (qf (qa (qm ?_)))))
    refine hk_region fun K hK => runs_eval tab_ok ?_
    simp only [ev0, evA, evB, evP, fl, gp, tab, simprocAttr, reduceCtorEq, reduceIte]
    refine fin_run ?_ (hK _ ?_) <;> clear hK <;> clear K
    · (first | exact trivial | omega | (simp only [In64] at *; omega) | (simp [In64] at *; omega) | (simp_all; done) | skip)
    refine qa (qk ?_)
    simp only [Try.results10, enA, ev0, evA, evB, evP, fl, gp, tab, simprocAttr, reduceCtorEq, reduceIte]
    all_goals (simp [han, tbl])
end Go.Proofs.Ytboadfahlflmhaa

/-
  Walks: extensions: Sizes, and the example of the document. Conditions: none.
-/
set_option linter.all false
namespace Go.Pv
open Go.RowKit

/-- Two rows of three numbers, compared. -/
theorem arrEq3_does {P : Program} {T : TypeId → Option TI} {s : St} (hT : ∀ t ti, T t = some ti → tiOf P t = some ti) {o : Oper} {t u : TypeId} {x y : Operand} (ho : o.op = .binOp .eql t x y u) {ti te : TI} (ht : T t = some ti) {e : TypeId} (hk : ti.kind = .array 3 e) (hte : T e = some te) (hki : te.kind = .int .i64) (hsz : te.size = 1)
    {a b c a' b' c' : Int} (hx : s.ev x = .p (.agg [.int .i64 a, .int .i64 b, .int .i64 c])) (hy : s.ev y = .p (.agg [.int .i64 a', .int .i64 b', .int .i64 c'])) (hge : P.eqGuardType P.depth t = false) : DoesW P o s (.p (.bool (a == a' && (b == b' && c == c')))) s.H := by
  intro C m ac w K Q R hK
  have get : ∀ {z : Operand} {a b c : Int}, s.ev z = .p (.agg [.int .i64 a, .int .i64 b, .int .i64 c]) → ac.eval z = .agg #[.int .i64 a, .int .i64 b, .int .i64 c] := by
    intro z a b c hz
    have h := R.ev z
    rw [hz] at h
    generalize ac.eval z = v at h
    have h := h.p_inv
    cases h with
    | agg _ vs hl hr =>
      have h0 := (hr 0 (by simp)).int_inv
      have h1 := (hr 1 (by simp)).int_inv
      have h2 := (hr 2 (by simp)).int_inv
      congr 1
      simp only [List.length_cons, List.length_nil] at hl
      apply Array.ext
      · simp [hl]
      · intro i hi1 hi2
        match i, hi2 with
        | 0, _ => simpa [Array.getD_eq_getD_getElem?, hl] using h0
        | 1, _ => simpa [Array.getD_eq_getD_getElem?, hl] using h1
        | 2, _ => simpa [Array.getD_eq_getD_getElem?, hl] using h2
  have ex := get hx
  have ey := get hy
  have hu := ti_array (hT _ _ ht) hk
  have hue := ti_int (hT _ _ hte) hki
  obtain ⟨i, de, z, h1, h2, h3, h4, h5, h6, h7, h8⟩ := tiOf_parts (hT _ _ hte)
  have hce : P.cellsOf e = 1 := by simp [Program.cellsOf, h1, h4, hsz]
  have ag : ∀ w, (isAgg e).run P w = .ok false w := fun w => by simp [isAgg, run_underlying hue]
  have q0 : ∀ (x y z : Value) w, (part e #[x, y, z] 0).run P w = .ok x w := fun x y z w => by simp [part, ag]
  have q1 : ∀ (x y z : Value) w, (part e #[x, y, z] 1).run P w = .ok y w := fun x y z w => by simp [part, ag]
  have q2 : ∀ (x y z : Value) w, (part e #[x, y, z] 2).run P w = .ok z w := fun x y z w => by simp [part, ag]
  have en : ∀ (p q : Int) w, (Op.equalIn 9999 e (.int .i64 p) (.int .i64 q)).run P w = .ok (p == q) w := fun p q w => run_equalIn_num 9998 hue p q w
  have hr : (Op.equalIn 10000 t (.agg #[.int .i64 a, .int .i64 b, .int .i64 c]) (.agg #[.int .i64 a', .int .i64 b', .int .i64 c'])).run P w = .ok (a == a' && (b == b' && c == c')) w := by
    rw [run_equalIn_array w 9999 _ _ hu h1, hce]
    simp only [show List.range 3 = [0, 1, 2] from rfl, Op.eqItems, Sem.run_bind, q0, q1, q2, Result.andThen_ok, Nat.zero_mul, Nat.one_mul, Nat.mul_one, en]
    cases h1 : (a == a') <;> cases h2 : (b == b') <;> cases h3 : (c == c') <;> simp [q1, q2, en, h2, h3]
  have hgg : (eqGuard .eql t x y (.agg #[.int .i64 a, .int .i64 b, .int .i64 c]) (.agg #[.int .i64 a', .int .i64 b', .int .i64 c'])).run P w = .ok () w := by
    unfold eqGuard
    split <;> simp [hge]
  have hrun : (execOp ac.eval o).run P w = .ok (.value (.bool (a == a' && (b == b' && c == c')))) w := by
    simp only [execOp, ho, ex, ey, hgg, Sem.run_bind, Result.andThen_ok, run_eql_struct, hr, Sem.run_pure]
  refine opR_of_wp (by first | rfl | (rw [ho]; rfl)) ?_
  unfold Oper.wp
  rw [hrun]
  exact hK _ m w R (.p _ _ (.bool _))

end Go.Pv
namespace Go.Proofs.Ytboadfahlflmhaa
open Go.Pv

/-- A number is added at a place. -/
def inc (i : Nat) (d : Int) (u : List Int) : List Int := u.set i (u.getD i 0 + d)
theorem inc_len (i : Nat) (d : Int) (u : List Int) : (inc i d u).length = u.length := by simp [inc]
theorem inc_get {i t : Nat} {d : Int} {u : List Int} (ht : t < u.length) : (inc i d u).getD t 0 = u.getD t 0 + if t = i then d else 0 := by
  unfold inc
  rw [List.getD_eq_getElem?_getD, List.getElem?_set]
  by_cases h : i = t
  · subst h; simp [ht]
  · rw [if_neg h, if_neg (fun e => h e.symm)]; simp

/-- The equation of three things. -/
def eqR (n : Nat) (m : List Int) (a b c : Nat) : List Int :=
  inc (a * n + b) (-1) (inc (a * n + op m n b c) 1 (inc (op m n a b * n + c) (-1) (inc (b * n + c) 1 (List.replicate (n * n) 0))))
theorem eqR_len (n : Nat) (m : List Int) (a b c : Nat) : (eqR n m a b c).length = n * n := by simp [eqR, inc_len]
theorem eqR_get {n : Nat} {m : List Int} {a b c t : Nat} (ht : t < n * n) : (eqR n m a b c).getD t 0 = (if t = b * n + c then 1 else 0) + (if t = op m n a b * n + c then -1 else 0) + (if t = a * n + op m n b c then 1 else 0) + (if t = a * n + b then -1 else 0) := by
  have hz : (List.replicate (n * n) (0 : Int)).getD t 0 = 0 := by simp [ht]
  rw [eqR, inc_get (by simp [inc_len]; exact ht), inc_get (by simp [inc_len]; exact ht), inc_get (by simp [inc_len]; exact ht), inc_get (by simp; exact ht), hz]
  omega

/-- All equations, in order: the k-th of them is that of k / n / n, k / n % n, k % n. -/
def eqK (n : Nat) (m : List Int) (p : Nat) : Nat → List (Nat × List Int)
  | 0 => []
  | k + 1 => (addL p (eqK n m p k) (eqR n m (k / (n * n)) (k / n % n) (k % n))).1
theorem eqK_ech {n p : Nat} (hp : pr p) (m : List Int) : ∀ k, Ech p (n * n) (eqK n m p k)
  | 0 => Ech.nil _ _
  | k + 1 => (addL_spec hp (eqK_ech hp m k) (eqR_len n m _ _ _)).1
theorem eqK_at {n a b c : Nat} (hb : b < n) (hc : c < n) : ((a * n + b) * n + c) / (n * n) = a ∧ ((a * n + b) * n + c) / n % n = b ∧ ((a * n + b) * n + c) % n = c := by
  obtain ⟨h1, h2⟩ := dm_at (n := n) (a := a * n + b) hc
  obtain ⟨h3, h4⟩ := dm_at (n := n) (a := a) hb
  exact ⟨by rw [← Nat.div_div_eq_div_mul, h1, h3], by rw [h1, h4], h2⟩

theorem sizes_no (N : Int) (m : List Int) (p : Int) (hm : m.length ≤ 1000000000000000) (hx : ¬ (xf N m p).1 = 0) : FnC Try.prog 5 [gp N m, .int .i64 p] (.tup [.agg [.int .i64 0, .int .i64 0, .int .i64 0], fl (xf N m p)]) := by
  refine fnc_of tab_ok Try.func5 rfl (by kernel_rfl) (by rw [Try.ntmps5]; exact Nat.le_add_left 2 _) ?_; rw [Try.ntmps5]
  refine qm ?_
  refine hk_region fun K hK => runs_eval tab_ok ?_
  simp only [ev0, evA, evB, evP, fl, gp, tab, simprocAttr, reduceCtorEq, reduceIte]
  refine fin_run ?_ (hK _ ?_) <;> clear hK <;> clear K
  · (first | exact trivial | omega | (simp only [In64] at *; omega) | (simp [In64] at *; omega) | (simp_all; done) | skip)
  refine qa (qm (qm ?_))
  refine hk_region fun K hK => runs_eval tab_ok ?_
  simp only [ev0, evA, evB, evP, fl, gp, tab, simprocAttr, reduceCtorEq, reduceIte]
  refine fin_stop trivial (runs_call (xlook_c N m p hm) rfl rfl rfl (by simp only [dstOk, Nat.reduceLT]) (by repeat (first | exact trivial | constructor)) (runs_eval tab_ok ?_))
  simp only [ev0, evA, evB, evP, fl, gp, tab, simprocAttr, reduceCtorEq, reduceIte]
  refine fin_run ?_ (hK _ ?_) <;> clear hK <;> clear K
  · (first | exact trivial | omega | (simp only [In64] at *; omega) | (simp [In64] at *; omega) | (simp_all; done) | skip)
  refine qa (qm ?_)
  refine hk_region fun K hK => runs_eval tab_ok ?_
  simp only [ev0, evA, evB, evP, fl, gp, tab, simprocAttr, reduceCtorEq, reduceIte]
  refine fin_run ?_ (hK _ ?_) <;> clear hK <;> clear K
  · (first | exact trivial | omega | (simp only [In64] at *; omega) | (simp [In64] at *; omega) | (simp_all; done) | skip)
  refine qa ?_
  refine hk_cond rfl (fun hC1 => ?_) (fun hC1 => ?_)
  · (try simp only [nhs] at hC1)
    refine qm ?_
    refine hk_draw2 mixed fun K hK => runs2_eval tab_ok ?_
    simp only [evD, ev0, evA, evB, evP, fl, gp, tab, simprocAttr, reduceCtorEq, reduceIte]
    refine fin2_run ?_ (hK _ _ (by first | kernel_rfl | rfl) ?_) <;> clear hK <;> clear K
    · (first | exact trivial | omega | (simp only [In64] at *; omega) | (simp [In64] at *; omega) | (simp_all; done) | skip)
    refine qa (qk (qb ?_))
    simp only [Try.results5, enA, ev0, evA, evB, evP, fl, gp, tab, simprocAttr, reduceCtorEq, reduceIte]
    all_goals ((first | exact rfl | exact ⟨rfl, rfl⟩ | exact ⟨rfl, rfl, rfl⟩ | exact ⟨trivial, rfl⟩ | exact ⟨Nat.le_refl _, rfl⟩ | trivial | (simp; done)))
  · (try simp only [nhs] at hC1)
    exact absurd hC1 hx

def szZ (n : Nat) (m : List Int) (p : Nat) : Int := ((n * n : Nat) : Int) - ((eqK n m p (n * n * n)).length : Int)
def szB (n : Nat) (m : List Int) (p : Nat) : Int := ((spK n m p n).length : Int)

theorem sizes_ok {n e p : Nat} {m : List Int} (h : GT n m n e) (hn : n ≤ 12) (hp : pr p) :
    FnC Try.prog 5 [gp n m, .int .i64 p] (.tup [.agg [.int .i64 ((n : Int) - szB n m p), .int .i64 (szZ n m p), .int .i64 (szZ n m p - szB n m p)], fl (0, 0)]) := by
  have T := h.2.1
  have hpos := T.pos
  have hml := T.len
  have hp2 := hp.le
  have hsq : n * n ≤ 144 := Nat.mul_le_mul hn hn
  have hsq1 : 0 < n * n := Nat.mul_pos hpos hpos
  have c0 : (n : Int) * (n : Int) = ((n * n : Nat) : Int) := (Int.natCast_mul n n).symm
  have E1 := eqK_ech hp m (n * n * n) (n := n)
  have E2 := spK_ech hp m n (n := n)
  have le_n : ∀ {L : List (Nat × List Int)}, Ech p (n * n) L → L.length ≤ n * n := fun {L} hL => by
    have := nodup_le (l := (L.map (·.1)).map fun k : Nat => (k : Int)) (l' := (List.range (n * n)).map fun k : Nat => (k : Int)) (List.pairwise_map.2 (List.Pairwise.imp (fun h e => h (by omega)) hL.keys)) (fun z hz => by
      obtain ⟨k, hk, rfl⟩ := List.mem_map.1 hz
      obtain ⟨e, he, rfl⟩ := List.mem_map.1 hk
      exact List.mem_map.2 ⟨e.1, List.mem_range.2 (hL.lt e he), rfl⟩)
    simpa using this
  have l1 := le_n E1
  have l2 := le_n E2
  refine fnc_of tab_ok Try.func5 rfl (by kernel_rfl) (by rw [Try.ntmps5]; exact Nat.le_add_left 2 _) ?_; rw [Try.ntmps5]
  refine qm ?_
  refine hk_region fun K hK => runs_eval tab_ok ?_
  simp only [ev0, evA, evB, evP, fl, gp, tab, simprocAttr, reduceCtorEq, reduceIte]
  refine fin_run ?_ (hK _ ?_) <;> clear hK <;> clear K
  · (first | exact trivial | omega | (simp only [In64] at *; omega) | (simp [In64] at *; omega) | (simp_all; done) | skip)
  refine qa (qm (qm ?_))
  refine hk_region fun K hK => runs_eval tab_ok ?_
  simp only [ev0, evA, evB, evP, fl, gp, tab, simprocAttr, reduceCtorEq, reduceIte]
  refine fin_stop trivial (runs_call (xlook_c n m p (by omega)) rfl rfl rfl (by simp only [dstOk, Nat.reduceLT]) (by repeat (first | exact trivial | constructor)) (runs_eval tab_ok ?_))
  simp only [ev0, evA, evB, evP, fl, gp, tab, simprocAttr, reduceCtorEq, reduceIte, xf_of h hn hp]
  refine fin_run ?_ (hK _ ?_) <;> clear hK <;> clear K
  · (first | exact trivial | omega | (simp only [In64] at *; omega) | (simp [In64] at *; omega) | (simp_all; done) | skip)
  refine qa (qm ?_)
  refine hk_region fun K hK => runs_eval tab_ok ?_
  simp only [ev0, evA, evB, evP, fl, gp, tab, simprocAttr, reduceCtorEq, reduceIte]
  refine fin_run ?_ (hK _ ?_) <;> clear hK <;> clear K
  · (first | exact trivial | omega | (simp only [In64] at *; omega) | (simp [In64] at *; omega) | (simp_all; done) | skip)
  refine qa ?_
  refine hk_cond rfl (fun hC1 => ?_) (fun hC1 => ?_)
  · cases hC1
  · (try simp only [nhs] at hC1)
    refine qh (qa (qm ?_))
    refine hk_region fun K hK => runs_eval tab_ok ?_
    simp only [ev0, evA, evB, evP, fl, gp, tab, simprocAttr, reduceCtorEq, reduceIte]
    refine fin_stop ?_ (runs_callM [] (newRows_c p) rfl rfl ?_ (by simp only [leA, ev0, evA, evB, evP, fl, gp, tab, simprocAttr, reduceCtorEq, reduceIte]; first | trivial | (simp only [ll_takeL]; first | trivial | (repeat constructor; done)) | (repeat constructor)) (by decide) (by first | rfl | (simp only [List.length_cons, List.length_nil, List.length_append]; decide)) (by first | rfl | (simp only [scM, opl_sc, List.all_cons, List.all_nil, List.length_cons, List.length_nil]; first | rfl | decide) | (simp [scM, scA, sc1, mpKeep, notAnc]; done)) (by simp only [dstOk, Nat.reduceLT]) (runs_eval tab_ok ?_))
    · (first | exact trivial | omega | (simp only [In64] at *; omega) | (simp [In64] at *; omega) | (simp_all; done) | skip)
    · (simp only [argsM, argM1, peekG, peekS, scA, sc1, ren, ren1, List.map_cons, List.map_nil, List.append_nil, List.cons_append, List.nil_append, enA, ev0, evA, evB, evP, fl, gp, tab, simprocAttr, reduceCtorEq, reduceIte]; try trivial)
    simp only [putM, hset, List.range', Blk.ren, ren, ren1, List.map_cons, List.map_nil, List.cons_append, List.nil_append, List.append_nil, List.length_cons, List.length_nil, ev0, evA, evB, evP, fl, gp, tab, simprocAttr, reduceCtorEq, reduceIte]
    refine fin_run trivial (hK _ ?_) <;> clear hK <;> clear K
    refine qa (qm (qm ?_))
    refine hk_region fun K hK => runs_eval tab_ok ?_
    simp only [ev0, evA, evB, evP, fl, gp, tab, simprocAttr, reduceCtorEq, reduceIte]
    refine fin_run ?_ (hK _ ?_) <;> clear hK <;> clear K
    · (first | exact trivial | omega | (simp only [In64] at *; omega) | (simp [In64] at *; omega) | (simp_all; done) | skip)
    refine qa (ql ?_)
    refine hk_loop (ι := Nat) (fun a => ⟨129, [(1, .p (.int .i64 p)), (2, .ptr 0 0), (4, .ptr 1 0), (5, .ptr 2 0), (7, .ptr 3 0), (25, .p (.int .i64 n)), (26, .p (.int .i64 a))], [.own [.p (.int .i64 n), .p (.list (il m))], .own [.p (.int .i64 0), .p (.int .i64 0), .p (.int .i64 0)], .own [.p (.int .i64 0), .p (.int .i64 0)], .own [.p (.int .i64 p), .mptr 4], .mp .i64 (dOf (eqK n m p (a * n * n))) (vOf (eqK n m p (a * n * n)))]⟩) (fun a => a ≤ n) (fun a => n - a) 0 (Nat.zero_le _) [0, 1, 2, 4, 5] (by simp only [Nat.zero_mul]; simp only [leq, leA, ev0, evA, evB, evP, fl, gp, tab, simprocAttr, reduceCtorEq, reduceIte]; rfl) fun a ha => ?_
    refine qm ?_
    refine hk_region fun K hK => runs_eval tab_ok ?_
    simp only [ev0, evA, evB, evP, fl, gp, tab, simprocAttr, reduceCtorEq, reduceIte]
    refine fin_run trivial (hK _ ?_) <;> clear hK <;> clear K
    refine qa (qm ?_)
    refine hk_cond rfl (fun hC2 => ?_) (fun hC2 => ?_)
    · (try simp only [nhs] at hC2)
      have hal : a < n := by omega
      refine qh (qa (qm (ql (qm ?_))))
      refine hk_region fun K hK => runs_eval tab_ok ?_
      simp only [ev0, evA, evB, evP, fl, gp, tab, simprocAttr, reduceCtorEq, reduceIte]
      refine fin_run trivial (hK _ ?_) <;> clear hK <;> clear K
      refine qa (qm ?_)
      refine hk_region fun K hK => runs_eval tab_ok ?_
      simp only [ev0, evA, evB, evP, fl, gp, tab, simprocAttr, reduceCtorEq, reduceIte]
      refine fin_run ?_ (hK _ ?_) <;> clear hK <;> clear K
      · (first | exact trivial | omega | (simp only [In64] at *; omega) | (simp [In64] at *; omega) | (simp_all; done) | skip)
      refine qa (ql ?_)
      refine hk_loop (ι := Nat) (fun b => ⟨129, [(1, .p (.int .i64 p)), (2, .ptr 0 0), (4, .ptr 1 0), (5, .ptr 2 0), (7, .ptr 3 0), (8, .p (.int .i64 a)), (25, .p (.int .i64 n)), (26, .p (.int .i64 a)), (30, .p (.int .i64 n)), (31, .p (.int .i64 b))], [.own [.p (.int .i64 n), .p (.list (il m))], .own [.p (.int .i64 0), .p (.int .i64 0), .p (.int .i64 0)], .own [.p (.int .i64 0), .p (.int .i64 0)], .own [.p (.int .i64 p), .mptr 4], .mp .i64 (dOf (eqK n m p ((a * n + b) * n))) (vOf (eqK n m p ((a * n + b) * n)))]⟩) (fun b => b ≤ n) (fun b => n - b) 0 (Nat.zero_le _) [0, 1, 2, 3, 4] (by rw [Nat.add_zero]; simp only [leq, leA, ev0, evA, evB, evP, fl, gp, tab, simprocAttr, reduceCtorEq, reduceIte]) fun b hb => ?_
      refine qm ?_
      refine hk_region fun K hK => runs_eval tab_ok ?_
      simp only [ev0, evA, evB, evP, fl, gp, tab, simprocAttr, reduceCtorEq, reduceIte]
      refine fin_run trivial (hK _ ?_) <;> clear hK <;> clear K
      refine qa (qm ?_)
      refine hk_cond rfl (fun hC3 => ?_) (fun hC3 => ?_)
      · (try simp only [nhs] at hC3)
        have hbl : b < n := by omega
        refine qh (qa (qm (ql (qm ?_))))
        refine hk_region fun K hK => runs_eval tab_ok ?_
        simp only [ev0, evA, evB, evP, fl, gp, tab, simprocAttr, reduceCtorEq, reduceIte]
        refine fin_run trivial (hK _ ?_) <;> clear hK <;> clear K
        refine qa (qm ?_)
        refine hk_region fun K hK => runs_eval tab_ok ?_
        simp only [ev0, evA, evB, evP, fl, gp, tab, simprocAttr, reduceCtorEq, reduceIte]
        refine fin_run ?_ (hK _ ?_) <;> clear hK <;> clear K
        · (first | exact trivial | omega | (simp only [In64] at *; omega) | (simp [In64] at *; omega) | (simp_all; done) | skip)
        refine qa (ql ?_)
        refine hk_loop (ι := Nat) (fun c => ⟨129, [(1, .p (.int .i64 p)), (2, .ptr 0 0), (4, .ptr 1 0), (5, .ptr 2 0), (7, .ptr 3 0), (8, .p (.int .i64 a)), (9, .p (.int .i64 b)), (25, .p (.int .i64 n)), (26, .p (.int .i64 a)), (30, .p (.int .i64 n)), (31, .p (.int .i64 b)), (35, .p (.int .i64 n)), (36, .p (.int .i64 c))], [.own [.p (.int .i64 n), .p (.list (il m))], .own [.p (.int .i64 0), .p (.int .i64 0), .p (.int .i64 0)], .own [.p (.int .i64 0), .p (.int .i64 0)], .own [.p (.int .i64 p), .mptr 4], .mp .i64 (dOf (eqK n m p ((a * n + b) * n + c))) (vOf (eqK n m p ((a * n + b) * n + c)))]⟩) (fun c => c ≤ n) (fun c => n - c) 0 (Nat.zero_le _) [0, 1, 2, 3, 4] (by rw [Nat.add_zero]; simp only [leq, leA, ev0, evA, evB, evP, fl, gp, tab, simprocAttr, reduceCtorEq, reduceIte]) fun c hc => ?_
        refine qm ?_
        refine hk_region fun K hK => runs_eval tab_ok ?_
        simp only [ev0, evA, evB, evP, fl, gp, tab, simprocAttr, reduceCtorEq, reduceIte]
        refine fin_run trivial (hK _ ?_) <;> clear hK <;> clear K
        refine qa (qm ?_)
        refine hk_cond rfl (fun hC4 => ?_) (fun hC4 => ?_)
        · (try simp only [nhs] at hC4)
          have hcl : c < n := by omega
          have hab := T.lt hal hbl
          have hbc := T.lt hbl hcl
          have e1 := at_lt hbl hcl
          have e2 := at_lt hab hcl
          have e3 := at_lt hal hbc
          have e4 := at_lt hal hbl
          have c1 : (b : Int) * (n : Int) = ((b * n : Nat) : Int) := (Int.natCast_mul b n).symm
          have c2 : ((op m n a b : Nat) : Int) * (n : Int) = ((op m n a b * n : Nat) : Int) := (Int.natCast_mul _ n).symm
          have c3 : (a : Int) * (n : Int) = ((a * n : Nat) : Int) := (Int.natCast_mul a n).symm
          obtain ⟨k1, k2, k3⟩ := eqK_at (a := a) hbl hcl
          have hst : ∀ (i : Nat) (d : Int) (u : List Int), u.set i (u.getD i 0 + d) = inc i d u := fun _ _ _ => rfl
          have hsm : ∀ (i : Nat) (u : List Int), u.set i (u.getD i 0 - 1) = inc i (-1) u := fun i u => by unfold inc; rw [Int.sub_eq_add_neg]
          generalize hu0 : (List.replicate (n * n) (0 : Int)) = u0
          have l0 : u0.length = n * n := by rw [← hu0]; simp
          have z0 : ∀ t, t < n * n → u0.getD t 0 = 0 := fun t ht => by rw [← hu0]; simp [ht]
          generalize hu1 : inc (b * n + c) 1 u0 = u1
          have l1' : u1.length = n * n := by rw [← hu1, inc_len, l0]
          have z1 : ∀ t, t < n * n → -1 ≤ u1.getD t 0 ∧ u1.getD t 0 ≤ 1 := fun t ht => by rw [← hu1, inc_get (by omega), z0 t ht]; split <;> omega
          generalize hu2 : inc (op m n a b * n + c) (-1) u1 = u2
          have l2' : u2.length = n * n := by rw [← hu2, inc_len, l1']
          have z2 : ∀ t, t < n * n → -2 ≤ u2.getD t 0 ∧ u2.getD t 0 ≤ 2 := fun t ht => by have := z1 t ht; rw [← hu2, inc_get (by omega)]; split <;> omega
          generalize hu3 : inc (a * n + op m n b c) 1 u2 = u3
          have l3' : u3.length = n * n := by rw [← hu3, inc_len, l2']
          have z3 : ∀ t, t < n * n → -3 ≤ u3.getD t 0 ∧ u3.getD t 0 ≤ 3 := fun t ht => by have := z2 t ht; rw [← hu3, inc_get (by omega)]; split <;> omega
          have hu4 : inc (a * n + b) (-1) u3 = eqR n m a b c := by rw [← hu3, ← hu2, ← hu1, ← hu0]; rfl
          have y0 := z0 _ e1
          have y1 := z1 _ e2
          have y2 := z2 _ e3
          have y3 := z3 _ e4
          refine qh (qa (qm (ql (qm ?_))))
          refine hk_region fun K hK => runs_eval tab_ok ?_
          simp only [ev0, evA, evB, evP, fl, gp, tab, simprocAttr, reduceCtorEq, reduceIte]
          refine fin_run trivial (hK _ ?_) <;> clear hK <;> clear K
          refine qa (qm ?_)
          refine hk_region fun K hK => runs_eval tab_ok ?_
          simp only [ev0, evA, evB, evP, fl, gp, tab, simprocAttr, reduceCtorEq, reduceIte, c0, ol_replicate, hu0]
          refine fin_run ?_ (hK _ ?_) <;> clear hK <;> clear K
          · (first | exact trivial | omega | (simp only [In64] at *; omega) | (simp [In64] at *; omega) | (simp_all; done) | skip)
          refine qa (qm ?_)
          refine hk_region fun K hK => runs_eval tab_ok ?_
          simp only [ev0, evA, evB, evP, fl, gp, tab, simprocAttr, reduceCtorEq, reduceIte, at_nat, ol_get (show b * n + c < u0.length by omega), ol_set, hst, hu1]
          refine fin_run ?_ (hK _ ?_) <;> clear hK <;> clear K
          · rw [c1]; simp only [In64]; omega
          refine qa (qm ?_)
          refine hk_draw mixed (by kernel_rfl) fun K hK => runs_eval tab_ok ?_
          simp only [ev0, evA, evB, evP, fl, gp, tab, simprocAttr, reduceCtorEq, reduceIte, at_nat, ol_get (show op m n a b * n + c < u1.length by omega), ol_set, hsm, hu2]
          refine fin_stop trivial (runs_call (of_c T hal hbl) rfl rfl rfl (by simp only [dstOk, Nat.reduceLT]) (by repeat (first | exact trivial | constructor)) (runs_eval tab_ok ?_))
          simp only [ev0, evA, evB, evP, fl, gp, tab, simprocAttr, reduceCtorEq, reduceIte, at_nat, ol_get (show op m n a b * n + c < u1.length by omega), ol_set, hsm, hu2]
          refine fin_run ?_ (hK _ ?_) <;> clear hK <;> clear K
          · rw [c2]; simp only [In64]; omega
          refine qa (qm ?_)
          refine hk_draw mixed (by kernel_rfl) fun K hK => runs_eval tab_ok ?_
          simp only [ev0, evA, evB, evP, fl, gp, tab, simprocAttr, reduceCtorEq, reduceIte, at_nat, ol_get (show a * n + op m n b c < u2.length by omega), ol_set, hst, hu3]
          refine fin_stop ?_ (runs_call (of_c T hbl hcl) rfl rfl rfl (by simp only [dstOk, Nat.reduceLT]) (by repeat (first | exact trivial | constructor)) (runs_eval tab_ok ?_))
          · rw [c3]; simp only [In64]; omega
          simp only [ev0, evA, evB, evP, fl, gp, tab, simprocAttr, reduceCtorEq, reduceIte, at_nat, ol_get (show a * n + op m n b c < u2.length by omega), ol_set, hst, hu3]
          refine fin_run ?_ (hK _ ?_) <;> clear hK <;> clear K
          · simp only [In64]; omega
          refine qa (qm ?_)
          refine hk_region fun K hK => runs_eval tab_ok ?_
          simp only [ev0, evA, evB, evP, fl, gp, tab, simprocAttr, reduceCtorEq, reduceIte, at_nat, ol_get (show a * n + b < u3.length by omega), ol_set, hsm, hu4]
          refine fin_run ?_ (hK _ ?_) <;> clear hK <;> clear K
          · rw [c3]; simp only [In64]; omega
          refine qa ?_
          refine hk_seal 11 5 (w := eqR n m a b c) (by rw [eqR_len]; rfl) rfl ?_
          refine hk_region fun K hK => runs_eval tab_ok ?_
          simp only [ev0, evA, evB, evP, fl, gp, tab, simprocAttr, reduceCtorEq, reduceIte]
          refine fin_stop ?_ (runs_callM [3, 4] (add_c hp hsq1 (by omega) (eqK n m p ((a * n + b) * n + c)) (eqK_ech hp m _) (eqR n m a b c) (eqR_len n m a b c) (fun t ht => by rw [eqR_get ht]; split <;> split <;> split <;> split <;> omega)) rfl rfl ?_ (by simp only [leA, ev0, evA, evB, evP, fl, gp, tab, simprocAttr, reduceCtorEq, reduceIte]; first | trivial | (simp only [ll_takeL]; first | trivial | (repeat constructor; done)) | (repeat constructor)) (by decide) (by first | rfl | (simp only [List.length_cons, List.length_nil, List.length_append]; decide)) (by first | rfl | (simp only [scM, opl_sc, List.all_cons, List.all_nil, List.length_cons, List.length_nil]; first | rfl | decide) | (simp [scM, scA, sc1, mpKeep, notAnc]; done)) (by simp only [dstOk, Nat.reduceLT]) (runs_eval tab_ok ?_))
          · (first | exact trivial | omega | (simp only [In64] at *; omega) | (simp [In64] at *; omega) | (simp_all; done) | skip)
          · (simp only [argsM, argM1, peekG, peekS, scA, sc1, ren, ren1, List.map_cons, List.map_nil, List.append_nil, List.cons_append, List.nil_append, enA, ev0, evA, evB, evP, fl, gp, tab, simprocAttr, reduceCtorEq, reduceIte]; try trivial)
          simp only [putM, hset, List.range', Blk.ren, ren, ren1, List.map_cons, List.map_nil, List.cons_append, List.nil_append, List.append_nil, List.length_cons, List.length_nil, ev0, evA, evB, evP, fl, gp, tab, simprocAttr, reduceCtorEq, reduceIte]
          refine fin_run trivial (hK _ ?_) <;> clear hK <;> clear K
          refine qd (qa ?_)
          refine hk_region fun K hK => runs_eval tab_ok ?_
          simp only [ev0, evA, evB, evP, fl, gp, tab, simprocAttr, reduceCtorEq, reduceIte]
          refine fin_run ?_ (hK _ ?_) <;> clear hK <;> clear K
          · (first | exact trivial | omega | (simp only [In64] at *; omega) | (simp [In64] at *; omega) | (simp_all; done) | skip)
          refine qa ?_
          refine ⟨c + 1, [0, 1, 2, 3, 4], by omega, by omega, ?_⟩
          have hK : eqK n m p ((a * n + b) * n + (c + 1)) = (addL p (eqK n m p ((a * n + b) * n + c)) (eqR n m a b c)).1 := by
            show eqK n m p ((a * n + b) * n + c + 1) = _
            rw [eqK, k1, k2, k3]
          rw [hK]
          simp only [leq, leA, ev0, evA, evB, evP, fl, gp, tab, simprocAttr, reduceCtorEq, reduceIte] <;> first | trivial | omega
        · (try simp only [nhs] at hC4)
          refine qj (qc (qc (qf (qd (qa ?_)))))
          refine hk_region fun K hK => runs_eval tab_ok ?_
          simp only [ev0, evA, evB, evP, fl, gp, tab, simprocAttr, reduceCtorEq, reduceIte]
          refine fin_run ?_ (hK _ ?_) <;> clear hK <;> clear K
          · (first | exact trivial | omega | (simp only [In64] at *; omega) | (simp [In64] at *; omega) | (simp_all; done) | skip)
          refine qa ?_
          have hcn : c = n := by omega
          refine ⟨b + 1, [0, 1, 2, 3, 4], by omega, by omega, ?_⟩
          rw [show (a * n + (b + 1)) * n = (a * n + b) * n + c by rw [hcn, ← Nat.add_assoc, Nat.add_mul _ 1, Nat.one_mul]]
          simp only [leq, leA, ev0, evA, evB, evP, fl, gp, tab, simprocAttr, reduceCtorEq, reduceIte] <;> first | trivial | omega
      · (try simp only [nhs] at hC3)
        refine qj (qc (qc (qf (qd (qa ?_)))))
        refine hk_region fun K hK => runs_eval tab_ok ?_
        simp only [ev0, evA, evB, evP, fl, gp, tab, simprocAttr, reduceCtorEq, reduceIte]
        refine fin_run ?_ (hK _ ?_) <;> clear hK <;> clear K
        · (first | exact trivial | omega | (simp only [In64] at *; omega) | (simp [In64] at *; omega) | (simp_all; done) | skip)
        refine qa ?_
        have hbn : b = n := by omega
        refine ⟨a + 1, [0, 1, 2, 3, 4], by omega, by omega, ?_⟩
        rw [show (a + 1) * n * n = (a * n + b) * n by rw [hbn, Nat.add_mul _ 1, Nat.one_mul]]
        simp only [leq, leA, ev0, evA, evB, evP, fl, gp, tab, simprocAttr, reduceCtorEq, reduceIte] <;> first | trivial | omega
    · (try simp only [nhs] at hC2)
      refine qj (qc (qc (qf (qa (qm ?_)))))
      have han : a = n := by omega
      subst han
      have hE := E1.count
      have hE2 := E2.count
      refine hk_draw2 mixed fun K hK => runs2_eval tab_ok ?_
      simp only [evD, ev0, evA, evB, evP, fl, gp, tab, simprocAttr, reduceCtorEq, reduceIte, c0, hE]
      refine fin2_stop ?_ (runs2_mapLen tab_ok rfl rfl rfl rfl rfl (by simp only [dstOk, Nat.reduceLT]) (runs2_eval tab_ok ?_))
      · (first | exact trivial | omega | (simp only [In64] at *; omega) | (simp [In64] at *; omega) | (simp_all; done) | skip)
      simp only [evD, ev0, evA, evB, evP, fl, gp, tab, simprocAttr, reduceCtorEq, reduceIte, c0, hE]
      refine fin2_run ?_ (hK _ _ (by first | kernel_rfl | rfl) ?_) <;> clear hK <;> clear K
      · (first | exact trivial | omega | (simp only [In64] at *; omega) | (simp [In64] at *; omega) | (simp_all; done) | skip)
      refine qa (qm ?_)
      refine hk_region fun K hK => runs_eval tab_ok ?_
      simp only [ev0, evA, evB, evP, fl, gp, tab, simprocAttr, reduceCtorEq, reduceIte, hE2]
      refine fin_stop ?_ (runs_callM [] (xspan_c h hn hp) rfl rfl ?_ (by simp only [leA, ev0, evA, evB, evP, fl, gp, tab, simprocAttr, reduceCtorEq, reduceIte]; first | trivial | (simp only [ll_takeL]; first | trivial | (repeat constructor; done)) | (repeat constructor)) (by decide) (by first | rfl | (simp only [List.length_cons, List.length_nil, List.length_append]; decide)) (by first | rfl | (simp only [scM, opl_sc, List.all_cons, List.all_nil, List.length_cons, List.length_nil]; first | rfl | decide) | (simp [scM, scA, sc1, mpKeep, notAnc]; done)) (by simp only [dstOk, Nat.reduceLT]) (runs_eval tab_ok ?_))
      · (first | exact trivial | omega | (simp only [In64] at *; omega) | (simp [In64] at *; omega) | (simp_all; done) | skip)
      · (simp only [argsM, argM1, peekG, peekS, scA, sc1, ren, ren1, List.map_cons, List.map_nil, List.append_nil, List.cons_append, List.nil_append, enA, ev0, evA, evB, evP, fl, gp, tab, simprocAttr, reduceCtorEq, reduceIte]; try trivial)
      simp only [putM, hset, List.range', Blk.ren, ren, ren1, List.map_cons, List.map_nil, List.cons_append, List.nil_append, List.append_nil, List.length_cons, List.length_nil, ev0, evA, evB, evP, fl, gp, tab, simprocAttr, reduceCtorEq, reduceIte, hE2]
      refine fin_stop ?_ (runs_mapLen tab_ok rfl rfl rfl rfl rfl (by simp only [dstOk, Nat.reduceLT]) (runs_eval tab_ok ?_))
      · (first | exact trivial | omega | (simp only [In64] at *; omega) | (simp [In64] at *; omega) | (simp_all; done) | skip)
      simp only [ev0, evA, evB, evP, fl, gp, tab, simprocAttr, reduceCtorEq, reduceIte, hE2]
      refine fin_run ?_ (hK _ ?_) <;> clear hK <;> clear K
      · (first | exact trivial | omega | (simp only [In64] at *; omega) | (simp [In64] at *; omega) | (simp_all; done) | skip)
      refine qa (qm ?_)
      refine hk_region fun K hK => runs_eval tab_ok ?_
      simp only [ev0, evA, evB, evP, fl, gp, tab, simprocAttr, reduceCtorEq, reduceIte]
      refine fin_run ?_ (hK _ ?_) <;> clear hK <;> clear K
      · (first | exact trivial | omega | (simp only [In64] at *; omega) | (simp [In64] at *; omega) | (simp_all; done) | skip)
      refine qa (qk ?_)
      simp only [Try.results5, enA, ev0, evA, evB, evP, fl, gp, tab, simprocAttr, reduceCtorEq, reduceIte]
      all_goals (simp [szB, szZ])

theorem g_ring2 : ∃ e, GT 2 [0, 1, 1, 0] 2 e := by
  obtain ⟨n, e, hg, _⟩ := gf_ok (N := 2) (m := [0, 1, 1, 0]) (by decide)
  have : n = 2 := by have := hg.1; omega
  subst this
  exact ⟨e, hg⟩

theorem begun_x : FnC Try.prog 8 [] (.bool true) := by
  have hr : FnC Try.prog 10 [.int .i64 2] (gp 2 [0, 1, 1, 0]) := ringOf_c 2 (by decide) (by decide)
  have hs : FnC Try.prog 5 [gp 2 [0, 1, 1, 0], .int .i64 2] (.tup [.agg [.int .i64 1, .int .i64 2, .int .i64 1], fl (0, 0)]) := by
    obtain ⟨_, hg⟩ := g_ring2
    have := sizes_ok (p := 2) hg (by decide) (by decide)
    have e1 : szB 2 [0, 1, 1, 0] 2 = 1 := by decide
    have e2 : szZ 2 [0, 1, 1, 0] 2 = 2 := by decide
    rw [e1, e2] at this
    exact this
  refine fnc_of tab_ok Try.func8 rfl (by kernel_rfl) (by rw [Try.ntmps8]; exact Nat.le_add_left 0 _) ?_; rw [Try.ntmps8]
  refine qm ?_
  refine hk_region fun K hK => runs_eval tab_ok ?_
  simp only [ev0, evA, evB, evP, fl, gp, tab, simprocAttr, reduceCtorEq, reduceIte]
  refine fin_run trivial (hK _ ?_) <;> clear hK <;> clear K
  refine qa (qm ?_)
  refine hk_region fun K hK => runs_eval tab_ok ?_
  simp only [ev0, evA, evB, evP, fl, gp, tab, simprocAttr, reduceCtorEq, reduceIte]
  refine fin_stop trivial (runs_call (hr) rfl rfl rfl (by simp only [dstOk, Nat.reduceLT]) (by repeat (first | exact trivial | constructor)) (runs_eval tab_ok ?_))
  simp only [ev0, evA, evB, evP, fl, gp, tab, simprocAttr, reduceCtorEq, reduceIte]
  refine fin_stop trivial (runs_call (hs) rfl rfl rfl (by simp only [dstOk, Nat.reduceLT]) (by repeat (first | exact trivial | constructor)) (runs_eval tab_ok ?_))
  simp only [ev0, evA, evB, evP, fl, gp, tab, simprocAttr, reduceCtorEq, reduceIte]
  refine fin_run ?_ (hK _ ?_) <;> clear hK <;> clear K
  · (first | exact trivial | omega | (simp only [In64] at *; omega) | (simp [In64] at *; omega) | (simp_all; done) | skip)
  refine qa (qm ?_)
  refine hk_region fun K hK => runs_eval tab_ok ?_
  simp only [ev0, evA, evB, evP, fl, gp, tab, simprocAttr, reduceCtorEq, reduceIte]
  refine fin_stop ?_ (runs_op (arrEq3_does tab_ok rfl rfl rfl rfl rfl rfl rfl rfl (by kernel_rfl)) rfl (by simp only [dstOk, Nat.reduceLT]) (runs_eval tab_ok ?_))
  · (first | exact trivial | omega | (simp only [In64] at *; omega) | (simp [In64] at *; omega) | (simp_all; done) | skip)
  simp only [ev0, evA, evB, evP, fl, gp, tab, simprocAttr, reduceCtorEq, reduceIte]
  refine fin_run ?_ (hK _ ?_) <;> clear hK <;> clear K
  · (first | exact trivial | omega | (simp only [In64] at *; omega) | (simp [In64] at *; omega) | (simp_all; done) | skip)
  refine qa (qk ?_)
  simp only [Try.results8, enA, ev0, evA, evB, evP, fl, gp, tab, simprocAttr, reduceCtorEq, reduceIte]
  all_goals ((first | exact rfl | exact ⟨rfl, rfl⟩ | exact ⟨rfl, rfl, rfl⟩ | exact ⟨trivial, rfl⟩ | exact ⟨Nat.le_refl _, rfl⟩ | trivial | (simp; done)))

end Go.Proofs.Ytboadfahlflmhaa

/-
  How many rows equations leave: a plain law of rows modulo a prime. Conditions: none.
-/
set_option linter.all false
namespace Go.Proofs.Ytboadfahlflmhaa
open Go.Pv

/-! ### Products of rows -/

def dotN (w x : Nat → Int) : Nat → Int
  | 0 => 0
  | k + 1 => dotN w x k + w k * x k

theorem dot_zero {w x : Nat → Int} : ∀ {N : Nat}, (∀ j, j < N → w j * x j = 0) → dotN w x N = 0
  | 0, _ => rfl
  | k + 1, h => by simp only [dotN]; rw [dot_zero fun j hj => h j (by omega), h k (by omega)]; rfl
/-! ### Rows turned round -/

theorem xone_no {p : Nat} (hp : pr p) (h : (p : Int) ∣ 1) : False := by
  have hp2 := hp.le
  have := no_dvd (p := p) (x := 1) (by omega) (by omega) h
  omega

/-- What all rows make nothing, with its last place where no row begins. -/
theorem back {p N : Nat} {R : List (Nat × List Int)} (hR : Ech p N R) {t : Nat} (ht : t < N) (hk : ∀ e ∈ R, e.1 ≠ t) : ∀ d k, k + d = t → ∃ x : Nat → Int, x t = 1 ∧ (∀ j, t < j → x j = 0) ∧ ∀ e ∈ R, k ≤ e.1 → dotN (fun j => e.2.getD j 0) x N = 0
  | 0, k, hkd => by
    refine ⟨fun j => if j = t then 1 else 0, by simp, fun j hj => by simp; omega, fun e he hke => dot_zero fun j _ => ?_⟩
    by_cases e1 : j = t
    · have := hR.zero e he j (by have := hk e he; omega)
      simp only [this, Int.zero_mul]
    · simp only [if_neg e1, Int.mul_zero]
  | d + 1, k, hkd => by
    obtain ⟨x, x1, x2, x3⟩ := back hR ht hk d (k + 1) (by omega)
    by_cases hx : ∃ e ∈ R, e.1 = k
    · obtain ⟨e, he, hek⟩ := hx
      obtain ⟨s, hs⟩ : ∃ s, s = dotN (fun j => e.2.getD j 0) x N := ⟨_, rfl⟩
      have updR : ∀ e' : Nat × List Int, dotN (fun j => e'.2.getD j 0) (fun j => if j = k then x k - s else x j) N = dotN (fun j => e'.2.getD j 0) x N - e'.2.getD k 0 * s := by
        intro e'
        have key : ∀ M, dotN (fun j => e'.2.getD j 0) (fun j => if j = k then x k - s else x j) M = dotN (fun j => e'.2.getD j 0) x M - if k < M then e'.2.getD k 0 * s else 0 := by
          intro M
          induction M with
          | zero => simp [dotN]
          | succ M ih =>
            simp only [dotN]
            rw [ih]
            by_cases e1 : M = k
            · subst e1
              rw [if_neg (by omega), if_pos rfl, if_pos (by omega), Int.mul_sub]; omega
            · rw [if_neg e1]
              by_cases e2 : k < M
              · rw [if_pos e2, if_pos (by omega)]; omega
              · rw [if_neg e2, if_neg (by omega)]; omega
        rw [key N, if_pos (by omega)]
      refine ⟨fun j => if j = k then x k - s else x j, by simp only; rw [if_neg (by omega)]; exact x1, fun j hj => by simp only; rw [if_neg (by omega)]; exact x2 j hj, fun e' he' hke => ?_⟩
      rw [updR e']
      by_cases e1 : e'.1 = k
      · have hee : e'.2 = e.2 := by
          have hl : ∀ {L : List (Nat × List Int)}, (L.map (·.1)).Nodup → e ∈ L → e' ∈ L → e'.2 = e.2 := by
            intro L hn h1 h2
            induction L with
            | nil => cases h1
            | cons a L ih =>
              rw [List.map_cons, List.nodup_cons] at hn
              have g1 : ∀ {b : Nat × List Int}, b ∈ L → b.1 = k → a.1 ≠ k := fun hb hbk hak => hn.1 (by rw [hak, ← hbk]; exact List.mem_map_of_mem (f := (·.1)) hb)
              rcases List.mem_cons.1 h1 with q1 | q1
              · rcases List.mem_cons.1 h2 with q2 | q2
                · rw [q1, q2]
                · exact absurd (by rw [← q1]; exact hek) (g1 q2 e1)
              · rcases List.mem_cons.1 h2 with q2 | q2
                · exact absurd (by rw [← q2]; exact e1) (g1 q1 hek)
                · exact ih hn.2 q1 q2
          exact hl hR.keys he he'
        have h1 := hR.one e he
        rw [hek] at h1
        rw [hee, h1, ← hs]; omega
      · rw [x3 e' he' (by omega), hR.zero e' he' k (by omega)]; omega
    · refine ⟨x, x1, x2, fun e he hke => x3 e he ?_⟩
      have : e.1 ≠ k := fun e1 => hx ⟨e, he, e1⟩
      omega

end Go.Proofs.Ytboadfahlflmhaa

/-
  Walks: extensions: Bound, Same, Made. Conditions: none.
-/
set_option linter.all false
namespace Go.Proofs.Ytboadfahlflmhaa
open Go.Pv

/-! ### What is the same -/

/-! ### What is made -/

end Go.Proofs.Ytboadfahlflmhaa

/-
  Bounds are cocycles; what is the same. Plain law. Conditions: none.
-/
set_option linter.all false
namespace Go.Proofs.Ytboadfahlflmhaa
open Go.Pv

end Go.Proofs.Ytboadfahlflmhaa

/-
  Where the prime does not divide how many things there are, all cocycles are bounds. Plain law. Conditions: none.
-/
set_option linter.all false
namespace Go.Proofs.Ytboadfahlflmhaa
open Go.Pv

/-! ### Sums over all things -/

/-! ### The equations -/

end Go.Proofs.Ytboadfahlflmhaa

/-
  Ranks by two eliminations; how many homomorphisms there are. Conditions: none.
-/
set_option linter.all false
namespace Go.Proofs.Ytboadfahlflmhaa
open Go.Pv

/-! ### The reference's elimination -/

/-- Where a row begins, left by p. -/
def piv (p : Nat) (r : List Int) : Option Nat := fst' (fun c => decide (¬ r.getD c 0 % (p : Int) = 0)) r.length
/-- A row without another's multiple, the reference's way. -/
def elR (p : Nat) (r : List Int) (c : Nat) (v : List Int) : List Int := updR (fun t => (v.getD t 0 * r.getD c 0 - v.getD c 0 * r.getD t 0) % (p : Int)) 0 v.length v
def elI (p : Nat) (r : List Int) (c : Nat) (M : List (List Int)) (i : Nat) : List (List Int) := (List.range M.length).map fun t => if t < i ∧ ¬ (M.getD t []).getD c 0 % (p : Int) = 0 then elR p r c (M.getD t []) else M.getD t []
/-- How many rows are independent; what is left. -/
def rkR (p : Nat) : Nat → List (List Int) → Nat × List (List Int)
  | 0, M => (0, M)
  | k + 1, M => match piv p (M.getD k []) with
    | none => rkR p k M
    | some c => ((rkR p k (elI p (M.getD k []) c M k)).1 + 1, (rkR p k (elI p (M.getD k []) c M k)).2)

theorem elR_len (p : Nat) (r : List Int) (c : Nat) (v : List Int) : (elR p r c v).length = v.length := updR_len _ _ _ _
theorem elI_len (p : Nat) (r : List Int) (c : Nat) (M : List (List Int)) (i : Nat) : (elI p r c M i).length = M.length := by simp [elI]
theorem elI_get {p : Nat} {r : List Int} {c : Nat} {M : List (List Int)} {i t : Nat} (ht : t < M.length) : (elI p r c M i).getD t [] = if t < i ∧ ¬ (M.getD t []).getD c 0 % (p : Int) = 0 then elR p r c (M.getD t []) else M.getD t [] := by
  simp [elI, List.getD, List.getElem?_map, List.getElem?_range ht]
theorem elI_zero (p : Nat) (r : List Int) (c : Nat) (M : List (List Int)) : elI p r c M 0 = M := by
  refine List.ext_getElem (elI_len _ _ _ _ _) fun t h1 h2 => ?_
  have := elI_get (p := p) (r := r) (c := c) (i := 0) h2
  rw [if_neg (fun h => by omega)] at this
  simpa [List.getD, h1, h2] using this
theorem elI_row {p N : Nat} {r : List Int} {c : Nat} {M : List (List Int)} {i : Nat} (h : ∀ v ∈ M, v.length = N) : ∀ v ∈ elI p r c M i, v.length = N := by
  intro v hv
  obtain ⟨t, ht, rfl⟩ := List.mem_map.1 hv
  have ht : t < M.length := by simpa using ht
  have hm : (M.getD t []) ∈ M := by simp [List.getD, List.getElem?_eq_getElem ht]
  split
  · rw [elR_len]; exact h _ hm
  · exact h _ hm

/-- What the first k rows span, left by p. -/
def SpM (p n : Nat) (M : List (List Int)) : Nat → (Nat → Int) → Prop
  | 0, x => ∀ j, j < n → (p : Int) ∣ x j
  | k + 1, x => ∃ t : Int, SpM p n M k (fun j => x j - t * (M.getD k []).getD j 0)

theorem SpM.congr {p n : Nat} {M : List (List Int)} : ∀ {k : Nat} {x y : Nat → Int}, SpM p n M k x → (∀ j, j < n → (p : Int) ∣ y j - x j) → SpM p n M k y
  | 0, x, y, h, he => fun j hj => by
    have := Int.dvd_add (he j hj) (h j hj)
    rwa [show y j - x j + x j = y j by omega] at this
  | k + 1, x, y, ⟨t, h⟩, he => ⟨t, h.congr fun j hj => by rw [show y j - t * (M.getD k []).getD j 0 - (x j - t * (M.getD k []).getD j 0) = y j - x j by omega]; exact he j hj⟩
theorem SpM.lin {p n : Nat} {M : List (List Int)} : ∀ {k : Nat} {x y : Nat → Int}, SpM p n M k x → SpM p n M k y → ∀ a b : Int, SpM p n M k fun j => a * x j + b * y j
  | 0, x, y, h1, h2, a, b => fun j hj => Int.dvd_add (Int.dvd_mul_of_dvd_right (h1 j hj)) (Int.dvd_mul_of_dvd_right (h2 j hj))
  | k + 1, x, y, ⟨t, h1⟩, ⟨s, h2⟩, a, b => ⟨a * t + b * s, (h1.lin h2 a b).congr fun j hj => by
      rw [show a * x j + b * y j - (a * t + b * s) * (M.getD k []).getD j 0 - (a * (x j - t * (M.getD k []).getD j 0) + b * (y j - s * (M.getD k []).getD j 0)) = 0 by
        rw [Int.add_mul, Int.mul_sub, Int.mul_sub, Int.mul_assoc, Int.mul_assoc]; omega]
      exact Int.dvd_zero _⟩
theorem SpM.row {p n : Nat} {M : List (List Int)} : ∀ {k i : Nat}, i < k → SpM p n M k fun j => (M.getD i []).getD j 0
  | k + 1, i, h => by
    by_cases e : i = k
    · subst e
      exact ⟨1, (show SpM p n M i (fun _ => 0) from by
        clear h
        induction i with
        | zero => exact fun j _ => Int.dvd_zero _
        | succ i ih => exact ⟨0, ih.congr fun j _ => by simp⟩).congr fun j _ => by rw [Int.one_mul]; simp⟩
    · exact ⟨0, (SpM.row (k := k) (i := i) (by omega)).congr fun j _ => by rw [Int.zero_mul]; simp⟩
theorem SpM.zero {p n : Nat} {M : List (List Int)} {x : Nat → Int} (h : ∀ j, j < n → (p : Int) ∣ x j) : ∀ k, SpM p n M k x
  | 0 => h
  | k + 1 => ⟨0, (SpM.zero h k).congr fun j _ => by rw [Int.zero_mul]; simp⟩
/-- What holds of rows and is kept holds of what they span. -/
theorem SpM.ind {p n : Nat} {M : List (List Int)} {C : (Nat → Int) → Prop} (h0 : ∀ x, (∀ j, j < n → (p : Int) ∣ x j) → C x) (hc : ∀ x y, C x → (∀ j, j < n → (p : Int) ∣ y j - x j) → C y) (hl : ∀ x y (t : Int), C x → C y → C fun j => x j + t * y j) :
    ∀ {k : Nat}, (∀ i, i < k → C fun j => (M.getD i []).getD j 0) → ∀ {x}, SpM p n M k x → C x
  | 0, _, x, h => h0 x h
  | k + 1, hr, x, ⟨t, h⟩ => hc _ _ (hl _ _ t (SpM.ind h0 hc hl (fun i hi => hr i (by omega)) h) (hr k (by omega))) fun j _ => by
      rw [show x j - (x j - t * (M.getD k []).getD j 0 + t * (M.getD k []).getD j 0) = 0 by omega]; exact Int.dvd_zero _

/-- Rows that are as they should be, by what they span, are so many. -/
theorem Ech.same {p n : Nat} (hp : pr p) {L1 L2 : List (Nat × List Int)} (h1 : Ech p n L1) (h2 : Ech p n L2) (h : ∀ x : Nat → Int, Sp p n L1 x ↔ Sp p n L2 x) : L1.length = L2.length := by
  have sub : ∀ {A B : List (Nat × List Int)}, Ech p n A → Ech p n B → (∀ x, Sp p n A x → Sp p n B x) → A.length ≤ B.length := by
    intro A B hA hB hx
    have hk : ∀ k ∈ A.map (·.1), k ∈ B.map (·.1) := by
      intro k hk
      obtain ⟨e, he, rfl⟩ := List.mem_map.1 hk
      refine Classical.byContradiction fun hn => ?_
      have hs := hx _ (Sp.mem (i := e.1) (w := e.2) hA.keys he)
      have := hB.pivot (hA.lt e he) (fun j hj => by rw [hA.zero e he j hj]; exact Int.dvd_zero _) (fun e' he' heq => hn (List.mem_map.2 ⟨e', he', heq⟩)) hs
      rw [hA.one e he] at this
      exact xone_no hp this
    have hk1 : ((A.map (fun x : Nat × List Int => x.1)).map fun k : Nat => (k : Int)).Nodup := nodup_map hA.keys fun x _ y _ h => by omega
    have := nodup_le (l := (A.map (fun x : Nat × List Int => x.1)).map fun k : Nat => (k : Int)) (l' := (B.map (fun x : Nat × List Int => x.1)).map fun k : Nat => (k : Int)) hk1 (fun z hz => by
      obtain ⟨k, h1, rfl⟩ := List.mem_map.1 hz
      exact List.mem_map.2 ⟨k, hk k h1, rfl⟩)
    simpa using this
  exact Nat.le_antisymm (sub h1 h2 fun x => (h x).1) (sub h2 h1 fun x => (h x).2)

/-- Rows, one by one. -/
def adK (p : Nat) (M : List (List Int)) : Nat → List (Nat × List Int)
  | 0 => []
  | k + 1 => (addL p (adK p M k) (M.getD k [])).1
theorem adK_ech {p n : Nat} (hp : pr p) {M : List (List Int)} (hM : ∀ v ∈ M, v.length = n) : ∀ k, k ≤ M.length → Ech p n (adK p M k) ∧ ∀ x, Sp p n (adK p M k) x ↔ SpM p n M k x
  | 0, _ => ⟨Ech.nil _ _, fun x => ⟨fun ⟨c, hc⟩ => fun j hj => by simpa [adK, lsum] using hc j hj, fun h => Sp.zero h⟩⟩
  | k + 1, hk => by
    obtain ⟨g1, g2⟩ := adK_ech hp hM k (by omega)
    have hl : (M.getD k []).length = n := hM _ (by simp [List.getD, List.getElem?_eq_getElem (show k < M.length by omega)])
    obtain ⟨a1, _, a3, _⟩ := addL_spec hp g1 hl
    refine ⟨a1, fun x => ?_⟩
    show Sp p n (addL p (adK p M k) (M.getD k [])).1 x ↔ _
    rw [a3 x]
    exact ⟨fun ⟨t, h⟩ => ⟨t, (g2 _).1 h⟩, fun ⟨t, h⟩ => ⟨t, (g2 _).2 h⟩⟩

theorem inv_nz {p : Nat} (hp : pr p) {x : Int} (h : ¬ x % (p : Int) = 0) : ∃ k : Int, (p : Int) ∣ k * x - 1 := by
  have hp2 := hp.le
  have h1 := emod_rng (p := p) (by omega) x
  obtain ⟨_, _, h3, _⟩ := inv_spec hp (x := x % p) (by omega) h1.2
  refine ⟨inv p (x % p), ?_⟩
  have e : (inv p (x % (p : Int)) : Int) * x - 1 = ((inv p (x % (p : Int)) : Int) * (x % (p : Int)) - 1) + (inv p (x % (p : Int)) : Int) * (x - x % (p : Int)) := by
    rw [Int.mul_sub]; omega
  rw [e]
  refine Int.dvd_add ?_ (Int.dvd_mul_of_dvd_right ?_)
  · refine Int.dvd_of_emod_eq_zero ?_
    rw [Int.sub_emod, h3]
    have : (1 : Int) % p = 1 := Int.emod_eq_of_lt (by omega) (by omega)
    rw [this]; simp
  · have := Int.dvd_neg.2 (dvd_emod_sub p x)
    rwa [show -(x % (p : Int) - x) = x - x % (p : Int) by omega] at this

/-- THE RANK is the same, whichever way it is reckoned. -/
theorem rkR_rank {p n : Nat} (hp : pr p) : ∀ (k : Nat) (M : List (List Int)), (∀ v ∈ M, v.length = n) → k ≤ M.length → (rkR p k M).1 = (adK p M k).length
  | 0, M, _, _ => rfl
  | k + 1, M, hM, hk => by
    have hl : (M.getD k []).length = n := hM _ (by simp [List.getD, List.getElem?_eq_getElem (show k < M.length by omega)])
    generalize hr : M.getD k [] = r at hl
    obtain ⟨g1, g2⟩ := adK_ech hp hM k (by omega)
    obtain ⟨a1, a2, a3, a4⟩ := addL_spec hp g1 hl
    have hcl : adK p M (k + 1) = (addL p (adK p M k) r).1 := by rw [adK, hr]
    rw [hcl, rkR, hr]
    cases hpv : piv p r with
    | none =>
      have hz : ∀ j, j < n → (p : Int) ∣ r.getD j 0 := by
        intro j hj
        unfold piv fst' at hpv
        rw [List.find?_eq_none] at hpv
        have := hpv j (by simpa [hl] using hj)
        exact Int.dvd_of_emod_eq_zero (by simpa using this)
      have hb : (addL p (adK p M k) r).2 = false := a2.2 (Sp.zero hz)
      rw [hb] at a4
      rw [a4, rkR_rank hp k M hM (by omega)]; simp
    | some c =>
      obtain ⟨c1, c2, _⟩ := fst_spec hpv
      have c2 : ¬ r.getD c 0 % (p : Int) = 0 := by simpa using c2
      have c1 : c < n := by omega
      have hM' : ∀ v ∈ elI p r c M k, v.length = n := elI_row hM
      have hlen' := elI_len p r c M k
      obtain ⟨b1, b2⟩ := adK_ech hp hM' k (by omega)
      obtain ⟨d1, d2, d3, d4⟩ := addL_spec hp b1 hl
      simp only
      rw [rkR_rank hp k _ hM' (by omega)]
      obtain ⟨u, hu⟩ := inv_nz hp c2
      -- the eliminated rows have nothing at c
      have hc0 : ∀ x, SpM p n (elI p r c M k) k x → (p : Int) ∣ x c := fun x hx => by
        refine SpM.ind (C := fun x => (p : Int) ∣ x c) (fun x h => h c c1) (fun x y h h2 => ?_) (fun x y t h h2 => Int.dvd_add h (Int.dvd_mul_of_dvd_right h2)) (fun i hi => ?_) hx
        · have := Int.dvd_add (h2 c c1) h
          rwa [show y c - x c + x c = y c by omega] at this
        · show (p : Int) ∣ ((elI p r c M k).getD i []).getD c 0
          rw [elI_get (by omega)]
          split
          · have hvl : c < (M.getD i []).length := by rw [hM _ (by simp [List.getD, List.getElem?_eq_getElem (show i < M.length by omega)])]; exact c1
            rw [elR, updR_get hvl, if_pos ⟨Nat.zero_le _, hvl⟩, Int.sub_self]; simp
          · rename_i hn
            refine Int.dvd_of_emod_eq_zero ?_
            exact Classical.byContradiction fun h => hn ⟨hi, h⟩
      have hnew : (addL p (adK p (elI p r c M k) k) r).2 = true := by
        cases hb : (addL p (adK p (elI p r c M k) k) r).2 with
        | true => rfl
        | false =>
          have := hc0 _ ((b2 _).1 (d2.1 hb))
          exact absurd (Int.emod_eq_zero_of_dvd this) c2
      rw [hnew] at d4
      simp only [if_true] at d4
      rw [← d4]
      refine Ech.same hp d1 a1 fun x => ?_
      rw [d3 x, a3 x]
      -- a row eliminated, and the row
      have hel : ∀ i, i < k → ∀ j, j < n → ∃ s : Int, ∃ q : Int, (¬ s % (p : Int) = 0) ∧ ∀ j, j < n → (p : Int) ∣ ((elI p r c M k).getD i []).getD j 0 - (s * (M.getD i []).getD j 0 + q * r.getD j 0) := by
        intro i hi _ _
        have hvl : (M.getD i []).length = n := hM _ (by simp [List.getD, List.getElem?_eq_getElem (show i < M.length by omega)])
        rw [elI_get (by omega)]
        split
        · refine ⟨r.getD c 0, -((M.getD i []).getD c 0), c2, fun j hj => ?_⟩
          rw [elR, updR_get (by omega), if_pos ⟨Nat.zero_le _, by omega⟩]
          have := dvd_emod_sub p ((M.getD i []).getD j 0 * r.getD c 0 - (M.getD i []).getD c 0 * r.getD j 0)
          rw [show r.getD c 0 * (M.getD i []).getD j 0 + -((M.getD i []).getD c 0) * r.getD j 0 = (M.getD i []).getD j 0 * r.getD c 0 - (M.getD i []).getD c 0 * r.getD j 0 by rw [Int.neg_mul, Int.mul_comm (r.getD c 0)]; omega]
          exact this
        · refine ⟨1, 0, ?_, fun j hj => by rw [Int.one_mul, Int.zero_mul, Int.add_zero, Int.sub_self]; exact Int.dvd_zero _⟩
          intro h
          exact xone_no hp (Int.dvd_of_emod_eq_zero h)
      constructor
      · rintro ⟨t, ht⟩
        have ht := (b2 _).1 ht
        have : ∀ y, SpM p n (elI p r c M k) k y → ∃ t : Int, Sp p n (adK p M k) fun j => y j - t * r.getD j 0 := by
          intro y hy
          refine SpM.ind (C := fun y => ∃ t : Int, Sp p n (adK p M k) fun j => y j - t * r.getD j 0) (fun x h => ⟨0, Sp.zero fun j hj => by rw [Int.zero_mul, Int.sub_zero]; exact h j hj⟩) (fun x y ⟨t, h⟩ h2 => ⟨t, h.congr fun j hj => by
            rw [show y j - t * r.getD j 0 - (x j - t * r.getD j 0) = y j - x j by omega]; exact h2 j hj⟩) (fun x y t ⟨t1, h1⟩ ⟨t2, h2⟩ => ⟨t1 + t * t2, (h1.lin h2 1 t).congr fun j hj => by
            rw [show x j + t * y j - (t1 + t * t2) * r.getD j 0 - (1 * (x j - t1 * r.getD j 0) + t * (y j - t2 * r.getD j 0)) = 0 by
              simp only [Int.add_mul, Int.mul_sub, Int.mul_assoc]; omega]
            exact Int.dvd_zero _⟩) (fun i hi => ?_) hy
          obtain ⟨s, q, _, hsq⟩ := hel i hi 0 (by omega)
          have h1 := (g2 _).2 (SpM.row (p := p) (n := n) (M := M) hi)
          refine ⟨q, (h1.lin h1 s 0).congr fun j hj => ?_⟩
          show (p : Int) ∣ ((elI p r c M k).getD i []).getD j 0 - q * r.getD j 0 - (s * (M.getD i []).getD j 0 + 0 * (M.getD i []).getD j 0)
          have := hsq j hj
          rwa [show ((elI p r c M k).getD i []).getD j 0 - q * r.getD j 0 - (s * (M.getD i []).getD j 0 + 0 * (M.getD i []).getD j 0) = ((elI p r c M k).getD i []).getD j 0 - (s * (M.getD i []).getD j 0 + q * r.getD j 0) by omega]
        obtain ⟨t2, h2⟩ := this _ ht
        refine ⟨t + t2, h2.congr fun j _ => ?_⟩
        show (p : Int) ∣ x j - (t + t2) * r.getD j 0 - (x j - t * r.getD j 0 - t2 * r.getD j 0)
        rw [show x j - (t + t2) * r.getD j 0 - (x j - t * r.getD j 0 - t2 * r.getD j 0) = 0 by rw [Int.add_mul]; omega]
        exact Int.dvd_zero _
      · rintro ⟨t, ht⟩
        have ht := (g2 _).1 ht
        have : ∀ y, SpM p n M k y → ∃ t : Int, Sp p n (adK p (elI p r c M k) k) fun j => y j - t * r.getD j 0 := by
          intro y hy
          refine SpM.ind (C := fun y => ∃ t : Int, Sp p n (adK p (elI p r c M k) k) fun j => y j - t * r.getD j 0) (fun x h => ⟨0, Sp.zero fun j hj => by rw [Int.zero_mul, Int.sub_zero]; exact h j hj⟩) (fun x y ⟨t, h⟩ h2 => ⟨t, h.congr fun j hj => by
            rw [show y j - t * r.getD j 0 - (x j - t * r.getD j 0) = y j - x j by omega]; exact h2 j hj⟩) (fun x y t ⟨t1, h1⟩ ⟨t2, h2⟩ => ⟨t1 + t * t2, (h1.lin h2 1 t).congr fun j hj => by
            rw [show x j + t * y j - (t1 + t * t2) * r.getD j 0 - (1 * (x j - t1 * r.getD j 0) + t * (y j - t2 * r.getD j 0)) = 0 by
              simp only [Int.add_mul, Int.mul_sub, Int.mul_assoc]; omega]
            exact Int.dvd_zero _⟩) (fun i hi => ?_) hy
          obtain ⟨s, q, hs, hsq⟩ := hel i hi 0 (by omega)
          obtain ⟨v, hv⟩ := inv_nz hp hs
          have h1 := (b2 _).2 (SpM.row (p := p) (n := n) (M := elI p r c M k) hi)
          refine ⟨-(v * q), (h1.lin h1 v 0).congr fun j hj => ?_⟩
          show (p : Int) ∣ (M.getD i []).getD j 0 - -(v * q) * r.getD j 0 - (v * ((elI p r c M k).getD i []).getD j 0 + 0 * ((elI p r c M k).getD i []).getD j 0)
          have h3 := hsq j hj
          generalize ((elI p r c M k).getD i []).getD j 0 = E at h3 ⊢
          generalize (M.getD i []).getD j 0 = X at h3 ⊢
          generalize r.getD j 0 = R at h3 ⊢
          have h4 := Int.dvd_add (Int.dvd_mul_of_dvd_right (b := -v) h3) (Int.dvd_mul_of_dvd_right (b := -X) hv)
          rwa [show -v * (E - (s * X + q * R)) + -X * (v * s - 1) = X - -(v * q) * R - (v * E + 0 * E) by
            simp only [Int.mul_sub, Int.mul_add, Int.neg_mul, Int.mul_one, Int.zero_mul, Int.mul_assoc]
            rw [show X * (v * s) = v * (s * X) by rw [Int.mul_comm X, Int.mul_assoc]]; omega] at h4
        obtain ⟨t2, h2⟩ := this _ ht
        refine ⟨t + t2, h2.congr fun j _ => ?_⟩
        rw [show x j - (t + t2) * r.getD j 0 - (x j - t * r.getD j 0 - t2 * r.getD j 0) = 0 by rw [Int.add_mul]; omega]
        exact Int.dvd_zero _
end Go.Proofs.Ytboadfahlflmhaa
