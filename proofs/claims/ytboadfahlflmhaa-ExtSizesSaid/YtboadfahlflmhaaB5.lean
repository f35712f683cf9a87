/-
  Texts of this proof, one behind the other: what each says stands at its head. Conditions: none.
-/
import Derived.Test.YtboadfahlflmhaaB4

/-
  Tables without fault are groups: plain laws, with no program in sight. Conditions: none.
-/
set_option linter.all false
namespace Go.Proofs.Ytboadfahlflmhaa
open Go.Pv

theorem isE_unique {m : List Int} {n a b : Nat} (ha : a < n) (hb : b < n) (h1 : isE m n a) (h2 : isE m n b) : a = b := by
  have e1 := (h1 b hb).1
  have e2 := (h2 a ha).2
  omega

theorem eI_cases (m : List Int) (n : Nat) : (eI m n = -1 ∧ ∀ a, a < n → ¬ isE m n a) ∨ ∃ e, e < n ∧ isE m n e ∧ eI m n = (e : Nat) := by
  unfold eI
  cases h : fst' (fun a => decide (isE m n a)) n with
  | none => exact .inl ⟨rfl, fun a ha => of_decide_eq_false (fst_spec0 h a ha)⟩
  | some e =>
    obtain ⟨h1, h2, _⟩ := fst_spec h
    exact .inr ⟨e, h1, of_decide_eq_true h2, rfl⟩
theorem eI_of {m : List Int} {n e : Nat} (he : e < n) (h : isE m n e) : eI m n = (e : Nat) := by
  rcases eI_cases m n with ⟨_, h2⟩ | ⟨e', h1, h2, h3⟩
  · exact absurd h (h2 e he)
  · rw [h3, isE_unique he h1 h h2]

theorem iI_cases (m : List Int) (n a : Nat) : (iI m n a = -1 ∧ ∀ b, b < n → ¬ (((op m n a b : Nat) : Int) = eI m n ∧ ((op m n b a : Nat) : Int) = eI m n)) ∨
    ∃ b, b < n ∧ ((op m n a b : Nat) : Int) = eI m n ∧ ((op m n b a : Nat) : Int) = eI m n ∧ iI m n a = (b : Nat) := by
  unfold iI
  cases h : fst' (fun b => decide (((op m n a b : Nat) : Int) = eI m n ∧ ((op m n b a : Nat) : Int) = eI m n)) n with
  | none => exact .inl ⟨rfl, fun b hb => of_decide_eq_false (fst_spec0 h b hb)⟩
  | some b =>
    obtain ⟨h1, h2, _⟩ := fst_spec h
    have h2 := of_decide_eq_true h2
    exact .inr ⟨b, h1, h2.1, h2.2, rfl⟩

/-- A row of numbers is a group's table. -/
def GT (N : Int) (m : List Int) (n e : Nat) : Prop := N = (n : Int) ∧ Tab n m ∧ Grp n (op m n) e

theorem gf_ok {N : Int} {m : List Int} (h : (gf N m).1 = 0) : ∃ n e, GT N m n e ∧ eI m n = (e : Nat) := by
  unfold gf at h
  by_cases h1 : N < 1 ∨ N > 60
  · rw [if_pos h1] at h; simp at h
  rw [if_neg h1] at h
  obtain ⟨n, rfl⟩ := Int.eq_ofNat_of_zero_le (show 0 ≤ N by omega)
  have hsq := sq_int n
  by_cases h2 : (m.length : Int) = (n : Int) * n
  · rw [if_neg (by simpa using h2)] at h
    cases h3 : fst' (bad n m) m.length with
    | some i => rw [h3] at h; simp at h
    | none =>
      rw [h3] at h
      have hl : m.length = n * n := by omega
      have T : Tab n m := by
        refine ⟨by omega, by omega, hl, fun j hj => ?_⟩
        have := of_decide_eq_false (fst_spec0 h3 j (by omega))
        omega
      simp only [Int.toNat_natCast] at h
      unfold gf2 at h
      by_cases h4 : eI m n < 0
      · rw [if_pos h4] at h; simp at h
      rw [if_neg h4] at h
      rcases eI_cases m n with ⟨h5, _⟩ | ⟨e, he, hE, heq⟩
      · omega
      cases h6 : fst' (fun a => decide (¬ asc m n a)) n with
      | some a => rw [h6] at h; simp at h
      | none =>
        rw [h6] at h
        simp only at h
        have hasc : ∀ a, a < n → asc m n a := fun a ha => by
          have := of_decide_eq_false (fst_spec0 h6 a ha)
          exact Classical.not_not.1 this
        cases h7 : fst' (fun a => decide (iI m n a < 0)) n with
        | some a => rw [h7] at h; simp at h
        | none =>
          have hinv : ∀ a, a < n → ¬ iI m n a < 0 := fun a ha => of_decide_eq_false (fst_spec0 h7 a ha)
          refine ⟨n, e, ⟨rfl, T, ⟨by omega, fun a b ha hb => T.lt ha hb, he, fun a ha => (hE a ha).1, fun a ha => (hE a ha).2, fun a b c ha hb hc => hasc a ha b hb c hc, fun a ha => ?_⟩⟩, heq⟩
          rcases iI_cases m n a with ⟨h8, _⟩ | ⟨b, hb, h8, h9, _⟩
          · have := hinv a ha; omega
          · exact ⟨b, hb, by omega, by omega⟩
  · rw [if_pos h2] at h; simp at h

theorem GT.one {N : Int} {m : List Int} {n e : Nat} (h : GT N m n e) : isE m n e := fun b hb => ⟨h.2.2.one_l b hb, h.2.2.one_r b hb⟩
theorem GT.eI {N : Int} {m : List Int} {n e : Nat} (h : GT N m n e) : eI m n = (e : Nat) := eI_of h.2.2.el h.one
theorem GT.iI {N : Int} {m : List Int} {n e a : Nat} (h : GT N m n e) (ha : a < n) : iI m n a = (iv n (op m n) e a : Nat) := by
  have G := h.2.2
  rcases iI_cases m n a with ⟨_, h2⟩ | ⟨b, hb, h8, h9, h10⟩
  · exact absurd ⟨by rw [h.eI, G.mul_iv ha], by rw [h.eI, G.iv_mul ha]⟩ (h2 _ (G.iv_lt ha))
  · rw [h10]
    rw [h.eI] at h8
    rw [G.iv_unique ha hb (.inl (by omega))]

theorem gf_of {N : Int} {m : List Int} {n e : Nat} (h : GT N m n e) : gf N m = (0, 0) := by
  obtain ⟨rfl, T, G⟩ := h
  have h' : GT n m n e := ⟨rfl, T, G⟩
  rw [gf_tab T, gf2_0 (by rw [h'.eI]; omega) (fun a ha b hb c hc => G.assoc a b c ha hb hc) fun a ha => by rw [h'.iI ha]; omega]

/-- In what is finite, who has an inverse at the right has it at the left too. -/
theorem right_inv {n : Nat} {f : Nat → Nat → Nat} {e : Nat} (hcl : ∀ a b, a < n → b < n → f a b < n) (he : e < n) (hl : ∀ a, a < n → f e a = a) (hr : ∀ a, a < n → f a e = a)
    (has : ∀ a b c, a < n → b < n → c < n → f (f a b) c = f a (f b c)) {a b : Nat} (ha : a < n) (hb : b < n) (h : f a b = e) : f b a = e := by
  obtain ⟨c, hc, h1⟩ := inj_onto (f := f b) (fun i hi => hcl b i hb hi) (fun i j hi hj hij => by
    have h2 : f a (f b i) = f a (f b j) := by rw [hij]
    rwa [← has a b i ha hb hi, ← has a b j ha hb hj, h, hl i hi, hl j hj] at h2) he
  have : a = c := by
    have h2 := has a b c ha hb hc
    rw [h, h1, hl c hc, hr a ha] at h2
    exact h2.symm
  rw [this]; exact h1

end Go.Proofs.Ytboadfahlflmhaa

/-
  Walks: the document's words of groups: things, orders, powers. Conditions: none.
-/
set_option linter.all false
namespace Go.Proofs.Ytboadfahlflmhaa
open Go.Pv

/-! ### Things -/

def okT (N : Int) (l : List Int) (i : Nat) : Prop := ¬ (l.getD i 0 < 0 ∨ l.getD i 0 ≥ N)
instance (N : Int) (l : List Int) (i : Nat) : Decidable (okT N l i) := by unfold okT; infer_instance

/-- The fault of a group and things of it. -/
def tf (N : Int) (m l : List Int) : Int × Int :=
  if ¬ (gf N m).1 = 0 then gf N m
  else match fst' (fun i => decide (¬ okT N l i)) l.length with
    | some i => (3, (i : Int) + 1)
    | none => (0, 0)

theorem gf_zero {N : Int} {m : List Int} (h : (gf N m).1 = 0) : gf N m = (0, 0) := by
  obtain ⟨n, e, hg, _⟩ := gf_ok h
  exact gf_of hg
/-! ### Orders, powers -/

theorem o_c {n e : Nat} {m : List Int} (h : GT n m n e) {a : Nat} (ha : a < n) : FnC Try.prog 30 [gp n m, .int .i64 a] (.int .i64 (ord n (op m n) e a : Nat)) := by
  have G := h.2.2
  have T := h.2.1
  have hb := T.big
  obtain ⟨o1, o2, o3, o4⟩ := G.ord_spec ha
  refine fnc_of tab_ok Try.func30 rfl (by kernel_rfl) (by rw [Try.ntmps30]; exact Nat.le_add_left 2 _) ?_; rw [Try.ntmps30]
  refine qm ?_
  refine hk_region fun K hK => runs_eval tab_ok ?_
  simp only [ev0, evA, evB, evP, fl, gp, tab, simprocAttr, reduceCtorEq, reduceIte]
  refine fin_run ?_ (hK _ ?_) <;> clear hK <;> clear K
  · (first | exact trivial | omega | (simp only [In64] at *; omega) | (simp [In64] at *; omega) | (simp_all; done) | skip)
  refine qa (qm ?_)
  refine hk_region fun K hK => runs_eval tab_ok ?_
  simp only [ev0, evA, evB, evP, fl, gp, tab, simprocAttr, reduceCtorEq, reduceIte]
  refine fin_stop trivial (runs_call (e_c T) rfl rfl rfl (by simp only [dstOk, Nat.reduceLT]) (by repeat (first | exact trivial | constructor)) (runs_eval tab_ok ?_))
  simp only [ev0, evA, evB, evP, fl, gp, tab, simprocAttr, reduceCtorEq, reduceIte, h.eI]
  refine fin_run ?_ (hK _ ?_) <;> clear hK <;> clear K
  · (first | exact trivial | omega | (simp only [In64] at *; omega) | (simp [In64] at *; omega) | (simp_all; done) | skip)
  refine qa (qm ?_)
  refine hk_region fun K hK => runs_eval tab_ok ?_
  simp only [ev0, evA, evB, evP, fl, gp, tab, simprocAttr, reduceCtorEq, reduceIte]
  refine fin_run trivial (hK _ ?_) <;> clear hK <;> clear K
  refine qa (qm ?_)
  refine hk_region fun K hK => runs_eval tab_ok ?_
  simp only [ev0, evA, evB, evP, fl, gp, tab, simprocAttr, reduceCtorEq, reduceIte]
  refine fin_run trivial (hK _ ?_) <;> clear hK <;> clear K
  refine qa (qm (ql ?_))
  refine hk_loop (ι := Nat) (fun k => ⟨21, [(1, .p (.int .i64 a)), (2, .ptr 0 0), (5, .p (.int .i64 e)), (6, .p (.int .i64 (pw (op m n) e a k : Nat))), (7, .p (.int .i64 k))], [.own [.p (.int .i64 n), .p (.list (il m))]]⟩) (fun k => 1 ≤ k ∧ k ≤ ord n (op m n) e a) (fun k => ord n (op m n) e a - k) 1 ⟨Nat.le_refl _, o1⟩ [0] (by rw [G.pw_one ha]; simp only [leq, leA, ev0, evA, evB, evP, fl, gp, tab, simprocAttr, reduceCtorEq, reduceIte] <;> trivial) fun k hk => ?_
  obtain ⟨hk1, hk2⟩ := hk
  refine qm (qm ?_)
  refine hk_region fun K hK => runs_eval tab_ok ?_
  simp only [ev0, evA, evB, evP, fl, gp, tab, simprocAttr, reduceCtorEq, reduceIte]
  refine fin_run trivial (hK _ ?_) <;> clear hK <;> clear K
  refine qa ?_
  refine hk_cond rfl (fun hC1 => ?_) (fun hC1 => ?_)
  · (try simp only [nhs] at hC1)
    have hne : k ≠ ord n (op m n) e a := fun h => hC1 (by rw [h, o3])
    refine qh (qa (ql (qm ?_)))
    refine hk_region fun K hK => runs_eval tab_ok ?_
    simp only [ev0, evA, evB, evP, fl, gp, tab, simprocAttr, reduceCtorEq, reduceIte]
    refine fin_stop trivial (runs_call (m_c T ha (G.pw_lt ha k)) rfl rfl rfl (by simp only [dstOk, Nat.reduceLT]) (by repeat (first | exact trivial | constructor)) (runs_eval tab_ok ?_))
    simp only [ev0, evA, evB, evP, fl, gp, tab, simprocAttr, reduceCtorEq, reduceIte, (G.pw_succ' ha k).symm]
    refine fin_run ?_ (hK _ ?_) <;> clear hK <;> clear K
    · (first | exact trivial | omega | (simp only [In64] at *; omega) | (simp [In64] at *; omega) | (simp_all; done) | skip)
    refine qa ?_
    refine hk_region fun K hK => runs_eval tab_ok ?_
    simp only [ev0, evA, evB, evP, fl, gp, tab, simprocAttr, reduceCtorEq, reduceIte]
    refine fin_run ?_ (hK _ ?_) <;> clear hK <;> clear K
    · (first | exact trivial | omega | (simp only [In64] at *; omega) | (simp [In64] at *; omega) | (simp_all; done) | skip)
    refine qd (qa ?_)
    refine ⟨k + 1, [0], ⟨by omega, by omega⟩, by omega, ?_⟩
    simp only [leq, leA, ev0, evA, evB, evP, fl, gp, tab, simprocAttr, reduceCtorEq, reduceIte] <;> omega
  · (try simp only [nhs] at hC1)
    have hek : k = ord n (op m n) e a := by
      rcases Nat.lt_or_ge k (ord n (op m n) e a) with hlt | hge
      · exact absurd (by omega) (o4 k hk1 hlt)
      · omega
    refine qj (qc (qc (qf (qa (qm ?_)))))
    refine hk_region fun K hK => runs_eval tab_ok ?_
    simp only [ev0, evA, evB, evP, fl, gp, tab, simprocAttr, reduceCtorEq, reduceIte]
    refine fin_run trivial (hK _ ?_) <;> clear hK <;> clear K
    refine qa (qk ?_)
    simp only [Try.results30, enA, ev0, evA, evB, evP, fl, gp, tab, simprocAttr, reduceCtorEq, reduceIte]
    all_goals (rw [hek])

def abel (m : List Int) (n : Nat) : Prop := ∀ a, a < n → ∀ b, b < n → op m n a b = op m n b a
instance (m : List Int) (n : Nat) : Decidable (abel m n) := by unfold abel; infer_instance

end Go.Proofs.Ytboadfahlflmhaa

/-
  Walks: rows, groups, numbers: the document's and the laws' small words. Conditions: none.
-/
set_option linter.all false
namespace Go.Proofs.Ytboadfahlflmhaa
open Go.Pv

theorem own_c (w : List Int) (hl : w.length ≤ 17592186043904) : FnC Try.prog 14 [.list (il w)] (.list (il w)) := by
  refine fnc_of tab_ok Try.func14 rfl (by kernel_rfl) (by rw [Try.ntmps14]; exact Nat.le_add_left 1 _) ?_; rw [Try.ntmps14]
  refine qm ?_
  refine hk_region fun K hK => runs_eval tab_ok ?_
  simp only [ev0, evA, evB, evP, fl, gp, tab, simprocAttr, reduceCtorEq, reduceIte]
  refine fin_run trivial (hK _ ?_) <;> clear hK <;> clear K
  refine qa (qm ?_)
  refine hk_region fun K hK => runs_eval tab_ok ?_
  simp only [ev0, evA, evB, evP, fl, gp, tab, simprocAttr, reduceCtorEq, reduceIte]
  refine fin_run ?_ (hK _ ?_) <;> clear hK <;> clear K
  · (first | exact trivial | omega | (simp only [In64] at *; omega) | (simp [In64] at *; omega) | (simp_all; done) | skip)
  refine qa (qk ?_)
  simp only [Try.results14, enA, ev0, evA, evB, evP, fl, gp, tab, simprocAttr, reduceCtorEq, reduceIte]
  all_goals (simp)

theorem ownGroup_c (N : Int) (m : List Int) (hl : m.length ≤ 17592186043904) : FnC Try.prog 6 [gp N m] (gp N m) := by
  refine fnc_of tab_ok Try.func6 rfl (by kernel_rfl) (by rw [Try.ntmps6]; exact Nat.le_add_left 1 _) ?_; rw [Try.ntmps6]
  refine qm ?_
  refine hk_region fun K hK => runs_eval tab_ok ?_
  simp only [ev0, evA, evB, evP, fl, gp, tab, simprocAttr, reduceCtorEq, reduceIte]
  refine fin_run ?_ (hK _ ?_) <;> clear hK <;> clear K
  · (first | exact trivial | omega | (simp only [In64] at *; omega) | (simp [In64] at *; omega) | (simp_all; done) | skip)
  refine qa (qm ?_)
  refine hk_draw mixed (by kernel_rfl) fun K hK => runs_eval tab_ok ?_
  simp only [ev0, evA, evB, evP, fl, gp, tab, simprocAttr, reduceCtorEq, reduceIte]
  refine fin_stop trivial (runs_call (own_c m hl) rfl rfl rfl (by simp only [dstOk, Nat.reduceLT]) (by repeat (first | exact trivial | constructor)) (runs_eval tab_ok ?_))
  simp only [ev0, evA, evB, evP, fl, gp, tab, simprocAttr, reduceCtorEq, reduceIte]
  refine fin_run ?_ (hK _ ?_) <;> clear hK <;> clear K
  · (first | exact trivial | omega | (simp only [In64] at *; omega) | (simp [In64] at *; omega) | (simp_all; done) | skip)
  refine qa (qk ?_)
  simp only [Try.results6, enA, ev0, evA, evB, evP, fl, gp, tab, simprocAttr, reduceCtorEq, reduceIte]
  all_goals (simp)

end Go.Proofs.Ytboadfahlflmhaa

/-
  Walks: the program's words of groups: faults, the one, inverses. Conditions: none.
-/
set_option linter.all false
namespace Go.Proofs.Ytboadfahlflmhaa
open Go.Pv

theorem fault_c (c a : Int) : FnC Try.prog 36 [.int .i64 c, .int .i64 a] (fl (c, a)) := by
  refine fnc_of tab_ok Try.func36 rfl (by kernel_rfl) (by rw [Try.ntmps36]; exact Nat.le_add_left 2 _) ?_; rw [Try.ntmps36]
  refine qm ?_
  refine hk_region fun K hK => runs_eval tab_ok ?_
  simp only [ev0, evA, evB, evP, fl, gp, tab, simprocAttr, reduceCtorEq, reduceIte]
  refine fin_run ?_ (hK _ ?_) <;> clear hK <;> clear K
  · (first | exact trivial | omega | (simp only [In64] at *; omega) | (simp [In64] at *; omega) | (simp_all; done) | skip)
  refine qa (qm ?_)
  refine hk_region fun K hK => runs_eval tab_ok ?_
  simp only [ev0, evA, evB, evP, fl, gp, tab, simprocAttr, reduceCtorEq, reduceIte]
  refine fin_run ?_ (hK _ ?_) <;> clear hK <;> clear K
  · (first | exact trivial | omega | (simp only [In64] at *; omega) | (simp [In64] at *; omega) | (simp_all; done) | skip)
  refine qa (qk ?_)
  simp only [Try.results36, enA, ev0, evA, evB, evP, fl, gp, tab, simprocAttr, reduceCtorEq, reduceIte]
  all_goals (rfl)

theorem of_c {n : Nat} {m : List Int} (T : Tab n m) {a b : Nat} (ha : a < n) (hb : b < n) : FnC Try.prog 25 [gp n m, .int .i64 a, .int .i64 b] (.int .i64 (op m n a b : Nat)) := by
  have h1 := at_lt ha hb
  have h2 := sq_le T.big
  have h3 := T.len
  have hc : (a : Int) * (n : Int) = ((a * n : Nat) : Int) := (Int.natCast_mul a n).symm
  have hv := T.val ha hb
  refine fnc_of tab_ok Try.func25 rfl (by kernel_rfl) (by rw [Try.ntmps25]; exact Nat.le_add_left 3 _) ?_; rw [Try.ntmps25]
  refine qm ?_
  refine hk_region fun K hK => runs_eval tab_ok ?_
  simp only [ev0, evA, evB, evP, fl, gp, tab, simprocAttr, reduceCtorEq, reduceIte]
  refine fin_run ?_ (hK _ ?_) <;> clear hK <;> clear K
  · (first | exact trivial | omega | (simp only [In64] at *; omega) | (simp [In64] at *; omega) | (simp_all; done) | skip)
  refine qa (qm ?_)
  refine hk_region fun K hK => runs_eval tab_ok ?_
  simp only [ev0, evA, evB, evP, fl, gp, tab, simprocAttr, reduceCtorEq, reduceIte, at_nat, il_get (show a * n + b < m.length by omega), hv]
  refine fin_run ?_ (hK _ ?_) <;> clear hK <;> clear K
  · rw [hc]; simp only [In64]; omega
  refine qa (qk ?_)
  simp only [Try.results25, enA, ev0, evA, evB, evP, fl, gp, tab, simprocAttr, reduceCtorEq, reduceIte]
  all_goals (rfl)

def ix (l : List Int) (x : Int) : Int := match fst' (fun i => decide (l.getD i 0 = x)) l.length with | some i => (i : Int) | none => -1

theorem index_c (l : List Int) (x : Int) (hl : l.length ≤ 1000000000000) : FnC Try.prog 68 [.list (il l), .int .i64 x] (.int .i64 (ix l x)) := by
  refine fnc_of tab_ok Try.func68 rfl (by kernel_rfl) (by rw [Try.ntmps68]; exact Nat.le_add_left 2 _) ?_; rw [Try.ntmps68]
  refine qm ?_
  refine hk_region fun K hK => runs_eval tab_ok ?_
  simp only [ev0, evA, evB, evP, fl, gp, tab, simprocAttr, reduceCtorEq, reduceIte]
  refine fin_run trivial (hK _ ?_) <;> clear hK <;> clear K
  refine qa (qm (qm ?_))
  refine hk_region fun K hK => runs_eval tab_ok ?_
  simp only [ev0, evA, evB, evP, fl, gp, tab, simprocAttr, reduceCtorEq, reduceIte]
  refine fin_run trivial (hK _ ?_) <;> clear hK <;> clear K
  refine qa (ql ?_)
  refine hk_loop (ι := Nat) (fun i => ⟨19, [(0, .p (.list (il l))), (1, .p (.int .i64 x)), (7, .p (.int .i64 l.length)), (8, .p (.int .i64 i))], []⟩) (fun i => i ≤ l.length ∧ ∀ j, j < i → ¬ l.getD j 0 = x) (fun i => l.length - i) 0 ⟨Nat.zero_le _, fun j hj => by omega⟩ [] (by simp only [leq, leA, ev0, evA, evB, evP, fl, gp, tab, simprocAttr, reduceCtorEq, reduceIte] <;> trivial) fun i hi => ?_
  obtain ⟨hi1, hi2⟩ := hi
  refine qm ?_
  refine hk_region fun K hK => runs_eval tab_ok ?_
  simp only [ev0, evA, evB, evP, fl, gp, tab, simprocAttr, reduceCtorEq, reduceIte]
  refine fin_run trivial (hK _ ?_) <;> clear hK <;> clear K
  refine qa (qm ?_)
  refine hk_cond rfl (fun hC1 => ?_) (fun hC1 => ?_)
  · (try simp only [nhs] at hC1)
    have hlt : i < l.length := by omega
    refine qh (qa (qm (ql (qm ?_))))
    refine hk_region fun K hK => runs_eval tab_ok ?_
    simp only [ev0, evA, evB, evP, fl, gp, tab, simprocAttr, reduceCtorEq, reduceIte]
    refine fin_run trivial (hK _ ?_) <;> clear hK <;> clear K
    refine qa (qm ?_)
    refine hk_region fun K hK => runs_eval tab_ok ?_
    simp only [ev0, evA, evB, evP, fl, gp, tab, simprocAttr, reduceCtorEq, reduceIte, il_get hlt]
    refine fin_run ?_ (hK _ ?_) <;> clear hK <;> clear K
    · (first | exact trivial | omega | (simp only [In64] at *; omega) | (simp [In64] at *; omega) | (simp_all; done) | skip)
    refine qa ?_
    refine hk_cond rfl (fun hC2 => ?_) (fun hC2 => ?_)
    · (try simp only [nhs] at hC2)
      refine qm ?_
      refine hk_region fun K hK => runs_eval tab_ok ?_
      simp only [ev0, evA, evB, evP, fl, gp, tab, simprocAttr, reduceCtorEq, reduceIte]
      refine fin_run trivial (hK _ ?_) <;> clear hK <;> clear K
      refine qa (qk (qe (qb (qb (qe (qb ?_))))))
      simp only [Try.results68, enA, ev0, evA, evB, evP, fl, gp, tab, simprocAttr, reduceCtorEq, reduceIte]
      all_goals (unfold ix; rw [fst_some hlt (decide_eq_true hC2.symm) fun j hj => decide_eq_false (hi2 j hj)])
    · (try simp only [nhs] at hC2)
      refine qh (qd (qa ?_))
      refine hk_region fun K hK => runs_eval tab_ok ?_
      simp only [ev0, evA, evB, evP, fl, gp, tab, simprocAttr, reduceCtorEq, reduceIte]
      refine fin_run ?_ (hK _ ?_) <;> clear hK <;> clear K
      · (first | exact trivial | omega | (simp only [In64] at *; omega) | (simp [In64] at *; omega) | (simp_all; done) | skip)
      refine qa ?_
      refine ⟨i + 1, [], ⟨by omega, fun j hj => ?_⟩, by omega, ?_⟩
      · by_cases hj : j = i
        · subst hj; exact fun h => hC2 h.symm
        · exact hi2 j (by omega)
      · simp only [leq, leA, ev0, evA, evB, evP, fl, gp, tab, simprocAttr, reduceCtorEq, reduceIte] <;> first | trivial | omega
  · (try simp only [nhs] at hC1)
    refine qj (qc (qc (qf (qa (qm ?_)))))
    refine hk_region fun K hK => runs_eval tab_ok ?_
    simp only [ev0, evA, evB, evP, fl, gp, tab, simprocAttr, reduceCtorEq, reduceIte]
    refine fin_run trivial (hK _ ?_) <;> clear hK <;> clear K
    refine qa (qk ?_)
    simp only [Try.results68, enA, ev0, evA, evB, evP, fl, gp, tab, simprocAttr, reduceCtorEq, reduceIte]
    all_goals (unfold ix; rw [fst_none fun j hj => decide_eq_false (hi2 j (by omega))])

theorem ix_mem (l : List Int) (x : Int) : ix l x ≥ 0 ↔ ∃ i, i < l.length ∧ l.getD i 0 = x := by
  unfold ix
  cases h : fst' (fun i => decide (l.getD i 0 = x)) l.length with
  | none =>
    constructor
    · intro h; simp at h
    · rintro ⟨i, hi, e⟩
      exact absurd e (of_decide_eq_false (fst_spec0 h i hi))
  | some i =>
    obtain ⟨h1, h2, _⟩ := fst_spec h
    exact ⟨fun _ => ⟨i, h1, of_decide_eq_true h2⟩, fun _ => by simp⟩

theorem contains_c (l : List Int) (x : Int) (hl : l.length ≤ 1000000000000) : FnC Try.prog 56 [.list (il l), .int .i64 x] (.bool (decide (ix l x ≥ 0))) := by
  refine fnc_of tab_ok Try.func56 rfl (by kernel_rfl) (by rw [Try.ntmps56]; exact Nat.le_add_left 2 _) ?_; rw [Try.ntmps56]
  refine qm ?_
  refine hk_region fun K hK => runs_eval tab_ok ?_
  simp only [ev0, evA, evB, evP, fl, gp, tab, simprocAttr, reduceCtorEq, reduceIte]
  refine fin_run trivial (hK _ ?_) <;> clear hK <;> clear K
  refine qa (qm ?_)
  refine hk_region fun K hK => runs_eval tab_ok ?_
  simp only [ev0, evA, evB, evP, fl, gp, tab, simprocAttr, reduceCtorEq, reduceIte]
  refine fin_stop trivial (runs_call (index_c l x hl) rfl rfl rfl (by simp only [dstOk, Nat.reduceLT]) (by repeat (first | exact trivial | constructor)) (runs_eval tab_ok ?_))
  simp only [ev0, evA, evB, evP, fl, gp, tab, simprocAttr, reduceCtorEq, reduceIte]
  refine fin_run trivial (hK _ ?_) <;> clear hK <;> clear K
  refine qa (qk ?_)
  simp only [Try.results56, enA, ev0, evA, evB, evP, fl, gp, tab, simprocAttr, reduceCtorEq, reduceIte]
  all_goals ((first | exact rfl | exact ⟨rfl, rfl⟩ | exact ⟨rfl, rfl, rfl⟩ | exact ⟨trivial, rfl⟩ | exact ⟨Nat.le_refl _, rfl⟩ | trivial | (simp; done)))

/-- A row of the table. -/
def row (m : List Int) (n a : Nat) : List Int := (m.drop (a * n)).take n

theorem row_len {m : List Int} {n a : Nat} (T : Tab n m) (ha : a < n) : (row m n a).length = n := by
  have : (a + 1) * n ≤ n * n := Nat.mul_le_mul_right _ ha
  rw [Nat.add_mul, Nat.one_mul] at this
  have := T.len
  simp [row]; omega
theorem row_get {m : List Int} {n a b : Nat} (T : Tab n m) (ha : a < n) (hb : b < n) : (row m n a).getD b 0 = ((op m n a b : Nat) : Int) := by
  rw [← T.val ha hb]
  simp only [row, List.getD, List.getElem?_take, if_pos hb, List.getElem?_drop]
theorem row_ix {m : List Int} {n a : Nat} (T : Tab n m) (ha : a < n) (x : Int) : ix (row m n a) x ≥ 0 ↔ ∃ b, b < n ∧ ((op m n a b : Nat) : Int) = x := by
  rw [ix_mem, row_len T ha]
  constructor
  · rintro ⟨b, hb, e⟩; exact ⟨b, hb, by rw [← row_get T ha hb]; exact e⟩
  · rintro ⟨b, hb, e⟩; exact ⟨b, hb, by rw [row_get T ha hb]; exact e⟩

/-- The last that is the one, among so many; -1. -/
def oneI (m : List Int) (n : Nat) : Nat → Int
  | 0 => -1
  | i + 1 => if isE m n i then (i : Int) else oneI m n i

theorem oneI_no {m : List Int} {n : Nat} (h : ∀ a, a < n → ¬ isE m n a) : ∀ i, i ≤ n → oneI m n i = -1
  | 0, _ => rfl
  | i + 1, hi => by simp only [oneI]; rw [if_neg (h i (by omega)), oneI_no h i (by omega)]
theorem oneI_yes {m : List Int} {n e : Nat} (he : e < n) (h : isE m n e) : ∀ i, i ≤ n → e < i → oneI m n i = (e : Nat)
  | 0, _, h2 => by omega
  | i + 1, hi, h2 => by
    simp only [oneI]
    by_cases hE : isE m n i
    · rw [if_pos hE, isE_unique he (by omega) h hE]
    · rw [if_neg hE]
      have : e ≠ i := fun h' => hE (h' ▸ h)
      exact oneI_yes he h i (by omega) (by omega)
theorem oneI_eI (m : List Int) (n : Nat) : oneI m n n = eI m n := by
  rcases eI_cases m n with ⟨h1, h2⟩ | ⟨e, he, h1, h2⟩
  · rw [h1, oneI_no h2 n (Nat.le_refl _)]
  · rw [h2, oneI_yes he h1 n (Nat.le_refl _) he]

/-- The program's test of an inverse, and the document's. -/
theorem inv_test {m : List Int} {n a : Nat} (T : Tab n m) (he : ¬ eI m n < 0) (hs : ∀ a, a < n → asc m n a) (ha : a < n) : ix (row m n a) (eI m n) ≥ 0 ↔ ¬ iI m n a < 0 := by
  rw [row_ix T ha]
  rcases eI_cases m n with ⟨h1, _⟩ | ⟨e, hel, hE, heq⟩
  · omega
  constructor
  · rintro ⟨b, hb, h⟩ h2
    rcases iI_cases m n a with ⟨_, h3⟩ | ⟨b', _, _, _, h4⟩
    · refine h3 b hb ⟨h, ?_⟩
      rw [heq] at h ⊢
      have := right_inv (f := op m n) (fun a b ha hb => T.lt ha hb) hel (fun a ha => (hE a ha).1) (fun a ha => (hE a ha).2) (fun a b c ha hb hc => hs a ha b hb c hc) ha hb (by omega)
      omega
    · omega
  · intro h
    rcases iI_cases m n a with ⟨h3, _⟩ | ⟨b, hb, h4, _, _⟩
    · omega
    · exact ⟨b, hb, h4⟩

theorem lo_nat (a n : Nat) : ((a : Int) * (n : Int)).toNat = a * n := by
  rw [← Int.natCast_mul]; rfl
theorem hi_nat (a n : Nat) : (((a : Int) + 1) * (n : Int)).toNat = (a + 1) * n := by
  have : ((a : Int) + 1) * (n : Int) = (((a + 1) * n : Nat) : Int) := by rw [Int.natCast_mul]; rfl
  rw [this]; rfl
theorem hi_sub (a n : Nat) : (a + 1) * n - a * n = n := by rw [Nat.add_mul, Nat.one_mul]; omega

set_option maxHeartbeats 1000000 in
theorem check_c (N : Int) (m : List Int) (hm : m.length ≤ 1000000000000000) : FnC Try.prog 54 [gp N m] (fl (gf N m)) := by
  refine fnc_of tab_ok Try.func54 rfl (by kernel_rfl) (by rw [Try.ntmps54]; exact Nat.le_add_left 1 _) ?_; rw [Try.ntmps54]
  refine qm ?_
  refine hk_region fun K hK => runs_eval tab_ok ?_
  simp only [ev0, evA, evB, evP, fl, gp, tab, simprocAttr, reduceCtorEq, reduceIte]
  refine fin_run ?_ (hK _ ?_) <;> clear hK <;> clear K
  · (first | exact trivial | omega | (simp only [In64] at *; omega) | (simp [In64] at *; omega) | (simp_all; done) | skip)
  refine qa (qm (qm ?_))
  by_cases g1a : N < 1
  · refine hk_region fun K hK => runs_eval tab_ok ?_
    simp only [ev0, evA, evB, evP, fl, gp, tab, simprocAttr, reduceCtorEq, reduceIte, decide_eq_true g1a]
    refine fin_run ?_ (hK _ ?_) <;> clear hK <;> clear K
    · (first | exact trivial | omega | (simp only [In64] at *; omega) | (simp [In64] at *; omega) | (simp_all; done) | skip)
    refine qa ?_
    refine hk_cond rfl (fun hC1 => ?_) (fun hC1 => ?_)
    · refine qm ?_
      refine hk_region fun K hK => runs_eval tab_ok ?_
      simp only [ev0, evA, evB, evP, fl, gp, tab, simprocAttr, reduceCtorEq, reduceIte]
      refine fin_stop trivial (runs_call (fault_c 2 0) rfl rfl rfl (by simp only [dstOk, Nat.reduceLT]) (by repeat (first | exact trivial | constructor)) (runs_eval tab_ok ?_))
      simp only [ev0, evA, evB, evP, fl, gp, tab, simprocAttr, reduceCtorEq, reduceIte]
      refine fin_run ?_ (hK _ ?_) <;> clear hK <;> clear K
      · (first | exact trivial | omega | (simp only [In64] at *; omega) | (simp [In64] at *; omega) | (simp_all; done) | skip)
      refine qa (qk (qb ?_))
      simp only [Try.results54, enA, ev0, evA, evB, evP, fl, gp, tab, simprocAttr, reduceCtorEq, reduceIte]
      all_goals (unfold gf; rw [if_pos (.inl g1a)]; simp)
    · cases hC1
  · refine hk_region fun K hK => runs_eval tab_ok ?_
    simp only [ev0, evA, evB, evP, fl, gp, tab, simprocAttr, reduceCtorEq, reduceIte, decide_eq_false g1a]
    refine fin_run ?_ (hK _ ?_) <;> clear hK <;> clear K
    · (first | exact trivial | omega | (simp only [In64] at *; omega) | (simp [In64] at *; omega) | (simp_all; done) | skip)
    refine qa ?_
    refine hk_cond rfl (fun hC1 => ?_) (fun hC1 => ?_)
    · (try simp only [nhs] at hC1)
      refine qm ?_
      refine hk_region fun K hK => runs_eval tab_ok ?_
      simp only [ev0, evA, evB, evP, fl, gp, tab, simprocAttr, reduceCtorEq, reduceIte]
      refine fin_stop trivial (runs_call (fault_c 2 0) rfl rfl rfl (by simp only [dstOk, Nat.reduceLT]) (by repeat (first | exact trivial | constructor)) (runs_eval tab_ok ?_))
      simp only [ev0, evA, evB, evP, fl, gp, tab, simprocAttr, reduceCtorEq, reduceIte]
      refine fin_run ?_ (hK _ ?_) <;> clear hK <;> clear K
      · (first | exact trivial | omega | (simp only [In64] at *; omega) | (simp [In64] at *; omega) | (simp_all; done) | skip)
      refine qa (qk (qb ?_))
      simp only [Try.results54, enA, ev0, evA, evB, evP, fl, gp, tab, simprocAttr, reduceCtorEq, reduceIte]
      all_goals (unfold gf; rw [if_pos (.inr hC1)]; simp)
    · (try simp only [nhs] at hC1)
      obtain ⟨n, rfl⟩ := Int.eq_ofNat_of_zero_le (show 0 ≤ N by omega)
      have hnn := sq_int n
      have hsq := sq_le (show n ≤ 60 by omega)
      refine qh (qa (qm (qm ?_)))
      refine hk_region fun K hK => runs_eval tab_ok ?_
      simp only [ev0, evA, evB, evP, fl, gp, tab, simprocAttr, reduceCtorEq, reduceIte]
      refine fin_run ?_ (hK _ ?_) <;> clear hK <;> clear K
      · simp only [In64]; omega
      refine qa ?_
      refine hk_cond rfl (fun hC2 => ?_) (fun hC2 => ?_)
      · (try simp only [nhs] at hC2)
        refine qm ?_
        refine hk_region fun K hK => runs_eval tab_ok ?_
        simp only [ev0, evA, evB, evP, fl, gp, tab, simprocAttr, reduceCtorEq, reduceIte]
        refine fin_stop trivial (runs_call (fault_c 8 0) rfl rfl rfl (by simp only [dstOk, Nat.reduceLT]) (by repeat (first | exact trivial | constructor)) (runs_eval tab_ok ?_))
        simp only [ev0, evA, evB, evP, fl, gp, tab, simprocAttr, reduceCtorEq, reduceIte]
        refine fin_run ?_ (hK _ ?_) <;> clear hK <;> clear K
        · (first | exact trivial | omega | (simp only [In64] at *; omega) | (simp [In64] at *; omega) | (simp_all; done) | skip)
        refine qa (qk (qb ?_))
        simp only [Try.results54, enA, ev0, evA, evB, evP, fl, gp, tab, simprocAttr, reduceCtorEq, reduceIte]
        all_goals (rw [gf_size (by omega) (by omega) (by omega)]; simp)
      · (try simp only [nhs] at hC2)
        have hl : m.length = n * n := by omega
        refine qh (qa (qm (qm ?_)))
        refine hk_region fun K hK => runs_eval tab_ok ?_
        simp only [ev0, evA, evB, evP, fl, gp, tab, simprocAttr, reduceCtorEq, reduceIte]
        refine fin_run ?_ (hK _ ?_) <;> clear hK <;> clear K
        · (first | exact trivial | omega | (simp only [In64] at *; omega) | (simp [In64] at *; omega) | (simp_all; done) | skip)
        refine qa (ql ?_)
        refine hk_loop (ι := Nat) (fun i => ⟨144, [(1, .ptr 0 0), (2, .ptr 1 0), (33, .p (.list (il m))), (34, .p (.int .i64 m.length)), (35, .p (.int .i64 i))], [.own [.p (.int .i64 n), .p (.list (il m))], .own [.p (.int .i64 0), .p (.int .i64 0)]]⟩) (fun i => i ≤ m.length ∧ ∀ j, j < i → bad n m j = false) (fun i => m.length - i) 0 ⟨Nat.zero_le _, fun j hj => by omega⟩ [0, 1] (by simp only [leq, leA, ev0, evA, evB, evP, fl, gp, tab, simprocAttr, reduceCtorEq, reduceIte] <;> trivial) fun i hi => ?_
        obtain ⟨hi1, hi2⟩ := hi
        refine qm ?_
        refine hk_region fun K hK => runs_eval tab_ok ?_
        simp only [ev0, evA, evB, evP, fl, gp, tab, simprocAttr, reduceCtorEq, reduceIte]
        refine fin_run trivial (hK _ ?_) <;> clear hK <;> clear K
        refine qa (qm ?_)
        refine hk_cond rfl (fun hC3 => ?_) (fun hC3 => ?_)
        · (try simp only [nhs] at hC3)
          have hlt : i < m.length := by omega
          refine qh (qa (qm (ql (qm ?_))))
          refine hk_region fun K hK => runs_eval tab_ok ?_
          simp only [ev0, evA, evB, evP, fl, gp, tab, simprocAttr, reduceCtorEq, reduceIte, il_get hlt]
          refine fin_run ?_ (hK _ ?_) <;> clear hK <;> clear K
          · (first | exact trivial | omega | (simp only [In64] at *; omega) | (simp [In64] at *; omega) | (simp_all; done) | skip)
          refine qa (qm ?_)
          by_cases g8a : m.getD i 0 < 0
          · refine hk_region fun K hK => runs_eval tab_ok ?_
            simp only [ev0, evA, evB, evP, fl, gp, tab, simprocAttr, reduceCtorEq, reduceIte, decide_eq_true g8a]
            refine fin_run trivial (hK _ ?_) <;> clear hK <;> clear K
            refine qa ?_
            refine hk_cond rfl (fun hC4 => ?_) (fun hC4 => ?_)
            · refine qm ?_
              refine hk_region fun K hK => runs_eval tab_ok ?_
              simp only [ev0, evA, evB, evP, fl, gp, tab, simprocAttr, reduceCtorEq, reduceIte]
              refine fin_stop trivial (runs_call (fault_c 3 i) rfl rfl rfl (by simp only [dstOk, Nat.reduceLT]) (by repeat (first | exact trivial | constructor)) (runs_eval tab_ok ?_))
              simp only [ev0, evA, evB, evP, fl, gp, tab, simprocAttr, reduceCtorEq, reduceIte]
              refine fin_run ?_ (hK _ ?_) <;> clear hK <;> clear K
              · (first | exact trivial | omega | (simp only [In64] at *; omega) | (simp [In64] at *; omega) | (simp_all; done) | skip)
              refine qa (qk (qe (qb (qb (qe (qb ?_))))))
              simp only [Try.results54, enA, ev0, evA, evB, evP, fl, gp, tab, simprocAttr, reduceCtorEq, reduceIte]
              all_goals (rw [gf_range (by omega) (by omega) hl hlt (decide_eq_true (.inl g8a)) hi2]; simp)
            · cases hC4
          · refine hk_region fun K hK => runs_eval tab_ok ?_
            simp only [ev0, evA, evB, evP, fl, gp, tab, simprocAttr, reduceCtorEq, reduceIte, decide_eq_false g8a]
            refine fin_run ?_ (hK _ ?_) <;> clear hK <;> clear K
            · (first | exact trivial | omega | (simp only [In64] at *; omega) | (simp [In64] at *; omega) | (simp_all; done) | skip)
            refine qa ?_
            refine hk_cond rfl (fun hC4 => ?_) (fun hC4 => ?_)
            · (try simp only [nhs] at hC4)
              refine qm ?_
              refine hk_region fun K hK => runs_eval tab_ok ?_
              simp only [ev0, evA, evB, evP, fl, gp, tab, simprocAttr, reduceCtorEq, reduceIte]
              refine fin_stop trivial (runs_call (fault_c 3 i) rfl rfl rfl (by simp only [dstOk, Nat.reduceLT]) (by repeat (first | exact trivial | constructor)) (runs_eval tab_ok ?_))
              simp only [ev0, evA, evB, evP, fl, gp, tab, simprocAttr, reduceCtorEq, reduceIte]
              refine fin_run ?_ (hK _ ?_) <;> clear hK <;> clear K
              · (first | exact trivial | omega | (simp only [In64] at *; omega) | (simp [In64] at *; omega) | (simp_all; done) | skip)
              refine qa (qk (qe (qb (qb (qe (qb ?_))))))
              simp only [Try.results54, enA, ev0, evA, evB, evP, fl, gp, tab, simprocAttr, reduceCtorEq, reduceIte]
              all_goals (rw [gf_range (by omega) (by omega) hl hlt (decide_eq_true (.inr hC4)) hi2]; simp)
            · (try simp only [nhs] at hC4)
              refine qh (qd (qa ?_))
              refine hk_region fun K hK => runs_eval tab_ok ?_
              simp only [ev0, evA, evB, evP, fl, gp, tab, simprocAttr, reduceCtorEq, reduceIte]
              refine fin_run ?_ (hK _ ?_) <;> clear hK <;> clear K
              · (first | exact trivial | omega | (simp only [In64] at *; omega) | (simp [In64] at *; omega) | (simp_all; done) | skip)
              refine qa ?_
              refine ⟨i + 1, [0, 1], ⟨by omega, fun j hj => ?_⟩, by omega, ?_⟩
              · by_cases hj : j = i
                · subst hj; exact decide_eq_false (by omega)
                · exact hi2 j (by omega)
              · simp only [leq, leA, ev0, evA, evB, evP, fl, gp, tab, simprocAttr, reduceCtorEq, reduceIte] <;> first | trivial | omega
        · (try simp only [nhs] at hC3)
          have T : Tab n m := by
            refine ⟨by omega, by omega, hl, fun j hj => ?_⟩
            have := of_decide_eq_false (hi2 j (by omega))
            omega
          refine qj (qc (qc (qf (qa (qm ?_)))))
          refine hk_region fun K hK => runs_eval tab_ok ?_
          simp only [ev0, evA, evB, evP, fl, gp, tab, simprocAttr, reduceCtorEq, reduceIte]
          refine fin_run trivial (hK _ ?_) <;> clear hK <;> clear K
          refine qa (qm (qm ?_))
          refine hk_region fun K hK => runs_eval tab_ok ?_
          simp only [ev0, evA, evB, evP, fl, gp, tab, simprocAttr, reduceCtorEq, reduceIte]
          refine fin_run ?_ (hK _ ?_) <;> clear hK <;> clear K
          · (first | exact trivial | omega | (simp only [In64] at *; omega) | (simp [In64] at *; omega) | (simp_all; done) | skip)
          refine qa (ql ?_)
          refine hk_loop (ι := Nat) (fun i => ⟨144, [(1, .ptr 0 0), (2, .ptr 1 0), (5, .p (.int .i64 (oneI m n i))), (52, .p (.int .i64 n)), (53, .p (.int .i64 i))], [.own [.p (.int .i64 n), .p (.list (il m))], .own [.p (.int .i64 0), .p (.int .i64 0)]]⟩) (fun i => i ≤ n) (fun i => n - i) 0 (Nat.zero_le _) [0, 1] (by simp only [leq, leA, ev0, evA, evB, evP, fl, gp, tab, simprocAttr, reduceCtorEq, reduceIte] <;> trivial) fun i hi => ?_
          refine qm ?_
          refine hk_region fun K hK => runs_eval tab_ok ?_
          simp only [ev0, evA, evB, evP, fl, gp, tab, simprocAttr, reduceCtorEq, reduceIte]
          refine fin_run trivial (hK _ ?_) <;> clear hK <;> clear K
          refine qa (qm ?_)
          refine hk_cond rfl (fun hC5 => ?_) (fun hC5 => ?_)
          · (try simp only [nhs] at hC5)
            have hil : i < n := by omega
            refine qh (qa (qm (ql (qm ?_))))
            refine hk_region fun K hK => runs_eval tab_ok ?_
            simp only [ev0, evA, evB, evP, fl, gp, tab, simprocAttr, reduceCtorEq, reduceIte]
            refine fin_run trivial (hK _ ?_) <;> clear hK <;> clear K
            refine qa (qm ?_)
            refine hk_region fun K hK => runs_eval tab_ok ?_
            simp only [ev0, evA, evB, evP, fl, gp, tab, simprocAttr, reduceCtorEq, reduceIte]
            refine fin_run trivial (hK _ ?_) <;> clear hK <;> clear K
            refine qa (qm (qm ?_))
            refine hk_region fun K hK => runs_eval tab_ok ?_
            simp only [ev0, evA, evB, evP, fl, gp, tab, simprocAttr, reduceCtorEq, reduceIte]
            refine fin_run ?_ (hK _ ?_) <;> clear hK <;> clear K
            · (first | exact trivial | omega | (simp only [In64] at *; omega) | (simp [In64] at *; omega) | (simp_all; done) | skip)
            refine qa (ql ?_)
            refine hk_loop (ι := Nat) (fun b => ⟨144, [(1, .ptr 0 0), (2, .ptr 1 0), (5, .p (.int .i64 (oneI m n i))), (6, .p (.int .i64 i)), (7, .p (.bool (decide (∀ c, c < b → op m n i c = c ∧ op m n c i = c)))), (52, .p (.int .i64 n)), (53, .p (.int .i64 i)), (57, .p (.int .i64 n)), (58, .p (.int .i64 b))], [.own [.p (.int .i64 n), .p (.list (il m))], .own [.p (.int .i64 0), .p (.int .i64 0)]]⟩) (fun b => b ≤ n) (fun b => n - b) 0 (Nat.zero_le _) [0, 1] (by simp only [leq, leA, ev0, evA, evB, evP, fl, gp, tab, simprocAttr, reduceCtorEq, reduceIte] <;> simp) fun b hb => ?_
            refine qm ?_
            refine hk_region fun K hK => runs_eval tab_ok ?_
            simp only [ev0, evA, evB, evP, fl, gp, tab, simprocAttr, reduceCtorEq, reduceIte]
            refine fin_run trivial (hK _ ?_) <;> clear hK <;> clear K
            refine qa (qm ?_)
            refine hk_cond rfl (fun hC6 => ?_) (fun hC6 => ?_)
            · (try simp only [nhs] at hC6)
              have hbl : b < n := by omega
              refine qh (qa (qm (ql (qm ?_))))
              refine hk_region fun K hK => runs_eval tab_ok ?_
              simp only [ev0, evA, evB, evP, fl, gp, tab, simprocAttr, reduceCtorEq, reduceIte]
              refine fin_run trivial (hK _ ?_) <;> clear hK <;> clear K
              refine qa ?_
              by_cases g19a : ∀ c, c < b → op m n i c = c ∧ op m n c i = c
              · by_cases g19b : ((op m n i b : Nat) : Int) = (b : Nat)
                · refine hk_region fun K hK => runs_eval tab_ok ?_
                  simp only [ev0, evA, evB, evP, fl, gp, tab, simprocAttr, reduceCtorEq, reduceIte, decide_eq_true g19a, decide_eq_true g19b]
                  refine fin_stop trivial (runs_call (of_c T hil hbl) rfl rfl rfl (by simp only [dstOk, Nat.reduceLT]) (by repeat (first | exact trivial | constructor)) (runs_eval tab_ok ?_))
                  simp only [ev0, evA, evB, evP, fl, gp, tab, simprocAttr, reduceCtorEq, reduceIte, decide_eq_true g19a, decide_eq_true g19b]
                  refine fin_stop trivial (runs_call (of_c T hbl hil) rfl rfl rfl (by simp only [dstOk, Nat.reduceLT]) (by repeat (first | exact trivial | constructor)) (runs_eval tab_ok ?_))
                  simp only [ev0, evA, evB, evP, fl, gp, tab, simprocAttr, reduceCtorEq, reduceIte, decide_eq_true g19a, decide_eq_true g19b]
                  refine fin_run ?_ (hK _ ?_) <;> clear hK <;> clear K
                  · (first | exact trivial | omega | (simp only [In64] at *; omega) | (simp [In64] at *; omega) | (simp_all; done) | skip)
                  refine qd (qa ?_)
                  refine hk_region fun K hK => runs_eval tab_ok ?_
                  simp only [ev0, evA, evB, evP, fl, gp, tab, simprocAttr, reduceCtorEq, reduceIte]
                  refine fin_run ?_ (hK _ ?_) <;> clear hK <;> clear K
                  · (first | exact trivial | omega | (simp only [In64] at *; omega) | (simp [In64] at *; omega) | (simp_all; done) | skip)
                  refine qa ?_
                  refine ⟨b + 1, [0, 1], by omega, by omega, ?_⟩
                  have hd : decide (∀ c, c < b + 1 → op m n i c = c ∧ op m n c i = c) = decide (((op m n b i : Nat) : Int) = (b : Nat)) := by
                    apply decide_eq_decide.2
                    constructor
                    · intro h; have := h b (by omega); omega
                    · intro h c hc
                      by_cases hcb : c = b
                      · subst hcb; omega
                      · exact g19a c (by omega)
                  rw [hd]
                  simp only [leq, leA, ev0, evA, evB, evP, fl, gp, tab, simprocAttr, reduceCtorEq, reduceIte] <;> first | trivial | omega
                · refine hk_region fun K hK => runs_eval tab_ok ?_
                  simp only [ev0, evA, evB, evP, fl, gp, tab, simprocAttr, reduceCtorEq, reduceIte, decide_eq_true g19a, decide_eq_false g19b]
                  refine fin_stop trivial (runs_call (of_c T hil hbl) rfl rfl rfl (by simp only [dstOk, Nat.reduceLT]) (by repeat (first | exact trivial | constructor)) (runs_eval tab_ok ?_))
                  simp only [ev0, evA, evB, evP, fl, gp, tab, simprocAttr, reduceCtorEq, reduceIte, decide_eq_true g19a, decide_eq_false g19b]
                  refine fin_run ?_ (hK _ ?_) <;> clear hK <;> clear K
                  · (first | exact trivial | omega | (simp only [In64] at *; omega) | (simp [In64] at *; omega) | (simp_all; done) | skip)
                  refine qd (qa ?_)
                  refine hk_region fun K hK => runs_eval tab_ok ?_
                  simp only [ev0, evA, evB, evP, fl, gp, tab, simprocAttr, reduceCtorEq, reduceIte]
                  refine fin_run ?_ (hK _ ?_) <;> clear hK <;> clear K
                  · (first | exact trivial | omega | (simp only [In64] at *; omega) | (simp [In64] at *; omega) | (simp_all; done) | skip)
                  refine qa ?_
                  refine ⟨b + 1, [0, 1], by omega, by omega, ?_⟩
                  rw [dall_no (P := fun c => op m n i c = c ∧ op m n c i = c) (b := b) fun h => by omega]
                  simp only [leq, leA, ev0, evA, evB, evP, fl, gp, tab, simprocAttr, reduceCtorEq, reduceIte] <;> first | trivial | omega
              · refine hk_region fun K hK => runs_eval tab_ok ?_
                simp only [ev0, evA, evB, evP, fl, gp, tab, simprocAttr, reduceCtorEq, reduceIte, decide_eq_false g19a]
                refine fin_run trivial (hK _ ?_) <;> clear hK <;> clear K
                refine qd (qa ?_)
                refine hk_region fun K hK => runs_eval tab_ok ?_
                simp only [ev0, evA, evB, evP, fl, gp, tab, simprocAttr, reduceCtorEq, reduceIte]
                refine fin_run ?_ (hK _ ?_) <;> clear hK <;> clear K
                · (first | exact trivial | omega | (simp only [In64] at *; omega) | (simp [In64] at *; omega) | (simp_all; done) | skip)
                refine qa ?_
                refine ⟨b + 1, [0, 1], by omega, by omega, ?_⟩
                rw [show decide (∀ c, c < b + 1 → op m n i c = c ∧ op m n c i = c) = false from decide_eq_false fun h => g19a fun c hc => h c (by omega)]
                simp only [leq, leA, ev0, evA, evB, evP, fl, gp, tab, simprocAttr, reduceCtorEq, reduceIte] <;> first | trivial | omega
            · (try simp only [nhs] at hC6)
              have hbn : b = n := by omega
              subst hbn
              refine qj (qc (qc (qf (qa (qm ?_)))))
              refine hk_region fun K hK => runs_eval tab_ok ?_
              simp only [ev0, evA, evB, evP, fl, gp, tab, simprocAttr, reduceCtorEq, reduceIte]
              refine fin_run trivial (hK _ ?_) <;> clear hK <;> clear K
              refine qa ?_
              refine hk_cond rfl (fun hone => ?_) (fun hone => ?_)
              · (try simp only [nhs] at hone)
                refine hk_region fun K hK => runs_eval tab_ok ?_
                simp only [ev0, evA, evB, evP, fl, gp, tab, simprocAttr, reduceCtorEq, reduceIte]
                refine fin_run trivial (hK _ ?_) <;> clear hK <;> clear K
                refine qd (qa ?_)
                refine hk_region fun K hK => runs_eval tab_ok ?_
                simp only [ev0, evA, evB, evP, fl, gp, tab, simprocAttr, reduceCtorEq, reduceIte]
                refine fin_run ?_ (hK _ ?_) <;> clear hK <;> clear K
                · (first | exact trivial | omega | (simp only [In64] at *; omega) | (simp [In64] at *; omega) | (simp_all; done) | skip)
                refine qa ?_
                refine ⟨i + 1, [0, 1], by omega, by omega, ?_⟩
                simp only [oneI]
                rw [if_pos (show isE m b i from hone)]
                simp only [leq, leA, ev0, evA, evB, evP, fl, gp, tab, simprocAttr, reduceCtorEq, reduceIte] <;> first | trivial | omega
              · (try simp only [nhs] at hone)
                refine qh (qd (qa ?_))
                refine hk_region fun K hK => runs_eval tab_ok ?_
                simp only [ev0, evA, evB, evP, fl, gp, tab, simprocAttr, reduceCtorEq, reduceIte]
                refine fin_run ?_ (hK _ ?_) <;> clear hK <;> clear K
                · (first | exact trivial | omega | (simp only [In64] at *; omega) | (simp [In64] at *; omega) | (simp_all; done) | skip)
                refine qa ?_
                refine ⟨i + 1, [0, 1], by omega, by omega, ?_⟩
                simp only [oneI]
                rw [if_neg (show ¬ isE m b i from hone)]
                simp only [leq, leA, ev0, evA, evB, evP, fl, gp, tab, simprocAttr, reduceCtorEq, reduceIte] <;> first | trivial | omega
          · (try simp only [nhs] at hC5)
            have hin : i = n := by omega
            subst hin
            rw [oneI_eI]
            refine qj (qc (qc (qf (qa (qm (qm ?_))))))
            refine hk_region fun K hK => runs_eval tab_ok ?_
            simp only [ev0, evA, evB, evP, fl, gp, tab, simprocAttr, reduceCtorEq, reduceIte]
            refine fin_run trivial (hK _ ?_) <;> clear hK <;> clear K
            refine qa ?_
            refine hk_cond rfl (fun hC8 => ?_) (fun hC8 => ?_)
            · (try simp only [nhs] at hC8)
              refine qm ?_
              refine hk_region fun K hK => runs_eval tab_ok ?_
              simp only [ev0, evA, evB, evP, fl, gp, tab, simprocAttr, reduceCtorEq, reduceIte]
              refine fin_stop trivial (runs_call (fault_c 6 0) rfl rfl rfl (by simp only [dstOk, Nat.reduceLT]) (by repeat (first | exact trivial | constructor)) (runs_eval tab_ok ?_))
              simp only [ev0, evA, evB, evP, fl, gp, tab, simprocAttr, reduceCtorEq, reduceIte]
              refine fin_run ?_ (hK _ ?_) <;> clear hK <;> clear K
              · (first | exact trivial | omega | (simp only [In64] at *; omega) | (simp [In64] at *; omega) | (simp_all; done) | skip)
              refine qa (qk (qb ?_))
              simp only [Try.results54, enA, ev0, evA, evB, evP, fl, gp, tab, simprocAttr, reduceCtorEq, reduceIte]
              all_goals (rw [gf_tab T, gf2_6 hC8]; simp)
            · (try simp only [nhs] at hC8)
              refine qh (qa (qm (qm ?_)))
              refine hk_region fun K hK => runs_eval tab_ok ?_
              simp only [ev0, evA, evB, evP, fl, gp, tab, simprocAttr, reduceCtorEq, reduceIte]
              refine fin_run ?_ (hK _ ?_) <;> clear hK <;> clear K
              · (first | exact trivial | omega | (simp only [In64] at *; omega) | (simp [In64] at *; omega) | (simp_all; done) | skip)
              refine qa (ql ?_)
              refine hk_loop (ι := Nat) (fun a => ⟨144, [(1, .ptr 0 0), (2, .ptr 1 0), (5, .p (.int .i64 (eI m i))), (86, .p (.int .i64 i)), (87, .p (.int .i64 a))], [.own [.p (.int .i64 i), .p (.list (il m))], .own [.p (.int .i64 0), .p (.int .i64 0)]]⟩) (fun a => a ≤ i ∧ ∀ j, j < a → asc m i j) (fun a => i - a) 0 ⟨Nat.zero_le _, fun j hj => by omega⟩ [0, 1] (by simp only [leq, leA, ev0, evA, evB, evP, fl, gp, tab, simprocAttr, reduceCtorEq, reduceIte] <;> trivial) fun a ha => ?_
              obtain ⟨ha1, ha2⟩ := ha
              refine qm ?_
              refine hk_region fun K hK => runs_eval tab_ok ?_
              simp only [ev0, evA, evB, evP, fl, gp, tab, simprocAttr, reduceCtorEq, reduceIte]
              refine fin_run trivial (hK _ ?_) <;> clear hK <;> clear K
              refine qa (qm ?_)
              refine hk_cond rfl (fun hC9 => ?_) (fun hC9 => ?_)
              · (try simp only [nhs] at hC9)
                have hal : a < i := by omega
                refine qh (qa (qm (ql (qm ?_))))
                refine hk_region fun K hK => runs_eval tab_ok ?_
                simp only [ev0, evA, evB, evP, fl, gp, tab, simprocAttr, reduceCtorEq, reduceIte]
                refine fin_run trivial (hK _ ?_) <;> clear hK <;> clear K
                refine qa (qm ?_)
                refine hk_region fun K hK => runs_eval tab_ok ?_
                simp only [ev0, evA, evB, evP, fl, gp, tab, simprocAttr, reduceCtorEq, reduceIte]
                refine fin_run ?_ (hK _ ?_) <;> clear hK <;> clear K
                · (first | exact trivial | omega | (simp only [In64] at *; omega) | (simp [In64] at *; omega) | (simp_all; done) | skip)
                refine qa (ql ?_)
                refine hk_loop (ι := Nat) (fun b => ⟨144, [(1, .ptr 0 0), (2, .ptr 1 0), (5, .p (.int .i64 (eI m i))), (9, .p (.int .i64 a)), (86, .p (.int .i64 i)), (87, .p (.int .i64 a)), (91, .p (.int .i64 i)), (92, .p (.int .i64 b))], [.own [.p (.int .i64 i), .p (.list (il m))], .own [.p (.int .i64 0), .p (.int .i64 0)]]⟩) (fun b => b ≤ i ∧ ∀ j, j < b → ∀ c, c < i → op m i (op m i a j) c = op m i a (op m i j c)) (fun b => i - b) 0 ⟨Nat.zero_le _, fun j hj => by omega⟩ [0, 1] (by simp only [leq, leA, ev0, evA, evB, evP, fl, gp, tab, simprocAttr, reduceCtorEq, reduceIte] <;> trivial) fun b hb => ?_
                obtain ⟨hb1, hb2⟩ := hb
                refine qm ?_
                refine hk_region fun K hK => runs_eval tab_ok ?_
                simp only [ev0, evA, evB, evP, fl, gp, tab, simprocAttr, reduceCtorEq, reduceIte]
                refine fin_run trivial (hK _ ?_) <;> clear hK <;> clear K
                refine qa (qm ?_)
                refine hk_cond rfl (fun hC10 => ?_) (fun hC10 => ?_)
                · (try simp only [nhs] at hC10)
                  have hbl : b < i := by omega
                  refine qh (qa (qm (ql (qm ?_))))
                  refine hk_region fun K hK => runs_eval tab_ok ?_
                  simp only [ev0, evA, evB, evP, fl, gp, tab, simprocAttr, reduceCtorEq, reduceIte]
                  refine fin_run trivial (hK _ ?_) <;> clear hK <;> clear K
                  refine qa (qm ?_)
                  refine hk_region fun K hK => runs_eval tab_ok ?_
                  simp only [ev0, evA, evB, evP, fl, gp, tab, simprocAttr, reduceCtorEq, reduceIte]
                  refine fin_run ?_ (hK _ ?_) <;> clear hK <;> clear K
                  · (first | exact trivial | omega | (simp only [In64] at *; omega) | (simp [In64] at *; omega) | (simp_all; done) | skip)
                  refine qa (ql ?_)
                  refine hk_loop (ι := Nat) (fun c => ⟨144, [(1, .ptr 0 0), (2, .ptr 1 0), (5, .p (.int .i64 (eI m i))), (9, .p (.int .i64 a)), (10, .p (.int .i64 b)), (86, .p (.int .i64 i)), (87, .p (.int .i64 a)), (91, .p (.int .i64 i)), (92, .p (.int .i64 b)), (96, .p (.int .i64 i)), (97, .p (.int .i64 c))], [.own [.p (.int .i64 i), .p (.list (il m))], .own [.p (.int .i64 0), .p (.int .i64 0)]]⟩) (fun c => c ≤ i ∧ ∀ j, j < c → op m i (op m i a b) j = op m i a (op m i b j)) (fun c => i - c) 0 ⟨Nat.zero_le _, fun j hj => by omega⟩ [0, 1] (by simp only [leq, leA, ev0, evA, evB, evP, fl, gp, tab, simprocAttr, reduceCtorEq, reduceIte] <;> trivial) fun c hc => ?_
                  obtain ⟨hc1, hc2⟩ := hc
                  refine qm ?_
                  refine hk_region fun K hK => runs_eval tab_ok ?_
                  simp only [ev0, evA, evB, evP, fl, gp, tab, simprocAttr, reduceCtorEq, reduceIte]
                  refine fin_run trivial (hK _ ?_) <;> clear hK <;> clear K
                  refine qa (qm ?_)
                  refine hk_cond rfl (fun hC11 => ?_) (fun hC11 => ?_)
                  · (try simp only [nhs] at hC11)
                    have hcl : c < i := by omega
                    refine qh (qa (qm (ql (qm ?_))))
                    refine hk_region fun K hK => runs_eval tab_ok ?_
                    simp only [ev0, evA, evB, evP, fl, gp, tab, simprocAttr, reduceCtorEq, reduceIte]
                    refine fin_run trivial (hK _ ?_) <;> clear hK <;> clear K
                    refine qa (qm ?_)
                    refine hk_draw mixed (by kernel_rfl) fun K hK => runs_eval tab_ok ?_
                    simp only [ev0, evA, evB, evP, fl, gp, tab, simprocAttr, reduceCtorEq, reduceIte]
                    refine fin_stop trivial (runs_call (of_c T hal hbl) rfl rfl rfl (by simp only [dstOk, Nat.reduceLT]) (by repeat (first | exact trivial | constructor)) (runs_eval tab_ok ?_))
                    simp only [ev0, evA, evB, evP, fl, gp, tab, simprocAttr, reduceCtorEq, reduceIte]
                    refine fin_stop trivial (runs_call (of_c T (T.lt hal hbl) hcl) rfl rfl rfl (by simp only [dstOk, Nat.reduceLT]) (by repeat (first | exact trivial | constructor)) (runs_eval tab_ok ?_))
                    simp only [ev0, evA, evB, evP, fl, gp, tab, simprocAttr, reduceCtorEq, reduceIte]
                    refine fin_stop trivial (runs_call (of_c T hbl hcl) rfl rfl rfl (by simp only [dstOk, Nat.reduceLT]) (by repeat (first | exact trivial | constructor)) (runs_eval tab_ok ?_))
                    simp only [ev0, evA, evB, evP, fl, gp, tab, simprocAttr, reduceCtorEq, reduceIte]
                    refine fin_stop trivial (runs_call (of_c T hal (T.lt hbl hcl)) rfl rfl rfl (by simp only [dstOk, Nat.reduceLT]) (by repeat (first | exact trivial | constructor)) (runs_eval tab_ok ?_))
                    simp only [ev0, evA, evB, evP, fl, gp, tab, simprocAttr, reduceCtorEq, reduceIte]
                    refine fin_run ?_ (hK _ ?_) <;> clear hK <;> clear K
                    · (first | exact trivial | omega | (simp only [In64] at *; omega) | (simp [In64] at *; omega) | (simp_all; done) | skip)
                    refine qa ?_
                    refine hk_cond rfl (fun hC12 => ?_) (fun hC12 => ?_)
                    · (try simp only [nhs] at hC12)
                      refine qm ?_
                      refine hk_region fun K hK => runs_eval tab_ok ?_
                      simp only [ev0, evA, evB, evP, fl, gp, tab, simprocAttr, reduceCtorEq, reduceIte]
                      refine fin_stop trivial (runs_call (fault_c 7 a) rfl rfl rfl (by simp only [dstOk, Nat.reduceLT]) (by repeat (first | exact trivial | constructor)) (runs_eval tab_ok ?_))
                      simp only [ev0, evA, evB, evP, fl, gp, tab, simprocAttr, reduceCtorEq, reduceIte]
                      refine fin_run ?_ (hK _ ?_) <;> clear hK <;> clear K
                      · (first | exact trivial | omega | (simp only [In64] at *; omega) | (simp [In64] at *; omega) | (simp_all; done) | skip)
                      refine qa (qk (qe (qb (qb (qe (qe (qb (qb (qe (qe (qb (qb (qe (qb ?_))))))))))))))
                      simp only [Try.results54, enA, ev0, evA, evB, evP, fl, gp, tab, simprocAttr, reduceCtorEq, reduceIte]
                      all_goals (rw [gf_tab T, gf2_7 hC8 hal (fun h => hC12 (by rw [h b hbl c hcl])) ha2]; simp)
                    · (try simp only [nhs] at hC12)
                      refine qh (qd (qa ?_))
                      refine hk_region fun K hK => runs_eval tab_ok ?_
                      simp only [ev0, evA, evB, evP, fl, gp, tab, simprocAttr, reduceCtorEq, reduceIte]
                      refine fin_run ?_ (hK _ ?_) <;> clear hK <;> clear K
                      · (first | exact trivial | omega | (simp only [In64] at *; omega) | (simp [In64] at *; omega) | (simp_all; done) | skip)
                      refine qa ?_
                      refine ⟨c + 1, [0, 1], ⟨by omega, fun j hj => ?_⟩, by omega, ?_⟩
                      · by_cases hj : j = c
                        · subst hj; omega
                        · exact hc2 j (by omega)
                      · simp only [leq, leA, ev0, evA, evB, evP, fl, gp, tab, simprocAttr, reduceCtorEq, reduceIte] <;> first | trivial | omega
                  · (try simp only [nhs] at hC11)
                    refine qj (qc (qc (qf (qd (qa ?_)))))
                    refine hk_region fun K hK => runs_eval tab_ok ?_
                    simp only [ev0, evA, evB, evP, fl, gp, tab, simprocAttr, reduceCtorEq, reduceIte]
                    refine fin_run ?_ (hK _ ?_) <;> clear hK <;> clear K
                    · (first | exact trivial | omega | (simp only [In64] at *; omega) | (simp [In64] at *; omega) | (simp_all; done) | skip)
                    refine qa ?_
                    refine ⟨b + 1, [0, 1], ⟨by omega, fun j hj => ?_⟩, by omega, ?_⟩
                    · by_cases hj : j = b
                      · subst hj; exact fun c' hc' => hc2 c' (by omega)
                      · exact hb2 j (by omega)
                    · simp only [leq, leA, ev0, evA, evB, evP, fl, gp, tab, simprocAttr, reduceCtorEq, reduceIte] <;> first | trivial | omega
                · (try simp only [nhs] at hC10)
                  refine qj (qc (qc (qf (qd (qa ?_)))))
                  refine hk_region fun K hK => runs_eval tab_ok ?_
                  simp only [ev0, evA, evB, evP, fl, gp, tab, simprocAttr, reduceCtorEq, reduceIte]
                  refine fin_run ?_ (hK _ ?_) <;> clear hK <;> clear K
                  · (first | exact trivial | omega | (simp only [In64] at *; omega) | (simp [In64] at *; omega) | (simp_all; done) | skip)
                  refine qa ?_
                  refine ⟨a + 1, [0, 1], ⟨by omega, fun j hj => ?_⟩, by omega, ?_⟩
                  · by_cases hj : j = a
                    · subst hj; exact fun c' hc' => hb2 c' (by omega)
                    · exact ha2 j (by omega)
                  · simp only [leq, leA, ev0, evA, evB, evP, fl, gp, tab, simprocAttr, reduceCtorEq, reduceIte] <;> first | trivial | omega
              · (try simp only [nhs] at hC9)
                have hs : ∀ a, a < i → asc m i a := fun j hj => ha2 j (by omega)
                refine qj (qc (qc (qf (qa (qm (qm ?_))))))
                refine hk_region fun K hK => runs_eval tab_ok ?_
                simp only [ev0, evA, evB, evP, fl, gp, tab, simprocAttr, reduceCtorEq, reduceIte]
                refine fin_run ?_ (hK _ ?_) <;> clear hK <;> clear K
                · (first | exact trivial | omega | (simp only [In64] at *; omega) | (simp [In64] at *; omega) | (simp_all; done) | skip)
                refine qa (ql ?_)
                refine hk_loop (ι := Nat) (fun a => ⟨144, [(1, .ptr 0 0), (2, .ptr 1 0), (5, .p (.int .i64 (eI m i))), (121, .p (.int .i64 i)), (122, .p (.int .i64 a))], [.own [.p (.int .i64 i), .p (.list (il m))], .own [.p (.int .i64 0), .p (.int .i64 0)]]⟩) (fun a => a ≤ i ∧ ∀ j, j < a → ¬ iI m i j < 0) (fun a => i - a) 0 ⟨Nat.zero_le _, fun j hj => by omega⟩ [0, 1] (by simp only [leq, leA, ev0, evA, evB, evP, fl, gp, tab, simprocAttr, reduceCtorEq, reduceIte] <;> trivial) fun k hk => ?_
                obtain ⟨hk1, hk2⟩ := hk
                refine qm ?_
                refine hk_region fun K hK => runs_eval tab_ok ?_
                simp only [ev0, evA, evB, evP, fl, gp, tab, simprocAttr, reduceCtorEq, reduceIte]
                refine fin_run trivial (hK _ ?_) <;> clear hK <;> clear K
                refine qa (qm ?_)
                refine hk_cond rfl (fun hC13 => ?_) (fun hC13 => ?_)
                · (try simp only [nhs] at hC13)
                  have hkl : k < i := by omega
                  have ht := inv_test T hC8 hs hkl
                  have hr1 := row_len T hkl
                  have hr2 : (k + 1) * i ≤ i * i := Nat.mul_le_mul_right _ hkl
                  have hr3 : k * i ≤ (k + 1) * i := Nat.mul_le_mul_right _ (by omega)
                  have hr4 : (k : Int) * (i : Int) = ((k * i : Nat) : Int) := (Int.natCast_mul k i).symm
                  have hr5 : ((k : Int) + 1) * (i : Int) = (((k + 1) * i : Nat) : Int) := by rw [Int.natCast_mul]; rfl
                  refine qh (qa (qm (ql (qm ?_))))
                  refine hk_region fun K hK => runs_eval tab_ok ?_
                  simp only [ev0, evA, evB, evP, fl, gp, tab, simprocAttr, reduceCtorEq, reduceIte]
                  refine fin_run trivial (hK _ ?_) <;> clear hK <;> clear K
                  refine qa (qm ?_)
                  refine hk_region fun K hK => runs_eval tab_ok ?_
                  simp only [ev0, evA, evB, evP, fl, gp, tab, simprocAttr, reduceCtorEq, reduceIte, lo_nat, hi_nat, hi_sub]
                  refine fin_stop ?_ (runs_call (contains_c (row m i k) (eI m i) (by omega)) rfl rfl rfl (by simp only [dstOk, Nat.reduceLT]) (by repeat (first | exact trivial | constructor)) (runs_eval tab_ok ?_))
                  · rw [hr4, hr5]; simp only [In64]; omega
                  simp only [ev0, evA, evB, evP, fl, gp, tab, simprocAttr, reduceCtorEq, reduceIte, lo_nat, hi_nat, hi_sub]
                  refine fin_run ?_ (hK _ ?_) <;> clear hK <;> clear K
                  · (first | exact trivial | omega | (simp only [In64] at *; omega) | (simp [In64] at *; omega) | (simp_all; done) | skip)
                  refine qa ?_
                  refine hk_cond rfl (fun hC14 => ?_) (fun hC14 => ?_)
                  · (try simp only [nhs] at hC14)
                    refine qm ?_
                    refine hk_region fun K hK => runs_eval tab_ok ?_
                    simp only [ev0, evA, evB, evP, fl, gp, tab, simprocAttr, reduceCtorEq, reduceIte]
                    refine fin_stop trivial (runs_call (fault_c 4 k) rfl rfl rfl (by simp only [dstOk, Nat.reduceLT]) (by repeat (first | exact trivial | constructor)) (runs_eval tab_ok ?_))
                    simp only [ev0, evA, evB, evP, fl, gp, tab, simprocAttr, reduceCtorEq, reduceIte]
                    refine fin_run ?_ (hK _ ?_) <;> clear hK <;> clear K
                    · (first | exact trivial | omega | (simp only [In64] at *; omega) | (simp [In64] at *; omega) | (simp_all; done) | skip)
                    refine qa (qk (qe (qb (qb (qe (qb ?_))))))
                    simp only [Try.results54, enA, ev0, evA, evB, evP, fl, gp, tab, simprocAttr, reduceCtorEq, reduceIte]
                    all_goals (rw [gf_tab T, gf2_4 hC8 hs hkl (Classical.not_not.1 fun h => hC14 (ht.2 h)) hk2]; simp)
                  · (try simp only [nhs] at hC14)
                    refine qh (qd (qa ?_))
                    refine hk_region fun K hK => runs_eval tab_ok ?_
                    simp only [ev0, evA, evB, evP, fl, gp, tab, simprocAttr, reduceCtorEq, reduceIte]
                    refine fin_run ?_ (hK _ ?_) <;> clear hK <;> clear K
                    · (first | exact trivial | omega | (simp only [In64] at *; omega) | (simp [In64] at *; omega) | (simp_all; done) | skip)
                    refine qa ?_
                    refine ⟨k + 1, [0, 1], ⟨by omega, fun j hj => ?_⟩, by omega, ?_⟩
                    · by_cases hj : j = k
                      · subst hj; exact ht.1 hC14
                      · exact hk2 j (by omega)
                    · simp only [leq, leA, ev0, evA, evB, evP, fl, gp, tab, simprocAttr, reduceCtorEq, reduceIte] <;> first | trivial | omega
                · (try simp only [nhs] at hC13)
                  refine qj (qc (qc (qf (qa (qm ?_)))))
                  refine hk_region fun K hK => runs_eval tab_ok ?_
                  simp only [ev0, evA, evB, evP, fl, gp, tab, simprocAttr, reduceCtorEq, reduceIte]
                  refine fin_run ?_ (hK _ ?_) <;> clear hK <;> clear K
                  · (first | exact trivial | omega | (simp only [In64] at *; omega) | (simp [In64] at *; omega) | (simp_all; done) | skip)
                  refine qa (qk ?_)
                  simp only [Try.results54, enA, ev0, evA, evB, evP, fl, gp, tab, simprocAttr, reduceCtorEq, reduceIte]
                  all_goals (rw [gf_tab T, gf2_0 hC8 hs (fun j hj => hk2 j (by omega))]; simp)
end Go.Proofs.Ytboadfahlflmhaa

/-
  Walks: the program's words of groups: things, powers, orders. Conditions: none.
-/
set_option linter.all false
namespace Go.Proofs.Ytboadfahlflmhaa
open Go.Pv

/-! ### With their faults -/

/-- A row by a rule. -/
def rg (g : Nat → Int) (i : Nat) : List Int := (List.range i).map g
theorem rg_succ (g : Nat → Int) (i : Nat) : rg g (i + 1) = rg g i ++ [g i] := by simp [rg, List.range_succ]
theorem rg_len (g : Nat → Int) (i : Nat) : (rg g i).length = i := by simp [rg]
theorem rg_get (g : Nat → Int) {n i : Nat} (h : i < n) : (rg g n).getD i 0 = g i := by
  simp [rg, List.getD, List.getElem?_range h]

end Go.Proofs.Ytboadfahlflmhaa

/-
  Sets of things as bits: plain laws of bits; the words of package sub that reckon with them. Conditions: none.
-/
set_option linter.all false
namespace Go.Proofs.Ytboadfahlflmhaa
open Go.Pv

/-! ### Numbers of 64 bits -/

theorem ofInt_n {a : Nat} (h : a < 2 ^ 64) : (BitVec.ofInt 64 (a : Int)).toNat = a := by
  rw [BitVec.toNat_ofInt]; omega

/-! ### The lowest bit -/

theorem bit_lt {s i : Nat} (hs : s < 2 ^ 64) (h : s.testBit i = true) : i < 64 := by
  rcases Nat.lt_or_ge i 64 with h1 | h1
  · exact h1
  · have := Nat.testBit_lt_two_pow (Nat.lt_of_lt_of_le hs (Nat.pow_le_pow_right (by omega) h1))
    rw [h] at this; cases this
/-- Without its lowest bit. -/
def cut (s : Nat) : Nat := s &&& (s - 1)
/-! ### Lists of sets -/

/-- The things of which something holds, rising. -/
def thn' (n : Nat) (p : Nat → Bool) : List Nat := (List.range n).filter p
/-- As numbers of the program. -/
def thl (n : Nat) (p : Nat → Bool) : List Int := (thn' n p).map (fun (a : Nat) => (a : Int))

theorem thl_len (n : Nat) (p : Nat → Bool) : (thl n p).length = (thn' n p).length := by simp [thl]
theorem thn_congr {n : Nat} {p q : Nat → Bool} (h : ∀ a, a < n → p a = q a) : thn' n p = thn' n q := List.filter_congr fun a ha => h a (List.mem_range.1 ha)
theorem thl_congr {n : Nat} {p q : Nat → Bool} (h : ∀ a, a < n → p a = q a) : thl n p = thl n q := by unfold thl; rw [thn_congr h]
theorem thl_succ (n : Nat) (p : Nat → Bool) : thl (n + 1) p = thl n p ++ if p n = true then [(n : Int)] else [] := by
  unfold thl thn'
  rw [List.range_succ, List.filter_append, List.map_append]
  congr 1
  cases h : p n <;> simp [h]
theorem thl_ext {n m : Nat} {p : Nat → Bool} (h : n ≤ m) (hp : ∀ a, n ≤ a → a < m → p a = false) : thl m p = thl n p := by
  induction m with
  | zero => have : n = 0 := by omega
            subst this; rfl
  | succ m ih =>
    by_cases e : n = m + 1
    · subst e; rfl
    · rw [thl_succ, hp m (by omega) (by omega), ih (by omega) fun a h1 h2 => hp a h1 (by omega)]; simp
theorem mem_thn {n : Nat} {p : Nat → Bool} {a : Nat} : a ∈ thn' n p ↔ a < n ∧ p a = true := by simp [thn']
theorem thl_le (n : Nat) (p : Nat → Bool) : (thl n p).length ≤ n := by
  rw [thl_len]
  have := List.length_filter_le p (List.range n)
  rwa [List.length_range] at this
/-- The list of a set of bits. -/
def stl (s : Nat) : List Int := thl 64 s.testBit

/-- Bits below n alone: the list is that of n things. -/
theorem stl_n {s n : Nat} (hn : n ≤ 64) (hs : s < 2 ^ n) : stl s = thl n s.testBit := by
  unfold stl
  refine thl_ext hn fun a h1 _ => Nat.testBit_lt_two_pow (Nat.lt_of_lt_of_le hs (Nat.pow_le_pow_right (by omega) h1))

/-! ### The walks -/

end Go.Proofs.Ytboadfahlflmhaa

/-
  Sets of things: lists and bits; what is looked at first; what is chosen. Conditions: none.
-/
set_option linter.all false
namespace Go.Proofs.Ytboadfahlflmhaa
open Go.Pv

/-! ### Lists and bits -/

/-- The bits of a list of things. -/
def msk (l : List Int) : Nat := l.foldl (fun s a => s ||| 2 ^ a.toNat) 0
theorem msk_bit (l : List Int) (i : Nat) : (msk l).testBit i = decide (∃ a ∈ l, a.toNat = i) := by
  have key : ∀ (l : List Int) (s : Nat), (l.foldl (fun s a => s ||| 2 ^ a.toNat) s).testBit i = (s.testBit i || decide (∃ a ∈ l, a.toNat = i)) := by
    intro l
    induction l with
    | nil => intro s; simp
    | cons a r ih =>
      intro s
      rw [List.foldl_cons, ih, Nat.testBit_or, Nat.testBit_two_pow]
      by_cases h : a.toNat = i
      · simp [h]
      · simp [h]
  rw [msk, key]; simp
theorem msk_lt {l : List Int} {n : Nat} (h : ∀ a ∈ l, a.toNat < n) : msk l < 2 ^ n := by
  refine Nat.lt_pow_two_of_testBit _ fun i hi => ?_
  rw [msk_bit, decide_eq_false_iff_not]
  rintro ⟨a, ha, rfl⟩
  have := h a ha; omega

/-! ### Lists that rise -/

theorem mem_thl {n : Nat} {p : Nat → Bool} {x : Int} : x ∈ thl n p ↔ ∃ a, a < n ∧ p a = true ∧ x = (a : Int) := by
  unfold thl
  rw [List.mem_map]
  constructor
  · rintro ⟨a, ha, rfl⟩
    obtain ⟨h1, h2⟩ := mem_thn.1 ha
    exact ⟨a, h1, h2, rfl⟩
  · rintro ⟨a, h1, h2, rfl⟩
    exact ⟨a, mem_thn.2 ⟨h1, h2⟩, rfl⟩
theorem thl_asc (n : Nat) (p : Nat → Bool) : (thl n p).Pairwise (· < ·) := by
  unfold thl thn'
  rw [List.pairwise_map]
  refine (List.Pairwise.filter p List.pairwise_lt_range).imp fun {a b} h => by omega

/-- The test of a list. -/
def tst (l : List Int) (a : Nat) : Bool := decide ((a : Int) ∈ l)
/-! ### Choosing -/

theorem has_r (l : List Int) (x : Int) (hl : l.length ≤ 1000000000000000) : FnC Try.prog 50 [.list (il l), .int .i64 x] (.bool (decide (x ∈ l))) := by
  refine fnc_of tab_ok Try.func50 rfl (by kernel_rfl) (by rw [Try.ntmps50]; exact Nat.le_add_left 2 _) ?_; rw [Try.ntmps50]
  refine qm ?_
  refine hk_region fun K hK => runs_eval tab_ok ?_
  simp only [ev0, evA, evB, evP, fl, gp, tab, simprocAttr, reduceCtorEq, reduceIte]
  refine fin_run trivial (hK _ ?_) <;> clear hK <;> clear K
  refine qa (qm (qm ?_))
  refine hk_region fun K hK => runs_eval tab_ok ?_
  simp only [ev0, evA, evB, evP, fl, gp, tab, simprocAttr, reduceCtorEq, reduceIte]
  refine fin_run trivial (hK _ ?_) <;> clear hK <;> clear K
  refine qa (ql ?_)
  refine hk_loop (ι := Nat) (fun i => ⟨18, [(0, .p (.list (il l))), (1, .p (.int .i64 x)), (5, .p (.int .i64 i))], []⟩) (fun i => i ≤ l.length ∧ ∀ j, j < i → l.getD j 0 ≠ x) (fun i => l.length - i) 0 ⟨Nat.zero_le _, fun j hj => by omega⟩ [] (by simp only [leq, leA, ev0, evA, evB, evP, fl, gp, tab, simprocAttr, reduceCtorEq, reduceIte] <;> trivial) fun i hi => ?_
  obtain ⟨hi1, hi2⟩ := hi
  refine qm (qm ?_)
  refine hk_region fun K hK => runs_eval tab_ok ?_
  simp only [ev0, evA, evB, evP, fl, gp, tab, simprocAttr, reduceCtorEq, reduceIte]
  refine fin_run trivial (hK _ ?_) <;> clear hK <;> clear K
  refine qa ?_
  refine hk_cond rfl (fun hC1 => ?_) (fun hC1 => ?_)
  · (try simp only [nhs] at hC1)
    have hlt : i < l.length := by omega
    refine qh (qa (qm (ql (qm ?_))))
    refine hk_region fun K hK => runs_eval tab_ok ?_
    simp only [ev0, evA, evB, evP, fl, gp, tab, simprocAttr, reduceCtorEq, reduceIte, il_get hlt]
    refine fin_run ?_ (hK _ ?_) <;> clear hK <;> clear K
    · (first | exact trivial | omega | (simp only [In64] at *; omega) | (simp [In64] at *; omega) | (simp_all; done) | skip)
    refine qa ?_
    refine hk_cond rfl (fun hC2 => ?_) (fun hC2 => ?_)
    · (try simp only [nhs] at hC2)
      refine qm ?_
      refine hk_region fun K hK => runs_eval tab_ok ?_
      simp only [ev0, evA, evB, evP, fl, gp, tab, simprocAttr, reduceCtorEq, reduceIte]
      refine fin_run trivial (hK _ ?_) <;> clear hK <;> clear K
      refine qa (qk (qe (qb (qb (qe (qb ?_))))))
      simp only [Try.results50, enA, ev0, evA, evB, evP, fl, gp, tab, simprocAttr, reduceCtorEq, reduceIte]
      all_goals (rw [eq_comm]; refine decide_eq_true ?_; rw [← hC2]; simp [List.getD, List.getElem?_eq_getElem hlt])
    · (try simp only [nhs] at hC2)
      refine qh (qd (qa ?_))
      refine hk_region fun K hK => runs_eval tab_ok ?_
      simp only [ev0, evA, evB, evP, fl, gp, tab, simprocAttr, reduceCtorEq, reduceIte]
      refine fin_run ?_ (hK _ ?_) <;> clear hK <;> clear K
      · (first | exact trivial | omega | (simp only [In64] at *; omega) | (simp [In64] at *; omega) | (simp_all; done) | skip)
      refine qa ?_
      refine ⟨i + 1, [], ⟨by omega, fun j hj => ?_⟩, by omega, ?_⟩
      · by_cases hj : j = i
        · subst hj; exact hC2
        · exact hi2 j (by omega)
      · simp only [leq, leA, ev0, evA, evB, evP, fl, gp, tab, simprocAttr, reduceCtorEq, reduceIte] <;> omega
  · (try simp only [nhs] at hC1)
    refine qj (qc (qc (qf (qa (qm ?_)))))
    refine hk_region fun K hK => runs_eval tab_ok ?_
    simp only [ev0, evA, evB, evP, fl, gp, tab, simprocAttr, reduceCtorEq, reduceIte]
    refine fin_run trivial (hK _ ?_) <;> clear hK <;> clear K
    refine qa (qk ?_)
    simp only [Try.results50, enA, ev0, evA, evB, evP, fl, gp, tab, simprocAttr, reduceCtorEq, reduceIte]
    all_goals (rw [eq_comm]; refine decide_eq_false fun hm => ?_; obtain ⟨j, hj, e⟩ := List.getElem_of_mem hm; exact hi2 j (by omega) (by simp [List.getD, List.getElem?_eq_getElem hj, e]))

end Go.Proofs.Ytboadfahlflmhaa

/-
  Sets of things: what they make, as the program has it. Conditions: none.
-/
set_option linter.all false
namespace Go.Proofs.Ytboadfahlflmhaa
open Go.Pv

/-- The bits of the things of which something holds. -/
def bo (n : Nat) (p : Nat → Bool) : Nat := msk (thl n p)
theorem bo_bit (n : Nat) (p : Nat → Bool) (i : Nat) : (bo n p).testBit i = (decide (i < n) && p i) := by
  unfold bo
  rw [msk_bit, Bool.eq_iff_iff, decide_eq_true_eq, Bool.and_eq_true, decide_eq_true_eq]
  constructor
  · rintro ⟨x, hx, rfl⟩
    obtain ⟨a, h1, h2, rfl⟩ := mem_thl.1 hx
    exact ⟨h1, h2⟩
  · rintro ⟨h1, h2⟩
    exact ⟨(i : Int), mem_thl.2 ⟨i, h1, h2, rfl⟩, rfl⟩
theorem bo_lt (n : Nat) (p : Nat → Bool) : bo n p < 2 ^ n := msk_lt fun x hx => by
  obtain ⟨a, h1, _, rfl⟩ := mem_thl.1 hx
  exact h1
theorem bo_lt64 {n : Nat} (hn : n ≤ 60) (p : Nat → Bool) : bo n p < 2 ^ 64 := Nat.lt_of_lt_of_le (bo_lt n p) (Nat.pow_le_pow_right (by omega) (by omega))
theorem bo_congr {n : Nat} {p q : Nat → Bool} (h : ∀ a, a < n → p a = q a) : bo n p = bo n q := by unfold bo; rw [thl_congr h]
theorem bo_inj {n : Nat} {p q : Nat → Bool} (h : bo n p = bo n q) {a : Nat} (ha : a < n) : p a = q a := by
  have h1 := bo_bit n p a
  rw [h, bo_bit] at h1
  simpa [ha] using h1.symm
theorem stl_bo {n : Nat} (hn : n ≤ 60) (p : Nat → Bool) : stl (bo n p) = thl n p := by
  rw [stl_n (by omega) (bo_lt n p)]
  exact thl_congr fun a ha => by rw [bo_bit]; simp [ha]
theorem bit_ltn {n s i : Nat} (hs : s < 2 ^ n) (h : s.testBit i = true) : i < n := by
  rcases Nat.lt_or_ge i n with h1 | h1
  · exact h1
  · rw [Nat.testBit_lt_two_pow (Nat.lt_of_lt_of_le hs (Nat.pow_le_pow_right (by omega) h1))] at h; cases h

/-- What holds while a set grows. -/
structure GrowI (n : Nat) (f : Nat → Nat → Nat) (e s out : Nat) (w : List Int) : Prop where
  lt : out < 2 ^ n
  one : out.testBit e = true
  gen : ∀ a, out.testBit a = true → Gen n f e s.testBit a
  wait : ∀ x ∈ w, ∃ a, x = ((a : Nat) : Int) ∧ out.testBit a = true
  nd : w.Nodup

theorem or_bit (s b i : Nat) : (s ||| 2 ^ b).testBit i = (s.testBit i || decide (b = i)) := by rw [Nat.testBit_or, Nat.testBit_two_pow]
theorem GrowI.len {n e s out : Nat} {f : Nat → Nat → Nat} {w : List Int} (h : GrowI n f e s out w) : w.length ≤ n := by
  have h1 := List.Nodup.length_le_of_subset h.nd (l₂ := thl n fun _ => true) fun x hx => by
    obtain ⟨a, rfl, ha⟩ := h.wait x hx
    exact mem_thl.2 ⟨a, bit_ltn h.lt ha, rfl, rfl⟩
  exact Nat.le_trans h1 (thl_le _ _)
theorem GrowI.add {n e s out a z : Nat} {f : Nat → Nat → Nat} {w : List Int} (h : GrowI n f e s out w) (ha : out.testBit a = true) (hz : s.testBit z = true) (hzn : z < n) (hn : f a z < n) (hno : out.testBit (f a z) = false) :
    GrowI n f e s (out ||| 2 ^ f a z) (w ++ [((f a z : Nat) : Int)]) where
  lt := Nat.or_lt_two_pow h.lt (Nat.pow_lt_pow_right (by omega) hn)
  one := by rw [or_bit, h.one]; rfl
  gen y hy := by
    rw [or_bit, Bool.or_eq_true, decide_eq_true_eq] at hy
    rcases hy with hy | rfl
    · exact h.gen y hy
    · exact .step a z (h.gen a ha) hzn hz
  wait x hx := by
    rcases List.mem_append.1 hx with hx | hx
    · obtain ⟨y, e1, e2⟩ := h.wait x hx
      exact ⟨y, e1, by rw [or_bit, e2]; rfl⟩
    · exact ⟨_, List.mem_singleton.1 hx, by rw [or_bit]; simp⟩
  nd := by
    refine List.nodup_append.2 ⟨h.nd, by simp, fun x hx y hy e => ?_⟩
    rw [List.mem_singleton] at hy
    obtain ⟨y', e1, e2⟩ := h.wait x hx
    have : y' = f a z := by omega
    rw [this, hno] at e2; cases e2

end Go.Proofs.Ytboadfahlflmhaa

/-
  Sets of things: what they make, as the document has it. Conditions: none.
-/
set_option linter.all false
namespace Go.Proofs.Ytboadfahlflmhaa
open Go.Pv

/-! ### Looked at -/

theorem thl_get_asc {n : Nat} {p : Nat → Bool} {i j : Nat} (hij : i < j) (hj : j < (thl n p).length) : (thl n p).getD i 0 < (thl n p).getD j 0 := by
  have := List.pairwise_iff_getElem.1 (thl_asc n p) i j (by omega) hj hij
  simpa [List.getD, List.getElem?_eq_getElem hj, List.getElem?_eq_getElem (show i < (thl n p).length by omega)] using this
theorem thl_get {n : Nat} {p : Nat → Bool} {i : Nat} (hi : i < (thl n p).length) : ∃ a, a < n ∧ p a = true ∧ (thl n p).getD i 0 = ((a : Nat) : Int) := by
  have : (thl n p).getD i 0 ∈ thl n p := by simp [List.getD, List.getElem?_eq_getElem hi]
  exact mem_thl.1 this
theorem mem_thl_n {n : Nat} {p : Nat → Bool} {a : Nat} (ha : a < n) : ((a : Nat) : Int) ∈ thl n p ↔ p a = true := by
  rw [mem_thl]
  constructor
  · rintro ⟨b, _, h2, e⟩
    have : a = b := by omega
    subst this; exact h2
  · exact fun h => ⟨a, ha, h, rfl⟩
/-! ### Rows of truths -/

def bl (n : Nat) (r : Nat → Bool) : List PV := (List.range n).map fun a => .bool (r a)
theorem bl_len (n : Nat) (r : Nat → Bool) : (bl n r).length = n := by simp [bl]
theorem bl_get {n : Nat} {r : Nat → Bool} {a : Nat} (ha : a < n) : (bl n r).getD a default = .bool (r a) := by
  simp [bl, List.getD, List.getElem?_map, List.getElem?_range ha]
theorem bl_one (n : Nat) (r : Nat → Bool) : (bl n r).all PV.one = true := by
  simp [bl, PV.one]
theorem obl_get {n : Nat} {r : Nat → Bool} {a : Nat} (ha : a < n) (d : AV) : (opl (bl n r)).getD a d = .p (.bool (r a)) := by
  simp [opl, bl, List.getD, List.getElem?_map, List.getElem?_range ha]
/-- With one more. -/
def upd (r : Nat → Bool) (a i : Nat) : Bool := r i || decide (i = a)
theorem obl_set (n : Nat) (r : Nat → Bool) (a : Nat) : (opl (bl n r)).set a (.p (.bool true)) = opl (bl n (upd r a)) := by
  refine List.ext_getElem (by simp [opl, bl]) fun i h1 h2 => ?_
  simp only [opl, bl, List.length_map, List.length_range, List.length_set] at h1 h2
  rw [List.getElem_set]
  by_cases e : a = i
  · subst e; simp [opl, bl, upd]
  · rw [if_neg e]
    have : decide (i = a) = false := by simp; omega
    simp [opl, bl, upd, this]
theorem obl_new (n : Nat) : List.replicate n (AV.p (.bool false)) = opl (bl n fun _ => false) := by
  refine List.ext_getElem (by simp [opl, bl]) fun i h1 h2 => ?_
  simp [opl, bl]
theorem bl_congr {n : Nat} {r r' : Nat → Bool} (h : ∀ a, a < n → r a = r' a) : bl n r = bl n r' := by
  unfold bl
  refine List.map_congr_left fun a ha => by rw [h a (List.mem_range.1 ha)]
theorem obl_len (n : Nat) (r : Nat → Bool) : (opl (bl n r)).length = n := by rw [opl_length, bl_len]

/-- More bits, a greater number. -/
theorem bo_lt_of {n : Nat} {r r' : Nat → Bool} (h : ∀ a, a < n → r a = true → r' a = true) {a : Nat} (ha : a < n) (h1 : r a = false) (h2 : r' a = true) : bo n r < bo n r' := by
  refine Nat.lt_of_le_of_ne (Nat.le_of_testBit fun i hi => ?_) fun he => ?_
  · rw [bo_bit, Bool.and_eq_true, decide_eq_true_eq] at hi ⊢
    exact ⟨hi.1, h i hi.1 hi.2⟩
  · have := bo_inj he ha
    rw [h1, h2] at this; cases this

theorem bool3 (a b : Bool) : a = false ∨ (a = true ∧ b = false) ∨ (a = true ∧ b = true) := by cases a <;> cases b <;> simp

theorem span1_c (n a : Nat) (r : Nat → Bool) (ha : a < n) (hn : n ≤ 60) : FnC Try.prog 70 [.int .i64 a, .ptr [.list (bl n r)]] (.bool (r a)) := by
  refine fnc_of tab_ok Try.func70 rfl (by kernel_rfl) (by rw [Try.ntmps70]; exact Nat.le_add_left 2 _) ?_; rw [Try.ntmps70]
  refine qm ?_
  refine hk_region fun K hK => runs_eval tab_ok ?_
  simp only [ev0, evA, evB, evP, fl, gp, tab, simprocAttr, reduceCtorEq, reduceIte]
  refine fin_run trivial (hK _ ?_) <;> clear hK <;> clear K
  refine qa (qm ?_)
  refine hk_region fun K hK => runs_eval tab_ok ?_
  simp only [ev0, evA, evB, evP, fl, gp, tab, simprocAttr, reduceCtorEq, reduceIte, bl_get ha, bl_len]
  refine fin_run ?_ (hK _ ?_) <;> clear hK <;> clear K
  · (first | exact trivial | omega | (simp only [In64] at *; omega) | (simp [In64] at *; omega) | (simp_all; done) | skip)
  refine qa (qk ?_)
  simp only [Try.results70, enA, ev0, evA, evB, evP, fl, gp, tab, simprocAttr, reduceCtorEq, reduceIte]
  all_goals (rfl)

end Go.Proofs.Ytboadfahlflmhaa

/-
  Walks: groups that are made of a product. Conditions: none.
-/
set_option linter.all false
namespace Go.Proofs.Ytboadfahlflmhaa
open Go.Pv

/-- A table, by a rule. -/
def tbr (g : Nat → Nat → Int) (n : Nat) : Nat → List Int := rg fun i => g (i / n) (i % n)
def tbl (g : Nat → Nat → Int) (n : Nat) : List Int := tbr g n (n * n)

theorem tbr_succ (g : Nat → Nat → Int) {n a b : Nat} (hb : b < n) : tbr g n (a * n + (b + 1)) = tbr g n (a * n + b) ++ [g a b] := by
  unfold tbr
  rw [← Nat.add_assoc, rg_succ]
  have h1 : (a * n + b) / n = a := by
    rw [Nat.mul_comm, Nat.mul_add_div (by omega), Nat.div_eq_of_lt hb]; omega
  have h2 : (a * n + b) % n = b := by
    rw [Nat.mul_comm, Nat.mul_add_mod, Nat.mod_eq_of_lt hb]
  simp only [h1, h2]
theorem tbr_len (g : Nat → Nat → Int) (n k : Nat) : (tbr g n k).length = k := rg_len _ k
theorem tbl_len (g : Nat → Nat → Int) (n : Nat) : (tbl g n).length = n * n := rg_len _ _
theorem tbl_get (g : Nat → Nat → Int) {n a b : Nat} (ha : a < n) (hb : b < n) : (tbl g n).getD (a * n + b) 0 = g a b := by
  unfold tbl tbr
  rw [rg_get _ (at_lt ha hb)]
  have h1 : (a * n + b) / n = a := by
    rw [Nat.mul_comm, Nat.mul_add_div (by omega), Nat.div_eq_of_lt hb]; omega
  have h2 : (a * n + b) % n = b := by
    rw [Nat.mul_comm, Nat.mul_add_mod, Nat.mod_eq_of_lt hb]
  rw [h1, h2]

def cyc (n a b : Nat) : Nat := (a + b) % n
end Go.Proofs.Ytboadfahlflmhaa

/-
  Sets of things: centres; the square's group; an example of the document. Conditions: none.
-/
set_option linter.all false
namespace Go.Proofs.Ytboadfahlflmhaa
open Go.Pv

/-! ### What two lists have -/

/-! ### Functions of the library -/

/-! ### What commutes with a set -/

/-! ### The square's group -/

end Go.Proofs.Ytboadfahlflmhaa

/-
  Plain law, FROBENIUS' THEOREM, its first part: things whose orders have a power of p come by generators of cyclic subgroups. Conditions: none.
-/
set_option linter.all false
namespace Go.Proofs.Ytboadfahlflmhaa
open Go.Pv

section
variable {n : Nat} {f : Nat → Nat → Nat} {e : Nat}

end
end Go.Proofs.Ytboadfahlflmhaa

/-
  Plain law, FROBENIUS' THEOREM, its second part: centralisers, and what they are after a cyclic part of the centre. Conditions: none.
-/
set_option linter.all false
namespace Go.Proofs.Ytboadfahlflmhaa
open Go.Pv

/-- DOUBLE COUNTING. -/
theorem sum_filter {α β : Type} (R : α → β → Bool) (L1 : List α) : ∀ L2 : List β, (L1.map fun a => (L2.filter (R a)).length).sum = (L2.map fun b => (L1.filter fun a => R a b).length).sum
  | [] => by induction L1 with
    | nil => rfl
    | cons a t ih => simpa using ih
  | b :: t => by
    have ih := sum_filter R L1 t
    have : (L1.map fun a => ((b :: t).filter (R a)).length).sum = (L1.filter fun a => R a b).length + (L1.map fun a => (t.filter (R a)).length).sum := by
      clear ih
      induction L1 with
      | nil => rfl
      | cons a u ihu =>
        have h1 : ((b :: t).filter (R a)).length = (if R a b then 1 else 0) + (t.filter (R a)).length := by
          rw [List.filter_cons]; cases R a b <;> simp <;> omega
        have h2 : ((a :: u).filter fun a => R a b).length = (if R a b then 1 else 0) + (u.filter fun a => R a b).length := by
          rw [List.filter_cons]; cases R a b <;> simp <;> omega
        rw [List.map_cons, List.sum_cons, ihu, List.map_cons, List.sum_cons, h1, h2]
        omega
    rw [this, ih]; simp
theorem sum_const {α : Type} {g : α → Nat} {c : Nat} : ∀ {l : List α}, (∀ a ∈ l, g a = c) → (l.map g).sum = l.length * c
  | [], _ => by simp
  | a :: t, h => by
    rw [List.map_cons, List.sum_cons, h a (by simp), sum_const (fun x hx => h x (by simp [hx])), List.length_cons, Nat.succ_mul]; omega
theorem dbl {α β : Type} (R : α → β → Bool) {L1 : List α} {L2 : List β} {c1 c2 : Nat} (h1 : ∀ a ∈ L1, (L2.filter (R a)).length = c1) (h2 : ∀ b ∈ L2, (L1.filter fun a => R a b).length = c2) : L1.length * c1 = L2.length * c2 := by
  rw [← sum_const h1, ← sum_const h2, sum_filter]

section
variable {n : Nat} {f : Nat → Nat → Nat} {e : Nat}

/-- What commutes with y. -/
def cen (f : Nat → Nat → Nat) (y x : Nat) : Bool := decide (f x y = f y x)
end
end Go.Proofs.Ytboadfahlflmhaa

/-
  Plain law: products of two subgroups; THE PRODUCT FORMULA; DEDEKIND's law; commutators. Conditions: none.
-/
set_option linter.all false
namespace Go.Proofs.Ytboadfahlflmhaa
open Go.Pv

section
variable {n : Nat} {f : Nat → Nat → Nat} {e : Nat}

/-- What is a thing of the first times a thing of the second. -/
def pr2 (n : Nat) (f : Nat → Nat → Nat) (e : Nat) (a b : Nat → Bool) (x : Nat) : Bool := decide (∃ i, i < n ∧ a i = true ∧ b (f (iv n f e i) x) = true)
theorem pr2_iff {a b : Nat → Bool} {x : Nat} : pr2 n f e a b x = true ↔ ∃ i, i < n ∧ a i = true ∧ b (f (iv n f e i) x) = true := by unfold pr2; exact decide_eq_true_iff

theorem Sub.and {a b : Nat → Bool} (ha : Sub n f e a) (hb : Sub n f e b) : Sub n f e fun x => a x && b x where
  one := by simp [ha.one, hb.one]
  mul x y hx hy h1 h2 := by
    rw [Bool.and_eq_true] at *
    exact ⟨ha.mul x y hx hy h1.1 h2.1, hb.mul x y hx hy h1.2 h2.2⟩
  inv x hx h := by
    rw [Bool.and_eq_true] at *
    exact ⟨ha.inv x hx h.1, hb.inv x hx h.2⟩

/-- THE PRODUCT FORMULA. -/
theorem Grp.prod_count (G : Grp n f e) {a b : Nat → Bool} (ha : Sub n f e a) (hb : Sub n f e b) : (mem n (pr2 n f e a b)).length * (mem n fun x => a x && b x).length = (mem n a).length * (mem n b).length := by
  refine dbl (fun x i => b (f (iv n f e i) x)) (fun x hx => ?_) fun i hi => ?_
  · obtain ⟨x1, x2⟩ := mem_mem.1 hx
    obtain ⟨i0, i1, i2, i3⟩ := pr2_iff.1 x2
    have ii := G.iv_lt i1
    rw [← List.length_map (f := fun c => f i0 c) («as» := mem n fun x => a x && b x)]
    refine same_len ((List.nodup_range.filter _).filter _) (nodup_map (List.nodup_range.filter _) fun u hu v hv he => G.cancel_l i1 (mem_mem.1 hu).1 (mem_mem.1 hv).1 he) fun y => ?_
    rw [List.mem_filter, mem_mem, List.mem_map]
    constructor
    · rintro ⟨⟨y1, y2⟩, y3⟩
      have iy := G.iv_lt y1
      refine ⟨f (iv n f e i0) y, mem_mem.2 ⟨G.cl _ _ ii y1, ?_⟩, by rw [← G.assoc _ _ _ i1 ii y1, G.mul_iv i1, G.one_l y y1]⟩
      rw [Bool.and_eq_true]
      refine ⟨ha.mul _ _ ii y1 (ha.inv _ i1 i2) y2, ?_⟩
      have h1 := hb.mul _ _ (G.cl _ _ ii x1) (G.iv_lt (G.cl _ _ iy x1)) i3 (hb.inv _ (G.cl _ _ iy x1) y3)
      rw [G.iv_prod iy x1, G.iv_iv y1, G.assoc _ _ _ ii x1 (G.cl _ _ (G.iv_lt x1) y1), ← G.assoc x _ y x1 (G.iv_lt x1) y1, G.mul_iv x1, G.one_l y y1] at h1
      exact h1
    · rintro ⟨c, hc, rfl⟩
      obtain ⟨c1, c2⟩ := mem_mem.1 hc
      rw [Bool.and_eq_true] at c2
      refine ⟨⟨G.cl _ _ i1 c1, ha.mul _ _ i1 c1 i2 c2.1⟩, ?_⟩
      rw [G.iv_prod i1 c1, G.assoc _ _ _ (G.iv_lt c1) ii x1]
      exact hb.mul _ _ (G.iv_lt c1) (G.cl _ _ ii x1) (hb.inv _ c1 c2.2) i3
  · obtain ⟨i1, i2⟩ := mem_mem.1 hi
    have ii := G.iv_lt i1
    rw [← List.length_map (f := fun c => f i c) («as» := mem n b)]
    refine same_len ((List.nodup_range.filter _).filter _) (nodup_map (List.nodup_range.filter _) fun u hu v hv he => G.cancel_l i1 (mem_mem.1 hu).1 (mem_mem.1 hv).1 he) fun y => ?_
    rw [List.mem_filter, mem_mem, List.mem_map]
    constructor
    · rintro ⟨⟨y1, y2⟩, y3⟩
      exact ⟨f (iv n f e i) y, mem_mem.2 ⟨G.cl _ _ ii y1, y3⟩, by rw [← G.assoc _ _ _ i1 ii y1, G.mul_iv i1, G.one_l y y1]⟩
    · rintro ⟨c, hc, rfl⟩
      obtain ⟨c1, c2⟩ := mem_mem.1 hc
      have h2 : b (f (iv n f e i) (f i c)) = true := by rw [← G.assoc _ _ _ ii i1 c1, G.iv_mul i1, G.one_l c c1]; exact c2
      exact ⟨⟨G.cl _ _ i1 c1, pr2_iff.2 ⟨i, i1, i2, h2⟩⟩, h2⟩

/-- A set of one thing has one place. -/
theorem mem_one {p : Nat → Bool} (he : e < n) (h : ∀ a, a < n → (p a = true ↔ a = e)) : (mem n p).length = 1 := by
  have : (mem n p).length = [e].length := same_len (List.nodup_range.filter _) (by simp) fun x => by
    rw [mem_mem, List.mem_singleton]
    constructor
    · rintro ⟨h1, h2⟩; exact (h x h1).1 h2
    · rintro rfl; exact ⟨he, (h x he).2 rfl⟩
  exact this
theorem one_mem {p : Nat → Bool} (he : e < n) (hp : p e = true) (h : (mem n p).length = 1) {a : Nat} (ha : a < n) (hpa : p a = true) : a = e := by
  obtain ⟨x, hx⟩ := List.length_eq_one_iff.1 h
  have h1 : a ∈ mem n p := mem_mem.2 ⟨ha, hpa⟩
  have h2 : e ∈ mem n p := mem_mem.2 ⟨he, hp⟩
  rw [hx, List.mem_singleton] at h1 h2
  rw [h1, h2]
end
end Go.Proofs.Ytboadfahlflmhaa

/-
  Plain law: classes of an equivalence, by their least things; conjugate things; THE CLASS EQUATION. Conditions: none.
-/
set_option linter.all false
namespace Go.Proofs.Ytboadfahlflmhaa
open Go.Pv

/-- Is a thing the least that it is like? -/
def lead (r : Nat → Nat → Bool) (a : Nat) : Bool := r a a && decide (∀ b, b < a → r a b = false)
theorem lead_iff {r : Nat → Nat → Bool} {a : Nat} : lead r a = true ↔ r a a = true ∧ ∀ b, b < a → r a b = false := by
  unfold lead; rw [Bool.and_eq_true, decide_eq_true_eq]

structure Eqv (n : Nat) (r : Nat → Nat → Bool) : Prop where
  refl : ∀ a, a < n → r a a = true
  symm : ∀ a b, a < n → b < n → r a b = true → r b a = true
  trans : ∀ a b c, a < n → b < n → c < n → r a b = true → r b c = true → r a c = true

/-- The least thing that a thing is like. -/
theorem Eqv.least {n : Nat} {r : Nat → Nat → Bool} (h : Eqv n r) {y : Nat} (hy : y < n) : ∃ x, x < n ∧ lead r x = true ∧ r x y = true := by
  cases hf : fst' (r y) n with
  | none => have := fst_spec0 hf y hy; rw [h.refl y hy] at this; cases this
  | some x =>
    obtain ⟨h1, h2, h3⟩ := fst_spec hf
    refine ⟨x, h1, lead_iff.2 ⟨h.refl x h1, fun b hb => ?_⟩, h.symm y x hy h1 h2⟩
    cases hb2 : r x b with
    | false => rfl
    | true => have := h.trans y x b hy h1 (by omega) h2 hb2; rw [h3 b hb] at this; cases this
theorem Eqv.lead_eq {n : Nat} {r : Nat → Nat → Bool} (h : Eqv n r) {x y : Nat} (hx : x < n) (hy : y < n) (lx : lead r x = true) (ly : lead r y = true) (hr : r x y = true) : x = y := by
  rcases Nat.lt_trichotomy x y with h1 | h1 | h1
  · have := (lead_iff.1 ly).2 x h1; rw [h.symm x y hx hy hr] at this; cases this
  · exact h1
  · have := (lead_iff.1 lx).2 y h1; rw [hr] at this; cases this
/-- Each thing is in one class. -/
theorem Eqv.one {n : Nat} {r : Nat → Nat → Bool} (h : Eqv n r) {y : Nat} (hy : y < n) : ((mem n (lead r)).filter fun x => r x y).length = 1 := by
  obtain ⟨x, x1, x2, x3⟩ := h.least hy
  have : ((mem n (lead r)).filter fun x => r x y).length = [x].length := same_len ((List.nodup_range.filter _).filter _) (by simp) fun z => by
    rw [List.mem_filter, mem_mem, List.mem_singleton]
    constructor
    · rintro ⟨⟨z1, z2⟩, z3⟩
      exact h.lead_eq z1 x1 z2 x2 (h.trans z y x z1 hy x1 z3 (h.symm x y x1 hy x3))
    · rintro rfl
      exact ⟨⟨x1, x2⟩, x3⟩
  exact this
/-- All classes together are all things. -/
theorem Eqv.sum {n : Nat} {r : Nat → Nat → Bool} (h : Eqv n r) : ((mem n (lead r)).map fun x => (mem n (r x)).length).sum = n := by
  have h1 := sum_filter (fun x y => r x y) (mem n (lead r)) (List.range n)
  have h2 : ((List.range n).map fun y => ((mem n (lead r)).filter fun x => r x y).length).sum = (List.range n).length * 1 := sum_const fun y hy => h.one (List.mem_range.1 hy)
  rw [List.length_range, Nat.mul_one] at h2
  exact h1.trans h2

section
variable {n : Nat} {f : Nat → Nat → Nat} {e : Nat}
/-- Is y conjugate to x? -/
def cjb (n : Nat) (f : Nat → Nat → Nat) (e x y : Nat) : Bool := decide (∃ a, a < n ∧ f (f (iv n f e a) x) a = y)
theorem cjb_iff {x y : Nat} : cjb n f e x y = true ↔ ∃ a, a < n ∧ f (f (iv n f e a) x) a = y := by unfold cjb; exact decide_eq_true_iff
theorem Grp.cjr_mul (G : Grp n f e) {x a b : Nat} (hx : x < n) (ha : a < n) (hb : b < n) : f (f (iv n f e b) (f (f (iv n f e a) x) a)) b = f (f (iv n f e (f a b)) x) (f a b) := by
  have ia := G.iv_lt ha
  have ib := G.iv_lt hb
  have h1 := G.cl _ _ ia hx
  rw [G.iv_prod ha hb, ← G.assoc _ (f (iv n f e a) x) a ib h1 ha, G.assoc (f (iv n f e b) (f (iv n f e a) x)) a b (G.cl _ _ ib h1) ha hb, ← G.assoc _ _ x ib ia hx]
theorem Grp.cjb_eqv (G : Grp n f e) : Eqv n (cjb n f e) where
  refl a ha := cjb_iff.2 ⟨e, G.el, by rw [G.iv_one, G.one_l a ha, G.one_r a ha]⟩
  symm a b ha hb h := by
    obtain ⟨c, hc, rfl⟩ := cjb_iff.1 h
    refine cjb_iff.2 ⟨iv n f e c, G.iv_lt hc, ?_⟩
    rw [G.cjr_mul ha hc (G.iv_lt hc), G.mul_iv hc, G.iv_one, G.one_l a ha, G.one_r a ha]
  trans a b c ha hb hc h1 h2 := by
    obtain ⟨x, hx, rfl⟩ := cjb_iff.1 h1
    obtain ⟨y, hy, rfl⟩ := cjb_iff.1 h2
    exact cjb_iff.2 ⟨f x y, G.cl _ _ hx hy, (G.cjr_mul ha hx hy).symm⟩
end
end Go.Proofs.Ytboadfahlflmhaa

/-
  Plain law: classes of conjugate things: how many; things that commute; groups of a prime's power. Conditions: none.
-/
set_option linter.all false
namespace Go.Proofs.Ytboadfahlflmhaa
open Go.Pv

section
variable {n : Nat} {f : Nat → Nat → Nat} {e : Nat}

/-- Classes of what is alike are the same. -/
theorem Eqv.row {r : Nat → Nat → Bool} (h : Eqv n r) {x y : Nat} (hx : x < n) (hy : y < n) (hr : r x y = true) : mem n (r x) = mem n (r y) := by
  unfold mem
  refine List.filter_congr fun z hz => ?_
  have z1 := List.mem_range.1 hz
  rw [Bool.eq_iff_iff]
  exact ⟨fun h1 => h.trans y x z hy hx z1 (h.symm x y hx hy hr) h1, fun h1 => h.trans x y z hx hy z1 hr h1⟩

/-- Does a thing commute with all? -/
def zen (n : Nat) (f : Nat → Nat → Nat) (x : Nat) : Bool := decide (∀ b, b < n → f x b = f b x)
theorem zen_iff {x : Nat} : zen n f x = true ↔ ∀ b, b < n → f x b = f b x := by unfold zen; exact decide_eq_true_iff
theorem Grp.cls_zen (G : Grp n f e) {x : Nat} (hx : x < n) : zen n f x = true ↔ ∀ y, y < n → (cjb n f e x y = true ↔ y = x) := by
  rw [zen_iff]
  constructor
  · intro h y hy
    constructor
    · intro hc
      obtain ⟨a, ha, rfl⟩ := cjb_iff.1 hc
      rw [G.assoc _ x a (G.iv_lt ha) hx ha, h a ha, ← G.assoc _ a x (G.iv_lt ha) ha hx, G.iv_mul ha, G.one_l x hx]
    · rintro rfl; exact G.cjb_eqv.refl y hy
  · intro h b hb
    have ib := G.iv_lt hb
    have h1 := (h _ (G.cl _ _ (G.cl _ _ ib hx) hb)).1 (cjb_iff.2 ⟨b, hb, rfl⟩)
    have h2 : f b (f (f (iv n f e b) x) b) = f b x := by rw [h1]
    rwa [← G.assoc b _ b hb (G.cl _ _ ib hx) hb, ← G.assoc b _ x hb ib hx, G.mul_iv hb, G.one_l x hx] at h2
theorem Grp.ones (G : Grp n f e) : ((mem n (lead (cjb n f e))).filter fun x => decide ((mem n (cjb n f e x)).length = 1)).length = (mem n (zen n f)).length := by
  have E := G.cjb_eqv
  refine same_len ((List.nodup_range.filter _).filter _) (List.nodup_range.filter _) fun x => ?_
  rw [List.mem_filter, mem_mem, mem_mem, decide_eq_true_eq]
  constructor
  · rintro ⟨⟨x1, _⟩, h⟩
    refine ⟨x1, (G.cls_zen x1).2 fun y hy => ⟨fun hc => one_mem x1 (E.refl x x1) h hy hc, ?_⟩⟩
    rintro rfl; exact E.refl y hy
  · rintro ⟨x1, h⟩
    have h1 := (G.cls_zen x1).1 h
    refine ⟨⟨x1, lead_iff.2 ⟨E.refl x x1, fun b hb => ?_⟩⟩, mem_one x1 h1⟩
    cases hv : cjb n f e x b with
    | false => rfl
    | true => have := (h1 b (by omega)).1 hv; omega
/-- A number without whole parts, as the laws ask it. -/
def isPr (p : Nat) : Prop := 2 ≤ p ∧ p ≤ 100 ∧ ∀ d, d < p → 2 ≤ d → ¬ p % d = 0
instance (p : Nat) : Decidable (isPr p) := by unfold isPr; infer_instance
theorem isPr.div {p : Nat} (h : isPr p) {d : Nat} (hd : d ∣ p) : d = 1 ∨ d = p := by
  obtain ⟨h1, _, h3⟩ := h
  have hp := Nat.pos_of_dvd_of_pos hd (by omega)
  have hl := Nat.le_of_dvd (by omega) hd
  by_cases hd1 : d = 1
  · exact .inl hd1
  · by_cases hd2 : d = p
    · exact .inr hd2
    · exact absurd (Nat.mod_eq_zero_of_dvd hd) (h3 d (by omega) (by omega))
theorem isPr.cop {p : Nat} (h : isPr p) {s : Nat} (hs : ¬ p ∣ s) : Nat.gcd p s = 1 := by
  rcases h.div (Nat.gcd_dvd_left p s) with h1 | h1
  · exact h1
  · exact absurd (h1 ▸ Nat.gcd_dvd_right p s) hs
/-- What divides a power of p and is not 1 is a multiple of p. -/
theorem isPr.part {p : Nat} (h : isPr p) {k d : Nat} (hd : d ∣ p ^ k) (h1 : d ≠ 1) : p ∣ d := by
  by_cases hp : p ∣ d
  · exact hp
  · exfalso
    have hc : Nat.Coprime d (p ^ k) := Nat.Coprime.pow_right _ (Nat.Coprime.symm (h.cop hp))
    have : d ∣ Nat.gcd d (p ^ k) := Nat.dvd_gcd (Nat.dvd_refl d) hd
    rw [hc] at this
    exact h1 (Nat.dvd_one.1 this)

end
end Go.Proofs.Ytboadfahlflmhaa

/-
  Conjugated subgroups: normalisers, cores, closures. Conditions: none.
-/
set_option linter.all false
namespace Go.Proofs.Ytboadfahlflmhaa
open Go.Pv

/-- x, conjugated by a. -/
def cjr (n : Nat) (f : Nat → Nat → Nat) (e x a : Nat) : Nat := f (f (iv n f e a) x) a
/-- a^-1 b^-1 a b -/
def cmt (n : Nat) (f : Nat → Nat → Nat) (e a b : Nat) : Nat := f (f (iv n f e a) (iv n f e b)) (f a b)
/-- A set, conjugated. -/
def shf (n : Nat) (f : Nat → Nat → Nat) (e : Nat) (p : Nat → Bool) (a y : Nat) : Bool := decide (∃ x, x < n ∧ p x = true ∧ cjr n f e x a = y)
/-- What lets a set stay. -/
def nzr (n : Nat) (f : Nat → Nat → Nat) (e : Nat) (p : Nat → Bool) (a : Nat) : Bool := decide (∀ y, y < n → shf n f e p a y = p y)
/-- The set stays, whatever it is conjugated by. -/
def Nml (n : Nat) (f : Nat → Nat → Nat) (e : Nat) (p : Nat → Bool) : Prop := ∀ a, a < n → ∀ x, x < n → p x = true → p (cjr n f e x a) = true
def cup (n : Nat) (f : Nat → Nat → Nat) (e : Nat) (p : Nat → Bool) (y : Nat) : Bool := decide (∃ x, x < n ∧ p x = true ∧ ∃ a, a < n ∧ cjr n f e x a = y)

section
variable {n : Nat} {f : Nat → Nat → Nat} {e : Nat}
theorem shf_iff {p : Nat → Bool} {a y : Nat} : shf n f e p a y = true ↔ ∃ x, x < n ∧ p x = true ∧ cjr n f e x a = y := by unfold shf; exact decide_eq_true_iff
theorem nzr_iff {p : Nat → Bool} {a : Nat} : nzr n f e p a = true ↔ ∀ y, y < n → shf n f e p a y = p y := by unfold nzr; exact decide_eq_true_iff
theorem cup_iff {p : Nat → Bool} {y : Nat} : cup n f e p y = true ↔ ∃ x a, x < n ∧ a < n ∧ p x = true ∧ cjr n f e x a = y := by
  unfold cup; rw [decide_eq_true_iff]
  exact ⟨fun ⟨x, h1, h2, a, h3, h4⟩ => ⟨x, a, h1, h3, h2, h4⟩, fun ⟨x, a, h1, h3, h2, h4⟩ => ⟨x, h1, h2, a, h3, h4⟩⟩

theorem Grp.cjr_lt (G : Grp n f e) {x a : Nat} (hx : x < n) (ha : a < n) : cjr n f e x a < n := G.cl _ _ (G.cl _ _ (G.iv_lt ha) hx) ha
theorem Grp.cjr_cjr (G : Grp n f e) {x a b : Nat} (hx : x < n) (ha : a < n) (hb : b < n) : cjr n f e (cjr n f e x a) b = cjr n f e x (f a b) := G.cjr_mul hx ha hb
theorem Grp.cjr_e (G : Grp n f e) {x : Nat} (hx : x < n) : cjr n f e x e = x := by
  unfold cjr; rw [G.iv_one, G.one_l x hx, G.one_r x hx]
theorem Grp.cjr_iv (G : Grp n f e) {x a : Nat} (hx : x < n) (ha : a < n) : cjr n f e (cjr n f e x a) (iv n f e a) = x := by
  rw [G.cjr_cjr hx ha (G.iv_lt ha), G.mul_iv ha, G.cjr_e hx]
theorem Grp.cjr_vi (G : Grp n f e) {x a : Nat} (hx : x < n) (ha : a < n) : cjr n f e (cjr n f e x (iv n f e a)) a = x := by
  rw [G.cjr_cjr hx (G.iv_lt ha) ha, G.iv_mul ha, G.cjr_e hx]
theorem Grp.cjr_hom (G : Grp n f e) {x y a : Nat} (hx : x < n) (hy : y < n) (ha : a < n) : cjr n f e (f x y) a = f (cjr n f e x a) (cjr n f e y a) := by
  have ia := G.iv_lt ha
  have h1 := G.cl _ _ ia hx
  have h2 := G.cl _ _ ia hy
  have h3 := G.cl _ _ h2 ha
  unfold cjr
  rw [G.assoc (f (iv n f e a) x) a _ h1 ha h3, G.assoc (iv n f e a) y a ia hy ha, ← G.assoc a (iv n f e a) (f y a) ha ia (G.cl _ _ hy ha), G.mul_iv ha, G.one_l _ (G.cl _ _ hy ha), ← G.assoc _ y a h1 hy ha, G.assoc _ x y ia hx hy]
theorem Grp.cjr_one (G : Grp n f e) {a : Nat} (ha : a < n) : cjr n f e e a = e := by
  unfold cjr; rw [G.one_r _ (G.iv_lt ha), G.iv_mul ha]
theorem Grp.iv_cjr (G : Grp n f e) {x a : Nat} (hx : x < n) (ha : a < n) : iv n f e (cjr n f e x a) = cjr n f e (iv n f e x) a :=
  (G.iv_unique (G.cjr_lt hx ha) (G.cjr_lt (G.iv_lt hx) ha) (.inl (by rw [← G.cjr_hom hx (G.iv_lt hx) ha, G.mul_iv hx, G.cjr_one ha]))).symm
theorem Grp.cmt_lt (G : Grp n f e) {a b : Nat} (ha : a < n) (hb : b < n) : cmt n f e a b < n := G.cl _ _ (G.cl _ _ (G.iv_lt ha) (G.iv_lt hb)) (G.cl _ _ ha hb)
theorem Grp.cmt_cjr (G : Grp n f e) {x a : Nat} (hx : x < n) (ha : a < n) : cmt n f e x a = f (iv n f e x) (cjr n f e x a) := by
  have ia := G.iv_lt ha
  unfold cmt cjr
  rw [G.assoc _ _ _ (G.iv_lt hx) ia (G.cl _ _ hx ha), G.assoc _ x a ia hx ha]
theorem Grp.cjr_cmt (G : Grp n f e) {x y a : Nat} (hx : x < n) (hy : y < n) (ha : a < n) : cjr n f e (cmt n f e x y) a = cmt n f e (cjr n f e x a) (cjr n f e y a) := by
  have ix := G.iv_lt hx
  have iy := G.iv_lt hy
  unfold cmt
  rw [G.cjr_hom (G.cl _ _ ix iy) (G.cl _ _ hx hy) ha, G.cjr_hom ix iy ha, G.cjr_hom hx hy ha, G.iv_cjr hx ha, G.iv_cjr hy ha]

theorem Grp.shf_back (G : Grp n f e) {p : Nat → Bool} {a y : Nat} (ha : a < n) (hy : y < n) : shf n f e p a y = p (cjr n f e y (iv n f e a)) := by
  rw [Bool.eq_iff_iff, shf_iff]
  constructor
  · rintro ⟨x, x1, x2, rfl⟩; rwa [G.cjr_iv x1 ha]
  · intro h; exact ⟨_, G.cjr_lt hy (G.iv_lt ha), h, G.cjr_vi hy ha⟩
end
end Go.Proofs.Ytboadfahlflmhaa

/-
  Sets of things: conjugated things, commutators, what they make. Conditions: none.
-/
set_option linter.all false
namespace Go.Proofs.Ytboadfahlflmhaa
open Go.Pv

/-! ### Commutators of two lists -/

/-! ### Small words -/

end Go.Proofs.Ytboadfahlflmhaa

/-
  Subgroups, conjugated: Moved, Normaliser, Normal, Core, Closure, and what the document has. Conditions: none.
-/
set_option linter.all false
namespace Go.Proofs.Ytboadfahlflmhaa
open Go.Pv

/-! ### A set, conjugated -/

/-! ### As the document has them -/

end Go.Proofs.Ytboadfahlflmhaa

/-
  Maps by lists of keys. Conditions: none.
-/
set_option linter.all false
namespace Go.Proofs.Ytboadfahlflmhaa
open Go.Pv

/-! ### Maps by lists of keys -/
theorem ll_takeL (ls : List (List Int)) : (ll ls).take ls.length = ll ls := List.take_of_length_le (by rw [ll_length]; exact Nat.le_refl _)
end Go.Proofs.Ytboadfahlflmhaa

/-
  Classes: by what is alike; of conjugate things. Conditions: none.
-/
set_option linter.all false
namespace Go.Proofs.Ytboadfahlflmhaa
open Go.Pv

/-- The classes whose least things are below a. -/
def cstp (n : Nat) (r : Nat → Nat → Bool) (a : Nat) : List (List Int) := ((List.range a).filter (lead r)).map fun x => thl n (r x)
def cst (n : Nat) (r : Nat → Nat → Bool) : List (List Int) := cstp n r n
/-- The class at a place: its least thing. -/
theorem cst_get {n : Nat} {r : Nat → Nat → Bool} {i : Nat} (hi : i < (cst n r).length) : ∃ x, x < n ∧ lead r x = true ∧ (cst n r).getD i [] = thl n (r x) ∧ (mem n (lead r)).getD i 0 = x := by
  unfold cst cstp at hi ⊢
  rw [List.length_map] at hi
  have hm := List.getElem_mem hi
  obtain ⟨h1, h2⟩ := List.mem_filter.1 hm
  refine ⟨_, List.mem_range.1 h1, h2, ?_, ?_⟩
  · simp [List.getD, List.getElem?_eq_getElem hi]
  · unfold mem
    simp [List.getD, List.getElem?_eq_getElem hi]
/-! ### Rows of rows, compared -/

/-! ### Classes of conjugate things -/

/-- What is x, conjugated by an earlier thing. -/
def sp (n : Nat) (f : Nat → Nat → Nat) (e x a y : Nat) : Bool := decide (∃ b, b < a ∧ cjr n f e x b = y)
end Go.Proofs.Ytboadfahlflmhaa

/-
  Cosets: right, left and double; how many, how great. Conditions: none.
-/
set_option linter.all false
namespace Go.Proofs.Ytboadfahlflmhaa
open Go.Pv

/-- The one alone. -/
def onp (e x : Nat) : Bool := decide (x = e)
/-- Is b = x a y for some x of p, y of q? -/
def dco (n : Nat) (f : Nat → Nat → Nat) (p q : Nat → Bool) (a b : Nat) : Bool := decide (∃ x, x < n ∧ p x = true ∧ ∃ y, y < n ∧ q y = true ∧ f (f x a) y = b)

theorem mem_bij {n : Nat} {P Q : Nat → Bool} (g : Nat → Nat) (h1 : ∀ x, x < n → P x = true → g x < n ∧ Q (g x) = true) (hi : ∀ x y, x < n → y < n → P x = true → P y = true → g x = g y → x = y) (h2 : ∀ y, y < n → Q y = true → ∃ x, x < n ∧ P x = true ∧ g x = y) : (mem n P).length = (mem n Q).length := by
  rw [← List.length_map (f := g) («as» := mem n P)]
  refine same_len (nodup_map (List.nodup_range.filter _) fun x hx y hy he => hi x y (mem_mem.1 hx).1 (mem_mem.1 hy).1 (mem_mem.1 hx).2 (mem_mem.1 hy).2 he) (List.nodup_range.filter _) fun y => ?_
  rw [List.mem_map, mem_mem]
  constructor
  · rintro ⟨x, hx, rfl⟩
    exact h1 x (mem_mem.1 hx).1 (mem_mem.1 hx).2
  · rintro ⟨y1, y2⟩
    obtain ⟨x, x1, x2, x3⟩ := h2 y y1 y2
    exact ⟨x, mem_mem.2 ⟨x1, x2⟩, x3⟩
theorem mem_congr {n : Nat} {P Q : Nat → Bool} (h : ∀ a, a < n → P a = Q a) : mem n P = mem n Q := List.filter_congr fun a ha => h a (List.mem_range.1 ha)

section
variable {n : Nat} {f : Nat → Nat → Nat} {e : Nat} {p q : Nat → Bool}
theorem dco_iff {a b : Nat} : dco n f p q a b = true ↔ ∃ x y, x < n ∧ y < n ∧ p x = true ∧ q y = true ∧ f (f x a) y = b := by
  unfold dco; rw [decide_eq_true_iff]
  exact ⟨fun ⟨x, h1, h2, y, h3, h4, h5⟩ => ⟨x, y, h1, h3, h2, h4, h5⟩, fun ⟨x, y, h1, h3, h2, h4, h5⟩ => ⟨x, h1, h2, y, h3, h4, h5⟩⟩
theorem onp_iff {x : Nat} : onp e x = true ↔ x = e := by unfold onp; exact decide_eq_true_iff
theorem Grp.onp_sub (G : Grp n f e) : Sub n f e (onp e) :=
  sub_of G (onp_iff.2 rfl) fun a b ha hb h1 h2 => by
    rw [onp_iff] at *; subst h1; subst h2; exact G.one_l _ ha

theorem Grp.dco_eqv (G : Grp n f e) (hp : Sub n f e p) (hq : Sub n f e q) : Eqv n (dco n f p q) where
  refl a ha := dco_iff.2 ⟨e, e, G.el, G.el, hp.one, hq.one, by rw [G.one_l a ha, G.one_r a ha]⟩
  symm a b ha hb h := by
    obtain ⟨x, y, x1, y1, x2, y2, rfl⟩ := dco_iff.1 h
    have ix := G.iv_lt x1
    have iy := G.iv_lt y1
    have hxa := G.cl _ _ x1 ha
    refine dco_iff.2 ⟨iv n f e x, iv n f e y, ix, iy, hp.inv x x1 x2, hq.inv y y1 y2, ?_⟩
    rw [← G.assoc _ _ y ix hxa y1, ← G.assoc _ x a ix x1 ha, G.iv_mul x1, G.one_l a ha, G.assoc a y _ ha y1 iy, G.mul_iv y1, G.one_r a ha]
  trans a b c ha hb hc h1 h2 := by
    obtain ⟨x, y, x1, y1, x2, y2, rfl⟩ := dco_iff.1 h1
    obtain ⟨u, v, u1, v1, u2, v2, rfl⟩ := dco_iff.1 h2
    have hxa := G.cl _ _ x1 ha
    refine dco_iff.2 ⟨f u x, f y v, G.cl _ _ u1 x1, G.cl _ _ y1 v1, hp.mul _ _ u1 x1 u2 x2, hq.mul _ _ y1 v1 y2 v2, ?_⟩
    rw [G.assoc u x a u1 x1 ha, ← G.assoc _ y v (G.cl _ _ u1 hxa) y1 v1, G.assoc u (f x a) y u1 hxa y1]
/-- Right and left ones. -/
theorem Grp.rco_iff (G : Grp n f e) {a b : Nat} (ha : a < n) (hb : b < n) : dco n f p (onp e) a b = p (f b (iv n f e a)) := by
  rw [Bool.eq_iff_iff, dco_iff]
  constructor
  · rintro ⟨x, y, x1, y1, x2, y2, rfl⟩
    rw [onp_iff.1 y2, G.one_r _ (G.cl _ _ x1 ha), G.assoc x a _ x1 ha (G.iv_lt ha), G.mul_iv ha, G.one_r x x1]; exact x2
  · intro h
    refine ⟨f b (iv n f e a), e, G.cl _ _ hb (G.iv_lt ha), G.el, h, onp_iff.2 rfl, ?_⟩
    rw [G.assoc b _ a hb (G.iv_lt ha) ha, G.iv_mul ha, G.one_r b hb, G.one_r b hb]
/-- As many things in each. -/
theorem Grp.rco_len (G : Grp n f e) {a : Nat} (ha : a < n) : (mem n (dco n f p (onp e) a)).length = (mem n p).length := by
  refine (mem_bij (fun x => f x a) (fun x hx h => ⟨G.cl _ _ hx ha, dco_iff.2 ⟨x, e, hx, G.el, h, onp_iff.2 rfl, G.one_r _ (G.cl _ _ hx ha)⟩⟩) (fun x y hx hy _ _ h => G.cancel_r ha hx hy h) fun y hy h => ?_).symm
  obtain ⟨x, z, x1, z1, x2, z2, rfl⟩ := dco_iff.1 h
  exact ⟨x, x1, x2, by rw [onp_iff.1 z2, G.one_r _ (G.cl _ _ x1 ha)]⟩
theorem sum_same {α : Type} {g : α → Nat} {k : Nat} : ∀ {l : List α}, (∀ x ∈ l, g x = k) → (l.map g).sum = l.length * k
  | [], _ => by simp
  | a :: l, h => by
    rw [List.map_cons, List.sum_cons, sum_same (l := l) fun x hx => h x (by simp [hx]), h a (by simp), List.length_cons, Nat.add_mul, Nat.one_mul, Nat.add_comm]
theorem Grp.rco_num (G : Grp n f e) (hp : Sub n f e p) : (mem n (lead (dco n f p (onp e)))).length * (mem n p).length = n := by
  have h := (G.dco_eqv hp G.onp_sub).sum
  rwa [sum_same fun x hx => G.rco_len (mem_mem.1 hx).1] at h
theorem Sub.pos (hp : Sub n f e p) (he : e < n) : 0 < (mem n p).length := List.length_pos_of_mem (mem_mem.2 ⟨he, hp.one⟩)
/-- A subgroup, conjugated. -/
theorem Grp.shf_sub (G : Grp n f e) (hp : Sub n f e p) {a : Nat} (ha : a < n) : Sub n f e (shf n f e p a) :=
  sub_of G (shf_iff.2 ⟨e, G.el, hp.one, G.cjr_one ha⟩) fun x y hx hy h1 h2 => by
    obtain ⟨u, u1, u2, rfl⟩ := shf_iff.1 h1
    obtain ⟨v, v1, v2, rfl⟩ := shf_iff.1 h2
    exact shf_iff.2 ⟨f u v, G.cl _ _ u1 v1, hp.mul _ _ u1 v1 u2 v2, G.cjr_hom u1 v1 ha⟩
theorem Grp.shf_len (G : Grp n f e) {a : Nat} (ha : a < n) : (mem n (shf n f e p a)).length = (mem n p).length := by
  refine (mem_bij (fun x => cjr n f e x a) (fun x hx h => ⟨G.cjr_lt hx ha, shf_iff.2 ⟨x, hx, h, rfl⟩⟩) (fun x y hx hy _ _ h => ?_) fun y hy h => ?_).symm
  · have := congrArg (fun z => cjr n f e z (iv n f e a)) h
    simp only [G.cjr_iv hx ha, G.cjr_iv hy ha] at this
    exact this
  · obtain ⟨x, x1, x2, x3⟩ := shf_iff.1 h
    exact ⟨x, x1, x2, x3⟩
/-- FROBENIUS: how many things a double coset has. -/
theorem Grp.dco_count (G : Grp n f e) (hp : Sub n f e p) (hq : Sub n f e q) {a : Nat} (ha : a < n) : (mem n (dco n f p q a)).length * (mem n fun x => shf n f e p a x && q x).length = (mem n p).length * (mem n q).length := by
  have h := G.prod_count (G.shf_sub hp ha) hq
  rw [G.shf_len ha] at h
  rw [← h]
  congr 1
  have ia := G.iv_lt ha
  refine mem_bij (fun x => f (iv n f e a) x) (fun x hx h => ⟨G.cl _ _ ia hx, ?_⟩) (fun x y hx hy _ _ h => G.cancel_l ia hx hy h) fun y hy h => ?_
  · obtain ⟨u, v, u1, v1, u2, v2, rfl⟩ := dco_iff.1 h
    have hua := G.cl _ _ u1 ha
    have hc := G.cjr_lt u1 ha
    refine pr2_iff.2 ⟨cjr n f e u a, hc, shf_iff.2 ⟨u, u1, u2, rfl⟩, ?_⟩
    have : f (iv n f e a) (f (f u a) v) = f (cjr n f e u a) v := by
      unfold cjr
      rw [← G.assoc _ (f u a) v ia hua v1, ← G.assoc _ u a ia u1 ha]
    rw [this, ← G.assoc _ _ v (G.iv_lt hc) hc v1, G.iv_mul hc, G.one_l v v1]; exact v2
  · obtain ⟨i, i1, i2, i3⟩ := pr2_iff.1 h
    obtain ⟨u, u1, u2, rfl⟩ := shf_iff.1 i2
    refine ⟨f a y, G.cl _ _ ha hy, dco_iff.2 ⟨u, _, u1, G.cl _ _ (G.iv_lt i1) hy, u2, i3, ?_⟩, ?_⟩
    · have hua := G.cl _ _ u1 ha
      have : f u a = f a (cjr n f e u a) := by
        unfold cjr
        rw [← G.assoc a _ a ha (G.cl _ _ ia u1) ha, ← G.assoc a _ u ha ia u1, G.mul_iv ha, G.one_l u u1]
      rw [this, G.assoc a _ _ ha i1 (G.cl _ _ (G.iv_lt i1) hy), ← G.assoc _ _ y i1 (G.iv_lt i1) hy, G.mul_iv i1, G.one_l y hy]
    · show f (iv n f e a) (f a y) = y
      rw [← G.assoc _ a y ia ha hy, G.iv_mul ha, G.one_l y hy]

/-! ### Towers -/

/-- Classes in a set that has whole classes. -/
theorem Eqv.part {r : Nat → Nat → Bool} (h : Eqv n r) {K : Nat → Bool} (hK : ∀ x y, x < n → y < n → r x y = true → K x = true → K y = true) : ((mem n fun x => lead r x && K x).map fun x => (mem n (r x)).length).sum = (mem n K).length := by
  have h1 := sum_filter (fun x y => r x y) (mem n fun x => lead r x && K x) (List.range n)
  have h2 : ∀ y, y ∈ List.range n → ((mem n fun x => lead r x && K x).filter fun x => r x y).length = if K y = true then 1 else 0 := fun y hy => by
    have y1 := List.mem_range.1 hy
    by_cases hk : K y = true
    · rw [if_pos hk, ← h.one y1]
      congr 1
      unfold mem
      rw [List.filter_filter, List.filter_filter]
      refine List.filter_congr fun x hx => ?_
      have x1 := List.mem_range.1 hx
      cases hr : r x y with
      | false => simp
      | true => rw [hK y x y1 x1 (h.symm x y x1 y1 hr) hk]; simp
    · rw [if_neg hk, List.length_eq_zero_iff, List.filter_eq_nil_iff]
      intro x hx hr
      obtain ⟨x1, x2⟩ := mem_mem.1 hx
      rw [Bool.and_eq_true] at x2
      exact hk (hK x y x1 y1 hr x2.2)
  have h3 : ((List.range n).map fun y => ((mem n fun x => lead r x && K x).filter fun x => r x y).length).sum = (mem n K).length := by
    rw [List.map_congr_left h2]
    unfold mem
    generalize List.range n = L
    induction L with
    | nil => rfl
    | cons a L ih => rw [List.map_cons, List.sum_cons, ih, List.filter_cons]; by_cases hk : K a = true <;> simp [hk, Nat.add_comm]
  exact h1.trans h3
/-! ### Sides -/

end
end Go.Proofs.Ytboadfahlflmhaa

/-
  Series of subgroups: commutators of commutators, from all on; what commutes up to the last one, from the one on. Conditions: none.
-/
set_option linter.all false
namespace Go.Proofs.Ytboadfahlflmhaa
open Go.Pv

/-- What commutes with all, up to a set. -/
def unx (n : Nat) (f : Nat → Nat → Nat) (e : Nat) (p : Nat → Bool) (a : Nat) : Bool := decide (∀ b, b < n → p (cmt n f e a b) = true)
def itr (nx : (Nat → Bool) → Nat → Bool) (p : Nat → Bool) : Nat → Nat → Bool
  | 0 => p
  | k + 1 => nx (itr nx p k)
/-- A series comes to its end at K. -/
structure Stp (n : Nat) (T : Nat → Nat → Bool) (K : Nat) : Prop where
  eq : ∀ a, a < n → T (K + 1) a = T K a
  ne : ∀ j, j < K → ¬ ∀ a, a < n → T (j + 1) a = T j a

theorem mem_lt {n : Nat} {p q : Nat → Bool} (h : ∀ a, a < n → q a = true → p a = true) (hne : ¬ ∀ a, a < n → q a = p a) : (mem n q).length < (mem n p).length := by
  have h1 : mem n q = (mem n p).filter q := by
    unfold mem
    rw [List.filter_filter]
    refine List.filter_congr fun a ha => ?_
    have := h a (List.mem_range.1 ha)
    cases hq : q a with
    | false => simp
    | true => simp [this hq]
  have h2 : (mem n q).Sublist (mem n p) := by rw [h1]; exact List.filter_sublist
  rcases Nat.lt_or_eq_of_le h2.length_le with h3 | h3
  · exact h3
  · exfalso
    have h4 := h2.eq_of_length h3
    refine hne fun a ha => ?_
    rw [Bool.eq_iff_iff]
    have : a ∈ mem n q ↔ a ∈ mem n p := by rw [h4]
    rw [mem_mem, mem_mem] at this
    exact ⟨fun h => (this.1 ⟨ha, h⟩).2, fun h => (this.2 ⟨ha, h⟩).2⟩

theorem Stp.after {n : Nat} {nx : (Nat → Bool) → Nat → Bool} {p : Nat → Bool} {K : Nat} (hx : ∀ p q : Nat → Bool, (∀ a, a < n → p a = q a) → ∀ a, a < n → nx p a = nx q a) (h : Stp n (itr nx p) K) : ∀ j a, a < n → itr nx p (K + j) a = itr nx p K a
  | 0, a, ha => rfl
  | j + 1, a, ha => by
    have h1 := hx _ _ (fun b hb => Stp.after hx h j b hb) a ha
    exact h1.trans (h.eq a ha)

section
variable {n : Nat} {f : Nat → Nat → Nat} {e : Nat}
theorem unx_iff {p : Nat → Bool} {a : Nat} : unx n f e p a = true ↔ ∀ b, b < n → p (cmt n f e a b) = true := by unfold unx; exact decide_eq_true_iff
theorem Gen.congr {p q : Nat → Bool} (h : ∀ a, a < n → p a = q a) {a : Nat} : Gen n f e p a ↔ Gen n f e q a :=
  ⟨Gen.mono fun b hb h1 => by rw [← h b hb]; exact h1, Gen.mono fun b hb h1 => by rw [h b hb]; exact h1⟩
theorem Grp.all_sub (G : Grp n f e) : Sub n f e fun _ => true := sub_of G rfl fun _ _ _ _ _ _ => rfl
theorem Grp.one_nml (G : Grp n f e) : Nml n f e (onp e) := fun a ha x hx h => by
  rw [onp_iff] at *
  rw [h, G.cjr_one ha]
theorem Grp.cmt_in (G : Grp n f e) {p : Nat → Bool} (hs : Sub n f e p) (hn : Nml n f e p) {x b : Nat} (hx : x < n) (hb : b < n) (h : p x = true) : p (cmt n f e x b) = true := by
  rw [G.cmt_cjr hx hb]
  exact hs.mul _ _ (G.iv_lt hx) (G.cjr_lt hx hb) (hs.inv x hx h) (hn b hb x hx h)

/-! ### Falling -/

section
variable {nx : (Nat → Bool) → Nat → Bool}
end
/-! ### Rising -/

theorem Grp.unx_in (G : Grp n f e) {p : Nat → Bool} (hs : Sub n f e p) (hn : Nml n f e p) {x : Nat} (hx : x < n) (h : p x = true) : unx n f e p x = true := unx_iff.2 fun b hb => G.cmt_in hs hn hx hb h
theorem Grp.unx_sub (G : Grp n f e) {p : Nat → Bool} (hs : Sub n f e p) (hn : Nml n f e p) : Sub n f e (unx n f e p) := by
  refine sub_of G (G.unx_in hs hn G.el hs.one) fun x y hx hy h1 h2 => unx_iff.2 fun b hb => ?_
  have ix := G.iv_lt hx
  have iy := G.iv_lt hy
  have hxb := G.cjr_lt hx hb
  have hyb := G.cjr_lt hy hb
  have hcx := G.cmt_lt hx hb
  have h3 := hs.mul _ _ (G.cjr_lt hcx hy) (G.cmt_lt hy hb) (hn y hy _ hcx (unx_iff.1 h1 b hb)) (unx_iff.1 h2 b hb)
  have : cmt n f e (f x y) b = f (cjr n f e (cmt n f e x b) y) (cmt n f e y b) := by
    have e1 : cjr n f e (cmt n f e x b) y = f (f (iv n f e y) (cmt n f e x b)) y := rfl
    rw [G.cmt_cjr (G.cl _ _ hx hy) hb, G.iv_prod hx hy, G.cjr_hom hx hy hb, e1, G.cmt_cjr hy hb, G.assoc (f (iv n f e y) (cmt n f e x b)) y _ (G.cl _ _ iy hcx) hy (G.cl _ _ iy hyb), ← G.assoc y (iv n f e y) _ hy iy hyb, G.mul_iv hy, G.one_l _ hyb, G.cmt_cjr hx hb, G.assoc (iv n f e y) (iv n f e x) _ iy ix (G.cl _ _ hxb hyb), ← G.assoc (iv n f e x) _ _ ix hxb hyb, ← G.assoc (iv n f e y) _ _ iy (G.cl _ _ ix hxb) hyb]
  rw [this]; exact h3
theorem Grp.unx_nml (G : Grp n f e) {p : Nat → Bool} (hn : Nml n f e p) : Nml n f e (unx n f e p) := fun c hc x hx h => unx_iff.2 fun b hb => by
  have ic := G.iv_lt hc
  have hbc := G.cjr_lt hb ic
  have h1 := hn c hc _ (G.cmt_lt hx hbc) (unx_iff.1 h _ hbc)
  rwa [G.cjr_cmt hx hbc hc, G.cjr_vi hb hc] at h1
theorem Grp.rise (G : Grp n f e) : ∀ k, Sub n f e (itr (unx n f e) (onp e) k) ∧ Nml n f e (itr (unx n f e) (onp e) k)
  | 0 => ⟨G.onp_sub, G.one_nml⟩
  | k + 1 => ⟨G.unx_sub (G.rise k).1 (G.rise k).2, G.unx_nml (G.rise k).2⟩
end
end Go.Proofs.Ytboadfahlflmhaa

/-
  Series of subgroups, as the program has them. Conditions: none.
-/
set_option linter.all false
namespace Go.Proofs.Ytboadfahlflmhaa
open Go.Pv

theorem Stp.at {n : Nat} {T : Nat → Nat → Bool} {K k : Nat} (h : Stp n T K) (hk : k ≤ K) : bo n (T (k + 1)) = bo n (T k) ↔ k = K := by
  constructor
  · intro he
    rcases Nat.lt_or_eq_of_le hk with h1 | h1
    · exact absurd (fun a ha => bo_inj he ha) (h.ne k h1)
    · exact h1
  · rintro rfl
    exact bo_congr h.eq
/-! ### Derived, Lower -/

section
variable {n e : Nat} {m : List Int}
end
/-! ### Upper -/

/-! ### An example of the document -/

end Go.Proofs.Ytboadfahlflmhaa

/-
  What reads as one value reads as another. Conditions: none.
-/
set_option linter.all false
namespace Go.Proofs.Ytboadfahlflmhaa
open Go.Pv

/-! ### What reads as one reads as another -/

def Rle (a b : PV) : Prop := ∀ (ok : Nat → Prop) (w : World) (v : Value), Reads ok w a v → Reads ok w b v
theorem Rle.rfl {a : PV} : Rle a a := fun _ _ _ h => h
theorem Rle.nn {l : List PV} : Rle (.nn l) (.list l) := fun _ _ _ h => h.nn_list
def Rles : List PV → List PV → Prop
  | [], [] => True
  | a :: r, b :: s => Rle a b ∧ Rles r s
  | _, _ => False
theorem Rles.len : ∀ {l r : List PV}, Rles l r → l.length = r.length
  | [], [], _ => by rfl
  | a :: l, b :: r, h => by simp [Rles.len h.2]
  | [], _ :: _, h => h.elim
  | _ :: _, [], h => h.elim
theorem Rles.get : ∀ {l r : List PV}, Rles l r → ∀ (i : Nat) (h : i < l.length) (h' : i < r.length), Rle l[i] r[i]
  | a :: l, b :: r, h, 0, _, _ => h.1
  | a :: l, b :: r, h, i + 1, h1, h2 => by simpa using Rles.get h.2 i (by simpa using h1) (by simpa using h2)
  | [], [], _, i, h, _ => by simp at h
  | [], _ :: _, h, _, _, _ => h.elim
  | _ :: _, [], h, _, _, _ => h.elim
end Go.Proofs.Ytboadfahlflmhaa

/-
  Classes: where things stand; powers of classes; pairs that commute. Conditions: none.
-/
set_option linter.all false
namespace Go.Proofs.Ytboadfahlflmhaa
open Go.Pv

theorem cst_len (n : Nat) (r : Nat → Nat → Bool) : (cst n r).length = (mem n (lead r)).length := by
  unfold cst cstp mem
  rw [List.length_map]

/-- The place of the first list that has a thing; -1: none has. -/
def wch (l : List (List Int)) (x : Int) : Int := match fst' (fun i => decide (x ∈ l.getD i [])) l.length with | some i => (i : Int) | none => -1

/-- A row by a rule. -/
def rgz (n : Nat) (g : Nat → Int) : List Int := (List.range n).map g
theorem rgz_len (n : Nat) (g : Nat → Int) : (rgz n g).length = n := by simp [rgz]
theorem rgz_congr {n : Nat} {g g' : Nat → Int} (h : ∀ a, a < n → g a = g' a) : rgz n g = rgz n g' := List.map_congr_left fun a ha => h a (List.mem_range.1 ha)
theorem rgz_set (n : Nat) (g : Nat → Int) (c : Nat) (x : Int) : (rgz n g).set c x = rgz n fun a => if a = c then x else g a := by
  refine List.ext_getElem (by simp [rgz]) fun i h1 h2 => ?_
  rw [List.getElem_set]
  by_cases e : c = i
  · subst e; simp [rgz]
  · rw [if_neg e]
    simp [rgz, Ne.symm e]
theorem rgz_new (n : Nat) : List.replicate n (AV.p (.int .i64 0)) = ol (rgz n fun _ => 0) := by
  refine List.ext_getElem (by simp [ol, il, rgz]) fun i h1 h2 => ?_
  simp [ol, il, rgz]

theorem cst_apart {n : Nat} {r : Nat → Nat → Bool} (h : Eqv n r) {i j a : Nat} (hi : i < (cst n r).length) (hj : j < (cst n r).length) (ha : a < n) (h1 : ((a : Nat) : Int) ∈ (cst n r).getD i []) (h2 : ((a : Nat) : Int) ∈ (cst n r).getD j []) : i = j := by
  obtain ⟨x, x1, x2, x3, x4⟩ := cst_get hi
  obtain ⟨y, y1, y2, y3, y4⟩ := cst_get hj
  rw [x3, mem_thl_n ha] at h1
  rw [y3, mem_thl_n ha] at h2
  have hxy : x = y := h.lead_eq x1 y1 x2 y2 (h.trans x a y x1 ha y1 h1 (h.symm y a y1 ha h2))
  subst hxy
  have hn : (mem n (lead r)).Nodup := List.nodup_range.filter _
  have hl := cst_len n r
  exact at_inj hn (by omega) (by omega) (x4.trans y4.symm)
theorem cst_in {n : Nat} {r : Nat → Nat → Bool} (h : Eqv n r) {a : Nat} (ha : a < n) : ∃ i, i < (cst n r).length ∧ ((a : Nat) : Int) ∈ (cst n r).getD i [] := by
  obtain ⟨x, x1, x2, x3⟩ := h.least ha
  obtain ⟨i, hi, e⟩ := List.getElem_of_mem (mem_mem.2 ⟨x1, x2⟩ : x ∈ mem n (lead r))
  have hl := cst_len n r
  refine ⟨i, by omega, ?_⟩
  obtain ⟨y, y1, y2, y3, y4⟩ := cst_get (n := n) (r := r) (i := i) (by omega)
  rw [y3, mem_thl_n ha]
  have : y = x := by rw [← y4]; simp [List.getD, List.getElem?_eq_getElem hi, e]
  rw [this]; exact x3
theorem wch_at {n : Nat} {r : Nat → Nat → Bool} (h : Eqv n r) {i a : Nat} (hi : i < (cst n r).length) (ha : a < n) (h1 : ((a : Nat) : Int) ∈ (cst n r).getD i []) : wch (cst n r) a = (i : Int) := by
  have e : fst' (fun k => decide (((a : Nat) : Int) ∈ (cst n r).getD k [])) (cst n r).length = some i := fst_some hi (decide_eq_true h1) fun j hj => decide_eq_false fun h2 => by
    have := cst_apart h hi (by omega) ha h1 h2
    omega
  simp only [wch, e]

end Go.Proofs.Ytboadfahlflmhaa

/-
  Cosets: right, left and double, of the program and of the document. Conditions: none.
-/
set_option linter.all false
namespace Go.Proofs.Ytboadfahlflmhaa
open Go.Pv

/-! ### Gathered -/

/-! ### Products of a set, a thing and a set -/

/-! ### As the document has them -/

/-! ### An example of the document -/

end Go.Proofs.Ytboadfahlflmhaa

/-
  The quotient of a group by a congruence; by a normal subgroup. Conditions: none.
-/
set_option linter.all false
namespace Go.Proofs.Ytboadfahlflmhaa
open Go.Pv

/-- Places for classes: of each thing its place; of each place a thing. -/
structure Qm (n : Nat) (f : Nat → Nat → Nat) (k : Nat) (cl rep : Nat → Nat) : Prop where
  lt : ∀ a, a < n → cl a < k
  rlt : ∀ i, i < k → rep i < n
  at_ : ∀ i, i < k → cl (rep i) = i
  cong : ∀ a b c d, a < n → b < n → c < n → d < n → cl a = cl b → cl c = cl d → cl (f a c) = cl (f b d)

section
variable {n : Nat} {f : Nat → Nat → Nat} {e : Nat} {p : Nat → Bool}
def qop (f : Nat → Nat → Nat) (cl rep : Nat → Nat) (i j : Nat) : Nat := cl (f (rep i) (rep j))
theorem Qm.op {k : Nat} {cl rep : Nat → Nat} (Q : Qm n f k cl rep) {a b : Nat} (ha : a < n) (hb : b < n) : qop f cl rep (cl a) (cl b) = cl (f a b) :=
  Q.cong _ _ _ _ (Q.rlt _ (Q.lt a ha)) ha (Q.rlt _ (Q.lt b hb)) hb (Q.at_ _ (Q.lt a ha)) (Q.at_ _ (Q.lt b hb))
theorem Qm.grp {k : Nat} {cl rep : Nat → Nat} (Q : Qm n f k cl rep) (G : Grp n f e) : Grp k (qop f cl rep) (cl e) where
  pos := Nat.lt_of_le_of_lt (Nat.zero_le _) (Q.lt e G.el)
  cl i j hi hj := Q.lt _ (G.cl _ _ (Q.rlt i hi) (Q.rlt j hj))
  el := Q.lt e G.el
  one_l i hi := by
    have h1 := Q.rlt i hi
    have h2 := Q.op G.el h1
    rw [Q.at_ i hi, G.one_l _ h1, Q.at_ i hi] at h2; exact h2
  one_r i hi := by
    have h1 := Q.rlt i hi
    have h2 := Q.op h1 G.el
    rw [Q.at_ i hi, G.one_r _ h1, Q.at_ i hi] at h2; exact h2
  assoc i j l hi hj hl := by
    have h1 := Q.rlt i hi
    have h2 := Q.rlt j hj
    have h3 := Q.rlt l hl
    have e1 := Q.op (G.cl _ _ h1 h2) h3
    have e2 := Q.op h1 (G.cl _ _ h2 h3)
    rw [Q.at_ l hl] at e1
    rw [Q.at_ i hi] at e2
    have e3 : qop f cl rep i j = cl (f (rep i) (rep j)) := rfl
    have e4 : qop f cl rep j l = cl (f (rep j) (rep l)) := rfl
    rw [e3, e4, e1, e2, G.assoc _ _ _ h1 h2 h3]
  inv i hi := by
    have h1 := Q.rlt i hi
    have h2 := G.iv_lt h1
    have e1 := Q.op h1 h2
    have e2 := Q.op h2 h1
    rw [Q.at_ i hi] at e1 e2
    exact ⟨_, Q.lt _ h2, by rw [e1, G.mul_iv h1], by rw [e2, G.iv_mul h1]⟩

/-- Of a normal subgroup: alike things have alike products. -/
theorem Grp.rco_cong (G : Grp n f e) (hp : Sub n f e p) (hn : Nml n f e p) {a b c d : Nat} (ha : a < n) (hb : b < n) (hc : c < n) (hd : d < n) (h1 : dco n f p (onp e) a b = true) (h2 : dco n f p (onp e) c d = true) : dco n f p (onp e) (f a c) (f b d) = true := by
  have ia := G.iv_lt ha
  have ic := G.iv_lt hc
  have h3 := G.cl _ _ hb ia
  have h4 := G.cl _ _ hd ic
  rw [G.rco_iff ha hb] at h1
  rw [G.rco_iff hc hd] at h2
  rw [G.rco_iff (G.cl _ _ ha hc) (G.cl _ _ hb hd), G.iv_prod ha hc]
  -- b d c' a' = (b a') (a (d c') a')
  have h5 := hn _ ia _ h4 h2
  unfold cjr at h5
  rw [G.iv_iv ha] at h5
  have h6 := hp.mul _ _ h3 (G.cl _ _ (G.cl _ _ ha h4) ia) h1 h5
  have e1 : f (f b (iv n f e a)) (f (f a (f d (iv n f e c))) (iv n f e a)) = f (f b d) (f (iv n f e c) (iv n f e a)) := by
    rw [G.assoc b _ _ hb ia (G.cl _ _ (G.cl _ _ ha h4) ia), G.assoc a _ _ ha h4 ia, ← G.assoc _ a _ ia ha (G.cl _ _ h4 ia), G.iv_mul ha, G.one_l _ (G.cl _ _ h4 ia), G.assoc d _ _ hd ic ia, ← G.assoc b d _ hb hd (G.cl _ _ ic ia)]
  rw [← e1]; exact h6
end
end Go.Proofs.Ytboadfahlflmhaa

/-
  Tables by a rule. Conditions: none.
-/
set_option linter.all false
namespace Go.Proofs.Ytboadfahlflmhaa
open Go.Pv

theorem Grp.cong' {n : Nat} {f f' : Nat → Nat → Nat} {e : Nat} (G : Grp n f e) (h : ∀ a b, a < n → b < n → f' a b = f a b) : Grp n f' e := by
  refine ⟨G.pos, fun a b ha hb => by rw [h a b ha hb]; exact G.cl a b ha hb, G.el, fun a ha => by rw [h e a G.el ha]; exact G.one_l a ha, fun a ha => by rw [h a e ha G.el]; exact G.one_r a ha, fun a b c ha hb hc => ?_, fun a ha => ?_⟩
  · rw [h a b ha hb, h _ c (G.cl a b ha hb) hc, h b c hb hc, h a _ ha (G.cl b c hb hc)]
    exact G.assoc a b c ha hb hc
  · obtain ⟨b, hb, h1, h2⟩ := G.inv a ha
    exact ⟨b, hb, by rw [h a b ha hb]; exact h1, by rw [h b a hb ha]; exact h2⟩
end Go.Proofs.Ytboadfahlflmhaa

/-
  Quotients, of the program and of the document. Conditions: none.
-/
set_option linter.all false
namespace Go.Proofs.Ytboadfahlflmhaa
open Go.Pv

/-! ### Places of classes -/

def rpq (n : Nat) (r : Nat → Nat → Bool) (i : Nat) : Nat := (mem n (lead r)).getD i 0
def clq (n : Nat) (r : Nat → Nat → Bool) (a : Nat) : Nat := (wch (cst n r) a).toNat
section
variable {n : Nat} {r : Nat → Nat → Bool}
theorem clq_at (E : Eqv n r) {a : Nat} (ha : a < n) : clq n r a < (cst n r).length ∧ wch (cst n r) a = (clq n r a : Int) ∧ ((a : Nat) : Int) ∈ (cst n r).getD (clq n r a) [] := by
  obtain ⟨i, i1, i2⟩ := cst_in E ha
  have h1 := wch_at E i1 ha i2
  have h2 : clq n r a = i := by unfold clq; rw [h1]; rfl
  rw [h2]
  exact ⟨i1, h1, i2⟩
theorem clq_iff (E : Eqv n r) {a b : Nat} (ha : a < n) (hb : b < n) : clq n r a = clq n r b ↔ r a b = true := by
  obtain ⟨a1, a2, a3⟩ := clq_at E ha
  obtain ⟨b1, b2, b3⟩ := clq_at E hb
  obtain ⟨x, x1, x2, x3, x4⟩ := cst_get a1
  rw [x3, mem_thl_n ha] at a3
  constructor
  · intro he
    rw [← he, x3, mem_thl_n hb] at b3
    exact E.trans a x b ha x1 hb (E.symm x a x1 ha a3) b3
  · intro hr
    have : ((b : Nat) : Int) ∈ (cst n r).getD (clq n r a) [] := by rw [x3, mem_thl_n hb]; exact E.trans x a b x1 ha hb a3 hr
    exact cst_apart E a1 b1 hb this b3
theorem rpq_at (E : Eqv n r) {i : Nat} (hi : i < (cst n r).length) : rpq n r i < n ∧ clq n r (rpq n r i) = i ∧ (cst n r).getD i [] = thl n (r (rpq n r i)) ∧ lead r (rpq n r i) = true := by
  obtain ⟨x, x1, x2, x3, x4⟩ := cst_get hi
  have h1 : rpq n r i = x := x4
  rw [h1]
  have h2 : ((x : Nat) : Int) ∈ (cst n r).getD i [] := by rw [x3, mem_thl_n x1]; exact E.refl x x1
  have h3 := wch_at E hi x1 h2
  exact ⟨x1, by unfold clq; rw [h3]; rfl, x3, x2⟩
theorem cst_qm {f : Nat → Nat → Nat} {e : Nat} (G : Grp n f e) (E : Eqv n r) (hc : ∀ a b c d, a < n → b < n → c < n → d < n → r a b = true → r c d = true → r (f a c) (f b d) = true) : Qm n f (cst n r).length (clq n r) (rpq n r) where
  lt a ha := (clq_at E ha).1
  rlt i hi := (rpq_at E hi).1
  at_ i hi := (rpq_at E hi).2.1
  cong a b c d ha hb hc' hd h1 h2 := (clq_iff E (G.cl _ _ ha hc') (G.cl _ _ hb hd)).2 (hc a b c d ha hb hc' hd ((clq_iff E ha hb).1 h1) ((clq_iff E hc' hd).1 h2))
end
end Go.Proofs.Ytboadfahlflmhaa

/-
  Parts of a group as groups; what a group does with cosets: by maps. Conditions: none.
-/
set_option linter.all false
namespace Go.Proofs.Ytboadfahlflmhaa
open Go.Pv

/-! ### Parts -/

/-- Where a thing stands among those of which something is so. -/
def pix (p : Nat → Bool) (x : Nat) : Nat := (thl x p).length
theorem thl_split (n x : Nat) (p : Nat → Bool) (hx : x < n) (hp : p x = true) : ∃ r, thl n p = thl x p ++ (x : Int) :: r := by
  induction n with
  | zero => omega
  | succ n ih =>
    rw [thl_succ]
    by_cases h : x = n
    · subst h
      rw [if_pos hp]; exact ⟨[], rfl⟩
    · obtain ⟨r, hr⟩ := ih (by omega)
      rw [hr]
      exact ⟨r ++ (if p n = true then [(n : Int)] else []), by simp⟩
theorem pix_at {n x : Nat} {p : Nat → Bool} (hx : x < n) (hp : p x = true) : pix p x < (thl n p).length ∧ (thl n p).getD (pix p x) 0 = (x : Int) := by
  obtain ⟨r, hr⟩ := thl_split n x p hx hp
  unfold pix
  rw [hr]
  constructor
  · simp
  · simp [List.getD]
theorem pix_get {n i x : Nat} {p : Nat → Bool} (hi : i < (thl n p).length) (hx : x < n) (hp : p x = true) (h : (thl n p).getD i 0 = (x : Int)) : pix p x = i := by
  obtain ⟨h1, h2⟩ := pix_at hx hp
  rcases Nat.lt_trichotomy (pix p x) i with h3 | h3 | h3
  · have := thl_get_asc h3 hi; omega
  · exact h3
  · have := thl_get_asc h3 h1; omega
def lat (n : Nat) (p : Nat → Bool) (i : Nat) : Nat := ((thl n p).getD i 0).toNat
theorem lat_at {n i : Nat} {p : Nat → Bool} (hi : i < (thl n p).length) : lat n p i < n ∧ p (lat n p i) = true ∧ (thl n p).getD i 0 = (lat n p i : Int) ∧ pix p (lat n p i) = i := by
  obtain ⟨x, x1, x2, x3⟩ := thl_get hi
  have : lat n p i = x := by unfold lat; rw [x3]; rfl
  rw [this]
  exact ⟨x1, x2, x3, pix_get hi x1 x2 x3⟩
/-- The part's operation, by places. -/
def pop (n : Nat) (f : Nat → Nat → Nat) (p : Nat → Bool) (i j : Nat) : Nat := pix p (f (lat n p i) (lat n p j))
theorem pop_at {n e : Nat} {f : Nat → Nat → Nat} {p : Nat → Bool} (G : Grp n f e) (hs : Sub n f e p) {i j : Nat} (hi : i < (thl n p).length) (hj : j < (thl n p).length) : pop n f p i j < (thl n p).length ∧ lat n p (pop n f p i j) = f (lat n p i) (lat n p j) := by
  obtain ⟨x1, x2, _, _⟩ := lat_at hi
  obtain ⟨y1, y2, _, _⟩ := lat_at hj
  obtain ⟨h1, h2⟩ := pix_at (G.cl _ _ x1 y1) (hs.mul _ _ x1 y1 x2 y2)
  exact ⟨h1, by unfold pop lat at *; rw [h2]; rfl⟩
/-- A part is a group. -/
theorem ptb_grp {n e : Nat} {f : Nat → Nat → Nat} {p : Nat → Bool} (G : Grp n f e) (hs : Sub n f e p) : Grp (thl n p).length (pop n f p) (pix p e) := by
  have le := pix_at G.el hs.one
  have hat : ∀ {i}, i < (thl n p).length → pix p (lat n p i) = i := fun hi => (lat_at hi).2.2.2
  have hle : lat n p (pix p e) = e := by unfold lat; rw [le.2]; rfl
  refine ⟨by omega, fun i j hi hj => (pop_at G hs hi hj).1, le.1, fun i hi => ?_, fun i hi => ?_, fun i j k hi hj hk => ?_, fun i hi => ?_⟩
  · unfold pop; rw [hle, G.one_l _ (lat_at hi).1, hat hi]
  · unfold pop; rw [hle, G.one_r _ (lat_at hi).1, hat hi]
  · have h1 := pop_at G hs hi hj
    have h2 := pop_at G hs hj hk
    show pix p (f (lat n p (pop n f p i j)) (lat n p k)) = pix p (f (lat n p i) (lat n p (pop n f p j k)))
    rw [h1.2, h2.2, G.assoc _ _ _ (lat_at hi).1 (lat_at hj).1 (lat_at hk).1]
  · obtain ⟨x1, x2, _, _⟩ := lat_at hi
    have h1 := pix_at (G.iv_lt x1) (hs.inv _ x1 x2)
    have h2 : lat n p (pix p (iv n f e (lat n p i))) = iv n f e (lat n p i) := by
      show ((thl n p).getD (pix p (iv n f e (lat n p i))) 0).toNat = _
      rw [h1.2]; rfl
    refine ⟨_, h1.1, ?_, ?_⟩
    · show pix p (f (lat n p i) (lat n p (pix p (iv n f e (lat n p i))))) = _
      rw [h2, G.mul_iv x1]
    · show pix p (f (lat n p (pix p (iv n f e (lat n p i)))) (lat n p i)) = _
      rw [h2, G.iv_mul x1]

end Go.Proofs.Ytboadfahlflmhaa

/-
  Operations that are the same on a group's things: inverses, conjugates, what is made. Conditions: none.
-/
set_option linter.all false
namespace Go.Proofs.Ytboadfahlflmhaa
open Go.Pv

section
variable {n e : Nat} {f g : Nat → Nat → Nat} {p : Nat → Bool}

theorem iv_cong (G : Grp n f e) (h : ∀ a b, a < n → b < n → g a b = f a b) {a : Nat} (ha : a < n) : iv n g e a = iv n f e a := by
  have G' := G.cong' h
  refine (G'.iv_unique ha (G.iv_lt ha) (.inl ?_)).symm
  rw [h _ _ ha (G.iv_lt ha), G.mul_iv ha]
theorem cjr_cong (G : Grp n f e) (h : ∀ a b, a < n → b < n → g a b = f a b) {x a : Nat} (hx : x < n) (ha : a < n) : cjr n g e x a = cjr n f e x a := by
  unfold cjr
  rw [iv_cong G h ha, h _ _ (G.iv_lt ha) hx, h _ _ (G.cl _ _ (G.iv_lt ha) hx) ha]
theorem cup_cong (G : Grp n f e) (h : ∀ a b, a < n → b < n → g a b = f a b) (y : Nat) : cup n g e p y = cup n f e p y := by
  rw [Bool.eq_iff_iff, cup_iff, cup_iff]
  constructor
  · rintro ⟨x, a, hx, ha, h1, h2⟩
    exact ⟨x, a, hx, ha, h1, by rw [← cjr_cong G h hx ha]; exact h2⟩
  · rintro ⟨x, a, hx, ha, h1, h2⟩
    exact ⟨x, a, hx, ha, h1, by rw [cjr_cong G h hx ha]; exact h2⟩
theorem Gen.cong_op (G : Grp n f e) (h : ∀ a b, a < n → b < n → g a b = f a b) {a : Nat} (hg : Gen n g e p a) : Gen n f e p a := by
  have G' := G.cong' h
  induction hg with
  | one => exact .one
  | step a b ha hb hp ih => rw [h a b (ih.lt G) hb]; exact .step a b ih hb hp
theorem Sub.cong_op (G : Grp n f e) (h : ∀ a b, a < n → b < n → g a b = f a b) (hs : Sub n g e p) : Sub n f e p :=
  sub_of G hs.one fun a b ha hb h1 h2 => by rw [← h a b ha hb]; exact hs.mul a b ha hb h1 h2
theorem Nml.cong_op (G : Grp n f e) (h : ∀ a b, a < n → b < n → g a b = f a b) (hs : Nml n g e p) : Nml n f e p := fun a ha x hx hp => by
  rw [← cjr_cong G h hx ha]; exact hs a ha x hx hp
end
end Go.Proofs.Ytboadfahlflmhaa

/-
  Composition series: parts of parts; the greatest normal subgroup; Composition walked. Conditions: none.
-/
set_option linter.all false
namespace Go.Proofs.Ytboadfahlflmhaa
open Go.Pv

/-! ### What a part has, in the whole -/

def lft (p q : Nat → Bool) (x : Nat) : Bool := p x && q (pix p x)
theorem lat_pix {n x : Nat} {p : Nat → Bool} (hx : x < n) (hp : p x = true) : lat n p (pix p x) = x := by
  have := (pix_at hx hp).2
  unfold lat; rw [this]; rfl
theorem lat_low {n i : Nat} {p : Nat → Bool} (hi : i < (thl n p).length) : lat (n + 1) p i = lat n p i := by
  unfold lat
  rw [thl_succ, List.getD_eq_getElem?_getD, List.getElem?_append_left hi, ← List.getD_eq_getElem?_getD]
theorem lft_thl (p q : Nat → Bool) : ∀ n, (thl (thl n p).length q).map (fun z => ((lat n p z.toNat : Nat) : Int)) = thl n (lft p q)
  | 0 => rfl
  | n + 1 => by
    have ih := lft_thl p q n
    have hc : (thl (thl n p).length q).map (fun z => ((lat (n + 1) p z.toNat : Nat) : Int)) = thl n (lft p q) := by
      rw [← ih]
      refine List.map_congr_left fun z hz => ?_
      obtain ⟨i, i1, _, rfl⟩ := mem_thl.1 hz
      rw [Int.toNat_natCast, lat_low i1]
    rw [thl_succ n (lft p q)]
    by_cases hp : p n = true
    · have hl : (thl (n + 1) p).length = (thl n p).length + 1 := by rw [thl_succ, if_pos hp]; simp
      have ha : lat (n + 1) p (thl n p).length = n := by
        unfold lat
        rw [thl_succ, if_pos hp]; simp [List.getD]
      rw [hl, thl_succ, List.map_append, hc]
      have hv : lft p q n = q (thl n p).length := by unfold lft pix; rw [hp]; rfl
      rw [hv]
      by_cases hq : q (thl n p).length = true
      · rw [if_pos hq, if_pos hq]; simp [ha]
      · rw [if_neg hq, if_neg hq]; rfl
    · have hl : thl (n + 1) p = thl n p := by rw [thl_succ, if_neg hp]; simp
      have hv : lft p q n = false := by unfold lft; rw [Bool.not_eq_true] at hp; rw [hp]; rfl
      rw [hl, hv, if_neg (by simp), List.append_nil]
      exact hc

section
variable {n e : Nat} {f : Nat → Nat → Nat} {p q : Nat → Bool}

theorem pop_pix (hs : Sub n f e p) {a b : Nat} (ha : a < n) (hb : b < n) (pa : p a = true) (pb : p b = true) : pop n f p (pix p a) (pix p b) = pix p (f a b) := by
  unfold pop; rw [lat_pix ha pa, lat_pix hb pb]
theorem cjr_in (G : Grp n f e) (hs : Sub n f e p) {x a : Nat} (hx : x < n) (ha : a < n) (px : p x = true) (pa : p a = true) : p (cjr n f e x a) = true := by
  have hi := G.iv_lt ha
  have pi := hs.inv _ ha pa
  exact hs.mul _ _ (G.cl _ _ hi hx) ha (hs.mul _ _ hi hx pi px) pa

/-- A normal subgroup of a subgroup, not all of it; with any thing more, and what that is conjugated to, it is all. -/
structure Mxn (n : Nat) (f : Nat → Nat → Nat) (e : Nat) (p p' : Nat → Bool) : Prop where
  sub : Sub n f e p'
  le : ∀ x, x < n → p' x = true → p x = true
  nml : ∀ a x, a < n → x < n → p a = true → p' x = true → p' (cjr n f e x a) = true
  ne : ∃ x, x < n ∧ p x = true ∧ p' x = false
  mx : ∀ x, x < n → p x = true → p' x = false → ∀ t : Nat → Bool, Sub n f e t → (∀ y, y < n → p' y = true → t y = true) → (∀ b, b < n → p b = true → t (cjr n f e x b) = true) → ∀ y, y < n → p y = true → t y = true

def wth (q : Nat → Bool) (a x : Nat) : Bool := q x || decide (x = a)
/-- What the greatest normal subgroup is. -/
structure Grt (n : Nat) (f : Nat → Nat → Nat) (e : Nat) (q : Nat → Bool) : Prop where
  sub : Sub n f e q
  nml : Nml n f e q
  ne : ∃ x, x < n ∧ q x = false
  mx : ∀ a, a < n → q a = false → ∀ y, y < n → Gen n f e (cup n f e (wth q a)) y

theorem Mxn.lt (h : Mxn n f e p q) : (mem n q).length < (mem n p).length := mem_lt h.le fun hh => by
  obtain ⟨x, x1, x2, x3⟩ := h.ne
  rw [hh x x1] at x3; rw [x3] at x2; cases x2
end

section
variable {n e : Nat} {f : Nat → Nat → Nat}
end

/-! ### greatest -/

/-! ### Composition -/

theorem Grt.cong {n e : Nat} {f g : Nat → Nat → Nat} {q : Nat → Bool} (G : Grp n f e) (h : ∀ a b, a < n → b < n → g a b = f a b) (hq : Grt n g e q) : Grt n f e q :=
  ⟨hq.sub.cong_op G h, hq.nml.cong_op G h, hq.ne, fun a ha hqa y hy => (Gen.mono (fun b _ hb => by rwa [cup_cong G h] at hb) (hq.mx a ha hqa y hy)).cong_op G h⟩

section
variable {n e : Nat} {m : List Int}
/-- A composition series: from all on, to one thing. -/
structure Cps (n : Nat) (f : Nat → Nat → Nat) (e : Nat) (T : Nat → Nat → Bool) (K : Nat) : Prop where
  all : T 0 = fun _ => true
  sub : ∀ k, k ≤ K → Sub n f e (T k)
  mxn : ∀ k, k < K → Mxn n f e (T k) (T (k + 1))
  last : (thl n (T K)).length = 1
  short : K ≤ 5

end
end Go.Proofs.Ytboadfahlflmhaa

/-
  Direct products of subgroups. Conditions: none.
-/
set_option linter.all false
namespace Go.Proofs.Ytboadfahlflmhaa

section
variable {n e : Nat} {f : Nat → Nat → Nat} {p q : Nat → Bool}
theorem Grp.pr2_mk (G : Grp n f e) {a b : Nat} (ha : a < n) (hb : b < n) (h1 : p a = true) (h2 : q b = true) : pr2 n f e p q (f a b) = true :=
  pr2_iff.2 ⟨a, ha, h1, by rwa [← G.assoc _ _ _ (G.iv_lt ha) ha hb, G.iv_mul ha, G.one_l b hb]⟩
theorem Grp.pr2_un (G : Grp n f e) {x : Nat} (hx : x < n) (h : pr2 n f e p q x = true) : ∃ a b, a < n ∧ b < n ∧ p a = true ∧ q b = true ∧ x = f a b := by
  obtain ⟨a, a1, a2, a3⟩ := pr2_iff.1 h
  refine ⟨a, _, a1, G.cl _ _ (G.iv_lt a1) hx, a2, a3, ?_⟩
  rw [← G.assoc _ _ _ a1 (G.iv_lt a1) hx, G.mul_iv a1, G.one_l x hx]
end
end Go.Proofs.Ytboadfahlflmhaa

/-
  Plain law, FROBENIUS' THEOREM: what commutes with y, taken by y's powers, is a group on the least things of cosets. Conditions: none.
-/
set_option linter.all false
namespace Go.Proofs.Ytboadfahlflmhaa
open Go.Pv

section
variable {n : Nat} {f : Nat → Nat → Nat} {e : Nat}

/-- The same but for a power of y. -/
def sm (n : Nat) (f : Nat → Nat → Nat) (e y x z : Nat) : Prop := ∃ j, j < ord n f e y ∧ z = f x (pw f e y j)
instance (n : Nat) (f : Nat → Nat → Nat) (e y x z : Nat) : Decidable (sm n f e y x z) := by unfold sm; infer_instance

/-- The least of a coset. -/
def rp (n : Nat) (f : Nat → Nat → Nat) (e y x : Nat) : Nat := (fst' (fun z => decide (sm n f e y x z)) n).getD 0

/-- The quotient's things. -/
def quo (n : Nat) (f : Nat → Nat → Nat) (e y : Nat) : List Nat := mem n fun x => cen f y x && decide (rp n f e y x = x)
end
end Go.Proofs.Ytboadfahlflmhaa

/-
  Plain law, FROBENIUS' THEOREM: how many things the quotient of a centraliser has, and how many solutions. Conditions: none.
-/
set_option linter.all false
namespace Go.Proofs.Ytboadfahlflmhaa
open Go.Pv

section
variable {n : Nat} {f : Nat → Nat → Nat} {e : Nat}

end
end Go.Proofs.Ytboadfahlflmhaa

/-
  Plain law, FROBENIUS' THEOREM: of a divisor m of n so many things are, m times, the one, as a multiple of m. Conditions: none.
-/
set_option linter.all false
namespace Go.Proofs.Ytboadfahlflmhaa
open Go.Pv

section
variable {n : Nat} {f : Nat → Nat → Nat} {e : Nat}

/-! ### Primes -/

theorem prime_cop {p s : Nat} (hp : ∀ d, d ∣ p → d = 1 ∨ d = p) (h : ¬ p ∣ s) : Nat.gcd p s = 1 := by
  rcases hp _ (Nat.gcd_dvd_left p s) with h1 | h1
  · exact h1
  · exact absurd (h1 ▸ Nat.gcd_dvd_right p s) h
theorem dvd_ppow {p : Nat} (hp2 : 2 ≤ p) (hp : ∀ d, d ∣ p → d = 1 ∨ d = p) : ∀ {k d : Nat}, d ∣ p ^ (k + 1) → d = p ^ (k + 1) ∨ d ∣ p ^ k
  | k, d, h => by
    by_cases hpd : p ∣ d
    · obtain ⟨c, rfl⟩ := hpd
      rw [Nat.pow_succ, Nat.mul_comm _ p] at h
      have h1 := Nat.dvd_of_mul_dvd_mul_left (by omega) h
      match k, h1 with
      | 0, h1 =>
        have : c = 1 := Nat.dvd_one.1 (by simpa using h1)
        left; simp [this]
      | k + 1, h1 =>
        rcases dvd_ppow hp2 hp h1 with h2 | h2
        · left; rw [h2, Nat.pow_succ p (k + 1), Nat.mul_comm]
        · right; rw [Nat.pow_succ, Nat.mul_comm _ p]; exact Nat.mul_dvd_mul (Nat.dvd_refl p) h2
    · right
      have hc : Nat.Coprime d p := Nat.Coprime.symm (prime_cop hp hpd)
      rw [Nat.pow_succ] at h
      exact Nat.Coprime.dvd_of_dvd_mul_right hc h

end
end Go.Proofs.Ytboadfahlflmhaa

/-
  Plain law, SYLOW'S THEOREMS: subgroups of a power of a prime of things. Conditions: none.
-/
set_option linter.all false
namespace Go.Proofs.Ytboadfahlflmhaa
open Go.Pv

section
variable {n : Nat} {f : Nat → Nat → Nat} {e : Nat} {p q s : Nat → Bool} {P : Nat}

theorem isPr.pow_div (hP : isPr P) : ∀ {k d : Nat}, d ∣ P ^ k → ∃ i, i ≤ k ∧ d = P ^ i
  | 0, d, h => ⟨0, Nat.le_refl _, by simpa using h⟩
  | k + 1, d, h => by
    rcases dvd_ppow hP.1 (fun d hd => hP.div hd) h with h | h
    · exact ⟨k + 1, Nat.le_refl _, h⟩
    · obtain ⟨i, hi, h⟩ := hP.pow_div h
      exact ⟨i, by omega, h⟩
theorem isPr.pos (hP : isPr P) (k : Nat) : 0 < P ^ k := Nat.pow_pos (by have := hP.1; omega)
theorem isPr.le_of_dvd (hP : isPr P) {i j : Nat} (h : P ^ i ∣ P ^ j) : i ≤ j := by
  have h1 := Nat.le_of_dvd (hP.pos j) h
  exact (Nat.pow_le_pow_iff_right hP.1).1 h1
theorem isPr.mul (hP : isPr P) {a b : Nat} (h : P ∣ a * b) : P ∣ a ∨ P ∣ b := by
  by_cases ha : P ∣ a
  · exact .inl ha
  · exact .inr (Nat.Coprime.dvd_of_dvd_mul_left (hP.cop ha) h)

theorem Grp.nzr_cj (G : Grp n f e) (hp : Sub n f e p) {a : Nat} (ha : a < n) : nzr n f e p a = true ↔ ∀ x, x < n → (p (cjr n f e x a) = true ↔ p x = true) := by
  rw [nzr_iff]
  constructor
  · intro h x hx
    have h1 := h (cjr n f e x a) (G.cjr_lt hx ha)
    rw [G.shf_back ha (G.cjr_lt hx ha), G.cjr_iv hx ha] at h1
    rw [h1]
  · intro h y hy
    rw [G.shf_back ha hy, Bool.eq_iff_iff]
    have h1 := h (cjr n f e y (iv n f e a)) (G.cjr_lt hy (G.iv_lt ha))
    rw [G.cjr_vi hy ha] at h1
    exact h1.symm
/-- What lets a set stay, by one way of the two. -/
theorem Grp.nzr_of (G : Grp n f e) (hp : Sub n f e p) {a : Nat} (ha : a < n) (h : ∀ y, y < n → shf n f e p a y = true → p y = true) : nzr n f e p a = true := by
  have h1 := G.shf_len (p := p) ha
  refine nzr_iff.2 fun y hy => ?_
  by_cases hy2 : shf n f e p a y = p y
  · exact hy2
  · exfalso
    have := mem_lt (n := n) h (fun hh => hy2 (hh y hy))
    omega

/-- A subgroup, and a thing that lets it stay: their products are one. -/
theorem Grp.nz_prod (G : Grp n f e) (hp : Sub n f e p) (hq : Sub n f e q) (h : ∀ a, a < n → q a = true → nzr n f e p a = true) : Sub n f e (pr2 n f e p q) :=
  sub_of G (pr2_iff.2 ⟨e, G.el, hp.one, by rw [G.iv_one, G.one_l e G.el]; exact hq.one⟩) fun x y hx hy h1 h2 => by
    obtain ⟨a, ha, pa, qb⟩ := pr2_iff.1 h1
    obtain ⟨c, hc, pc, qd⟩ := pr2_iff.1 h2
    have ia := G.iv_lt ha
    have ic := G.iv_lt hc
    have hb := G.cl _ _ ia hx
    have ib := G.iv_lt hb
    have hd := G.cl _ _ ic hy
    -- x = a b, y = c d; x y = a (b c b^-1) (b d)
    have hcb := G.cjr_lt hc ib
    have hk : p (cjr n f e c (iv n f e (f (iv n f e a) x))) = true := ((G.nzr_cj hp ib).1 (h _ ib (hq.inv _ hb qb)) c hc).2 pc
    have hac := G.cl _ _ ha hcb
    refine pr2_iff.2 ⟨f a (cjr n f e c (iv n f e (f (iv n f e a) x))), hac, hp.mul _ _ ha hcb pa hk, ?_⟩
    have e1 : f (iv n f e (f a (cjr n f e c (iv n f e (f (iv n f e a) x))))) (f x y) = f (f (iv n f e a) x) (f (iv n f e c) y) := by
      have hbc := G.cl _ _ hb hc
      have e2 : cjr n f e c (iv n f e (f (iv n f e a) x)) = f (f (f (iv n f e a) x) c) (iv n f e (f (iv n f e a) x)) := by
        unfold cjr; rw [G.iv_iv hb]
      have e3 : f x y = f (f a (cjr n f e c (iv n f e (f (iv n f e a) x)))) (f (f (iv n f e a) x) (f (iv n f e c) y)) := by
        rw [G.assoc a _ _ ha hcb (G.cl _ _ hb hd), e2, G.assoc _ _ _ hbc ib (G.cl _ _ hb hd), ← G.assoc (iv n f e (f (iv n f e a) x)) _ _ ib hb hd, G.iv_mul hb, G.one_l _ hd, G.assoc _ _ _ hb hc hd, ← G.assoc c _ y hc ic hy, G.mul_iv hc, G.one_l y hy, ← G.assoc a _ y ha hb hy, ← G.assoc a _ x ha ia hx, G.mul_iv ha, G.one_l x hx]
      rw [e3, ← G.assoc _ _ _ (G.iv_lt hac) hac (G.cl _ _ hb hd), G.iv_mul hac, G.one_l _ (G.cl _ _ hb hd)]
    rw [e1]
    exact hq.mul _ _ hb hd qb qd

/-- THE COUNT: of a subgroup of a power of P things, and another: things that bring not the first into the second. -/
theorem Grp.syl_count (G : Grp n f e) (hP : isPr P) (hq : Sub n f e q) {i : Nat} (hi : (mem n q).length = P ^ i) (hs : Sub n f e s) :
    ∃ c, n = (mem n fun a => decide (∀ y, y < n → shf n f e q a y = true → s y = true)).length + P * (mem n s).length * c := by
  obtain ⟨K, hK⟩ : ∃ K : Nat → Bool, K = fun a => decide (∀ y, y < n → shf n f e q a y = true → s y = true) := ⟨_, rfl⟩
  have hKi : ∀ a, K a = true ↔ ∀ y, y < n → shf n f e q a y = true → s y = true := fun a => by rw [hK]; exact decide_eq_true_iff
  have E := G.dco_eqv hq hs
  have inv : ∀ x y, x < n → y < n → dco n f q s x y = true → K x = true → K y = true := by
    intro x y hx hy h hk
    obtain ⟨u, v, hu, hv, qu, sv, rfl⟩ := dco_iff.1 h
    refine (hKi _).2 fun z hz hzs => ?_
    obtain ⟨w, hw, qw, rfl⟩ := shf_iff.1 hzs
    have hux := G.cl _ _ hu hx
    rw [← G.cjr_cjr hw hux hv, ← G.cjr_cjr hw hu hx]
    have hwu := G.cjr_lt hw hu
    have h1 : q (cjr n f e w u) = true := hq.mul _ _ (G.cl _ _ (G.iv_lt hu) hw) hu (hq.mul _ _ (G.iv_lt hu) hw (hq.inv _ hu qu) qw) qu
    have h2 : s (cjr n f e (cjr n f e w u) x) = true := (hKi x).1 hk _ (G.cjr_lt hwu hx) (shf_iff.2 ⟨_, hwu, h1, rfl⟩)
    have hwx := G.cjr_lt hwu hx
    exact hs.mul _ _ (G.cl _ _ (G.iv_lt hv) hwx) hv (hs.mul _ _ (G.iv_lt hv) hwx (hs.inv _ hv sv) h2) sv
  have inv2 : ∀ x y, x < n → y < n → dco n f q s x y = true → (!K x) = true → (!K y) = true := by
    intro x y hx hy h hk
    cases hky : K y with
    | false => rfl
    | true => rw [inv y x hy hx (E.symm x y hx hy h) hky] at hk; cases hk
  have hsum := E.part (K := fun a => !K a) inv2
  have hdv : ∀ l : List Nat, (∀ x ∈ l, P * (mem n s).length ∣ (mem n (dco n f q s x)).length) → P * (mem n s).length ∣ (l.map fun x => (mem n (dco n f q s x)).length).sum := by
    intro l
    induction l with
    | nil => intro _; exact ⟨0, rfl⟩
    | cons x r ih =>
      intro h
      rw [List.map_cons, List.sum_cons]
      exact Nat.dvd_add (h x (by simp)) (ih fun y hy => h y (by simp [hy]))
  have hd := hdv (mem n fun x => lead (dco n f q s) x && !K x) (fun x hx => by
    obtain ⟨x1, x2⟩ := mem_mem.1 hx
    rw [Bool.and_eq_true] at x2
    have hc := G.dco_count hq hs x1
    have hsh := G.shf_sub hq x1
    have hm := hsh.and hs
    have hlen := G.shf_len (p := q) x1
    obtain ⟨i2, hi2, hmi⟩ := hP.pow_div (k := i) (d := (mem n fun y => shf n f e q x y && s y).length) (by
      rw [← hi, ← hlen]
      exact hm.dvd G fun a b ha hb h1 h2 => hsh.mul a b ha hb h1 (by rw [Bool.and_eq_true] at h2; exact h2.1))
    have hne : i2 ≠ i := fun h => by
      have hk : K x = true := (hKi x).2 fun y hy hys => by
        cases hsy : s y with
        | true => rfl
        | false =>
          exfalso
          have := mem_lt (n := n) (p := shf n f e q x) (q := fun y => shf n f e q x y && s y) (fun a _ h => by rw [Bool.and_eq_true] at h; exact h.1) (fun hh => by
            have := hh y hy
            rw [hys, hsy] at this; cases this)
          rw [hlen, hi, hmi, h] at this
          omega
      rw [hk] at x2; cases x2.2
    rw [hmi, hi] at hc
    obtain ⟨t, ht⟩ : ∃ t, i = i2 + 1 + t := ⟨i - i2 - 1, by omega⟩
    refine ⟨P ^ t, Nat.eq_of_mul_eq_mul_right (hP.pos i2) ?_⟩
    rw [hc, ht, Nat.pow_add, Nat.pow_succ]
    ac_rfl)
  rw [hsum] at hd
  obtain ⟨c, hc⟩ := hd
  refine ⟨c, ?_⟩
  have hsp : (mem n K).length + (mem n fun a => !K a).length = n := by
    have h := List.length_eq_countP_add_countP K (l := List.range n)
    rw [List.length_range, List.countP_eq_length_filter, List.countP_eq_length_filter] at h
    unfold mem
    rw [show (List.filter (fun a => !K a) (List.range n)) = List.filter (fun a => decide ¬K a = true) (List.range n) from List.filter_congr fun a _ => by cases K a <;> rfl]
    exact h.symm
  rw [hK] at hsp hc
  omega

/-- Some of Sylow's subgroups. -/
structure Syl (n : Nat) (f : Nat → Nat → Nat) (e P : Nat) (s : Nat → Bool) (j t : Nat) : Prop where
  sub : Sub n f e s
  len : (mem n s).length = P ^ j
  num : n = P ^ j * t
  non : ¬ P ∣ t

/-- ALL ARE IN ONE, CONJUGATED. -/
theorem Syl.holds {j t : Nat} (hS : Syl n f e P s j t) (G : Grp n f e) (hP : isPr P) (hq : Sub n f e q) {i : Nat} (hi : (mem n q).length = P ^ i) : ∃ a, a < n ∧ ∀ y, y < n → q y = true → shf n f e s a y = true := by
  obtain ⟨c, hc⟩ := G.syl_count hP hq hi hS.sub
  by_cases h0 : (mem n fun a => decide (∀ y, y < n → shf n f e q a y = true → s y = true)) = []
  · exfalso
    rw [h0, hS.len] at hc
    have h1 := hS.num
    rw [List.length_nil, Nat.zero_add] at hc
    have : P ^ j * t = P ^ j * (P * c) := by rw [← h1, ← show P * P ^ j * c = P ^ j * (P * c) by ac_rfl]; exact hc
    have := Nat.eq_of_mul_eq_mul_left (hP.pos j) this
    exact hS.non ⟨c, this⟩
  · obtain ⟨a, ha⟩ := List.exists_mem_of_ne_nil _ h0
    obtain ⟨a1, a2⟩ := mem_mem.1 ha
    rw [decide_eq_true_eq] at a2
    refine ⟨iv n f e a, G.iv_lt a1, fun y hy hqy => ?_⟩
    rw [G.shf_back (G.iv_lt a1) hy, G.iv_iv a1]
    exact a2 _ (G.cjr_lt hy a1) (shf_iff.2 ⟨y, hy, hqy, rfl⟩)

theorem Syl.shf {j t : Nat} (hS : Syl n f e P s j t) (G : Grp n f e) {a : Nat} (ha : a < n) : Syl n f e P (shf n f e s a) j t :=
  ⟨G.shf_sub hS.sub ha, by rw [G.shf_len ha]; exact hS.len, hS.num, hS.non⟩

/-- How many sets there are among the conjugated ones, as a list has them. -/
theorem Grp.conj_num (G : Grp n f e) (hs : Sub n f e s) {α : Type} [DecidableEq α] {code : (Nat → Bool) → α} (hcode : ∀ p q : Nat → Bool, code p = code q ↔ ∀ y, y < n → p y = q y) {L : List α} (hnd : L.Nodup)
    (hL : ∀ x, x ∈ L ↔ ∃ a, a < n ∧ x = code (Go.Proofs.Ytboadfahlflmhaa.shf n f e s a)) : L.length * (mem n (nzr n f e s)).length = n := by
  have h := dbl (R := fun a x => decide (code (Go.Proofs.Ytboadfahlflmhaa.shf n f e s a) = x)) (L1 := List.range n) (L2 := L) (c1 := 1) (c2 := (mem n (nzr n f e s)).length) (fun a ha => by
    have hm := (hL _).2 ⟨a, List.mem_range.1 ha, rfl⟩
    have : (L.filter fun w => decide (code (Go.Proofs.Ytboadfahlflmhaa.shf n f e s a) = w)).length = [code (Go.Proofs.Ytboadfahlflmhaa.shf n f e s a)].length := same_len (hnd.filter _) (by simp) fun x => by
      rw [List.mem_filter, List.mem_singleton, decide_eq_true_eq]
      exact ⟨fun h => h.2.symm, fun h => ⟨by rw [h]; exact hm, h.symm⟩⟩
    simpa using this) (fun x hx => by
    obtain ⟨a, ha, rfl⟩ := (hL x).1 hx
    have ia := G.iv_lt ha
    show (mem n fun b => decide (code (Go.Proofs.Ytboadfahlflmhaa.shf n f e s b) = code (Go.Proofs.Ytboadfahlflmhaa.shf n f e s a))).length = _
    refine mem_bij (fun b => f b (iv n f e a)) (fun b hb h => ⟨G.cl _ _ hb ia, ?_⟩) (fun x y hx hy _ _ h => G.cancel_r ia hx hy h) fun z hz h => ⟨f z a, G.cl _ _ hz ha, ?_, ?_⟩
    · rw [decide_eq_true_eq, hcode] at h
      refine nzr_iff.2 fun y hy => ?_
      have hba := G.cl _ _ hb ia
      rw [G.shf_back hba hy, G.iv_prod hb ia, G.iv_iv ha, ← G.cjr_cjr hy ha (G.iv_lt hb), ← G.shf_back (p := s) hb (G.cjr_lt hy ha), h _ (G.cjr_lt hy ha), G.shf_back ha (G.cjr_lt hy ha), G.cjr_iv hy ha]
    · rw [decide_eq_true_eq, hcode]
      intro y hy
      rw [G.shf_back (G.cl _ _ hz ha) hy, G.iv_prod hz ha, ← G.cjr_cjr hy ia (G.iv_lt hz), ← G.shf_back (p := s) hz (G.cjr_lt hy ia), nzr_iff.1 h _ (G.cjr_lt hy ia), ← G.shf_back (p := s) ha hy]
    · rw [G.assoc z a _ hz ha ia, G.mul_iv ha, G.one_r z hz])
  rw [List.length_range, Nat.mul_one] at h
  exact h.symm

end
end Go.Proofs.Ytboadfahlflmhaa

/-
  Plain law: how one of Sylow's subgroups is grown. Conditions: none.
-/
set_option linter.all false
namespace Go.Proofs.Ytboadfahlflmhaa
open Go.Pv

noncomputable def gn (n : Nat) (f : Nat → Nat → Nat) (e : Nat) (p : Nat → Bool) : Nat → Bool := Classical.choose (gen_ex n f e p)
theorem gn_iff {n : Nat} {f : Nat → Nat → Nat} {e : Nat} (p : Nat → Bool) : ∀ a, a < n → (gn n f e p a = true ↔ Gen n f e p a) := Classical.choose_spec (gen_ex n f e p)

section
variable {n : Nat} {f : Nat → Nat → Nat} {e : Nat} {p q s : Nat → Bool} {P : Nat}

end
end Go.Proofs.Ytboadfahlflmhaa

/-
  Plain: chains of subgroups whose steps are as small as can be (Jordan and Hoelder). Conditions: none.
-/
set_option linter.all false
namespace Go.Proofs.Ytboadfahlflmhaa

section
variable {n e : Nat} {f : Nat → Nat → Nat} {p q a b : Nat → Bool}
theorem Mxn.nz (G : Grp n f e) (h : Mxn n f e p q) {c : Nat} (hc : c < n) (pc : p c = true) : nzr n f e q c = true :=
  G.nzr_of h.sub hc fun y hy hh => by
    obtain ⟨x, x1, x2, rfl⟩ := shf_iff.1 hh
    exact h.nml c x hc x1 pc x2
theorem Mxn.congr_l {p' : Nat → Bool} (h : Mxn n f e p q) (hp : ∀ x, x < n → p' x = p x) : Mxn n f e p' q where
  sub := h.sub
  le x hx hq := by rw [hp x hx]; exact h.le x hx hq
  nml c x hc hx pc := h.nml c x hc hx (by rw [← hp c hc]; exact pc)
  ne := by obtain ⟨x, x1, x2, x3⟩ := h.ne; exact ⟨x, x1, by rw [hp x x1]; exact x2, x3⟩
  mx x hx px qx t ht h1 h2 y hy py := h.mx x hx (by rwa [← hp x hx]) qx t ht h1 (fun c hc pc => h2 c hc (by rwa [hp c hc])) y hy (by rwa [← hp y hy])
theorem Mxn.congr_r {q' : Nat → Bool} (G : Grp n f e) (h : Mxn n f e p q) (hs : Sub n f e q') (hq : ∀ x, x < n → q' x = q x) : Mxn n f e p q' where
  sub := hs
  le x hx hh := h.le x hx (by rwa [← hq x hx])
  nml c x hc hx pc hh := by
    rw [hq _ (G.cjr_lt hx hc)]
    exact h.nml c x hc hx pc (by rwa [← hq x hx])
  ne := by obtain ⟨x, x1, x2, x3⟩ := h.ne; exact ⟨x, x1, x2, by rw [hq x x1]; exact x3⟩
  mx x hx px qx t ht h1 h2 y hy py := h.mx x hx px (by rwa [← hq x hx]) t ht (fun y hy hh => h1 y hy (by rwa [hq y hy])) h2 y hy py

theorem Mxn.top (G : Grp n f e) (ha : Mxn n f e p a) (hb : Mxn n f e p b) (hne : ¬ ∀ x, x < n → a x = b x) {y : Nat} (hy : y < n) (py : p y = true) : pr2 n f e a b y = true := by
  by_cases hsub : ∀ x, x < n → b x = true → a x = true
  · exfalso
    have h1 : ∃ x, x < n ∧ a x = true ∧ b x = false := by
      refine Classical.byContradiction fun hh => hne fun x hx => ?_
      cases hbx : b x with
      | true => exact hsub x hx hbx
      | false =>
        cases hax : a x with
        | false => rfl
        | true => exact absurd ⟨x, hx, hax, hbx⟩ hh
    obtain ⟨x, x1, x2, x3⟩ := h1
    obtain ⟨z, z1, z2, z3⟩ := ha.ne
    have := hb.mx x x1 (ha.le x x1 x2) x3 a ha.sub hsub (fun c hc pc => ha.nml c x hc x1 pc x2) z z1 z2
    rw [this] at z3; cases z3
  · have h1 : ∃ x, x < n ∧ b x = true ∧ a x = false := by
      refine Classical.byContradiction fun hh => hsub fun x hx hbx => ?_
      cases hax : a x with
      | true => rfl
      | false => exact absurd ⟨x, hx, hbx, hax⟩ hh
    obtain ⟨x, x1, x2, x3⟩ := h1
    refine ha.mx x x1 (hb.le x x1 x2) x3 _ (G.nz_prod ha.sub hb.sub fun c hc bc => ha.nz G hc (hb.le c hc bc)) (fun z hz az => ?_) (fun c hc pc => ?_) y hy py
    · have := G.pr2_mk (p := a) (q := b) hz G.el az hb.sub.one; rwa [G.one_r z hz] at this
    · have hl := G.cjr_lt x1 hc
      have := G.pr2_mk (p := a) (q := b) G.el hl ha.sub.one (hb.nml c x hc x1 pc x2); rwa [G.one_l _ hl] at this

theorem Mxn.count (G : Grp n f e) (hp : Sub n f e p) (ha : Mxn n f e p a) (hb : Mxn n f e p b) (hne : ¬ ∀ x, x < n → a x = b x) : (mem n p).length * (mem n fun x => a x && b x).length = (mem n a).length * (mem n b).length := by
  rw [← G.prod_count ha.sub hb.sub]
  congr 2
  refine mem_congr fun y hy => ?_
  rw [Bool.eq_iff_iff]
  refine ⟨fun py => ha.top G hb hne hy py, fun h => ?_⟩
  obtain ⟨u, v, u1, v1, u2, v2, rfl⟩ := G.pr2_un hy h
  exact hp.mul _ _ u1 v1 (ha.le u u1 u2) (hb.le v v1 v2)

/-- A chain from a subgroup down to the one. -/
def Chn (n : Nat) (f : Nat → Nat → Nat) (e : Nat) : (Nat → Bool) → List (Nat → Bool) → Prop
  | p, [] => ∀ x, x < n → p x = true → x = e
  | p, q :: l => Mxn n f e p q ∧ Chn n f e q l
def idx (n : Nat) : (Nat → Bool) → List (Nat → Bool) → List Nat
  | _, [] => []
  | p, q :: l => (mem n p).length / (mem n q).length :: idx n q l
theorem Chn.congr {p' : Nat → Bool} (hp : ∀ x, x < n → p' x = p x) : ∀ {l : List (Nat → Bool)}, Chn n f e p l → Chn n f e p' l ∧ idx n p' l = idx n p l
  | [], h => ⟨fun x hx hh => h x hx (by rwa [← hp x hx]), rfl⟩
  | q :: l, h => ⟨⟨h.1.congr_l hp, h.2⟩, by show _ / _ :: _ = _ / _ :: _; rw [mem_congr hp]⟩
end
end Go.Proofs.Ytboadfahlflmhaa

/-
  Plain: homomorphisms of a subgroup onto a group; chains go there and back; steps in which things commute. Conditions: none.
-/
set_option linter.all false
namespace Go.Proofs.Ytboadfahlflmhaa

/-- A homomorphism of a subgroup onto a group. -/
structure Hm (n : Nat) (f : Nat → Nat → Nat) (e : Nat) (p : Nat → Bool) (k : Nat) (g : Nat → Nat → Nat) (d : Nat) (φ : Nat → Nat) : Prop where
  grp : Grp k g d
  sub : Sub n f e p
  lt : ∀ x, x < n → p x = true → φ x < k
  mul : ∀ x y, x < n → y < n → p x = true → p y = true → φ (f x y) = g (φ x) (φ y)
  onto : ∀ i, i < k → ∃ x, x < n ∧ p x = true ∧ φ x = i

section
variable {n e k d : Nat} {f g : Nat → Nat → Nat} {p : Nat → Bool} {φ : Nat → Nat}
theorem Hm.one (H : Hm n f e p k g d φ) (G : Grp n f e) : φ e = d := by
  have h1 := H.mul e e G.el G.el H.sub.one H.sub.one
  have hl := H.lt e G.el H.sub.one
  rw [G.one_l e G.el] at h1
  have h2 : g (φ e) d = g (φ e) (φ e) := by rw [← h1, H.grp.one_r _ hl]
  exact (H.grp.cancel_l hl H.grp.el hl h2).symm
theorem Hm.iv (H : Hm n f e p k g d φ) (G : Grp n f e) {x : Nat} (hx : x < n) (px : p x = true) : φ (Go.Proofs.Ytboadfahlflmhaa.iv n f e x) = Go.Proofs.Ytboadfahlflmhaa.iv k g d (φ x) := by
  have ix := G.iv_lt hx
  have pix := H.sub.inv x hx px
  refine H.grp.iv_unique (H.lt x hx px) (H.lt _ ix pix) (.inl ?_)
  rw [← H.mul _ _ hx ix px pix, G.mul_iv hx, H.one G]
theorem Hm.cjr (H : Hm n f e p k g d φ) (G : Grp n f e) {x c : Nat} (hx : x < n) (hc : c < n) (px : p x = true) (pc : p c = true) : φ (Go.Proofs.Ytboadfahlflmhaa.cjr n f e x c) = Go.Proofs.Ytboadfahlflmhaa.cjr k g d (φ x) (φ c) := by
  have ic := G.iv_lt hc
  have pi := H.sub.inv c hc pc
  show φ (f (f _ _) _) = g (g _ _) _
  rw [H.mul _ _ (G.cl _ _ ic hx) hc (H.sub.mul _ _ ic hx pi px) pc, H.mul _ _ ic hx pi px, H.iv G hc pc]
theorem Hm.cmt (H : Hm n f e p k g d φ) (G : Grp n f e) {x c : Nat} (hx : x < n) (hc : c < n) (px : p x = true) (pc : p c = true) : φ (Go.Proofs.Ytboadfahlflmhaa.cmt n f e x c) = Go.Proofs.Ytboadfahlflmhaa.cmt k g d (φ x) (φ c) := by
  have ic := G.iv_lt hc
  have ix := G.iv_lt hx
  have pic := H.sub.inv c hc pc
  have pix := H.sub.inv x hx px
  show φ (f (f _ _) (f _ _)) = g (g _ _) (g _ _)
  rw [H.mul _ _ (G.cl _ _ ix ic) (G.cl _ _ hx hc) (H.sub.mul _ _ ix ic pix pic) (H.sub.mul _ _ hx hc px pc), H.mul _ _ ix ic pix pic, H.mul _ _ hx hc px pc, H.iv G hc pc, H.iv G hx px]
theorem cmt_in {q : Nat → Bool} (G : Grp n f e) (hq : Sub n f e q) {x c : Nat} (hx : x < n) (hc : c < n) (px : q x = true) (pc : q c = true) : q (cmt n f e x c) = true :=
  hq.mul _ _ (G.cl _ _ (G.iv_lt hx) (G.iv_lt hc)) (G.cl _ _ hx hc) (hq.mul _ _ (G.iv_lt hx) (G.iv_lt hc) (hq.inv _ hx px) (hq.inv _ hc pc)) (hq.mul _ _ hx hc px pc)

/-- What goes into a set. -/
def pre (p : Nat → Bool) (φ : Nat → Nat) (b : Nat → Bool) (x : Nat) : Bool := p x && b (φ x)
theorem pre_iff {b : Nat → Bool} {x : Nat} : pre p φ b x = true ↔ p x = true ∧ b (φ x) = true := by unfold pre; rw [Bool.and_eq_true]
theorem Hm.pre_sub (H : Hm n f e p k g d φ) (G : Grp n f e) {b : Nat → Bool} (hb : Sub k g d b) : Sub n f e (pre p φ b) :=
  sub_of G (pre_iff.2 ⟨H.sub.one, by rw [H.one G]; exact hb.one⟩) fun x y hx hy h1 h2 => by
    obtain ⟨h1, h3⟩ := pre_iff.1 h1
    obtain ⟨h2, h4⟩ := pre_iff.1 h2
    exact pre_iff.2 ⟨H.sub.mul x y hx hy h1 h2, by rw [H.mul x y hx hy h1 h2]; exact hb.mul _ _ (H.lt x hx h1) (H.lt y hy h2) h3 h4⟩
theorem Hm.of_pre (H : Hm n f e p k g d φ) (G : Grp n f e) {a b : Nat → Bool} (hb : Sub k g d b) (h : Mxn n f e (pre p φ a) (pre p φ b)) : Mxn k g d a b where
  sub := hb
  le i hi bi := by
    obtain ⟨x, x1, x2, rfl⟩ := H.onto i hi
    exact (pre_iff.1 (h.le x x1 (pre_iff.2 ⟨x2, bi⟩))).2
  nml c i hc hi ac bi := by
    obtain ⟨x, x1, x2, rfl⟩ := H.onto i hi
    obtain ⟨y, y1, y2, rfl⟩ := H.onto c hc
    have := (pre_iff.1 (h.nml y x y1 x1 (pre_iff.2 ⟨y2, ac⟩) (pre_iff.2 ⟨x2, bi⟩))).2
    rwa [H.cjr G x1 y1 x2 y2] at this
  ne := by
    obtain ⟨x, x1, x2, x3⟩ := h.ne
    obtain ⟨px, ax⟩ := pre_iff.1 x2
    unfold pre at x3
    rw [px, Bool.true_and] at x3
    exact ⟨_, H.lt x x1 px, ax, x3⟩
  mx i hi ai bi t ht h1 h2 j hj aj := by
    obtain ⟨x, x1, x2, rfl⟩ := H.onto i hi
    obtain ⟨y, y1, y2, rfl⟩ := H.onto j hj
    refine (pre_iff.1 (h.mx x x1 (pre_iff.2 ⟨x2, ai⟩) (by unfold pre; rw [bi, Bool.and_false]) (pre p φ t) (H.pre_sub G ht) (fun z hz hh => ?_) (fun c hc hh => ?_) y y1 (pre_iff.2 ⟨y2, aj⟩))).2
    · obtain ⟨pz, bz⟩ := pre_iff.1 hh
      exact pre_iff.2 ⟨pz, h1 _ (H.lt z hz pz) bz⟩
    · obtain ⟨pc, ac⟩ := pre_iff.1 hh
      exact pre_iff.2 ⟨cjr_in G H.sub x1 hc x2 pc, by rw [H.cjr G x1 hc x2 pc]; exact h2 _ (H.lt c hc pc) ac⟩

/-- Things of the first commute, up to the second. -/
def Abl (n : Nat) (f : Nat → Nat → Nat) (e : Nat) (p q : Nat → Bool) : Prop := ∀ x y, x < n → y < n → p x = true → p y = true → q (cmt n f e x y) = true
def AbC (n : Nat) (f : Nat → Nat → Nat) (e : Nat) : (Nat → Bool) → List (Nat → Bool) → Prop
  | _, [] => True
  | p, q :: l => Abl n f e p q ∧ AbC n f e q l
theorem AbC.congr {p' : Nat → Bool} (hp : ∀ x, x < n → p' x = p x) : ∀ {l : List (Nat → Bool)}, AbC n f e p l → AbC n f e p' l
  | [], _ => trivial
  | q :: l, h => ⟨fun x y hx hy h1 h2 => h.1 x y hx hy (by rwa [← hp x hx]) (by rwa [← hp y hy]), h.2⟩
theorem Chn.subs (G : Grp n f e) : ∀ {l : List (Nat → Bool)} {p : Nat → Bool}, Chn n f e p l → ∀ q ∈ l, Sub n f e q
  | [], _, _, q, hq => by simp at hq
  | r :: l, p, h, q, hq => by
    rcases List.mem_cons.1 hq with rfl | hq
    · exact h.1.sub
    · exact Chn.subs G h.2 q hq

end
end Go.Proofs.Ytboadfahlflmhaa

/-
  Plain law, FRATTINI'S ARGUMENT. Conditions: none.
-/
set_option linter.all false
namespace Go.Proofs.Ytboadfahlflmhaa
open Go.Pv

section
variable {n e P : Nat} {f : Nat → Nat → Nat} {q s : Nat → Bool}

theorem Syl.cong {f g : Nat → Nat → Nat} {j t : Nat} (hY : Syl n g e P s j t) (G : Grp n f e) (h : ∀ a b, a < n → b < n → g a b = f a b) : Syl n f e P s j t :=
  ⟨hY.sub.cong_op G h, hY.len, hY.num, hY.non⟩

end
end Go.Proofs.Ytboadfahlflmhaa

/-
  Nilpotent groups; classes of a quotient; the quotient by commutators. Conditions: none.
-/
set_option linter.all false
namespace Go.Proofs.Ytboadfahlflmhaa
open Go.Pv

section
variable {n : Nat} {f : Nat → Nat → Nat} {e : Nat}
/-! ### Classes of a quotient -/

theorem lead_le {k : Nat} {r1 r2 : Nat → Nat → Bool} (E1 : Eqv n r1) (E2 : Eqv k r2) (rep : Nat → Nat) (hr : ∀ i, i < k → rep i < n) (h : ∀ i j, i < k → j < k → r1 (rep i) (rep j) = true → r2 i j = true) : (mem k (lead r2)).length ≤ (mem n (lead r1)).length := by
  have hex : ∀ i, ∃ x, i < k → x < n ∧ lead r1 x = true ∧ r1 x (rep i) = true := fun i => by
    by_cases hi : i < k
    · obtain ⟨x, h1, h2, h3⟩ := E1.least (hr i hi)
      exact ⟨x, fun _ => ⟨h1, h2, h3⟩⟩
    · exact ⟨0, fun h => absurd h hi⟩
  obtain ⟨g, hg⟩ := Classical.axiomOfChoice hex
  rw [← List.length_map (f := g) («as» := mem k (lead r2))]
  refine List.Nodup.length_le_of_subset (nodup_map (List.nodup_range.filter _) fun i hi j hj he => ?_) fun x hx => ?_
  · obtain ⟨i1, i2⟩ := mem_mem.1 hi
    obtain ⟨j1, j2⟩ := mem_mem.1 hj
    obtain ⟨a1, a2, a3⟩ := hg i i1
    obtain ⟨b1, b2, b3⟩ := hg j j1
    rw [← he] at b3
    exact E2.lead_eq i1 j1 i2 j2 (h i j i1 j1 (E1.trans _ _ _ (hr i i1) a1 (hr j j1) (E1.symm _ _ a1 (hr i i1) a3) b3))
  · obtain ⟨i, hi, rfl⟩ := List.mem_map.1 hx
    obtain ⟨i1, i2⟩ := mem_mem.1 hi
    exact mem_mem.2 ⟨(hg i i1).1, (hg i i1).2.1⟩
theorem Qm.iv {k : Nat} {cl rep : Nat → Nat} (Q : Qm n f k cl rep) (G : Grp n f e) {a : Nat} (ha : a < n) : iv k (qop f cl rep) (cl e) (cl a) = cl (Go.Proofs.Ytboadfahlflmhaa.iv n f e a) :=
  ((Q.grp G).iv_unique (Q.lt a ha) (Q.lt _ (G.iv_lt ha)) (.inl (by rw [Q.op ha (G.iv_lt ha), G.mul_iv ha]))).symm
theorem Qm.cjb {k : Nat} {cl rep : Nat → Nat} (Q : Qm n f k cl rep) (G : Grp n f e) {x y : Nat} (hx : x < n) (hy : y < n) (h : cjb n f e x y = true) : cjb k (qop f cl rep) (cl e) (cl x) (cl y) = true := by
  obtain ⟨a, ha, rfl⟩ := cjb_iff.1 h
  have ia := G.iv_lt ha
  refine cjb_iff.2 ⟨cl a, Q.lt a ha, ?_⟩
  rw [Q.iv G ha, Q.op ia hx, Q.op (G.cl _ _ ia hx) ha]
/-- A quotient has no more classes. -/
theorem Qm.classes {k : Nat} {cl rep : Nat → Nat} (Q : Qm n f k cl rep) (G : Grp n f e) : (mem k (lead (Go.Proofs.Ytboadfahlflmhaa.cjb k (qop f cl rep) (cl e)))).length ≤ (mem n (lead (Go.Proofs.Ytboadfahlflmhaa.cjb n f e))).length :=
  lead_le G.cjb_eqv (Q.grp G).cjb_eqv rep Q.rlt fun i j hi hj h => by
    have := Q.cjb G (Q.rlt i hi) (Q.rlt j hj) h
    rwa [Q.at_ i hi, Q.at_ j hj] at this
end
end Go.Proofs.Ytboadfahlflmhaa

/-
  Plain law: nilpotent is just where all of Sylow's subgroups are normal; both central series are as long. Conditions: none.
-/
set_option linter.all false
namespace Go.Proofs.Ytboadfahlflmhaa
open Go.Pv

section
variable {n e P : Nat} {f : Nat → Nat → Nat} {p q s : Nat → Bool}

/-! ### Both series -/
section
variable {nl : (Nat → Bool) → Nat → Bool}
theorem Stp.le {T : Nat → Nat → Bool} {K k : Nat} (h : Stp n T K) (he : ∀ a, a < n → T (k + 1) a = T k a) : K ≤ k :=
  Nat.le_of_not_lt fun hh => h.ne k hh he
end

/-! ### Sylow's subgroups of what is nilpotent -/
/-! ### A group of a power of P things, and a normal subgroup that is not all -/
/-! ### Where all of Sylow's subgroups are normal -/
end
end Go.Proofs.Ytboadfahlflmhaa

/-
  Plain: each step of a chain has its quotient; it is of a prime where things commute; what is solvable. Conditions: none.
-/
set_option linter.all false
namespace Go.Proofs.Ytboadfahlflmhaa

section
variable {n e : Nat} {f : Nat → Nat → Nat} {p q : Nat → Bool}
/-- The quotient of a group. -/
theorem quot_hm (G : Grp n f e) (hq : Sub n f e q) (hN : Nml n f e q) : Hm n f e (fun _ => true) (cst n (dco n f q (onp e))).length (qop f (clq n (dco n f q (onp e))) (rpq n (dco n f q (onp e)))) (clq n (dco n f q (onp e)) e) (clq n (dco n f q (onp e))) := by
  have E := G.dco_eqv hq G.onp_sub
  have Q := cst_qm G E fun a b c d ha hb hc hd h1 h2 => G.rco_cong hq hN ha hb hc hd h1 h2
  exact ⟨Q.grp G, G.all_sub, fun x hx _ => Q.lt x hx, fun x y hx hy _ _ => (Q.op hx hy).symm, fun i hi => ⟨_, Q.rlt i hi, rfl, Q.at_ i hi⟩⟩
theorem quot_ker (G : Grp n f e) (hq : Sub n f e q) {x : Nat} (hx : x < n) : clq n (dco n f q (onp e)) x = clq n (dco n f q (onp e)) e ↔ q x = true := by
  have E := G.dco_eqv hq G.onp_sub
  rw [clq_iff E hx G.el, G.rco_iff hx G.el, G.one_l _ (G.iv_lt hx)]
  exact ⟨fun h => by have := hq.inv _ (G.iv_lt hx) h; rwa [G.iv_iv hx] at this, fun h => hq.inv x hx h⟩
theorem quot_num (G : Grp n f e) (hq : Sub n f e q) : (cst n (dco n f q (onp e))).length * (mem n q).length = n := by
  rw [cst_len]; exact G.rco_num hq
/-- The part of a group. -/
theorem part_hm (G : Grp n f e) (hp : Sub n f e p) : Hm n f e p (thl n p).length (pop n f p) (pix p e) (pix p) :=
  ⟨ptb_grp G hp, hp, fun x hx px => (pix_at hx px).1, fun x y hx hy px py => (pop_pix hp hx hy px py).symm, fun i hi => ⟨lat n p i, (lat_at hi).1, (lat_at hi).2.1, (lat_at hi).2.2.2⟩⟩
variable {k k2 d d2 : Nat} {g g2 : Nat → Nat → Nat} {φ ψ : Nat → Nat}
theorem Hm.comp (H : Hm n f e p k g d φ) (K : Hm k g d (fun _ => true) k2 g2 d2 ψ) : Hm n f e p k2 g2 d2 fun x => ψ (φ x) where
  grp := K.grp
  sub := H.sub
  lt x hx px := K.lt _ (H.lt x hx px) rfl
  mul x y hx hy px py := by
    show ψ (φ (f x y)) = _
    rw [H.mul x y hx hy px py, K.mul _ _ (H.lt x hx px) (H.lt y hy py) rfl rfl]
  onto i hi := by
    obtain ⟨y, y1, _, rfl⟩ := K.onto i hi
    obtain ⟨x, x1, x2, rfl⟩ := H.onto y y1
    exact ⟨x, x1, x2, rfl⟩
theorem Hm.cong_op (H : Hm n f e p k g d φ) (h : ∀ a b, a < k → b < k → g2 a b = g a b) (G2 : Grp k g2 d) : Hm n f e p k g2 d φ :=
  ⟨G2, H.sub, H.lt, fun x y hx hy px py => by rw [H.mul x y hx hy px py, h _ _ (H.lt x hx px) (H.lt y hy py)], H.onto⟩
/-- What stands of a smaller one in the part. -/
def dwn (n : Nat) (p q : Nat → Bool) (i : Nat) : Bool := q (lat n p i)
theorem lft_dwn (hle : ∀ x, x < n → q x = true → p x = true) : ∀ x, x < n → lft p (dwn n p q) x = q x := fun x hx => by
  unfold lft dwn
  cases px : p x with
  | false =>
    cases qx : q x with
    | false => rfl
    | true => rw [hle x hx qx] at px; cases px
  | true => rw [lat_pix hx px]; rfl
theorem dwn_sub (G : Grp n f e) (hp : Sub n f e p) (hq : Sub n f e q) : Sub (thl n p).length (pop n f p) (pix p e) (dwn n p q) :=
  sub_of (ptb_grp G hp) (by unfold dwn; rw [lat_pix G.el hp.one]; exact hq.one) fun i j hi hj h1 h2 => by
    unfold dwn at h1 h2 ⊢
    rw [(pop_at G hp hi hj).2]
    exact hq.mul _ _ (lat_at hi).1 (lat_at hj).1 h1 h2
theorem dwn_nml (G : Grp n f e) (hp : Sub n f e p) : Nml (thl n p).length (pop n f p) (pix p e) (dwn n p q) ↔ ∀ a x, a < n → x < n → p a = true → p x = true → q x = true → q (cjr n f e x a) = true := by
  have H := part_hm G hp
  constructor
  · intro h a x ha hx pa px qx
    have := h (pix p a) (pix_at ha pa).1 (pix p x) (pix_at hx px).1 (by unfold dwn; rw [lat_pix hx px]; exact qx)
    rw [← H.cjr G hx ha px pa] at this
    unfold dwn at this
    rwa [lat_pix (G.cjr_lt hx ha) (cjr_in G hp hx ha px pa)] at this
  · intro h i hi j hj hd
    obtain ⟨a1, a2, _, a4⟩ := lat_at hi
    obtain ⟨b1, b2, _, b4⟩ := lat_at hj
    have := h _ _ a1 b1 a2 b2 hd
    rw [← a4, ← b4, ← H.cjr G b1 a1 b2 a2]
    unfold dwn
    rwa [lat_pix (G.cjr_lt b1 a1) (cjr_in G hp b1 a1 b2 a2)]
theorem dwn_len (hle : ∀ x, x < n → q x = true → p x = true) : (mem (thl n p).length (dwn n p q)).length = (mem n q).length := by
  have h1 := congrArg List.length (lft_thl p (dwn n p q) n)
  rw [List.length_map] at h1
  have e1 : (thl (thl n p).length (dwn n p q)).length = (mem (thl n p).length (dwn n p q)).length := thl_len _ _
  have e2 : (thl n (lft p (dwn n p q))).length = (mem n (lft p (dwn n p q))).length := thl_len _ _
  rw [← e1, h1, e2, mem_congr (lft_dwn hle)]

/-- The quotient of a subgroup by what is normal in it. -/
theorem step_hm (G : Grp n f e) (hp : Sub n f e p) (hq : Sub n f e q) (hle : ∀ x, x < n → q x = true → p x = true) (hN : ∀ a x, a < n → x < n → p a = true → p x = true → q x = true → q (cjr n f e x a) = true) :
    ∃ k g d φ, Hm n f e p k g d φ ∧ (∀ x, x < n → pre p φ (onp d) x = q x) ∧ k * (mem n q).length = (mem n p).length := by
  have H := part_hm G hp
  have P := H.grp
  have ds := dwn_sub G hp hq
  have K := quot_hm P ds ((dwn_nml G hp).2 hN)
  refine ⟨_, _, _, _, H.comp K, fun x hx => ?_, ?_⟩
  · unfold pre
    cases px : p x with
    | false =>
      cases qx : q x with
      | false => rfl
      | true => rw [hle x hx qx] at px; cases px
    | true =>
      rw [Bool.true_and, Bool.eq_iff_iff, onp_iff, quot_ker P ds (H.lt x hx px)]
      unfold dwn
      rw [lat_pix hx px]
  · have := quot_num P ds
    rw [dwn_len hle] at this
    have e1 : (thl n p).length = (mem n p).length := thl_len _ _
    rw [← e1]; exact this
theorem Mxn.hm (G : Grp n f e) (hp : Sub n f e p) (h : Mxn n f e p q) : ∃ k g d φ, Hm n f e p k g d φ ∧ (∀ x, x < n → pre p φ (onp d) x = q x) ∧ k * (mem n q).length = (mem n p).length ∧ Mxn k g d (fun _ => true) (onp d) := by
  obtain ⟨k, g, d, φ, H, h1, h2⟩ := step_hm G hp h.sub h.le fun a x ha hx pa _ qx => h.nml a x ha hx pa qx
  refine ⟨k, g, d, φ, H, h1, h2, H.of_pre G H.grp.onp_sub ?_⟩
  refine (h.congr_r G (H.pre_sub G H.grp.onp_sub) h1).congr_l fun x hx => ?_
  show (p x && true) = p x
  rw [Bool.and_true]

end
end Go.Proofs.Ytboadfahlflmhaa

/-
  Plain: homomorphisms, and how a map of some things is spread. Conditions: none.
-/
set_option linter.all false
namespace Go.Proofs.Ytboadfahlflmhaa

/-- A homomorphism. -/
structure Hmo (n : Nat) (f : Nat → Nat → Nat) (N : Nat) (g : Nat → Nat → Nat) (φ : Nat → Nat) : Prop where
  lt : ∀ a, a < n → φ a < N
  mul : ∀ a b, a < n → b < n → φ (f a b) = g (φ a) (φ b)

/-- It takes some things where it is told. -/
def Ext (n : Nat) (f : Nat → Nat → Nat) (N : Nat) (g : Nat → Nat → Nat) (F T : List Nat) (φ : Nat → Nat) : Prop := Hmo n f N g φ ∧ ∀ i, i < F.length → φ (F.getD i 0) = T.getD i 0

/-- What is reached: a thing, and what must stand for it. -/
inductive Rch (f : Nat → Nat → Nat) (e : Nat) (g : Nat → Nat → Nat) (d : Nat) (F T : List Nat) : Nat → Nat → Prop
  | one : Rch f e g d F T e d
  | step {a y : Nat} (i : Nat) (hi : i < F.length) (h : Rch f e g d F T a y) : Rch f e g d F T (f a (F.getD i 0)) (g y (T.getD i 0))

/-- A map as a row: -1 where nothing stands yet. -/
def prow (n : Nat) (S : Nat → Bool) (ψ : Nat → Nat) : List Int := (List.range n).map fun a => if S a then ((ψ a : Nat) : Int) else -1
def tbm (n : Nat) (φ : Nat → Nat) : List Int := (List.range n).map fun a => ((φ a : Nat) : Int)
def upd1 (S : Nat → Bool) (b : Nat) : Nat → Bool := fun x => S x || decide (x = b)
def updF (ψ : Nat → Nat) (b y : Nat) : Nat → Nat := fun x => if x = b then y else ψ x

theorem prow_len (n : Nat) (S : Nat → Bool) (ψ : Nat → Nat) : (prow n S ψ).length = n := by simp [prow]
theorem tbm_len (n : Nat) (φ : Nat → Nat) : (tbm n φ).length = n := by simp [tbm]
theorem prow_get {n : Nat} {S : Nat → Bool} {ψ : Nat → Nat} {a : Nat} (ha : a < n) : (prow n S ψ).getD a 0 = if S a then ((ψ a : Nat) : Int) else -1 := by
  simp [prow, List.getD, ha]
theorem tbm_get {n : Nat} {φ : Nat → Nat} {a : Nat} (ha : a < n) : (tbm n φ).getD a 0 = ((φ a : Nat) : Int) := by
  simp [tbm, List.getD, ha]
theorem prow_set {n : Nat} {S : Nat → Bool} {ψ : Nat → Nat} {b y : Nat} (hb : b < n) (hS : S b = false) : (prow n S ψ).set b ((y : Nat) : Int) = prow n (upd1 S b) (updF ψ b y) := by
  refine List.ext_getElem (by simp [prow]) fun i h1 h2 => ?_
  rw [List.getElem_set]
  by_cases e : b = i
  · subst e
    simp [prow, upd1, updF]
  · rw [if_neg e]
    simp [prow, upd1, updF, Ne.symm e]
theorem prow_all {n : Nat} {S : Nat → Bool} {ψ φ : Nat → Nat} (h : ∀ a, a < n → S a = true ∧ ψ a = φ a) : prow n S ψ = tbm n φ := by
  refine List.map_congr_left fun a ha => ?_
  obtain ⟨h1, h2⟩ := h a (List.mem_range.1 ha)
  rw [h1, h2]; rfl
theorem upd1_true {S : Nat → Bool} {b x : Nat} : upd1 S b x = true ↔ S x = true ∨ x = b := by simp [upd1]
theorem updF_ne {ψ : Nat → Nat} {b y x : Nat} (h : x ≠ b) : updF ψ b y x = ψ x := by simp [updF, h]
theorem updF_eq {ψ : Nat → Nat} {b y : Nat} : updF ψ b y b = y := by simp [updF]

/-- How many stand out. -/
def outs (n : Nat) (S : Nat → Bool) : Nat := (mem n fun a => !S a).length
theorem outs_upd {n : Nat} {S : Nat → Bool} {b : Nat} (hb : b < n) (hS : S b = false) : outs n (upd1 S b) + 1 = outs n S := by
  unfold outs mem
  induction n with
  | zero => omega
  | succ n ih =>
    rw [List.range_succ, List.filter_append, List.filter_append, List.length_append, List.length_append]
    by_cases e : b = n
    · subst e
      have h0 : (List.range b).filter (fun a => !upd1 S b a) = (List.range b).filter (fun a => !S a) := List.filter_congr fun x hx => by
        have := List.mem_range.1 hx
        simp [upd1, show x ≠ b by omega]
      rw [h0]
      simp [upd1, hS]
    · have := ih (by omega)
      have h1 : upd1 S b n = S n := by simp [upd1, Ne.symm e]
      simp only [List.filter_cons, h1, List.filter_nil]
      omega

section
variable {n N e d : Nat} {f g : Nat → Nat → Nat} {F T : List Nat} {φ : Nat → Nat}
theorem Hmo.one (G : Grp n f e) (K : Grp N g d) (h : Hmo n f N g φ) : φ e = d := by
  have h1 := h.mul e e G.el G.el
  rw [G.one_l e G.el] at h1
  have h2 := h.lt e G.el
  have h3 := K.assoc (iv N g d (φ e)) (φ e) (φ e) (K.iv_lt h2) h2 h2
  rw [K.iv_mul h2, ← h1, K.iv_mul h2, K.one_l _ h2] at h3
  exact h3
/-- Where the spreading stands. -/
structure Sprd (n : Nat) (f : Nat → Nat → Nat) (e N : Nat) (g : Nat → Nat → Nat) (d : Nat) (F T : List Nat) (S : Nat → Bool) (ψ : Nat → Nat) (W : List Nat) : Prop where
  one : S e = true ∧ ψ e = d
  lt : ∀ a, a < n → S a = true → ψ a < N
  rch : ∀ a, a < n → S a = true → Rch f e g d F T a (ψ a)
  wt : ∀ a ∈ W, a < n ∧ S a = true
  cl : ∀ a, a < n → S a = true → a ∉ W → ∀ i, i < F.length → S (f a (F.getD i 0)) = true ∧ ψ (f a (F.getD i 0)) = g (ψ a) (T.getD i 0)

/-- Within a round. -/
structure Sprd2 (n : Nat) (f : Nat → Nat → Nat) (e N : Nat) (g : Nat → Nat → Nat) (d : Nat) (F T : List Nat) (a0 i0 : Nat) (S : Nat → Bool) (ψ : Nat → Nat) (W : List Nat) : Prop where
  one : S e = true ∧ ψ e = d
  lt : ∀ a, a < n → S a = true → ψ a < N
  rch : ∀ a, a < n → S a = true → Rch f e g d F T a (ψ a)
  wt : ∀ a ∈ W, a < n ∧ S a = true
  ha : a0 < n ∧ S a0 = true
  cl : ∀ a, a < n → S a = true → a ∉ W → ∀ i, i < F.length → (a = a0 → i < i0) → S (f a (F.getD i 0)) = true ∧ ψ (f a (F.getD i 0)) = g (ψ a) (T.getD i 0)

theorem Sprd.begin (G : Grp n f e) (K : Grp N g d) : Sprd n f e N g d F T (upd1 (fun _ => false) e) (updF (fun _ => 0) e d) [e] where
  one := ⟨by simp [upd1], updF_eq⟩
  lt a ha h := by
    have : a = e := by simpa [upd1] using h
    rw [this, updF_eq]; exact K.el
  rch a ha h := by
    have : a = e := by simpa [upd1] using h
    rw [this, updF_eq]; exact .one
  wt a ha := by
    have : a = e := by simpa using ha
    rw [this]; exact ⟨G.el, by simp [upd1]⟩
  cl a ha h hw := by
    have : a = e := by simpa [upd1] using h
    exact absurd (by simp [this]) hw
theorem Sprd.pop {S : Nat → Bool} {ψ : Nat → Nat} {a : Nat} {W : List Nat} (h : Sprd n f e N g d F T S ψ (a :: W)) : Sprd2 n f e N g d F T a 0 S ψ W where
  one := h.one
  lt := h.lt
  rch := h.rch
  wt x hx := h.wt x (by simp [hx])
  ha := h.wt a (by simp)
  cl x hx hS hW i hi hai := by
    by_cases e : x = a
    · have := hai e; omega
    · exact h.cl x hx hS (by simp [e, hW]) i hi
theorem Sprd2.done {S : Nat → Bool} {ψ : Nat → Nat} {a : Nat} {W : List Nat} (h : Sprd2 n f e N g d F T a F.length S ψ W) : Sprd n f e N g d F T S ψ W where
  one := h.one
  lt := h.lt
  rch := h.rch
  wt := h.wt
  cl x hx hS hW i hi := h.cl x hx hS hW i hi fun _ => hi
theorem Sprd2.push (G : Grp n f e) (K : Grp N g d) (hF : ∀ i, i < F.length → F.getD i 0 < n) (hT : ∀ i, i < F.length → T.getD i 0 < N) {S : Nat → Bool} {ψ : Nat → Nat} {a i : Nat} {W : List Nat} (h : Sprd2 n f e N g d F T a i S ψ W) (hi : i < F.length) (hb : S (f a (F.getD i 0)) = false) :
    Sprd2 n f e N g d F T a (i + 1) (upd1 S (f a (F.getD i 0))) (updF ψ (f a (F.getD i 0)) (g (ψ a) (T.getD i 0))) (W ++ [f a (F.getD i 0)]) := by
  have hbn := G.cl _ _ h.ha.1 (hF i hi)
  have hne : ∀ x, S x = true → x ≠ f a (F.getD i 0) := fun x hx e => by rw [e, hb] at hx; cases hx
  refine ⟨⟨upd1_true.2 (.inl h.one.1), by rw [updF_ne (hne _ h.one.1)]; exact h.one.2⟩, fun x hx hS => ?_, fun x hx hS => ?_, fun x hx => ?_, ⟨h.ha.1, upd1_true.2 (.inl h.ha.2)⟩, fun x hx hS hW j hj hji => ?_⟩
  · rcases upd1_true.1 hS with h1 | rfl
    · rw [updF_ne (hne _ h1)]; exact h.lt x hx h1
    · rw [updF_eq]; exact K.cl _ _ (h.lt a h.ha.1 h.ha.2) (hT i hi)
  · rcases upd1_true.1 hS with h1 | rfl
    · rw [updF_ne (hne _ h1)]; exact h.rch x hx h1
    · rw [updF_eq]; exact .step i hi (h.rch a h.ha.1 h.ha.2)
  · rcases List.mem_append.1 hx with hx | hx
    · obtain ⟨h1, h2⟩ := h.wt x hx
      exact ⟨h1, upd1_true.2 (.inl h2)⟩
    · have : x = f a (F.getD i 0) := by simpa using hx
      rw [this]; exact ⟨hbn, upd1_true.2 (.inr rfl)⟩
  · have hW1 : x ∉ W := fun hh => hW (by simp [hh])
    have hxb : x ≠ f a (F.getD i 0) := fun hh => hW (by simp [hh])
    have hSx : S x = true := (upd1_true.1 hS).resolve_right hxb
    rw [updF_ne hxb]
    by_cases e : x = a ∧ j = i
    · obtain ⟨rfl, rfl⟩ := e
      exact ⟨upd1_true.2 (.inr rfl), updF_eq⟩
    · obtain ⟨k1, k2⟩ := h.cl x hx hSx hW1 j hj fun ea => by
        have := hji ea
        have : j ≠ i := fun ej => e ⟨ea, ej⟩
        omega
      exact ⟨upd1_true.2 (.inl k1), by rw [updF_ne (hne _ k1)]; exact k2⟩
/-- At the end all is reached, and it is a homomorphism. -/
theorem Sprd.fin (G : Grp n f e) (K : Grp N g d) (hF : ∀ i, i < F.length → F.getD i 0 < n) (hT : ∀ i, i < F.length → T.getD i 0 < N) (hgen : ∀ a, a < n → Gen n f e (fun x => decide (x ∈ F)) a) {S : Nat → Bool} {ψ : Nat → Nat} (h : Sprd n f e N g d F T S ψ []) :
    (∀ a, a < n → S a = true) ∧ Ext n f N g F T ψ := by
  have hall : ∀ a, a < n → S a = true := fun a ha => Gen.least (H := fun a => S a = true) h.one.1 (fun a b hga hb hp hSa => by
    have hp : b ∈ F := by simpa using hp
    obtain ⟨i, hi, rfl⟩ := List.getElem_of_mem hp
    have e1 : F[i] = F.getD i 0 := by simp [List.getD, List.getElem?_eq_getElem hi]
    rw [e1]
    exact (h.cl a (hga.lt G) hSa (by simp) i hi).1) (hgen a ha)
  have hmul : ∀ a, a < n → ∀ b, b < n → ψ (f a b) = g (ψ a) (ψ b) := fun a ha b hb => by
    refine Gen.least (H := fun b => ψ (f a b) = g (ψ a) (ψ b)) ?_ (fun c x hgc hx hp ih => ?_) (hgen b hb)
    · rw [G.one_r a ha, h.one.2, K.one_r _ (h.lt a ha (hall a ha))]
    · have hp : x ∈ F := by simpa using hp
      obtain ⟨i, hi, rfl⟩ := List.getElem_of_mem hp
      have e1 : F[i] = F.getD i 0 := by simp [List.getD, List.getElem?_eq_getElem hi]
      rw [e1]
      have hc := hgc.lt G
      have hac := G.cl a c ha hc
      rw [← G.assoc a c _ ha hc (hF i hi), (h.cl _ hac (hall _ hac) (by simp) i hi).2, (h.cl c hc (hall c hc) (by simp) i hi).2, ih, K.assoc _ _ _ (h.lt a ha (hall a ha)) (h.lt c hc (hall c hc)) (hT i hi)]
  refine ⟨hall, ⟨fun a ha => h.lt a ha (hall a ha), fun a b ha hb => hmul a ha b hb⟩, fun i hi => ?_⟩
  have h1 := (h.cl e G.el h.one.1 (by simp) i hi).2
  rw [G.one_l _ (hF i hi), h.one.2, K.one_l _ (hT i hi)] at h1
  exact h1
end
end Go.Proofs.Ytboadfahlflmhaa

/-
  How many bits are set: by sums of neighbours. Conditions: none.
-/
set_option linter.all false
namespace Go.Proofs.Ytboadfahlflmhaa
open Go.Pv

def p1 (M x : Nat) : Nat := (x / 2 &&& M) + (x &&& M)
def p2 (M x : Nat) : Nat := (x / 4 &&& M) + (x &&& M)
theorem dv {a B q : Nat} (h : a < B) : (a + B * q) / B = q := by
  rw [Nat.add_mul_div_left _ _ (Nat.lt_of_le_of_lt (Nat.zero_le _) h), Nat.div_eq_of_lt h, Nat.zero_add]
theorem l3 {E0 E1 E2 E3 : Nat} (h0 : E0 ≤ 5000) (h1 : E1 ≤ 5000) (h2 : E2 ≤ 5000) (h3 : E3 ≤ 5000) :
    let y4 := E0 + 65536 * (E1 + 65536 * (E2 + 65536 * E3))
    let y5 := y4 + y4 / 65536
    (y5 + y5 / 4294967296) % 128 = (E0 + E1 + E2 + E3) % 128 := by
  intro y4 y5
  have a1 : y4 / 65536 = E1 + 65536 * (E2 + 65536 * E3) := dv (by omega)
  have a2 : y5 = ((E0 + E1) + 65536 * (E1 + E2)) + 4294967296 * ((E2 + E3) + 65536 * E3) := by
    show y4 + y4 / 65536 = _
    rw [a1]; show E0 + 65536 * (E1 + 65536 * (E2 + 65536 * E3)) + _ = _
    omega
  have a3 : y5 / 4294967296 = (E2 + E3) + 65536 * E3 := by rw [a2]; exact dv (by omega)
  rw [a3, a2]
  omega
theorem l1 {d0 d1 d2 d3 d4 d5 d6 d7 : Nat} : d0 + 256 * (d1 + 256 * (d2 + 256 * (d3 + 256 * (d4 + 256 * (d5 + 256 * (d6 + 256 * d7)))))) + (d1 + 256 * (d2 + 256 * (d3 + 256 * (d4 + 256 * (d5 + 256 * (d6 + 256 * d7)))))) =
    (d0 + d1 + 256 * (d1 + d2)) + 65536 * ((d2 + d3 + 256 * (d3 + d4)) + 65536 * ((d4 + d5 + 256 * (d5 + d6)) + 65536 * (d6 + d7 + 256 * d7))) := by
  omega

end Go.Proofs.Ytboadfahlflmhaa

/-
  How many bits are set; lists compared. Conditions: none.
-/
set_option linter.all false
namespace Go.Proofs.Ytboadfahlflmhaa
open Go.Pv

/-! ### Lists, compared -/

def cmpi (x y : Int) : Int := if x < y then -1 else if y < x then 1 else 0
def cmpL : List Int → List Int → Int
  | [], [] => 0
  | [], _ :: _ => -1
  | _ :: _, [] => 1
  | x :: v, y :: w => if cmpi x y = 0 then cmpL v w else cmpi x y
/-! ### An order -/

theorem cmpi_lt {x y : Int} : cmpi x y < 0 ↔ x < y := by
  unfold cmpi
  by_cases h1 : x < y
  · simp [h1]
  · by_cases h2 : y < x <;> simp [h1, h2]
theorem cmpi_eq {x y : Int} : cmpi x y = 0 ↔ x = y := by
  unfold cmpi
  by_cases h1 : x < y
  · simp [h1]; omega
  · by_cases h2 : y < x
    · simp [h1, h2]; omega
    · simp [h1, h2]; omega
theorem cmpL_self : ∀ v : List Int, cmpL v v = 0
  | [] => rfl
  | x :: v => by show (if cmpi x x = 0 then cmpL v v else cmpi x x) = 0; rw [if_pos (cmpi_eq.2 rfl)]; exact cmpL_self v
theorem cmpL_cons_lt {x y : Int} {v w : List Int} : cmpL (x :: v) (y :: w) < 0 ↔ x < y ∨ x = y ∧ cmpL v w < 0 := by
  show (if cmpi x y = 0 then cmpL v w else cmpi x y) < 0 ↔ _
  by_cases h : cmpi x y = 0
  · rw [if_pos h]
    have := cmpi_eq.1 h
    constructor
    · exact fun h2 => .inr ⟨this, h2⟩
    · rintro (h2 | h2)
      · omega
      · exact h2.2
  · rw [if_neg h, cmpi_lt]
    have : ¬ x = y := fun e => h (cmpi_eq.2 e)
    constructor
    · exact fun h2 => .inl h2
    · rintro (h2 | h2)
      · exact h2
      · exact absurd h2.1 this
theorem cmpL_tot : ∀ v w : List Int, ¬ cmpL v w < 0 → ¬ cmpL w v < 0 → v = w
  | [], [], _, _ => rfl
  | [], _ :: _, h, _ => absurd (show (-1 : Int) < 0 by omega) h
  | _ :: _, [], _, h => absurd (show (-1 : Int) < 0 by omega) h
  | x :: v, y :: w, h1, h2 => by
    rw [cmpL_cons_lt] at h1 h2
    have hxy : x = y := by omega
    subst hxy
    rw [cmpL_tot v w (fun h => h1 (.inr ⟨rfl, h⟩)) (fun h => h2 (.inr ⟨rfl, h⟩))]
theorem cmpL_trans : ∀ u v w : List Int, cmpL u v < 0 → cmpL v w < 0 → cmpL u w < 0
  | [], [], _, h, _ => absurd h (by simp [cmpL])
  | [], _ :: _, [], _, h => absurd h (by simp [cmpL])
  | [], _ :: _, _ :: _, _, _ => by simp [cmpL]
  | _ :: _, [], _, h, _ => absurd h (by simp [cmpL])
  | _ :: _, _ :: _, [], _, h => absurd h (by simp [cmpL])
  | x :: u, y :: v, z :: w, h1, h2 => by
    rw [cmpL_cons_lt] at h1 h2 ⊢
    rcases h1 with h1 | ⟨rfl, h1⟩
    · rcases h2 with h2 | ⟨rfl, h2⟩
      · exact .inl (by omega)
      · exact .inl h1
    · rcases h2 with h2 | ⟨rfl, h2⟩
      · exact .inl h2
      · exact .inr ⟨rfl, cmpL_trans u v w h1 h2⟩
theorem cmpL_ntrans (u v w : List Int) (h1 : ¬ cmpL u v < 0) (h2 : ¬ cmpL v w < 0) : ¬ cmpL u w < 0 := fun h => by
  by_cases h3 : cmpL v u < 0
  · exact h2 (cmpL_trans _ _ _ h3 h)
  · rw [cmpL_tot _ _ h1 h3] at h; exact h2 h

/-- Sets: by how many, then by lists. -/
def cmpS (a b : List Int) : Int := if (a.length : Int) - (b.length : Int) = 0 then cmpL a b else (a.length : Int) - (b.length : Int)
theorem cmpS_lt {a b : List Int} : cmpS a b < 0 ↔ a.length < b.length ∨ a.length = b.length ∧ cmpL a b < 0 := by
  unfold cmpS
  by_cases h : (a.length : Int) - (b.length : Int) = 0
  · rw [if_pos h]; constructor
    · exact fun h2 => .inr ⟨by omega, h2⟩
    · rintro (h2 | h2)
      · omega
      · exact h2.2
  · rw [if_neg h]; omega
theorem cmpS_self (v : List Int) : ¬ cmpS v v < 0 := by
  rw [cmpS_lt, cmpL_self]; omega
end Go.Proofs.Ytboadfahlflmhaa

/-
  All subgroups of a group, in their order. Conditions: none.
-/
set_option linter.all false
namespace Go.Proofs.Ytboadfahlflmhaa
open Go.Pv

def wta (p : Nat → Bool) (a x : Nat) : Bool := p x || decide (x = a)
section
variable {n e : Nat} {f : Nat → Nat → Nat}

/-- With one thing more, what is made is there. -/
def Dn (n : Nat) (f : Nat → Nat → Nat) (e x a : Nat) (L : List Nat) : Prop := ∀ q : Nat → Bool, (∀ y, y < n → (q y = true ↔ Gen n f e (wta x.testBit a) y)) → bo n q ∈ L
theorem Dn.mono {x a : Nat} {L L' : List Nat} (h : Dn n f e x a L) (hs : ∀ y ∈ L, y ∈ L') : Dn n f e x a L' := fun q hq => hs _ (h q hq)

/-- All subgroups; each once. -/
structure AllI (n : Nat) (f : Nat → Nat → Nat) (e : Nat) (L : List Nat) : Prop where
  nodup : L.Nodup
  subs : ∀ x ∈ L, ∃ p, Sub n f e p ∧ x = bo n p
  one : bo n (onp e) ∈ L
theorem AllI.lt {L : List Nat} (h : AllI n f e L) : ∀ x ∈ L, x < 2 ^ n := fun x hx => by
  obtain ⟨p, _, rfl⟩ := h.subs x hx
  exact bo_lt n p
theorem AllI.len {L : List Nat} (h : AllI n f e L) : L.length ≤ 2 ^ n := nodup_lt h.nodup h.lt
theorem AllI.all {L : List Nat} (G : Grp n f e) (h : AllI n f e L) (hd : ∀ x ∈ L, ∀ a, a < n → Dn n f e x a L) : ∀ p, Sub n f e p → bo n p ∈ L := by
  intro q hq
  -- from what is there, inside q, up
  have go : ∀ c (p : Nat → Bool), Sub n f e p → bo n p ∈ L → (∀ y, y < n → p y = true → q y = true) → (mem n q).length - (mem n p).length ≤ c → bo n q ∈ L := by
    intro c
    induction c with
    | zero =>
      intro p hp hL hle hc
      have hall : ∀ y, y < n → q y = p y := by
        refine Classical.byContradiction fun hh => ?_
        have := mem_lt (p := q) (q := p) hle (fun h2 => hh fun y hy => (h2 y hy).symm)
        omega
      rw [bo_congr hall]; exact hL
    | succ c ih =>
      intro p hp hL hle hc
      by_cases hall : ∀ y, y < n → q y = p y
      · rw [bo_congr hall]; exact hL
      · have hex : ∃ a, a < n ∧ q a = true ∧ p a = false := by
          refine Classical.byContradiction fun hh => hall fun y hy => ?_
          cases hpy : p y with
          | true => exact hle y hy hpy
          | false =>
            cases hqy : q y with
            | false => rfl
            | true => exact absurd ⟨y, hy, hqy, hpy⟩ hh
        obtain ⟨a, ha, qa, pa⟩ := hex
        obtain ⟨r, hr⟩ := gen_ex n f e (wta (bo n p).testBit a)
        have hrL := hd _ hL a ha r hr
        have hin : ∀ b, b < n → wta (bo n p).testBit a b = true → q b = true := fun b hb hw => by
          unfold wta at hw
          rw [bo_bit, Bool.or_eq_true, Bool.and_eq_true, decide_eq_true_eq, decide_eq_true_eq] at hw
          rcases hw with hw | hw
          · exact hle b hb hw.2
          · rw [hw]; exact qa
        have hrq : ∀ y, y < n → r y = true → q y = true := fun y hy h1 => ((hr y hy).1 h1).sub G hq hin
        have hpr : ∀ y, y < n → p y = true → r y = true := fun y hy h1 => (hr y hy).2 (Gen.mem G hy (by unfold wta; rw [bo_bit]; simp [hy, h1]))
        have hra : r a = true := (hr a ha).2 (Gen.mem G ha (by unfold wta; simp))
        have hlt := mem_lt (p := r) (q := p) hpr (fun h2 => by have := h2 a ha; rw [pa, hra] at this; cases this)
        exact ih r (gen_sub G hr) hrL hrq (by omega)
  exact go _ (onp e) G.onp_sub h.one (fun y hy h1 => by rw [onp_iff] at h1; rw [h1]; exact hq.one) (Nat.le_refl _)

/-- .. in their order. -/
structure AllS (n : Nat) (f : Nat → Nat → Nat) (e : Nat) (L : List Nat) : Prop where
  subs : ∀ x ∈ L, ∃ p, Sub n f e p ∧ x = bo n p
  all : ∀ p, Sub n f e p → bo n p ∈ L
  rise : L.Pairwise fun x y => cmpS (stl x) (stl y) < 0
theorem AllS.nodup {L : List Nat} (h : AllS n f e L) : L.Nodup := h.rise.imp fun {x y} hxy he => by
  subst he; exact cmpS_self _ hxy
theorem AllS.perm {L M : List Nat} (G : Grp n f e) (h : AllS n f e L) (hi : AllI n f e M) (hd : ∀ x ∈ M, ∀ a, a < n → Dn n f e x a M) : M.Perm L := by
  refine (List.perm_ext_iff_of_nodup hi.nodup h.nodup).2 fun x => ⟨fun hx => ?_, fun hx => ?_⟩
  · obtain ⟨p, hp, rfl⟩ := hi.subs x hx; exact h.all p hp
  · obtain ⟨p, hp, rfl⟩ := h.subs x hx; exact hi.all G hd p hp
end
end Go.Proofs.Ytboadfahlflmhaa

/-
  Walks: maps of groups: the fault of a map. Conditions: none.
-/
set_option linter.all false
namespace Go.Proofs.Ytboadfahlflmhaa
open Go.Pv

/-- The value of a map. -/
def hv (l : List Int) (a : Nat) : Nat := (l.getD a 0).toNat
def hgood (m m' l : List Int) (n n' a : Nat) : Prop := ∀ b, b < n → op m' n' (hv l a) (hv l b) = hv l (op m n a b)
instance (m m' l : List Int) (n n' a : Nat) : Decidable (hgood m m' l n n' a) := by unfold hgood; infer_instance
end Go.Proofs.Ytboadfahlflmhaa

/-
  Walks: what makes a group, one by one; a map of some things, spread to all. Conditions: none.
-/
set_option linter.all false
namespace Go.Proofs.Ytboadfahlflmhaa
open Go.Pv

def nl (L : List Nat) : List Int := L.map fun x => ((x : Nat) : Int)
theorem nl_len (L : List Nat) : (nl L).length = L.length := by simp [nl]
theorem nl_get {L : List Nat} {i : Nat} (hi : i < L.length) : (nl L).getD i 0 = ((L.getD i 0 : Nat) : Int) := by
  simp [nl, List.getD, List.getElem?_eq_getElem hi]
theorem nl_snoc (L : List Nat) (x : Nat) : nl (L ++ [x]) = nl L ++ [((x : Nat) : Int)] := by simp [nl]
section
variable (n : Nat) (f : Nat → Nat → Nat) (e : Nat)
/-- The least things that make a group, one by one. -/
noncomputable def gl : Nat → List Nat
  | 0 => []
  | a + 1 => if gn n f e (fun x => decide (x ∈ gl a)) a then gl a else gl a ++ [a]
theorem gl_lt : ∀ (a : Nat), ∀ x ∈ gl n f e a, x < a
  | 0, x, h => by simp [gl] at h
  | a + 1, x, h => by
    unfold gl at h
    split at h
    · have := gl_lt a x h; omega
    · rcases List.mem_append.1 h with h | h
      · have := gl_lt a x h; omega
      · have : x = a := by simpa using h
        omega
theorem gl_mono {a b : Nat} (h : a ≤ b) : ∀ x ∈ gl n f e a, x ∈ gl n f e b := by
  induction b with
  | zero => obtain rfl : a = 0 := by omega
            exact fun x h => h
  | succ b ih =>
    by_cases hab : a = b + 1
    · subst hab; exact fun x h => h
    · intro x hx
      have := ih (by omega) x hx
      unfold gl
      split
      · exact this
      · exact List.mem_append.2 (.inl this)
theorem gl_gen (G : Grp n f e) (a : Nat) (ha : a < n) : Gen n f e (fun x => decide (x ∈ gl n f e n)) a := by
  by_cases h : gn n f e (fun x => decide (x ∈ gl n f e a)) a = true
  · exact Gen.mono (fun b _ hb => by simp only [decide_eq_true_eq] at hb ⊢; exact gl_mono n f e (Nat.le_of_lt ha) b hb) ((gn_iff _ a ha).1 h)
  · have h1 : a ∈ gl n f e (a + 1) := by
      unfold gl
      rw [if_neg h]; simp
    have h2 := gl_mono n f e (show a + 1 ≤ n from ha) a h1
    exact Gen.mem G ha (by simpa using h2)
end

section
variable {n e : Nat} {m : List Int}
end
end Go.Proofs.Ytboadfahlflmhaa
