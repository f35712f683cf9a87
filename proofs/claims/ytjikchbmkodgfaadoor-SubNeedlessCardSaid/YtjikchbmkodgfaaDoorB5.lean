/-
  Texts of this proof, one behind the other: what each says stands at its head. Conditions: none.
-/
import Derived.Test.YtjikchbmkodgfaaDoorB4

/-
  Sets of things: what they make, as the program has it. Conditions: none.
-/
set_option linter.all false
namespace Go.Proofs.YtjikchbmkodgfaaDoor
open Go.Pv

/-- The bits of the things of which something holds. -/
def bo (n : Nat) (p : Nat → Bool) : Nat := msk (thl n p)
theorem bo_bit (n : Nat) (p : Nat → Bool) (i : Nat) : (bo n p).testBit i = (decide (i < n) && p i) := by
  unfold bo
  rw [msk_bit, Bool.eq_iff_iff, decide_eq_true_eq, Bool.and_eq_true, decide_eq_true_eq]
  constructor
  · rintro ⟨x, hx, rfl⟩
    obtain ⟨a, h1, h2, rfl⟩ := mem_thl.1 hx
    exact ⟨h1, h2⟩
  · rintro ⟨h1, h2⟩
    exact ⟨(i : Int), mem_thl.2 ⟨i, h1, h2, rfl⟩, rfl⟩
theorem bo_lt (n : Nat) (p : Nat → Bool) : bo n p < 2 ^ n := msk_lt fun x hx => by
  obtain ⟨a, h1, _, rfl⟩ := mem_thl.1 hx
  exact h1
theorem bo_lt64 {n : Nat} (hn : n ≤ 60) (p : Nat → Bool) : bo n p < 2 ^ 64 := Nat.lt_of_lt_of_le (bo_lt n p) (Nat.pow_le_pow_right (by omega) (by omega))
theorem bo_eq {n s : Nat} {p : Nat → Bool} (hs : s < 2 ^ n) (h : ∀ i, i < n → s.testBit i = p i) : s = bo n p := by
  refine Nat.eq_of_testBit_eq fun i => ?_
  rw [bo_bit]
  by_cases hi : i < n
  · rw [h i hi]; simp [hi]
  · rw [Nat.testBit_lt_two_pow (Nat.lt_of_lt_of_le hs (Nat.pow_le_pow_right (by omega) (by omega)))]; simp [hi]
theorem bo_congr {n : Nat} {p q : Nat → Bool} (h : ∀ a, a < n → p a = q a) : bo n p = bo n q := by unfold bo; rw [thl_congr h]
theorem bo_inj {n : Nat} {p q : Nat → Bool} (h : bo n p = bo n q) {a : Nat} (ha : a < n) : p a = q a := by
  have h1 := bo_bit n p a
  rw [h, bo_bit] at h1
  simpa [ha] using h1.symm
theorem stl_bo {n : Nat} (hn : n ≤ 60) (p : Nat → Bool) : stl (bo n p) = thl n p := by
  rw [stl_n (by omega) (bo_lt n p)]
  exact thl_congr fun a ha => by rw [bo_bit]; simp [ha]
theorem msk_thl (n : Nat) (p : Nat → Bool) : msk (thl n p) = bo n p := rfl
theorem thl_rng {n : Nat} (hn : n ≤ 60) (p : Nat → Bool) : ∀ x ∈ thl n p, 0 ≤ x ∧ x < 64 := by
  intro x hx
  obtain ⟨a, h1, _, rfl⟩ := mem_thl.1 hx
  omega
theorem pow_lt64 {b : Nat} (hb : b < 64) : 2 ^ b < 2 ^ 64 := Nat.pow_lt_pow_right (by omega) hb
theorem lt64 {n s : Nat} (hn : n ≤ 60) (hs : s < 2 ^ n) : s < 2 ^ 64 := Nat.lt_of_lt_of_le hs (Nat.pow_le_pow_right (by omega) (by omega))
theorem bit_ltn {n s i : Nat} (hs : s < 2 ^ n) (h : s.testBit i = true) : i < n := by
  rcases Nat.lt_or_ge i n with h1 | h1
  · exact h1
  · rw [Nat.testBit_lt_two_pow (Nat.lt_of_lt_of_le hs (Nat.pow_le_pow_right (by omega) h1))] at h; cases h

theorem app_at (pre w : List Int) (a : Int) (d : AV) : (ol (pre ++ a :: w)).getD pre.length d = .p (.int .i64 a) := by
  simp [ol, il, List.getD]

/-- What holds while a set grows. -/
structure GrowI (n : Nat) (f : Nat → Nat → Nat) (e s out : Nat) (w : List Int) : Prop where
  lt : out < 2 ^ n
  one : out.testBit e = true
  gen : ∀ a, out.testBit a = true → Gen n f e s.testBit a
  wait : ∀ x ∈ w, ∃ a, x = ((a : Nat) : Int) ∧ out.testBit a = true
  nd : w.Nodup

theorem or_bit (s b i : Nat) : (s ||| 2 ^ b).testBit i = (s.testBit i || decide (b = i)) := by rw [Nat.testBit_or, Nat.testBit_two_pow]
theorem GrowI.len {n e s out : Nat} {f : Nat → Nat → Nat} {w : List Int} (h : GrowI n f e s out w) : w.length ≤ n := by
  have h1 := List.Nodup.length_le_of_subset h.nd (l₂ := thl n fun _ => true) fun x hx => by
    obtain ⟨a, rfl, ha⟩ := h.wait x hx
    exact mem_thl.2 ⟨a, bit_ltn h.lt ha, rfl, rfl⟩
  exact Nat.le_trans h1 (thl_le _ _)
theorem GrowI.add {n e s out a z : Nat} {f : Nat → Nat → Nat} {w : List Int} (h : GrowI n f e s out w) (ha : out.testBit a = true) (hz : s.testBit z = true) (hzn : z < n) (hn : f a z < n) (hno : out.testBit (f a z) = false) :
    GrowI n f e s (out ||| 2 ^ f a z) (w ++ [((f a z : Nat) : Int)]) where
  lt := Nat.or_lt_two_pow h.lt (Nat.pow_lt_pow_right (by omega) hn)
  one := by rw [or_bit, h.one]; rfl
  gen y hy := by
    rw [or_bit, Bool.or_eq_true, decide_eq_true_eq] at hy
    rcases hy with hy | rfl
    · exact h.gen y hy
    · exact .step a z (h.gen a ha) hzn hz
  wait x hx := by
    rcases List.mem_append.1 hx with hx | hx
    · obtain ⟨y, e1, e2⟩ := h.wait x hx
      exact ⟨y, e1, by rw [or_bit, e2]; rfl⟩
    · exact ⟨_, List.mem_singleton.1 hx, by rw [or_bit]; simp⟩
  nd := by
    refine List.nodup_append.2 ⟨h.nd, by simp, fun x hx y hy e => ?_⟩
    rw [List.mem_singleton] at hy
    obtain ⟨y', e1, e2⟩ := h.wait x hx
    have : y' = f a z := by omega
    rw [this, hno] at e2; cases e2

theorem grow_c {n e : Nat} {m : List Int} (h : GT n m n e) (s : Nat) (hs : s < 2 ^ n) (q : Nat → Bool) (hq : ∀ a, a < n → (q a = true ↔ Gen n (op m n) e s.testBit a)) : FnC Tryd.prog 79 [gp n m, .int .u64 s] (.int .u64 (bo n q)) := by
  have G := h.2.2
  have T := h.2.1
  have hb := T.big
  have hel := G.el
  have hs64 := lt64 hb hs
  have hone := pow_lt64 (b := e) (by omega)
  have hbe : ∀ a, (2 ^ e).testBit a = true → a = e := fun a ha => by rw [Nat.testBit_two_pow] at ha; simp at ha; exact ha.symm
  have hstl : ∀ x ∈ stl (2 ^ e), x = (e : Int) := fun x hx => by
    obtain ⟨a, _, h2, rfl⟩ := mem_thl.1 hx
    rw [hbe a h2]
  have hstl2 : (e : Int) ∈ stl (2 ^ e) := mem_thl.2 ⟨e, by omega, by rw [Nat.testBit_two_pow]; simp, rfl⟩
  refine fnc_of tab_ok Tryd.func79 rfl (by kernel_rfl) (by rw [Tryd.ntmps79]; exact Nat.le_add_left 2 _) ?_; rw [Tryd.ntmps79]
  refine qm ?_
  refine hk_region fun K hK => runs_eval tab_ok ?_
  simp only [ev0, evA, evB, evP, fl, gp, tab, simprocAttr, reduceCtorEq, reduceIte]
  refine fin_run ?_ (hK _ ?_) <;> clear hK <;> clear K
  · (first | exact trivial | omega | (simp only [In64] at *; omega) | (simp [In64] at *; omega) | (simp_all; done) | skip)
  refine qa (qm ?_)
  refine hk_region fun K hK => runs_eval tab_ok ?_
  simp only [ev0, evA, evB, evP, fl, gp, tab, simprocAttr, reduceCtorEq, reduceIte]
  refine fin_stop trivial (runs_call (oneOf_c h) rfl rfl rfl (by simp only [dstOk, Nat.reduceLT]) (by repeat (first | exact trivial | constructor)) (runs_eval tab_ok ?_))
  simp only [ev0, evA, evB, evP, fl, gp, tab, simprocAttr, reduceCtorEq, reduceIte, shl_one (show e < 64 by omega)]
  refine fin_run ?_ (hK _ ?_) <;> clear hK <;> clear K
  · (first | exact trivial | omega | (simp only [In64] at *; omega) | (simp [In64] at *; omega) | (simp_all; done) | skip)
  refine qa (qm ?_)
  refine hk_region fun K hK => runs_eval tab_ok ?_
  simp only [ev0, evA, evB, evP, fl, gp, tab, simprocAttr, reduceCtorEq, reduceIte]
  refine fin_stop trivial (runs_callG (list_g (2 ^ e) hone) rfl rfl (by first | rfl | (simp [scG, scA, sc1, opl]; done) | (simp only [scG, List.all_cons, List.all_nil, ol_sc, Bool.and_true]; rfl)) (by simp only [dstOk, Nat.reduceLT]) (by repeat (first | exact trivial | constructor)) (runs_eval tab_ok ?_))
  simp only [shf, List.range', Blk.ren, opl_ren, ren, ren1, ev0, evA, evB, evP, fl, gp, tab, simprocAttr, reduceCtorEq, reduceIte]
  refine fin_run trivial (hK _ ?_) <;> clear hK <;> clear K
  refine qa (qm (ql ?_))
  refine hk_loop (ι := Nat × List Int × List Int) (fun p => ⟨48, [(1, .p (.int .u64 s)), (2, .ptr 0 0), (5, .p (.int .u64 p.1)), (6, .sl 1 p.2.1.length p.2.2.length)], [.own [.p (.int .i64 n), .p (.list (il m))], .own (ol (p.2.1 ++ p.2.2))]⟩) (fun p => GrowI n (op m n) e s p.1 p.2.2 ∧ ∀ a, p.1.testBit a = true → ((a : Nat) : Int) ∉ p.2.2 → ∀ b, s.testBit b = true → p.1.testBit (op m n a b) = true) (fun p => 2 * (2 ^ 64 - p.1) + p.2.2.length) (2 ^ e, [], stl (2 ^ e)) ⟨⟨Nat.pow_lt_pow_right (by omega) hel, by rw [Nat.testBit_two_pow]; simp, fun a ha => by rw [hbe a ha]; exact .one, fun x hx => ⟨e, hstl x hx, by rw [Nat.testBit_two_pow]; simp⟩, (thl_asc _ _).imp fun h => by omega⟩, fun a ha hn => absurd (by rw [hbe a ha]; exact hstl2) hn⟩ [0, 1] (by simp only [leq, leA, ev0, evA, evB, evP, fl, gp, tab, simprocAttr, reduceCtorEq, reduceIte] <;> first | trivial | simp [ol, opl]) fun p hp => ?_
  obtain ⟨out, pre, w⟩ := p
  obtain ⟨⟨i1, i2, i3, i4, i6⟩, i5⟩ := hp
  simp only at i1 i2 i3 i4 i5
  refine qm (qm ?_)
  refine hk_region fun K hK => runs_eval tab_ok ?_
  simp only [ev0, evA, evB, evP, fl, gp, tab, simprocAttr, reduceCtorEq, reduceIte]
  refine fin_run trivial (hK _ ?_) <;> clear hK <;> clear K
  refine qa ?_
  refine hk_cond rfl (fun hC1 => ?_) (fun hC1 => ?_)
  · (try simp only [nhs] at hC1)
    obtain ⟨x, w', rfl⟩ : ∃ x w', w = x :: w' := by
      cases w with
      | nil => simp at hC1
      | cons x w' => exact ⟨x, w', rfl⟩
    obtain ⟨a, rfl, hoa⟩ := i4 x (by simp)
    have hal := bit_ltn i1 hoa
    refine qh (qa (ql (qm ?_)))
    refine hk_region fun K hK => runs_eval tab_ok ?_
    simp only [ev0, evA, evB, evP, fl, gp, tab, simprocAttr, reduceCtorEq, reduceIte, app_at, Nat.add_zero]
    refine fin_run ?_ (hK _ ?_) <;> clear hK <;> clear K
    · (first | exact trivial | omega | (simp only [In64] at *; omega) | (simp [In64] at *; omega) | (simp_all; done) | skip)
    refine qa (qm ?_)
    refine hk_region fun K hK => runs_eval tab_ok ?_
    simp only [ev0, evA, evB, evP, fl, gp, tab, simprocAttr, reduceCtorEq, reduceIte]
    refine fin_run ?_ (hK _ ?_) <;> clear hK <;> clear K
    · (first | exact trivial | omega | (simp only [In64] at *; omega) | (simp [In64] at *; omega) | (simp_all; done) | skip)
    refine qa (qm ?_)
    refine hk_region fun K hK => runs_eval tab_ok ?_
    simp only [ev0, evA, evB, evP, fl, gp, tab, simprocAttr, reduceCtorEq, reduceIte]
    refine fin_run trivial (hK _ ?_) <;> clear hK <;> clear K
    refine qa (ql ?_)
    refine hk_loop (ι := Nat × Nat × List Int × List Int) (fun p => ⟨48, [(1, .p (.int .u64 s)), (2, .ptr 0 0), (5, .p (.int .u64 p.2.1)), (6, .sl 1 p.2.2.1.length p.2.2.2.length), (7, .p (.int .i64 a)), (8, .p (.int .u64 p.1))], [.own [.p (.int .i64 n), .p (.list (il m))], .own (ol (p.2.2.1 ++ p.2.2.2))]⟩) (fun p => GrowI n (op m n) e s p.2.1 p.2.2.2 ∧ (∀ i, p.1.testBit i = true → s.testBit i = true) ∧ p.1 < 2 ^ 64 ∧ (∀ y, p.2.1.testBit y = true → ((y : Nat) : Int) ∉ p.2.2.2 → y ≠ a → ∀ b, s.testBit b = true → p.2.1.testBit (op m n y b) = true) ∧ (∀ b, s.testBit b = true → p.1.testBit b = false → p.2.1.testBit (op m n a b) = true) ∧ p.2.1.testBit a = true ∧ 2 * (2 ^ 64 - p.2.1) + p.2.2.2.length ≤ 2 * (2 ^ 64 - out) + w'.length) (fun p => p.1) (s, out, pre ++ [(a : Int)], w') ⟨⟨i1, i2, i3, fun x hx => i4 x (by simp [hx]), (List.nodup_cons.1 i6).2⟩, fun i hi => hi, hs64, fun y hy hn hya b hbs => i5 y hy (by simp only [List.mem_cons, not_or]; exact ⟨by omega, hn⟩) b hbs, fun b hb1 hb2 => absurd (hb1.symm.trans hb2) (by simp), hoa, Nat.le_refl _⟩ [0, 1] (by simp only [leq, leA, ev0, evA, evB, evP, fl, gp, tab, simprocAttr, reduceCtorEq, reduceIte] <;> first | trivial | (simp; done) | (simp; rw [List.take_of_length_le (by simp; omega)])) fun p hp => ?_
    obtain ⟨t, out2, pre2, w2⟩ := p
    obtain ⟨jI, j5, j6, j7, j8, j9, j10⟩ := hp
    simp only at jI j5 j6 j7 j8 j9 j10
    have hw2 := jI.len
    have j1 := jI.lt
    refine qm (qm ?_)
    refine hk_region fun K hK => runs_eval tab_ok ?_
    simp only [ev0, evA, evB, evP, fl, gp, tab, simprocAttr, reduceCtorEq, reduceIte]
    refine fin_run trivial (hK _ ?_) <;> clear hK <;> clear K
    refine qa ?_
    refine hk_cond rfl (fun hC2 => ?_) (fun hC2 => ?_)
    · (try simp only [nhs] at hC2)
      have h0 : t ≠ 0 := by omega
      obtain ⟨z1, z2, z3⟩ := tz_spec j6 h0
      have hzs := j5 _ z2
      have hzn := bit_ltn hs hzs
      have hfn := G.cl a (tz t) hal hzn
      have ht1 : t - 1 < 2 ^ 64 := by omega
      have hsub : IntKind.u64.wrap ((t : Int) - 1) = ((t - 1 : Nat) : Int) := by rw [wrap_u]; omega
      have hcut : t &&& (t - 1) = cut t := rfl
      have ho64 := lt64 hb j1
      have hp64 := pow_lt64 (b := op m n a (tz t)) (by omega)
      refine qh (qa (qm (ql (qm ?_))))
      refine hk_draw mixed (by kernel_rfl) fun K hK => runs_eval tab_ok ?_
      simp only [ev0, evA, evB, evP, fl, gp, tab, simprocAttr, reduceCtorEq, reduceIte]
      refine fin_stop trivial (runs_call (tz_c t j6 h0) rfl rfl rfl (by simp only [dstOk, Nat.reduceLT]) (by repeat (first | exact trivial | constructor)) (runs_eval tab_ok ?_))
      simp only [ev0, evA, evB, evP, fl, gp, tab, simprocAttr, reduceCtorEq, reduceIte]
      refine fin_stop trivial (runs_call (of_c T hal hzn) rfl rfl rfl (by simp only [dstOk, Nat.reduceLT]) (by repeat (first | exact trivial | constructor)) (runs_eval tab_ok ?_))
      simp only [ev0, evA, evB, evP, fl, gp, tab, simprocAttr, reduceCtorEq, reduceIte]
      refine fin_run ?_ (hK _ ?_) <;> clear hK <;> clear K
      · (first | exact trivial | omega | (simp only [In64] at *; omega) | (simp [In64] at *; omega) | (simp_all; done) | skip)
      refine qa (qm ?_)
      refine hk_region fun K hK => runs_eval tab_ok ?_
      simp only [ev0, evA, evB, evP, fl, gp, tab, simprocAttr, reduceCtorEq, reduceIte]
      refine fin_stop trivial (runs_call (has_s out2 (op m n a (tz t)) ho64 (by omega)) rfl rfl rfl (by simp only [dstOk, Nat.reduceLT]) (by repeat (first | exact trivial | constructor)) (runs_eval tab_ok ?_))
      simp only [ev0, evA, evB, evP, fl, gp, tab, simprocAttr, reduceCtorEq, reduceIte]
      refine fin_run trivial (hK _ ?_) <;> clear hK <;> clear K
      refine qa ?_
      refine hk_cond rfl (fun hC3 => ?_) (fun hC3 => ?_)
      · (try simp only [nhs] at hC3)
        have hno : out2.testBit (op m n a (tz t)) = false := hC3
        have hlt2 : out2 < out2 ||| 2 ^ op m n a (tz t) := by
          rcases Nat.lt_or_eq_of_le (Nat.left_le_or (n := out2) (m := 2 ^ op m n a (tz t))) with h1 | h1
          · exact h1
          · exfalso
            have h2 := or_bit out2 (op m n a (tz t)) (op m n a (tz t))
            rw [← h1, hno] at h2
            simp at h2
        refine qm ?_
        refine hk_region fun K hK => runs_eval tab_ok ?_
        simp only [ev0, evA, evB, evP, fl, gp, tab, simprocAttr, reduceCtorEq, reduceIte, shl_one (show op m n a (tz t) < 64 by omega), bv_or ho64 hp64]
        refine fin_run ?_ (hK _ ?_) <;> clear hK <;> clear K
        · (first | exact trivial | omega | (simp only [In64] at *; omega) | (simp [In64] at *; omega) | (simp_all; done) | skip)
        refine qa ?_
        refine hk_region fun K hK => runs_eval tab_ok ?_
        simp only [ev0, evA, evB, evP, fl, gp, tab, simprocAttr, reduceCtorEq, reduceIte]
        refine fin_run ?_ (hK _ ?_) <;> clear hK <;> clear K
        · simp only [List.length_append]; omega
        refine qd (qa ?_)
        refine hk_region fun K hK => runs_eval tab_ok ?_
        simp only [ev0, evA, evB, evP, fl, gp, tab, simprocAttr, reduceCtorEq, reduceIte, hsub, bv_and j6 ht1, hcut]
        refine fin_run ?_ (hK _ ?_) <;> clear hK <;> clear K
        · (first | exact trivial | omega | (simp only [In64] at *; omega) | (simp [In64] at *; omega) | (simp_all; done) | skip)
        refine qa ?_
        have hI := jI.add j9 hzs hzn hfn hno
        have hI1 := lt64 hb hI.lt
        refine ⟨(cut t, out2 ||| 2 ^ op m n a (tz t), [], w2 ++ [((op m n a (tz t) : Nat) : Int)]), [0, 2], ⟨hI, fun i hi => ?_, ?_, fun y hy hn hya b hbs => ?_, fun b hb1 hb2 => ?_, ?_, ?_⟩, ?_, ?_⟩
        · simp only [cut_bit j6 h0, Bool.and_eq_true] at hi
          exact j5 i hi.1
        · exact Nat.lt_trans (cut_lt h0) j6
        · simp only [or_bit, Bool.or_eq_true, decide_eq_true_eq] at hy ⊢
          simp only [List.mem_append, List.mem_singleton, not_or] at hn
          rcases hy with hy | hy
          · exact .inl (j7 y hy hn.1 hya b hbs)
          · exact absurd (by rw [hy]) hn.2
        · simp only [cut_bit j6 h0] at hb2
          simp only [or_bit, Bool.or_eq_true, decide_eq_true_eq]
          by_cases hbz : b = tz t
          · right; rw [hbz]
          · left
            refine j8 b hb1 ?_
            cases htb : t.testBit b with
            | false => rfl
            | true => rw [htb] at hb2; simp at hb2; exact absurd hb2 hbz
        · simp only [or_bit, j9, Bool.true_or]
        · simp only [List.length_append, List.length_cons, List.length_nil]
          omega
        · exact cut_lt h0
        · simp only [leq, leA, ev0, evA, evB, evP, fl, gp, tab, simprocAttr, reduceCtorEq, reduceIte]
          rw [List.drop_left, List.take_length, List.take_of_length_le (by simp)]
      · (try simp only [nhs] at hC3)
        refine qh (qd (qa ?_))
        refine hk_region fun K hK => runs_eval tab_ok ?_
        simp only [ev0, evA, evB, evP, fl, gp, tab, simprocAttr, reduceCtorEq, reduceIte, hsub, bv_and j6 ht1, hcut]
        refine fin_run ?_ (hK _ ?_) <;> clear hK <;> clear K
        · (first | exact trivial | omega | (simp only [In64] at *; omega) | (simp [In64] at *; omega) | (simp_all; done) | skip)
        refine qa ?_
        refine ⟨(cut t, out2, pre2, w2), [0, 1], ⟨jI, fun i hi => ?_, ?_, j7, fun b hb1 hb2 => ?_, j9, j10⟩, cut_lt h0, ?_⟩
        · simp only [cut_bit j6 h0, Bool.and_eq_true] at hi
          exact j5 i hi.1
        · exact Nat.lt_trans (cut_lt h0) j6
        · simp only [cut_bit j6 h0] at hb2
          by_cases hbz : b = tz t
          · show out2.testBit (op m n a b) = true
            rw [hbz]; exact hC3
          · refine j8 b hb1 ?_
            cases htb : t.testBit b with
            | false => rfl
            | true => rw [htb] at hb2; simp at hb2; exact absurd hb2 hbz
        · simp only [leq, leA, ev0, evA, evB, evP, fl, gp, tab, simprocAttr, reduceCtorEq, reduceIte] <;> first | trivial | omega
    · (try simp only [nhs] at hC2)
      have ht0 : t = 0 := by omega
      subst ht0
      refine qj (qc (qc (qf (qd (qa ?_)))))
      refine ⟨(out2, pre2, w2), [0, 1], ⟨jI, fun y hy hn b hbs => ?_⟩, ?_, ?_⟩
      · by_cases hya : y = a
        · rw [hya]; exact j8 b hbs (by simp)
        · exact j7 y hy hn hya b hbs
      · have ho := lt64 hb j1
        have ho2 := lt64 hb i1
        simp only [List.length_cons]
        omega
      · simp only [leq, leA, ev0, evA, evB, evP, fl, gp, tab, simprocAttr, reduceCtorEq, reduceIte] <;> first | trivial | omega
  · (try simp only [nhs] at hC1)
    have hw0 : w = [] := by
      cases w with
      | nil => rfl
      | cons x r => simp at hC1
    subst hw0
    have hfin : out = bo n q := by
      refine bo_eq i1 fun i hi => ?_
      rw [Bool.eq_iff_iff, hq i hi]
      refine ⟨i3 i, fun hg => ?_⟩
      exact Gen.least i2 (fun a b _ _ hb hH => i5 a hH (by simp) b hb) hg
    refine qj (qc (qc (qf (qa (qm ?_)))))
    refine hk_region fun K hK => runs_eval tab_ok ?_
    simp only [ev0, evA, evB, evP, fl, gp, tab, simprocAttr, reduceCtorEq, reduceIte]
    refine fin_run trivial (hK _ ?_) <;> clear hK <;> clear K
    refine qa (qk ?_)
    simp only [Tryd.results79, enA, ev0, evA, evB, evP, fl, gp, tab, simprocAttr, reduceCtorEq, reduceIte]
    all_goals (rw [hfin])
end Go.Proofs.YtjikchbmkodgfaaDoor

/-
  Sets of things: what they make, as the document has it. Conditions: none.
-/
set_option linter.all false
namespace Go.Proofs.YtjikchbmkodgfaaDoor
open Go.Pv

/-! ### Looked at -/

theorem thl_get_asc {n : Nat} {p : Nat → Bool} {i j : Nat} (hij : i < j) (hj : j < (thl n p).length) : (thl n p).getD i 0 < (thl n p).getD j 0 := by
  have := List.pairwise_iff_getElem.1 (thl_asc n p) i j (by omega) hj hij
  simpa [List.getD, List.getElem?_eq_getElem hj, List.getElem?_eq_getElem (show i < (thl n p).length by omega)] using this
theorem thl_get {n : Nat} {p : Nat → Bool} {i : Nat} (hi : i < (thl n p).length) : ∃ a, a < n ∧ p a = true ∧ (thl n p).getD i 0 = ((a : Nat) : Int) := by
  have : (thl n p).getD i 0 ∈ thl n p := by simp [List.getD, List.getElem?_eq_getElem hi]
  exact mem_thl.1 this
theorem thl_at {n : Nat} {p : Nat → Bool} {a : Nat} (ha : a < n) (h : p a = true) : ∃ i, i < (thl n p).length ∧ (thl n p).getD i 0 = ((a : Nat) : Int) := by
  obtain ⟨i, hi, e⟩ := List.getElem_of_mem (mem_thl.2 ⟨a, ha, h, rfl⟩)
  exact ⟨i, hi, by simp [List.getD, List.getElem?_eq_getElem hi, e]⟩
theorem mem_thl_n {n : Nat} {p : Nat → Bool} {a : Nat} (ha : a < n) : ((a : Nat) : Int) ∈ thl n p ↔ p a = true := by
  rw [mem_thl]
  constructor
  · rintro ⟨b, _, h2, e⟩
    have : a = b := by omega
    subst this; exact h2
  · exact fun h => ⟨a, ha, h, rfl⟩
theorem lf_thl (n : Nat) (p : Nat → Bool) : lf n (thl n p) = (0, 0) := by
  refine lf_none (by have := thl_le n p; omega) fun j hj => lfb_0 ?_ fun h0 => ?_
  · obtain ⟨a, h1, _, h3⟩ := thl_get hj
    unfold okT; rw [h3]; omega
  · have := thl_get_asc (n := n) (p := p) (show j - 1 < j by omega) hj
    omega
theorem sf_thl {n e : Nat} {m : List Int} (h : GT n m n e) (p : Nat → Bool) : sf n m (thl n p) = (0, 0) := by
  unfold sf; rw [gf_of h, if_neg (by simp), lf_thl]
theorem sf_ok {N : Int} {m l : List Int} (h : (sf N m l).1 = 0) : ∃ n e, GT N m n e ∧ N = (n : Nat) ∧ l = thl n (tst l) ∧ sf N m l = (0, 0) := by
  unfold sf at h
  by_cases hg : (gf N m).1 = 0
  · rw [if_neg (by simpa using hg)] at h
    obtain ⟨n, e, hT, _⟩ := gf_ok hg
    obtain rfl := hT.1
    obtain ⟨h1, h2, _⟩ := lf_list h
    exact ⟨n, e, hT, rfl, h1, by unfold sf; rw [if_neg (by simpa using hg), h2]⟩
  · rw [if_pos hg] at h; exact absurd h hg

theorem made_no (N : Int) (m l : List Int) (hm : m.length ≤ 1000000000000000) (hl : l.length ≤ 1000000000000000) (hf : ¬ (sf N m l).1 = 0) : FnC Tryd.prog 27 [gp N m, .list (il l)] (.tup [.list [], fl (sf N m l)]) := by
  refine fnc_of tab_ok Tryd.func27 rfl (by kernel_rfl) (by rw [Tryd.ntmps27]; exact Nat.le_add_left 2 _) ?_; rw [Tryd.ntmps27]
  refine qm ?_
  refine hk_region fun K hK => runs_eval tab_ok ?_
  simp only [ev0, evA, evB, evP, fl, gp, tab, simprocAttr, reduceCtorEq, reduceIte]
  refine fin_run ?_ (hK _ ?_) <;> clear hK <;> clear K
  · (first | exact trivial | omega | (simp only [In64] at *; omega) | (simp [In64] at *; omega) | (simp_all; done) | skip)
  refine qa (qm (qm ?_))
  refine hk_region fun K hK => runs_eval tab_ok ?_
  simp only [ev0, evA, evB, evP, fl, gp, tab, simprocAttr, reduceCtorEq, reduceIte]
  refine fin_stop trivial (runs_call (look_c N m l hm hl) rfl rfl rfl (by simp only [dstOk, Nat.reduceLT]) (by repeat (first | exact trivial | constructor)) (runs_eval tab_ok ?_))
  simp only [ev0, evA, evB, evP, fl, gp, tab, simprocAttr, reduceCtorEq, reduceIte]
  refine fin_run ?_ (hK _ ?_) <;> clear hK <;> clear K
  · (first | exact trivial | omega | (simp only [In64] at *; omega) | (simp [In64] at *; omega) | (simp_all; done) | skip)
  refine qa (qm ?_)
  refine hk_region fun K hK => runs_eval tab_ok ?_
  simp only [ev0, evA, evB, evP, fl, gp, tab, simprocAttr, reduceCtorEq, reduceIte]
  refine fin_run ?_ (hK _ ?_) <;> clear hK <;> clear K
  · (first | exact trivial | omega | (simp only [In64] at *; omega) | (simp [In64] at *; omega) | (simp_all; done) | skip)
  refine qa ?_
  refine hk_cond rfl (fun hC1 => ?_) (fun hC1 => ?_)
  · (try simp only [nhs] at hC1)
    refine qm ?_
    refine hk_draw mixed (by kernel_rfl) fun K hK => runs_eval tab_ok ?_
    simp only [ev0, evA, evB, evP, fl, gp, tab, simprocAttr, reduceCtorEq, reduceIte]
    refine fin_run ?_ (hK _ ?_) <;> clear hK <;> clear K
    · (first | exact trivial | omega | (simp only [In64] at *; omega) | (simp [In64] at *; omega) | (simp_all; done) | skip)
    refine qa (qk (qb ?_))
    simp only [Tryd.results27, enA, ev0, evA, evB, evP, fl, gp, tab, simprocAttr, reduceCtorEq, reduceIte]
    all_goals ((first | exact rfl | exact ⟨rfl, rfl⟩ | exact ⟨rfl, rfl, rfl⟩ | exact ⟨trivial, rfl⟩ | exact ⟨Nat.le_refl _, rfl⟩ | trivial | (simp; done)))
  · (try simp only [nhs] at hC1)
    exact absurd hC1 hf

theorem gen_bo {n e : Nat} {f : Nat → Nat → Nat} {p : Nat → Bool} {a : Nat} : Gen n f e (bo n p).testBit a ↔ Gen n f e p a :=
  ⟨Gen.mono fun b hb h => by rw [bo_bit] at h; simpa [hb] using h, Gen.mono fun b hb h => by rw [bo_bit]; simpa [hb] using h⟩

theorem made_ok {n e : Nat} {m : List Int} (h : GT n m n e) (p q : Nat → Bool) (hq : ∀ a, a < n → (q a = true ↔ Gen n (op m n) e p a)) : FnC Tryd.prog 27 [gp n m, .list (il (thl n p))] (.tup [.list (il (thl n q)), fl (0, 0)]) := by
  have hb := h.2.1.big
  have hl := thl_le n p
  have hml := h.2.1.len
  have hsq := sq_le hb
  refine fnc_of tab_ok Tryd.func27 rfl (by kernel_rfl) (by rw [Tryd.ntmps27]; exact Nat.le_add_left 2 _) ?_; rw [Tryd.ntmps27]
  refine qm ?_
  refine hk_region fun K hK => runs_eval tab_ok ?_
  simp only [ev0, evA, evB, evP, fl, gp, tab, simprocAttr, reduceCtorEq, reduceIte]
  refine fin_run ?_ (hK _ ?_) <;> clear hK <;> clear K
  · (first | exact trivial | omega | (simp only [In64] at *; omega) | (simp [In64] at *; omega) | (simp_all; done) | skip)
  refine qa (qm (qm ?_))
  refine hk_region fun K hK => runs_eval tab_ok ?_
  simp only [ev0, evA, evB, evP, fl, gp, tab, simprocAttr, reduceCtorEq, reduceIte]
  refine fin_stop trivial (runs_call (look_c n m (thl n p) (by omega) (by omega)) rfl rfl rfl (by simp only [dstOk, Nat.reduceLT]) (by repeat (first | exact trivial | constructor)) (runs_eval tab_ok ?_))
  simp only [ev0, evA, evB, evP, fl, gp, tab, simprocAttr, reduceCtorEq, reduceIte, sf_thl h]
  refine fin_run ?_ (hK _ ?_) <;> clear hK <;> clear K
  · (first | exact trivial | omega | (simp only [In64] at *; omega) | (simp [In64] at *; omega) | (simp_all; done) | skip)
  refine qa (qm ?_)
  refine hk_region fun K hK => runs_eval tab_ok ?_
  simp only [ev0, evA, evB, evP, fl, gp, tab, simprocAttr, reduceCtorEq, reduceIte]
  refine fin_run ?_ (hK _ ?_) <;> clear hK <;> clear K
  · (first | exact trivial | omega | (simp only [In64] at *; omega) | (simp [In64] at *; omega) | (simp_all; done) | skip)
  refine qa ?_
  refine hk_cond rfl (fun hC1 => ?_) (fun hC1 => ?_)
  · cases hC1
  · (try simp only [nhs] at hC1)
    refine qh (qa (qm ?_))
    refine hk_draw mixed (by kernel_rfl) fun K hK => runs_eval tab_ok ?_
    simp only [ev0, evA, evB, evP, fl, gp, tab, simprocAttr, reduceCtorEq, reduceIte]
    refine fin_stop trivial (runs_call (of_s (thl n p) (by omega) (thl_rng hb p)) rfl rfl rfl (by simp only [dstOk, Nat.reduceLT]) (by repeat (first | exact trivial | constructor)) (runs_eval tab_ok ?_))
    simp only [ev0, evA, evB, evP, fl, gp, tab, simprocAttr, reduceCtorEq, reduceIte, msk_thl]
    refine fin_stop trivial (runs_call (grow_c h (bo n p) (bo_lt n p) q (fun a ha => by rw [gen_bo]; exact hq a ha)) rfl rfl rfl (by simp only [dstOk, Nat.reduceLT]) (by repeat (first | exact trivial | constructor)) (runs_eval tab_ok ?_))
    simp only [ev0, evA, evB, evP, fl, gp, tab, simprocAttr, reduceCtorEq, reduceIte]
    refine fin_stop trivial (runs_call (list_s (bo n q) (bo_lt64 hb q)) rfl rfl rfl (by simp only [dstOk, Nat.reduceLT]) (by repeat (first | exact trivial | constructor)) (runs_eval tab_ok ?_))
    simp only [ev0, evA, evB, evP, fl, gp, tab, simprocAttr, reduceCtorEq, reduceIte, stl_bo hb]
    refine fin_run ?_ (hK _ ?_) <;> clear hK <;> clear K
    · (first | exact trivial | omega | (simp only [In64] at *; omega) | (simp [In64] at *; omega) | (simp_all; done) | skip)
    refine qa (qk ?_)
    simp only [Tryd.results27, enA, ev0, evA, evB, evP, fl, gp, tab, simprocAttr, reduceCtorEq, reduceIte]
    all_goals ((first | exact rfl | exact ⟨rfl, rfl⟩ | exact ⟨rfl, rfl, rfl⟩ | exact ⟨trivial, rfl⟩ | exact ⟨Nat.le_refl _, rfl⟩ | trivial | (simp; done)))

theorem is_no (N : Int) (m l : List Int) (hm : m.length ≤ 1000000000000000) (hl : l.length ≤ 1000000000000000) (hf : ¬ (sf N m l).1 = 0) : FnC Tryd.prog 126 [gp N m, .list (il l)] (.tup [.bool false, fl (sf N m l)]) := by
  refine fnc_of tab_ok Tryd.func126 rfl (by kernel_rfl) (by rw [Tryd.ntmps126]; exact Nat.le_add_left 2 _) ?_; rw [Tryd.ntmps126]
  refine qm ?_
  refine hk_region fun K hK => runs_eval tab_ok ?_
  simp only [ev0, evA, evB, evP, fl, gp, tab, simprocAttr, reduceCtorEq, reduceIte]
  refine fin_run ?_ (hK _ ?_) <;> clear hK <;> clear K
  · (first | exact trivial | omega | (simp only [In64] at *; omega) | (simp [In64] at *; omega) | (simp_all; done) | skip)
  refine qa (qm (qm ?_))
  refine hk_region fun K hK => runs_eval tab_ok ?_
  simp only [ev0, evA, evB, evP, fl, gp, tab, simprocAttr, reduceCtorEq, reduceIte]
  refine fin_stop trivial (runs_call (look_c N m l hm hl) rfl rfl rfl (by simp only [dstOk, Nat.reduceLT]) (by repeat (first | exact trivial | constructor)) (runs_eval tab_ok ?_))
  simp only [ev0, evA, evB, evP, fl, gp, tab, simprocAttr, reduceCtorEq, reduceIte]
  refine fin_run ?_ (hK _ ?_) <;> clear hK <;> clear K
  · (first | exact trivial | omega | (simp only [In64] at *; omega) | (simp [In64] at *; omega) | (simp_all; done) | skip)
  refine qa (qm ?_)
  refine hk_region fun K hK => runs_eval tab_ok ?_
  simp only [ev0, evA, evB, evP, fl, gp, tab, simprocAttr, reduceCtorEq, reduceIte]
  refine fin_run ?_ (hK _ ?_) <;> clear hK <;> clear K
  · (first | exact trivial | omega | (simp only [In64] at *; omega) | (simp [In64] at *; omega) | (simp_all; done) | skip)
  refine qa ?_
  refine hk_cond rfl (fun hC1 => ?_) (fun hC1 => ?_)
  · (try simp only [nhs] at hC1)
    refine qm ?_
    refine hk_draw mixed (by kernel_rfl) fun K hK => runs_eval tab_ok ?_
    simp only [ev0, evA, evB, evP, fl, gp, tab, simprocAttr, reduceCtorEq, reduceIte]
    refine fin_run ?_ (hK _ ?_) <;> clear hK <;> clear K
    · (first | exact trivial | omega | (simp only [In64] at *; omega) | (simp [In64] at *; omega) | (simp_all; done) | skip)
    refine qa (qk (qb ?_))
    simp only [Tryd.results126, enA, ev0, evA, evB, evP, fl, gp, tab, simprocAttr, reduceCtorEq, reduceIte]
    all_goals ((first | exact rfl | exact ⟨rfl, rfl⟩ | exact ⟨rfl, rfl, rfl⟩ | exact ⟨trivial, rfl⟩ | exact ⟨Nat.le_refl _, rfl⟩ | trivial | (simp; done)))
  · (try simp only [nhs] at hC1)
    exact absurd hC1 hf

theorem is_ok {n e : Nat} {m : List Int} (h : GT n m n e) (p : Nat → Bool) (b : Bool) (hbs : b = true ↔ Sub n (op m n) e p) : FnC Tryd.prog 126 [gp n m, .list (il (thl n p))] (.tup [.bool b, fl (0, 0)]) := by
  have G := h.2.2
  have hb := h.2.1.big
  have hl := thl_le n p
  have hml := h.2.1.len
  have hsq := sq_le hb
  obtain ⟨q, hq⟩ := gen_ex n (op m n) e p
  have hqs := gen_sub G hq
  have hqp : (((bo n q : Nat) : Int) = ((bo n p : Nat) : Int)) ↔ b = true := by
    rw [hbs]
    constructor
    · intro he
      have he2 : bo n q = bo n p := by omega
      have hc : ∀ a, a < n → q a = p a := fun a ha => bo_inj he2 ha
      refine ⟨?_, fun a b ha hb h1 h2 => ?_, fun a ha h1 => ?_⟩
      · rw [← hc e G.el]; exact hqs.one
      · rw [← hc _ (G.cl a b ha hb)]; exact hqs.mul a b ha hb (by rw [hc a ha]; exact h1) (by rw [hc b hb]; exact h2)
      · rw [← hc _ (G.iv_lt ha)]; exact hqs.inv a ha (by rw [hc a ha]; exact h1)
    · intro hs
      have : bo n q = bo n p := bo_congr fun a ha => by rw [Bool.eq_iff_iff, hq a ha, ← hs.gen G ha]
      rw [this]
  have hpos : b = true → 0 < (thl n p).length := fun hb1 => by
    obtain ⟨i, hi, _⟩ := thl_at G.el (hbs.1 hb1).one
    omega
  refine fnc_of tab_ok Tryd.func126 rfl (by kernel_rfl) (by rw [Tryd.ntmps126]; exact Nat.le_add_left 2 _) ?_; rw [Tryd.ntmps126]
  refine qm ?_
  refine hk_region fun K hK => runs_eval tab_ok ?_
  simp only [ev0, evA, evB, evP, fl, gp, tab, simprocAttr, reduceCtorEq, reduceIte]
  refine fin_run ?_ (hK _ ?_) <;> clear hK <;> clear K
  · (first | exact trivial | omega | (simp only [In64] at *; omega) | (simp [In64] at *; omega) | (simp_all; done) | skip)
  refine qa (qm (qm ?_))
  refine hk_region fun K hK => runs_eval tab_ok ?_
  simp only [ev0, evA, evB, evP, fl, gp, tab, simprocAttr, reduceCtorEq, reduceIte]
  refine fin_stop trivial (runs_call (look_c n m (thl n p) (by omega) (by omega)) rfl rfl rfl (by simp only [dstOk, Nat.reduceLT]) (by repeat (first | exact trivial | constructor)) (runs_eval tab_ok ?_))
  simp only [ev0, evA, evB, evP, fl, gp, tab, simprocAttr, reduceCtorEq, reduceIte, sf_thl h]
  refine fin_run ?_ (hK _ ?_) <;> clear hK <;> clear K
  · (first | exact trivial | omega | (simp only [In64] at *; omega) | (simp [In64] at *; omega) | (simp_all; done) | skip)
  refine qa (qm ?_)
  refine hk_region fun K hK => runs_eval tab_ok ?_
  simp only [ev0, evA, evB, evP, fl, gp, tab, simprocAttr, reduceCtorEq, reduceIte]
  refine fin_run ?_ (hK _ ?_) <;> clear hK <;> clear K
  · (first | exact trivial | omega | (simp only [In64] at *; omega) | (simp [In64] at *; omega) | (simp_all; done) | skip)
  refine qa ?_
  refine hk_cond rfl (fun hC1 => ?_) (fun hC1 => ?_)
  · cases hC1
  · (try simp only [nhs] at hC1)
    refine qh (qa (qm ?_))
    by_cases g4a : ((thl n p).length : Int) > 0
    · refine hk_draw mixed (by kernel_rfl) fun K hK => runs_eval tab_ok ?_
      simp only [ev0, evA, evB, evP, fl, gp, tab, simprocAttr, reduceCtorEq, reduceIte, decide_eq_true g4a]
      refine fin_stop trivial (runs_call (of_s (thl n p) (by omega) (thl_rng hb p)) rfl rfl rfl (by simp only [dstOk, Nat.reduceLT]) (by repeat (first | exact trivial | constructor)) (runs_eval tab_ok ?_))
      simp only [ev0, evA, evB, evP, fl, gp, tab, simprocAttr, reduceCtorEq, reduceIte, msk_thl, decide_eq_true g4a]
      refine fin_stop trivial (runs_call (grow_c h (bo n p) (bo_lt n p) q (fun a ha => by rw [gen_bo]; exact hq a ha)) rfl rfl rfl (by simp only [dstOk, Nat.reduceLT]) (by repeat (first | exact trivial | constructor)) (runs_eval tab_ok ?_))
      simp only [ev0, evA, evB, evP, fl, gp, tab, simprocAttr, reduceCtorEq, reduceIte, decide_eq_true g4a]
      refine fin_stop trivial (runs_call (of_s (thl n p) (by omega) (thl_rng hb p)) rfl rfl rfl (by simp only [dstOk, Nat.reduceLT]) (by repeat (first | exact trivial | constructor)) (runs_eval tab_ok ?_))
      simp only [ev0, evA, evB, evP, fl, gp, tab, simprocAttr, reduceCtorEq, reduceIte, msk_thl, decide_eq_true g4a]
      refine fin_run ?_ (hK _ ?_) <;> clear hK <;> clear K
      · (first | exact trivial | omega | (simp only [In64] at *; omega) | (simp [In64] at *; omega) | (simp_all; done) | skip)
      refine qa (qk ?_)
      simp only [Tryd.results126, enA, ev0, evA, evB, evP, fl, gp, tab, simprocAttr, reduceCtorEq, reduceIte]
      all_goals (rw [Bool.eq_iff_iff, decide_eq_true_eq]; exact hqp)
    · refine hk_draw mixed (by kernel_rfl) fun K hK => runs_eval tab_ok ?_
      simp only [ev0, evA, evB, evP, fl, gp, tab, simprocAttr, reduceCtorEq, reduceIte, decide_eq_false g4a]
      refine fin_run ?_ (hK _ ?_) <;> clear hK <;> clear K
      · (first | exact trivial | omega | (simp only [In64] at *; omega) | (simp [In64] at *; omega) | (simp_all; done) | skip)
      refine qa (qk ?_)
      simp only [Tryd.results126, enA, ev0, evA, evB, evP, fl, gp, tab, simprocAttr, reduceCtorEq, reduceIte]
      cases b with
      | false => rfl
      | true => have := hpos rfl; omega

theorem closed_c {n e : Nat} {m : List Int} (h : GT n m n e) (p : Nat → Bool) (b : Bool) (hbs : b = true ↔ Sub n (op m n) e p) : FnC Tryd.prog 49 [gp n m, .list (il (thl n p))] (.bool b) := by
  have G := h.2.2
  have T := h.2.1
  have hb := T.big
  have hl := thl_le n p
  refine fnc_of tab_ok Tryd.func49 rfl (by kernel_rfl) (by rw [Tryd.ntmps49]; exact Nat.le_add_left 2 _) ?_; rw [Tryd.ntmps49]
  refine qm ?_
  refine hk_region fun K hK => runs_eval tab_ok ?_
  simp only [ev0, evA, evB, evP, fl, gp, tab, simprocAttr, reduceCtorEq, reduceIte]
  refine fin_run ?_ (hK _ ?_) <;> clear hK <;> clear K
  · (first | exact trivial | omega | (simp only [In64] at *; omega) | (simp [In64] at *; omega) | (simp_all; done) | skip)
  refine qa (qm (qm ?_))
  refine hk_region fun K hK => runs_eval tab_ok ?_
  simp only [ev0, evA, evB, evP, fl, gp, tab, simprocAttr, reduceCtorEq, reduceIte]
  refine fin_stop trivial (runs_call (e_c T) rfl rfl rfl (by simp only [dstOk, Nat.reduceLT]) (by repeat (first | exact trivial | constructor)) (runs_eval tab_ok ?_))
  simp only [ev0, evA, evB, evP, fl, gp, tab, simprocAttr, reduceCtorEq, reduceIte, h.eI]
  refine fin_stop trivial (runs_call (has_r (thl n p) (e : Nat) (by omega)) rfl rfl rfl (by simp only [dstOk, Nat.reduceLT]) (by repeat (first | exact trivial | constructor)) (runs_eval tab_ok ?_))
  simp only [ev0, evA, evB, evP, fl, gp, tab, simprocAttr, reduceCtorEq, reduceIte]
  refine fin_run ?_ (hK _ ?_) <;> clear hK <;> clear K
  · (first | exact trivial | omega | (simp only [In64] at *; omega) | (simp [In64] at *; omega) | (simp_all; done) | skip)
  refine qa ?_
  refine hk_cond rfl (fun hC1 => ?_) (fun hC1 => ?_)
  · (try simp only [nhs] at hC1)
    refine qm ?_
    refine hk_region fun K hK => runs_eval tab_ok ?_
    simp only [ev0, evA, evB, evP, fl, gp, tab, simprocAttr, reduceCtorEq, reduceIte]
    refine fin_run trivial (hK _ ?_) <;> clear hK <;> clear K
    refine qa (qk (qb ?_))
    simp only [Tryd.results49, enA, ev0, evA, evB, evP, fl, gp, tab, simprocAttr, reduceCtorEq, reduceIte]
    cases b with
    | false => rfl
    | true => exact absurd ((mem_thl_n G.el).2 (hbs.1 rfl).one) (by simpa using hC1)
  · (try simp only [nhs] at hC1)
    have he : p e = true := (mem_thl_n G.el).1 hC1
    refine qh (qa (qm (qm ?_)))
    refine hk_region fun K hK => runs_eval tab_ok ?_
    simp only [ev0, evA, evB, evP, fl, gp, tab, simprocAttr, reduceCtorEq, reduceIte]
    refine fin_run trivial (hK _ ?_) <;> clear hK <;> clear K
    refine qa (ql ?_)
    refine hk_loop (ι := Nat) (fun i => ⟨46, [(1, .p (.list (il (thl n p)))), (2, .ptr 0 0), (5, .p (.int .i64 i))], [.own [.p (.int .i64 n), .p (.list (il m))]]⟩) (fun i => i ≤ (thl n p).length ∧ ∀ j, j < i → ∀ k, k < (thl n p).length → p (op m n ((thl n p).getD j 0).toNat ((thl n p).getD k 0).toNat) = true) (fun i => (thl n p).length - i) 0 ⟨Nat.zero_le _, fun j hj => by omega⟩ [0] (by simp only [leq, leA, ev0, evA, evB, evP, fl, gp, tab, simprocAttr, reduceCtorEq, reduceIte] <;> trivial) fun i hi => ?_
    obtain ⟨hi1, hi2⟩ := hi
    refine qm (qm ?_)
    refine hk_region fun K hK => runs_eval tab_ok ?_
    simp only [ev0, evA, evB, evP, fl, gp, tab, simprocAttr, reduceCtorEq, reduceIte]
    refine fin_run trivial (hK _ ?_) <;> clear hK <;> clear K
    refine qa ?_
    refine hk_cond rfl (fun hC2 => ?_) (fun hC2 => ?_)
    · (try simp only [nhs] at hC2)
      have hlt : i < (thl n p).length := by omega
      obtain ⟨x, x1, x2, x3⟩ := thl_get hlt
      refine qh (qa (qm (ql (qm (qm ?_)))))
      refine hk_draw mixed (by kernel_rfl) fun K hK => runs_eval tab_ok ?_
      simp only [ev0, evA, evB, evP, fl, gp, tab, simprocAttr, reduceCtorEq, reduceIte, il_get hlt, x3]
      refine fin_stop ?_ (runs_call (i_c T x1) rfl rfl rfl (by simp only [dstOk, Nat.reduceLT]) (by repeat (first | exact trivial | constructor)) (runs_eval tab_ok ?_))
      · (first | exact trivial | omega | (simp only [In64] at *; omega) | (simp [In64] at *; omega) | (simp_all; done) | skip)
      simp only [ev0, evA, evB, evP, fl, gp, tab, simprocAttr, reduceCtorEq, reduceIte, h.iI x1, il_get hlt, x3]
      refine fin_stop trivial (runs_call (has_r (thl n p) (iv n (op m n) e x : Nat) (by omega)) rfl rfl rfl (by simp only [dstOk, Nat.reduceLT]) (by repeat (first | exact trivial | constructor)) (runs_eval tab_ok ?_))
      simp only [ev0, evA, evB, evP, fl, gp, tab, simprocAttr, reduceCtorEq, reduceIte, il_get hlt, x3]
      refine fin_run ?_ (hK _ ?_) <;> clear hK <;> clear K
      · (first | exact trivial | omega | (simp only [In64] at *; omega) | (simp [In64] at *; omega) | (simp_all; done) | skip)
      refine qa ?_
      refine hk_cond rfl (fun hC3 => ?_) (fun hC3 => ?_)
      · (try simp only [nhs] at hC3)
        refine qm ?_
        refine hk_region fun K hK => runs_eval tab_ok ?_
        simp only [ev0, evA, evB, evP, fl, gp, tab, simprocAttr, reduceCtorEq, reduceIte]
        refine fin_run trivial (hK _ ?_) <;> clear hK <;> clear K
        refine qa (qk (qb (qe (qb (qb (qe (qb ?_)))))))
        simp only [Tryd.results49, enA, ev0, evA, evB, evP, fl, gp, tab, simprocAttr, reduceCtorEq, reduceIte]
        cases b with
        | false => rfl
        | true => exact absurd ((mem_thl_n (G.iv_lt x1)).2 ((hbs.1 rfl).inv x x1 x2)) (by simpa using hC3)
      · (try simp only [nhs] at hC3)
        have hi3 : p (iv n (op m n) e x) = true := (mem_thl_n (G.iv_lt x1)).1 hC3
        refine qh (qa (qm ?_))
        refine hk_region fun K hK => runs_eval tab_ok ?_
        simp only [ev0, evA, evB, evP, fl, gp, tab, simprocAttr, reduceCtorEq, reduceIte]
        refine fin_run trivial (hK _ ?_) <;> clear hK <;> clear K
        refine qa (ql ?_)
        refine hk_loop (ι := Nat) (fun k => ⟨46, [(1, .p (.list (il (thl n p)))), (2, .ptr 0 0), (5, .p (.int .i64 i)), (6, .p (.int .i64 k))], [.own [.p (.int .i64 n), .p (.list (il m))]]⟩) (fun k => k ≤ (thl n p).length ∧ ∀ j, j < k → p (op m n x ((thl n p).getD j 0).toNat) = true) (fun k => (thl n p).length - k) 0 ⟨Nat.zero_le _, fun j hj => by omega⟩ [0] (by simp only [leq, leA, ev0, evA, evB, evP, fl, gp, tab, simprocAttr, reduceCtorEq, reduceIte] <;> trivial) fun k hk => ?_
        obtain ⟨hk1, hk2⟩ := hk
        refine qm (qm ?_)
        refine hk_region fun K hK => runs_eval tab_ok ?_
        simp only [ev0, evA, evB, evP, fl, gp, tab, simprocAttr, reduceCtorEq, reduceIte]
        refine fin_run trivial (hK _ ?_) <;> clear hK <;> clear K
        refine qa ?_
        refine hk_cond rfl (fun hC4 => ?_) (fun hC4 => ?_)
        · (try simp only [nhs] at hC4)
          have hkl : k < (thl n p).length := by omega
          obtain ⟨y, y1, y2, y3⟩ := thl_get hkl
          refine qh (qa (qm (ql (qm ?_))))
          refine hk_draw mixed (by kernel_rfl) fun K hK => runs_eval tab_ok ?_
          simp only [ev0, evA, evB, evP, fl, gp, tab, simprocAttr, reduceCtorEq, reduceIte, il_get hlt, il_get hkl, x3, y3]
          refine fin_stop ?_ (runs_call (m_c T x1 y1) rfl rfl rfl (by simp only [dstOk, Nat.reduceLT]) (by repeat (first | exact trivial | constructor)) (runs_eval tab_ok ?_))
          · (first | exact trivial | omega | (simp only [In64] at *; omega) | (simp [In64] at *; omega) | (simp_all; done) | skip)
          simp only [ev0, evA, evB, evP, fl, gp, tab, simprocAttr, reduceCtorEq, reduceIte, il_get hlt, il_get hkl, x3, y3]
          refine fin_stop trivial (runs_call (has_r (thl n p) (op m n x y : Nat) (by omega)) rfl rfl rfl (by simp only [dstOk, Nat.reduceLT]) (by repeat (first | exact trivial | constructor)) (runs_eval tab_ok ?_))
          simp only [ev0, evA, evB, evP, fl, gp, tab, simprocAttr, reduceCtorEq, reduceIte, il_get hlt, il_get hkl, x3, y3]
          refine fin_run ?_ (hK _ ?_) <;> clear hK <;> clear K
          · (first | exact trivial | omega | (simp only [In64] at *; omega) | (simp [In64] at *; omega) | (simp_all; done) | skip)
          refine qa ?_
          refine hk_cond rfl (fun hC5 => ?_) (fun hC5 => ?_)
          · (try simp only [nhs] at hC5)
            refine qm ?_
            refine hk_region fun K hK => runs_eval tab_ok ?_
            simp only [ev0, evA, evB, evP, fl, gp, tab, simprocAttr, reduceCtorEq, reduceIte]
            refine fin_run trivial (hK _ ?_) <;> clear hK <;> clear K
            refine qa (qk (qe (qb (qb (qe (qe (qb (qb (qe (qb ?_))))))))))
            simp only [Tryd.results49, enA, ev0, evA, evB, evP, fl, gp, tab, simprocAttr, reduceCtorEq, reduceIte]
            cases b with
            | false => rfl
            | true => exact absurd ((mem_thl_n (G.cl x y x1 y1)).2 ((hbs.1 rfl).mul x y x1 y1 x2 y2)) (by simpa using hC5)
          · (try simp only [nhs] at hC5)
            have hm3 : p (op m n x y) = true := (mem_thl_n (G.cl x y x1 y1)).1 hC5
            refine qh (qd (qa ?_))
            refine hk_region fun K hK => runs_eval tab_ok ?_
            simp only [ev0, evA, evB, evP, fl, gp, tab, simprocAttr, reduceCtorEq, reduceIte]
            refine fin_run ?_ (hK _ ?_) <;> clear hK <;> clear K
            · (first | exact trivial | omega | (simp only [In64] at *; omega) | (simp [In64] at *; omega) | (simp_all; done) | skip)
            refine qa ?_
            refine ⟨k + 1, [0], ⟨by omega, fun j hj => ?_⟩, by omega, ?_⟩
            · by_cases hj2 : j = k
              · subst hj2; rw [y3, Int.toNat_natCast]; exact hm3
              · exact hk2 j (by omega)
            · simp only [leq, leA, ev0, evA, evB, evP, fl, gp, tab, simprocAttr, reduceCtorEq, reduceIte] <;> omega
        · (try simp only [nhs] at hC4)
          refine qj (qc (qc (qf (qd (qa ?_)))))
          refine hk_region fun K hK => runs_eval tab_ok ?_
          simp only [ev0, evA, evB, evP, fl, gp, tab, simprocAttr, reduceCtorEq, reduceIte]
          refine fin_run ?_ (hK _ ?_) <;> clear hK <;> clear K
          · (first | exact trivial | omega | (simp only [In64] at *; omega) | (simp [In64] at *; omega) | (simp_all; done) | skip)
          refine qa ?_
          refine ⟨i + 1, [0], ⟨by omega, fun j hj k' hk' => ?_⟩, by omega, ?_⟩
          · by_cases hj2 : j = i
            · subst hj2; rw [x3, Int.toNat_natCast]; exact hk2 k' (by omega)
            · exact hi2 j (by omega) k' hk'
          · simp only [leq, leA, ev0, evA, evB, evP, fl, gp, tab, simprocAttr, reduceCtorEq, reduceIte] <;> omega
    · (try simp only [nhs] at hC2)
      refine qj (qc (qc (qf (qa (qm ?_)))))
      refine hk_region fun K hK => runs_eval tab_ok ?_
      simp only [ev0, evA, evB, evP, fl, gp, tab, simprocAttr, reduceCtorEq, reduceIte]
      refine fin_run trivial (hK _ ?_) <;> clear hK <;> clear K
      refine qa (qk ?_)
      simp only [Tryd.results49, enA, ev0, evA, evB, evP, fl, gp, tab, simprocAttr, reduceCtorEq, reduceIte]
      rw [eq_comm, hbs]
      refine sub_of G he fun a b ha hb' h1 h2 => ?_
      obtain ⟨j, j1, j2⟩ := thl_at ha h1
      obtain ⟨k, k1, k2⟩ := thl_at hb' h2
      have := hi2 j (by omega) k k1
      rwa [j2, k2, Int.toNat_natCast, Int.toNat_natCast] at this

/-! ### Rows of truths -/

def bl (n : Nat) (r : Nat → Bool) : List PV := (List.range n).map fun a => .bool (r a)
theorem bl_len (n : Nat) (r : Nat → Bool) : (bl n r).length = n := by simp [bl]
theorem bl_get {n : Nat} {r : Nat → Bool} {a : Nat} (ha : a < n) : (bl n r).getD a default = .bool (r a) := by
  simp [bl, List.getD, List.getElem?_map, List.getElem?_range ha]
theorem bl_one (n : Nat) (r : Nat → Bool) : (bl n r).all PV.one = true := by
  simp [bl, PV.one]
theorem obl_get {n : Nat} {r : Nat → Bool} {a : Nat} (ha : a < n) (d : AV) : (opl (bl n r)).getD a d = .p (.bool (r a)) := by
  simp [opl, bl, List.getD, List.getElem?_map, List.getElem?_range ha]
/-- With one more. -/
def upd (r : Nat → Bool) (a i : Nat) : Bool := r i || decide (i = a)
theorem obl_set (n : Nat) (r : Nat → Bool) (a : Nat) : (opl (bl n r)).set a (.p (.bool true)) = opl (bl n (upd r a)) := by
  refine List.ext_getElem (by simp [opl, bl]) fun i h1 h2 => ?_
  simp only [opl, bl, List.length_map, List.length_range, List.length_set] at h1 h2
  rw [List.getElem_set]
  by_cases e : a = i
  · subst e; simp [opl, bl, upd]
  · rw [if_neg e]
    have : decide (i = a) = false := by simp; omega
    simp [opl, bl, upd, this]
theorem obl_new (n : Nat) : List.replicate n (AV.p (.bool false)) = opl (bl n fun _ => false) := by
  refine List.ext_getElem (by simp [opl, bl]) fun i h1 h2 => ?_
  simp [opl, bl]
theorem bl_congr {n : Nat} {r r' : Nat → Bool} (h : ∀ a, a < n → r a = r' a) : bl n r = bl n r' := by
  unfold bl
  refine List.map_congr_left fun a ha => by rw [h a (List.mem_range.1 ha)]
theorem obl_ok (n : Nat) (r : Nat → Bool) : (opl (bl n r)).all cellOk = true := opl_ok (bl_one n r)
theorem obl_len (n : Nat) (r : Nat → Bool) : (opl (bl n r)).length = n := by rw [opl_length, bl_len]

/-- More bits, a greater number. -/
theorem bo_lt_of {n : Nat} {r r' : Nat → Bool} (h : ∀ a, a < n → r a = true → r' a = true) {a : Nat} (ha : a < n) (h1 : r a = false) (h2 : r' a = true) : bo n r < bo n r' := by
  refine Nat.lt_of_le_of_ne (Nat.le_of_testBit fun i hi => ?_) fun he => ?_
  · rw [bo_bit, Bool.and_eq_true, decide_eq_true_eq] at hi ⊢
    exact ⟨hi.1, h i hi.1 hi.2⟩
  · have := bo_inj he ha
    rw [h1, h2] at this; cases this

theorem bool3 (a b : Bool) : a = false ∨ (a = true ∧ b = false) ∨ (a = true ∧ b = true) := by cases a <;> cases b <;> simp

theorem span1_c (n a : Nat) (r : Nat → Bool) (ha : a < n) (hn : n ≤ 60) : FnC Tryd.prog 77 [.int .i64 a, .ptr [.list (bl n r)]] (.bool (r a)) := by
  refine fnc_of tab_ok Tryd.func77 rfl (by kernel_rfl) (by rw [Tryd.ntmps77]; exact Nat.le_add_left 2 _) ?_; rw [Tryd.ntmps77]
  refine qm ?_
  refine hk_region fun K hK => runs_eval tab_ok ?_
  simp only [ev0, evA, evB, evP, fl, gp, tab, simprocAttr, reduceCtorEq, reduceIte]
  refine fin_run trivial (hK _ ?_) <;> clear hK <;> clear K
  refine qa (qm ?_)
  refine hk_region fun K hK => runs_eval tab_ok ?_
  simp only [ev0, evA, evB, evP, fl, gp, tab, simprocAttr, reduceCtorEq, reduceIte, bl_get ha, bl_len]
  refine fin_run ?_ (hK _ ?_) <;> clear hK <;> clear K
  · (first | exact trivial | omega | (simp only [In64] at *; omega) | (simp [In64] at *; omega) | (simp_all; done) | skip)
  refine qa (qk ?_)
  simp only [Tryd.results77, enA, ev0, evA, evB, evP, fl, gp, tab, simprocAttr, reduceCtorEq, reduceIte]
  all_goals (rfl)

set_option maxHeartbeats 2000000 in
theorem span_c {n e : Nat} {m : List Int} (h : GT n m n e) (l : List Int) (hl : l.length ≤ 1000000000000) (hr : ∀ x ∈ l, ∃ a, a < n ∧ x = ((a : Nat) : Int)) (q : Nat → Bool) (hq : ∀ a, a < n → (q a = true ↔ Gen n (op m n) e (tst l) a)) : FnC Tryd.prog 25 [gp n m, .list (il l)] (.list (il (thl n q))) := by
  have G := h.2.2
  have T := h.2.1
  have hb := T.big
  have hel := G.el
  refine fnc_of tab_ok Tryd.func25 rfl (by kernel_rfl) (by rw [Tryd.ntmps25]; exact Nat.le_add_left 2 _) ?_; rw [Tryd.ntmps25]
  refine qm ?_
  refine hk_region fun K hK => runs_eval tab_ok ?_
  simp only [ev0, evA, evB, evP, fl, gp, tab, simprocAttr, reduceCtorEq, reduceIte]
  refine fin_run ?_ (hK _ ?_) <;> clear hK <;> clear K
  · (first | exact trivial | omega | (simp only [In64] at *; omega) | (simp [In64] at *; omega) | (simp_all; done) | skip)
  refine qa (qm ?_)
  refine hk_region fun K hK => runs_eval tab_ok ?_
  simp only [ev0, evA, evB, evP, fl, gp, tab, simprocAttr, reduceCtorEq, reduceIte, makeSliceA.eq_def, obl_new]
  refine fin_run ?_ (hK _ ?_) <;> clear hK <;> clear K
  · omega
  refine qa (qm ?_)
  refine hk_draw mixed (by kernel_rfl) fun K hK => runs_eval tab_ok ?_
  simp only [ev0, evA, evB, evP, fl, gp, tab, simprocAttr, reduceCtorEq, reduceIte]
  refine fin_stop trivial (runs_call (e_c T) rfl rfl rfl (by simp only [dstOk, Nat.reduceLT]) (by repeat (first | exact trivial | constructor)) (runs_eval tab_ok ?_))
  simp only [ev0, evA, evB, evP, fl, gp, tab, simprocAttr, reduceCtorEq, reduceIte, h.eI]
  refine fin_run ?_ (hK _ ?_) <;> clear hK <;> clear K
  · rw [bl_len]; omega
  refine qa (qm (qm ?_))
  rw [obl_set, show upd (fun _ => false) e = fun a => decide (a = e) || tst (l.take 0) a from funext fun a => by simp [upd, tst]]
  refine hk_region fun K hK => runs_eval tab_ok ?_
  simp only [ev0, evA, evB, evP, fl, gp, tab, simprocAttr, reduceCtorEq, reduceIte]
  refine fin_run trivial (hK _ ?_) <;> clear hK <;> clear K
  refine qa (ql ?_)
  refine hk_loop (ι := Nat) (fun i => ⟨71, [(1, .p (.list (il l))), (2, .ptr 0 0), (5, .ptr 2 0), (6, .p (.int .i64 i))], [.own [.p (.int .i64 n), .p (.list (il m))], .own (opl (bl n fun a => decide (a = e) || tst (l.take i) a)), .own [.sl 1 0 n]]⟩) (fun i => i ≤ l.length) (fun i => l.length - i) 0 (Nat.zero_le _) [0, 1, 2] (by simp only [leq, leA, ev0, evA, evB, evP, fl, gp, tab, simprocAttr, reduceCtorEq, reduceIte] <;> first | trivial | (simp; done)) fun i hi => ?_
  refine qm (qm ?_)
  refine hk_region fun K hK => runs_eval tab_ok ?_
  simp only [ev0, evA, evB, evP, fl, gp, tab, simprocAttr, reduceCtorEq, reduceIte]
  refine fin_run trivial (hK _ ?_) <;> clear hK <;> clear K
  refine qa ?_
  refine hk_cond rfl (fun hC1 => ?_) (fun hC1 => ?_)
  · (try simp only [nhs] at hC1)
    have hlt : i < l.length := by omega
    have hmem : l.getD i 0 ∈ l := by simp [List.getD, List.getElem?_eq_getElem hlt]
    obtain ⟨x, x1, x2⟩ := hr _ hmem
    refine qh (qa (qm (ql ?_)))
    refine hk_draw mixed (by kernel_rfl) fun K hK => runs_eval tab_ok ?_
    simp only [ev0, evA, evB, evP, fl, gp, tab, simprocAttr, reduceCtorEq, reduceIte, il_get hlt, x2, obl_len]
    refine fin_run ?_ (hK _ ?_) <;> clear hK <;> clear K
    · rw [bl_len]; omega
    refine qd (qa ?_)
    rw [obl_set]
    refine hk_region fun K hK => runs_eval tab_ok ?_
    simp only [ev0, evA, evB, evP, fl, gp, tab, simprocAttr, reduceCtorEq, reduceIte]
    refine fin_run ?_ (hK _ ?_) <;> clear hK <;> clear K
    · (first | exact trivial | omega | (simp only [In64] at *; omega) | (simp [In64] at *; omega) | (simp_all; done) | skip)
    refine qa ?_
    refine ⟨i + 1, [0, 1, 2], by omega, by omega, ?_⟩
    have hc : bl n (fun a => decide (a = e) || tst (l.take (i + 1)) a) = bl n (upd (fun a => decide (a = e) || tst (l.take i) a) x) := bl_congr fun a ha => by
      rw [List.take_succ_eq_append_getElem hlt]
      have e1 : l[i] = (x : Int) := by rw [← x2]; simp [List.getD, List.getElem?_eq_getElem hlt]
      rw [e1]
      unfold upd tst
      rw [Bool.or_assoc]
      congr 1
      rw [← Bool.decide_or]
      refine decide_eq_decide.2 ?_
      rw [List.mem_append, List.mem_singleton]
      constructor
      · rintro (h | h)
        · exact .inl h
        · exact .inr (by omega)
      · rintro (h | h)
        · exact .inl h
        · exact .inr (by omega)
    rw [hc]
    simp only [leq, leA, ev0, evA, evB, evP, fl, gp, tab, simprocAttr, reduceCtorEq, reduceIte] <;> first | trivial | omega
  · (try simp only [nhs] at hC1)
    have hin : i = l.length := by omega
    subst hin
    rw [List.take_length]
    refine qj (qc (qc (qf (qa (qm (qm ?_))))))
    refine hk_region fun K hK => runs_eval tab_ok ?_
    simp only [ev0, evA, evB, evP, fl, gp, tab, simprocAttr, reduceCtorEq, reduceIte]
    refine fin_run trivial (hK _ ?_) <;> clear hK <;> clear K
    refine qa (ql ?_)
    refine hk_loop (ι := (Nat → Bool) × Bool) (fun p => ⟨71, [(2, .ptr 0 0), (5, .ptr 2 0), (7, .p (.bool p.2))], [.own [.p (.int .i64 n), .p (.list (il m))], .own (opl (bl n p.1)), .own [.sl 1 0 n]]⟩) (fun p => p.1 e = true ∧ (∀ a, a < n → tst l a = true → p.1 a = true) ∧ (∀ a, a < n → p.1 a = true → Gen n (op m n) e (tst l) a) ∧ (p.2 = false → ∀ a, a < n → ∀ b, b < n → p.1 a = true → p.1 b = true → p.1 (op m n a b) = true)) (fun p => 2 * (2 ^ 64 - bo n p.1) + (if p.2 = true then 1 else 0)) (fun a => decide (a = e) || tst l a, true) ⟨by simp, fun a _ h => by simp [h], fun a ha h => by
        simp only [Bool.or_eq_true, decide_eq_true_eq] at h
        rcases h with rfl | h
        · exact .one
        · exact Gen.mem G ha h, fun h => by cases h⟩ [0, 1, 2] (by simp only [leq, leA, ev0, evA, evB, evP, fl, gp, tab, simprocAttr, reduceCtorEq, reduceIte] <;> first | trivial | (simp; done)) fun p hp => ?_
    obtain ⟨r, again⟩ := p
    obtain ⟨r1, r2, r3, r4⟩ := hp
    simp only at r1 r2 r3 r4
    refine qm (qm ?_)
    refine hk_region fun K hK => runs_eval tab_ok ?_
    simp only [ev0, evA, evB, evP, fl, gp, tab, simprocAttr, reduceCtorEq, reduceIte]
    refine fin_run trivial (hK _ ?_) <;> clear hK <;> clear K
    refine qa ?_
    refine hk_cond rfl (fun hC2 => ?_) (fun hC2 => ?_)
    · (try simp only [nhs] at hC2)
      subst hC2
      refine qh (qa (ql (qm ?_)))
      refine hk_region fun K hK => runs_eval tab_ok ?_
      simp only [ev0, evA, evB, evP, fl, gp, tab, simprocAttr, reduceCtorEq, reduceIte]
      refine fin_run trivial (hK _ ?_) <;> clear hK <;> clear K
      refine qa (qm ?_)
      refine hk_region fun K hK => runs_eval tab_ok ?_
      simp only [ev0, evA, evB, evP, fl, gp, tab, simprocAttr, reduceCtorEq, reduceIte]
      refine fin_run trivial (hK _ ?_) <;> clear hK <;> clear K
      refine qa (ql ?_)
      refine hk_loop (ι := Nat × (Nat → Bool) × Bool) (fun p => ⟨71, [(2, .ptr 0 0), (5, .ptr 2 0), (7, .p (.bool p.2.2)), (8, .p (.int .i64 p.1))], [.own [.p (.int .i64 n), .p (.list (il m))], .own (opl (bl n p.2.1)), .own [.sl 1 0 n]]⟩) (fun p => p.1 ≤ n ∧ (∀ a, a < n → r a = true → p.2.1 a = true) ∧ (∀ a, a < n → p.2.1 a = true → Gen n (op m n) e (tst l) a) ∧ (p.2.2 = true → bo n r < bo n p.2.1) ∧ (p.2.2 = false → p.2.1 = r ∧ ∀ a, a < p.1 → ∀ b, b < n → r a = true → r b = true → r (op m n a b) = true)) (fun p => n - p.1) (0, r, false) ⟨Nat.zero_le _, fun a _ h => h, r3, fun h => by (first | cases h | simp at h), fun _ => ⟨rfl, fun a ha => by simp only at ha; omega⟩⟩ [0, 1, 2] (by simp only [leq, leA, ev0, evA, evB, evP, fl, gp, tab, simprocAttr, reduceCtorEq, reduceIte] <;> first | trivial | (simp; done)) fun p hp => ?_
      obtain ⟨i, r', ag⟩ := p
      obtain ⟨u1, u2, u3, u4, u5⟩ := hp
      simp only at u1 u2 u3 u4 u5
      refine qm (qm ?_)
      refine hk_region fun K hK => runs_eval tab_ok ?_
      simp only [ev0, evA, evB, evP, fl, gp, tab, simprocAttr, reduceCtorEq, reduceIte]
      refine fin_run ?_ (hK _ ?_) <;> clear hK <;> clear K
      · (first | exact trivial | omega | (simp only [In64] at *; omega) | (simp [In64] at *; omega) | (simp_all; done) | skip)
      refine qa ?_
      refine hk_cond rfl (fun hC3 => ?_) (fun hC3 => ?_)
      · (try simp only [nhs] at hC3)
        have hil : i < n := by omega
        refine qh (qa (qm (ql (qm ?_))))
        refine hk_region fun K hK => runs_eval tab_ok ?_
        simp only [ev0, evA, evB, evP, fl, gp, tab, simprocAttr, reduceCtorEq, reduceIte]
        refine fin_run trivial (hK _ ?_) <;> clear hK <;> clear K
        refine qa (ql ?_)
        refine hk_loop (ι := Nat × (Nat → Bool) × Bool) (fun p => ⟨71, [(2, .ptr 0 0), (5, .ptr 2 0), (7, .p (.bool p.2.2)), (8, .p (.int .i64 i)), (9, .p (.int .i64 p.1))], [.own [.p (.int .i64 n), .p (.list (il m))], .own (opl (bl n p.2.1)), .own [.sl 1 0 n]]⟩) (fun p => p.1 ≤ n ∧ (∀ a, a < n → r a = true → p.2.1 a = true) ∧ (∀ a, a < n → p.2.1 a = true → Gen n (op m n) e (tst l) a) ∧ (p.2.2 = true → bo n r < bo n p.2.1) ∧ (p.2.2 = false → p.2.1 = r ∧ (∀ a, a < i → ∀ b, b < n → r a = true → r b = true → r (op m n a b) = true) ∧ ∀ b, b < p.1 → r i = true → r b = true → r (op m n i b) = true)) (fun p => n - p.1) (0, r', ag) ⟨Nat.zero_le _, u2, u3, u4, fun h => ⟨(u5 h).1, (u5 h).2, fun b hb => by simp only at hb; omega⟩⟩ [0, 1, 2] (by simp only [leq, leA, ev0, evA, evB, evP, fl, gp, tab, simprocAttr, reduceCtorEq, reduceIte] <;> first | trivial | (simp; done)) fun p hp => ?_
        obtain ⟨j, r'', ag'⟩ := p
        obtain ⟨v1, v2, v3, v4, v5⟩ := hp
        simp only at v1 v2 v3 v4 v5
        refine qm (qm ?_)
        refine hk_region fun K hK => runs_eval tab_ok ?_
        simp only [ev0, evA, evB, evP, fl, gp, tab, simprocAttr, reduceCtorEq, reduceIte]
        refine fin_run ?_ (hK _ ?_) <;> clear hK <;> clear K
        · (first | exact trivial | omega | (simp only [In64] at *; omega) | (simp [In64] at *; omega) | (simp_all; done) | skip)
        refine qa ?_
        refine hk_cond rfl (fun hC4 => ?_) (fun hC4 => ?_)
        · (try simp only [nhs] at hC4)
          have hjl : j < n := by omega
          have hfl := G.cl i j hil hjl
          refine qh (qa (qm (ql (qm ?_))))
          rcases bool3 (r'' i) (r'' j) with hri | ⟨hri, hrj⟩ | ⟨hri, hrj⟩
          · refine hk_draw mixed (by kernel_rfl) fun K hK => runs_eval tab_ok ?_
            simp only [ev0, evA, evB, evP, fl, gp, tab, simprocAttr, reduceCtorEq, reduceIte, obl_get hil, bl_len, obl_len, hri]
            refine fin_run ?_ (hK _ ?_) <;> clear hK <;> clear K
            · omega
            refine qa ?_
            refine hk_cond rfl (fun hC5 => ?_) (fun hC5 => ?_)
            · cases hC5
            · refine qh (qd (qa ?_))
              refine hk_region fun K hK => runs_eval tab_ok ?_
              simp only [ev0, evA, evB, evP, fl, gp, tab, simprocAttr, reduceCtorEq, reduceIte]
              refine fin_run ?_ (hK _ ?_) <;> clear hK <;> clear K
              · (first | exact trivial | omega | (simp only [In64] at *; omega) | (simp [In64] at *; omega) | (simp_all; done) | skip)
              refine qa ?_
              refine ⟨(j + 1, r'', ag'), [0, 1, 2], ⟨by simp only; omega, v2, v3, v4, fun h => ?_⟩, by simp only; omega, ?_⟩
              · obtain ⟨x1, x2, x3⟩ := v5 h
                refine ⟨x1, x2, fun b hb' h1 h2 => ?_⟩
                by_cases hbj : b = j
                · rw [← x1, hri] at h1; cases h1
                · exact x3 b (by simp only at hb'; omega) h1 h2
              · simp only [leq, leA, ev0, evA, evB, evP, fl, gp, tab, simprocAttr, reduceCtorEq, reduceIte] <;> first | trivial | omega
          · refine hk_draw mixed (by kernel_rfl) fun K hK => runs_eval tab_ok ?_
            simp only [ev0, evA, evB, evP, fl, gp, tab, simprocAttr, reduceCtorEq, reduceIte, obl_get hil, obl_get hjl, bl_len, obl_len, hri, hrj]
            refine fin_run ?_ (hK _ ?_) <;> clear hK <;> clear K
            · omega
            refine qa ?_
            refine hk_cond rfl (fun hC5 => ?_) (fun hC5 => ?_)
            · cases hC5
            · refine qh (qd (qa ?_))
              refine hk_region fun K hK => runs_eval tab_ok ?_
              simp only [ev0, evA, evB, evP, fl, gp, tab, simprocAttr, reduceCtorEq, reduceIte]
              refine fin_run ?_ (hK _ ?_) <;> clear hK <;> clear K
              · (first | exact trivial | omega | (simp only [In64] at *; omega) | (simp [In64] at *; omega) | (simp_all; done) | skip)
              refine qa ?_
              refine ⟨(j + 1, r'', ag'), [0, 1, 2], ⟨by simp only; omega, v2, v3, v4, fun h => ?_⟩, by simp only; omega, ?_⟩
              · obtain ⟨x1, x2, x3⟩ := v5 h
                refine ⟨x1, x2, fun b hb' h1 h2 => ?_⟩
                by_cases hbj : b = j
                · rw [hbj, ← x1, hrj] at h2; cases h2
                · exact x3 b (by simp only at hb'; omega) h1 h2
              · simp only [leq, leA, ev0, evA, evB, evP, fl, gp, tab, simprocAttr, reduceCtorEq, reduceIte] <;> first | trivial | omega
          · refine hk_draw mixed (by kernel_rfl) fun K hK => runs_eval tab_ok ?_
            simp only [ev0, evA, evB, evP, fl, gp, tab, simprocAttr, reduceCtorEq, reduceIte, obl_get hil, obl_get hjl, obl_get hfl, bl_len, obl_len, hri, hrj]
            refine fin_stop ?_ (runs_call (m_c T hil hjl) rfl rfl rfl (by simp only [dstOk, Nat.reduceLT]) (by repeat (first | exact trivial | constructor)) (runs_eval tab_ok ?_))
            · omega
            simp only [ev0, evA, evB, evP, fl, gp, tab, simprocAttr, reduceCtorEq, reduceIte, obl_get hil, obl_get hjl, obl_get hfl, bl_len, obl_len, hri, hrj]
            refine fin_run ?_ (hK _ ?_) <;> clear hK <;> clear K
            · omega
            refine qa ?_
            refine hk_cond rfl (fun hC5 => ?_) (fun hC5 => ?_)
            · (try simp only [nhs] at hC5)
              refine qm ?_
              refine hk_draw mixed (by kernel_rfl) fun K hK => runs_eval tab_ok ?_
              simp only [ev0, evA, evB, evP, fl, gp, tab, simprocAttr, reduceCtorEq, reduceIte, obl_len, bl_len]
              refine fin_stop trivial (runs_call (m_c T hil hjl) rfl rfl rfl (by simp only [dstOk, Nat.reduceLT]) (by repeat (first | exact trivial | constructor)) (runs_eval tab_ok ?_))
              simp only [ev0, evA, evB, evP, fl, gp, tab, simprocAttr, reduceCtorEq, reduceIte, obl_len, bl_len]
              refine fin_run ?_ (hK _ ?_) <;> clear hK <;> clear K
              · omega
              refine qa ?_
              rw [obl_set]
              refine hk_region fun K hK => runs_eval tab_ok ?_
              simp only [ev0, evA, evB, evP, fl, gp, tab, simprocAttr, reduceCtorEq, reduceIte]
              refine fin_run trivial (hK _ ?_) <;> clear hK <;> clear K
              refine qd (qa ?_)
              refine hk_region fun K hK => runs_eval tab_ok ?_
              simp only [ev0, evA, evB, evP, fl, gp, tab, simprocAttr, reduceCtorEq, reduceIte]
              refine fin_run ?_ (hK _ ?_) <;> clear hK <;> clear K
              · (first | exact trivial | omega | (simp only [In64] at *; omega) | (simp [In64] at *; omega) | (simp_all; done) | skip)
              refine qa ?_
              have hnew : r'' (op m n i j) = false := by simpa using hC5
              have hgt : bo n r < bo n (upd r'' (op m n i j)) := by
                have h1 : bo n r'' < bo n (upd r'' (op m n i j)) := bo_lt_of (fun a _ h => by simp [upd, h]) hfl hnew (by simp [upd])
                cases hag : ag' with
                | true => have := v4 hag; omega
                | false => rw [(v5 hag).1] at h1; rw [(v5 hag).1]; exact h1
              refine ⟨(j + 1, upd r'' (op m n i j), true), [0, 1, 2], ⟨by simp only; omega, fun a ha h => ?_, fun a ha h => ?_, fun _ => hgt, fun h => by first | cases h | simp at h⟩, by simp only; omega, ?_⟩
              · simp [upd, v2 a ha h]
              · simp only [upd, Bool.or_eq_true, decide_eq_true_eq] at h
                rcases h with h | h
                · exact v3 a ha h
                · rw [h]; exact Gen.mul G (v3 i hil hri) (v3 j hjl hrj)
              · simp only [leq, leA, ev0, evA, evB, evP, fl, gp, tab, simprocAttr, reduceCtorEq, reduceIte] <;> first | trivial | omega
            · (try simp only [nhs] at hC5)
              refine qh (qd (qa ?_))
              refine hk_region fun K hK => runs_eval tab_ok ?_
              simp only [ev0, evA, evB, evP, fl, gp, tab, simprocAttr, reduceCtorEq, reduceIte]
              refine fin_run ?_ (hK _ ?_) <;> clear hK <;> clear K
              · (first | exact trivial | omega | (simp only [In64] at *; omega) | (simp [In64] at *; omega) | (simp_all; done) | skip)
              refine qa ?_
              have hin2 : r'' (op m n i j) = true := by simpa using hC5
              refine ⟨(j + 1, r'', ag'), [0, 1, 2], ⟨by simp only; omega, v2, v3, v4, fun h => ?_⟩, by simp only; omega, ?_⟩
              · obtain ⟨x1, x2, x3⟩ := v5 h
                refine ⟨x1, x2, fun b hb' h1 h2 => ?_⟩
                by_cases hbj : b = j
                · rw [hbj, ← x1]; exact hin2
                · exact x3 b (by simp only at hb'; omega) h1 h2
              · simp only [leq, leA, ev0, evA, evB, evP, fl, gp, tab, simprocAttr, reduceCtorEq, reduceIte] <;> first | trivial | omega
        · (try simp only [nhs] at hC4)
          have hjn : j = n := by omega
          subst hjn
          refine qj (qc (qc (qf (qd (qa ?_)))))
          refine hk_region fun K hK => runs_eval tab_ok ?_
          simp only [ev0, evA, evB, evP, fl, gp, tab, simprocAttr, reduceCtorEq, reduceIte]
          refine fin_run ?_ (hK _ ?_) <;> clear hK <;> clear K
          · (first | exact trivial | omega | (simp only [In64] at *; omega) | (simp [In64] at *; omega) | (simp_all; done) | skip)
          refine qa ?_
          refine ⟨(i + 1, r'', ag'), [0, 1, 2], ⟨by simp only; omega, v2, v3, v4, fun h => ?_⟩, by simp only; omega, ?_⟩
          · obtain ⟨x1, x2, x3⟩ := v5 h
            refine ⟨x1, fun a ha b hb' h1 h2 => ?_⟩
            by_cases hai : a = i
            · rw [hai] at h1 ⊢; exact x3 b hb' h1 h2
            · exact x2 a (by simp only at ha; omega) b hb' h1 h2
          · simp only [leq, leA, ev0, evA, evB, evP, fl, gp, tab, simprocAttr, reduceCtorEq, reduceIte] <;> first | trivial | omega
      · (try simp only [nhs] at hC3)
        have hin : i = n := by omega
        subst hin
        refine qj (qc (qc (qf (qd (qa ?_)))))
        refine ⟨(r', ag), [0, 1, 2], ⟨u2 e hel r1, fun a ha h => u2 a ha (r2 a ha h), u3, fun h a ha b hb' h1 h2 => ?_⟩, ?_, ?_⟩
        · obtain ⟨x1, x2⟩ := u5 h
          simp only [x1] at h1 h2 ⊢
          exact x2 a ha b hb' h1 h2
        · have h1 := bo_lt64 hb r'
          have h2 := bo_lt64 hb r
          simp only [if_true]
          cases hag : ag with
          | true => have := u4 hag; simp only [if_true]; omega
          | false => rw [(u5 hag).1]; simp
        · simp only [leq, leA, ev0, evA, evB, evP, fl, gp, tab, simprocAttr, reduceCtorEq, reduceIte] <;> first | trivial | omega
    · (try simp only [nhs] at hC2)
      subst hC2
      have hfin : bl n r = bl n q := bl_congr fun a ha => by
        rw [Bool.eq_iff_iff, hq a ha]
        refine ⟨r3 a ha, fun hg => ?_⟩
        exact Gen.least (H := fun x => r x = true) r1 (fun a b ga hb' hpb hH => r4 rfl a (ga.lt G) b hb' hH (r2 b hb' hpb)) hg
      rw [hfin]
      refine qj (qc (qc (qf (qa (qm ?_)))))
      refine hk_freeze 1 rfl (opl_allP _) ?_
      refine hk_purec 2 0 rfl rfl rfl ⟨by rw [bl_len]; omega, ?_⟩ ?_
      · rw [List.drop_zero, List.take_of_length_le (by rw [bl_len]; omega)]; exact bl_one n q
      simp only [hset, List.set, List.drop_zero]
      rw [List.take_of_length_le (by rw [bl_len]; omega)]
      refine hk_freeze 2 rfl rfl ?_
      simp only [hset]
      refine hk_region fun K hK => runs_eval tab_ok ?_
      simp only [ev0, evA, evB, evP, fl, gp, tab, simprocAttr, reduceCtorEq, reduceIte]
      refine fin_stop trivial (runs_call (those_c n m _ _ q (by omega) (fun a ha => span1_c n a q ha hb)) rfl rfl rfl (by simp only [dstOk, Nat.reduceLT]) (by repeat (first | exact trivial | constructor)) (runs_eval tab_ok ?_))
      simp only [ev0, evA, evB, evP, fl, gp, tab, simprocAttr, reduceCtorEq, reduceIte]
      refine fin_run ?_ (hK _ ?_) <;> clear hK <;> clear K
      · (first | exact trivial | omega | (simp only [In64] at *; omega) | (simp [In64] at *; omega) | (simp_all; done) | skip)
      refine qa (qk ?_)
      simp only [Tryd.results25, enA, ev0, evA, evB, evP, fl, gp, tab, simprocAttr, reduceCtorEq, reduceIte]
      all_goals (rfl)
end Go.Proofs.YtjikchbmkodgfaaDoor

/-
  How many bits are set; lists compared. Conditions: none.
-/
set_option linter.all false
namespace Go.Proofs.YtjikchbmkodgfaaDoor
open Go.Pv

theorem add_u (a b : Int) : binInt .add .u64 a b = (True, .int .u64 (IntKind.u64.wrap (a + b))) := rfl
theorem wadd_u {a b : Nat} (h : a + b < 2 ^ 64) : IntKind.u64.wrap ((a : Int) + (b : Int)) = ((a + b : Nat) : Int) := by
  rw [← Int.natCast_add]; exact wrap_n h
theorem cnv_i {a : Nat} (ha : a < 2 ^ 63) : IntKind.i64.wrap (a : Int) = (a : Int) := by
  simp only [IntKind.wrap, IntKind.bits, IntKind.signed]
  simp [Int.bmod]
  omega
theorem bv_and7 {a : Nat} (ha : a < 2 ^ 63) : bitsV (fun _ x y => x &&& y) .i64 (a : Int) 127 = .int .i64 ((a &&& 127 : Nat) : Int) := by
  have h1 : (BitVec.ofInt 64 (127 : Int)).toNat = 127 := by decide
  have h2 : a &&& 127 ≤ a := Nat.and_le_left
  show PV.int .i64 (IntKind.i64.wrap ((BitVec.ofInt 64 (a : Int) &&& BitVec.ofInt 64 (127 : Int)).toNat : Int)) = _
  rw [BitVec.toNat_and, ofInt_n (by omega), h1, cnv_i (by omega)]

theorem ones_c (x : Nat) (hx : x < 2 ^ 64) : FnC Tryd.prog 110 [.int .u64 x] (.int .i64 (cnt 64 x)) := by
  have m1 : msk8 85 8 = 6148914691236517205 := rfl
  have m2 : msk8 51 8 = 3689348814741910323 := rfl
  have m3 : msk8 15 8 = 1085102592571150095 := rfl
  have b1 : p1 6148914691236517205 x < 2 ^ 64 := by
    have h1 : x / 2 &&& 6148914691236517205 ≤ 6148914691236517205 := Nat.and_le_right
    have h2 : x &&& 6148914691236517205 ≤ 6148914691236517205 := Nat.and_le_right
    unfold p1; omega
  have e1 : p1 6148914691236517205 x = (x / 2 &&& 6148914691236517205) + (x &&& 6148914691236517205) := rfl
  have s1 : (x : Int).fdiv (2 ^ (min 1 IntKind.u64.bits)) = ((x / 2 : Nat) : Int) := shr_n (a := x) (b := 1) (by omega)
  have a1 : bitsV (fun _ x y => x &&& y) .u64 ((x / 2 : Nat) : Int) 6148914691236517205 = .int .u64 ((x / 2 &&& 6148914691236517205 : Nat) : Int) := bv_and (b := 6148914691236517205) (by omega) (by decide)
  have a2 : bitsV (fun _ x y => x &&& y) .u64 (x : Int) 6148914691236517205 = .int .u64 ((x &&& 6148914691236517205 : Nat) : Int) := bv_and (b := 6148914691236517205) (by omega) (by decide)
  have w1 := wadd_u (by rw [← e1]; exact b1 : (x / 2 &&& 6148914691236517205) + (x &&& 6148914691236517205) < 2 ^ 64)
  rw [← e1] at w1
  generalize hy1 : p1 6148914691236517205 x = y1 at *
  have b2 : p2 3689348814741910323 y1 ≤ 7378697629483820646 := by
    have h1 : y1 / 4 &&& 3689348814741910323 ≤ 3689348814741910323 := Nat.and_le_right
    have h2 : y1 &&& 3689348814741910323 ≤ 3689348814741910323 := Nat.and_le_right
    unfold p2; omega
  have e2 : p2 3689348814741910323 y1 = (y1 / 4 &&& 3689348814741910323) + (y1 &&& 3689348814741910323) := rfl
  have s2 : (y1 : Int).fdiv (2 ^ (min 2 IntKind.u64.bits)) = ((y1 / 4 : Nat) : Int) := shr_n (a := y1) (b := 2) (by omega)
  have a3 : bitsV (fun _ x y => x &&& y) .u64 ((y1 / 4 : Nat) : Int) 3689348814741910323 = .int .u64 ((y1 / 4 &&& 3689348814741910323 : Nat) : Int) := bv_and (b := 3689348814741910323) (by omega) (by decide)
  have a4 : bitsV (fun _ x y => x &&& y) .u64 (y1 : Int) 3689348814741910323 = .int .u64 ((y1 &&& 3689348814741910323 : Nat) : Int) := bv_and (b := 3689348814741910323) (by omega) (by decide)
  have w2 := wadd_u (by rw [← e2]; omega : (y1 / 4 &&& 3689348814741910323) + (y1 &&& 3689348814741910323) < 2 ^ 64)
  rw [← e2] at w2
  generalize hy2 : p2 3689348814741910323 y1 = y2 at *
  have s3 : (y2 : Int).fdiv (2 ^ (min 4 IntKind.u64.bits)) = ((y2 / 16 : Nat) : Int) := shr_n (a := y2) (b := 4) (by omega)
  have w3 := wadd_u (show y2 / 16 + y2 < 2 ^ 64 by omega)
  have a5 : bitsV (fun _ x y => x &&& y) .u64 ((y2 / 16 + y2 : Nat) : Int) 1085102592571150095 = .int .u64 ((y2 / 16 + y2 &&& 1085102592571150095 : Nat) : Int) := bv_and (b := 1085102592571150095) (by omega) (by decide)
  have b3 : y2 / 16 + y2 &&& 1085102592571150095 ≤ 1085102592571150095 := Nat.and_le_right
  have hy3 : y2 / 16 + y2 &&& 1085102592571150095 = pT 8 x := by rw [← hy2, ← hy1]; rfl
  rw [hy3] at a5 b3
  generalize hy : pT 8 x = y at *
  have s4 : (y : Int).fdiv (2 ^ (min 8 IntKind.u64.bits)) = ((y / 256 : Nat) : Int) := shr_n (a := y) (b := 8) (by omega)
  have w4 := wadd_u (show y + y / 256 < 2 ^ 64 by omega)
  have s5 : ((y + y / 256 : Nat) : Int).fdiv (2 ^ (min 16 IntKind.u64.bits)) = (((y + y / 256) / 65536 : Nat) : Int) := shr_n (a := y + y / 256) (b := 16) (by omega)
  have w5 := wadd_u (show (y + y / 256) + (y + y / 256) / 65536 < 2 ^ 64 by omega)
  have s6 : (((y + y / 256) + (y + y / 256) / 65536 : Nat) : Int).fdiv (2 ^ (min 32 IntKind.u64.bits)) = ((((y + y / 256) + (y + y / 256) / 65536) / 4294967296 : Nat) : Int) := shr_n (a := (y + y / 256) + (y + y / 256) / 65536) (b := 32) (by omega)
  have w6 := wadd_u (show ((y + y / 256) + (y + y / 256) / 65536) + ((y + y / 256) + (y + y / 256) / 65536) / 4294967296 < 2 ^ 64 by omega)
  have hfin : ((y + y / 256) + (y + y / 256) / 65536) + ((y + y / 256) + (y + y / 256) / 65536) / 4294967296 < 2 ^ 63 := by omega
  have hres : (((y + y / 256) + (y + y / 256) / 65536) + ((y + y / 256) + (y + y / 256) / 65536) / 4294967296) &&& 127 = cnt 64 x := by
    rw [← pcf_eq x hx, ← hy]
    exact Nat.and_two_pow_sub_one_eq_mod _ 7
  refine fnc_of tab_ok Tryd.func110 rfl (by kernel_rfl) (by rw [Tryd.ntmps110]; exact Nat.le_add_left 1 _) ?_; rw [Tryd.ntmps110]
  refine qm ?_
  refine hk_region fun K hK => runs_eval tab_ok ?_
  simp only [ev0, evA, evB, evP, fl, gp, tab, simprocAttr, reduceCtorEq, reduceIte]
  refine fin_run trivial (hK _ ?_) <;> clear hK <;> clear K
  refine qa (qm ?_)
  refine hk_region fun K hK => runs_eval tab_ok ?_
  simp only [ev0, evA, evB, evP, fl, gp, tab, simprocAttr, reduceCtorEq, reduceIte, s1, a1, a2, add_u, w1]
  refine fin_run ?_ (hK _ ?_) <;> clear hK <;> clear K
  · (first | exact trivial | omega | (simp only [In64] at *; omega) | (simp [In64] at *; omega) | (simp_all; done) | skip)
  refine qa (qm ?_)
  refine hk_region fun K hK => runs_eval tab_ok ?_
  simp only [ev0, evA, evB, evP, fl, gp, tab, simprocAttr, reduceCtorEq, reduceIte, s2, a3, a4, add_u, w2]
  refine fin_run ?_ (hK _ ?_) <;> clear hK <;> clear K
  · (first | exact trivial | omega | (simp only [In64] at *; omega) | (simp [In64] at *; omega) | (simp_all; done) | skip)
  refine qa (qm ?_)
  refine hk_region fun K hK => runs_eval tab_ok ?_
  simp only [ev0, evA, evB, evP, fl, gp, tab, simprocAttr, reduceCtorEq, reduceIte, s3, add_u, w3, a5]
  refine fin_run ?_ (hK _ ?_) <;> clear hK <;> clear K
  · (first | exact trivial | omega | (simp only [In64] at *; omega) | (simp [In64] at *; omega) | (simp_all; done) | skip)
  refine qa (qm ?_)
  refine hk_region fun K hK => runs_eval tab_ok ?_
  simp only [ev0, evA, evB, evP, fl, gp, tab, simprocAttr, reduceCtorEq, reduceIte, s4, add_u, w4]
  refine fin_run ?_ (hK _ ?_) <;> clear hK <;> clear K
  · (first | exact trivial | omega | (simp only [In64] at *; omega) | (simp [In64] at *; omega) | (simp_all; done) | skip)
  refine qa (qm ?_)
  refine hk_region fun K hK => runs_eval tab_ok ?_
  simp only [ev0, evA, evB, evP, fl, gp, tab, simprocAttr, reduceCtorEq, reduceIte, s5, add_u, w5]
  refine fin_run ?_ (hK _ ?_) <;> clear hK <;> clear K
  · (first | exact trivial | omega | (simp only [In64] at *; omega) | (simp [In64] at *; omega) | (simp_all; done) | skip)
  refine qa (qm ?_)
  refine hk_region fun K hK => runs_eval tab_ok ?_
  simp only [ev0, evA, evB, evP, fl, gp, tab, simprocAttr, reduceCtorEq, reduceIte, s6, add_u, w6]
  refine fin_run ?_ (hK _ ?_) <;> clear hK <;> clear K
  · (first | exact trivial | omega | (simp only [In64] at *; omega) | (simp [In64] at *; omega) | (simp_all; done) | skip)
  refine qa (qm ?_)
  refine hk_region fun K hK => runs_eval tab_ok ?_
  simp only [ev0, evA, evB, evP, fl, gp, tab, simprocAttr, reduceCtorEq, reduceIte, cnv_i hfin, bv_and7 hfin, hres]
  refine fin_run ?_ (hK _ ?_) <;> clear hK <;> clear K
  · (first | exact trivial | omega | (simp only [In64] at *; omega) | (simp [In64] at *; omega) | (simp_all; done) | skip)
  refine qa (qk ?_)
  simp only [Tryd.results110, enA, ev0, evA, evB, evP, fl, gp, tab, simprocAttr, reduceCtorEq, reduceIte]
  all_goals ((first | exact rfl | exact ⟨rfl, rfl⟩ | exact ⟨rfl, rfl, rfl⟩ | exact ⟨trivial, rfl⟩ | exact ⟨Nat.le_refl _, rfl⟩ | trivial | (simp; done)))

/-! ### Lists, compared -/

def cmpi (x y : Int) : Int := if x < y then -1 else if y < x then 1 else 0
def cmpL : List Int → List Int → Int
  | [], [] => 0
  | [], _ :: _ => -1
  | _ :: _, [] => 1
  | x :: v, y :: w => if cmpi x y = 0 then cmpL v w else cmpi x y
theorem isNaN_c (x : Int) : FnC Tryd.prog 147 [.int .i64 x] (.bool false) := by
  refine fnc_of tab_ok Tryd.func147 rfl (by kernel_rfl) (by rw [Tryd.ntmps147]; exact Nat.le_add_left 1 _) ?_; rw [Tryd.ntmps147]
  refine qm ?_
  refine hk_region fun K hK => runs_eval tab_ok ?_
  simp only [ev0, evA, evB, evP, fl, gp, tab, simprocAttr, reduceCtorEq, reduceIte]
  refine fin_run trivial (hK _ ?_) <;> clear hK <;> clear K
  refine qa (qm ?_)
  refine hk_region fun K hK => runs_eval tab_ok ?_
  simp only [ev0, evA, evB, evP, fl, gp, tab, simprocAttr, reduceCtorEq, reduceIte]
  refine fin_run trivial (hK _ ?_) <;> clear hK <;> clear K
  refine qa (qk ?_)
  simp only [Tryd.results147, enA, ev0, evA, evB, evP, fl, gp, tab, simprocAttr, reduceCtorEq, reduceIte]
  all_goals ((first | exact rfl | exact ⟨rfl, rfl⟩ | exact ⟨rfl, rfl, rfl⟩ | exact ⟨trivial, rfl⟩ | exact ⟨Nat.le_refl _, rfl⟩ | trivial | (simp; done)))
theorem compare_c (x y : Int) : FnC Tryd.prog 125 [.int .i64 x, .int .i64 y] (.int .i64 (cmpi x y)) := by
  refine fnc_of tab_ok Tryd.func125 rfl (by kernel_rfl) (by rw [Tryd.ntmps125]; exact Nat.le_add_left 2 _) ?_; rw [Tryd.ntmps125]
  refine qm ?_
  refine hk_region fun K hK => runs_eval tab_ok ?_
  simp only [ev0, evA, evB, evP, fl, gp, tab, simprocAttr, reduceCtorEq, reduceIte]
  refine fin_run trivial (hK _ ?_) <;> clear hK <;> clear K
  refine qa (qm ?_)
  refine hk_region fun K hK => runs_eval tab_ok ?_
  simp only [ev0, evA, evB, evP, fl, gp, tab, simprocAttr, reduceCtorEq, reduceIte]
  refine fin_stop trivial (runs_call (isNaN_c x) rfl rfl rfl (by simp only [dstOk, Nat.reduceLT]) (by repeat (first | exact trivial | constructor)) (runs_eval tab_ok ?_))
  simp only [ev0, evA, evB, evP, fl, gp, tab, simprocAttr, reduceCtorEq, reduceIte]
  refine fin_run trivial (hK _ ?_) <;> clear hK <;> clear K
  refine qa (qm ?_)
  refine hk_region fun K hK => runs_eval tab_ok ?_
  simp only [ev0, evA, evB, evP, fl, gp, tab, simprocAttr, reduceCtorEq, reduceIte]
  refine fin_stop trivial (runs_call (isNaN_c y) rfl rfl rfl (by simp only [dstOk, Nat.reduceLT]) (by repeat (first | exact trivial | constructor)) (runs_eval tab_ok ?_))
  simp only [ev0, evA, evB, evP, fl, gp, tab, simprocAttr, reduceCtorEq, reduceIte]
  refine fin_run trivial (hK _ ?_) <;> clear hK <;> clear K
  refine qa (qm (qm ?_))
  refine hk_region fun K hK => runs_eval tab_ok ?_
  simp only [ev0, evA, evB, evP, fl, gp, tab, simprocAttr, reduceCtorEq, reduceIte]
  refine fin_run trivial (hK _ ?_) <;> clear hK <;> clear K
  refine qa ?_
  refine hk_cond rfl (fun hC1 => ?_) (fun hC1 => ?_)
  · cases hC1
  · (try simp only [nhs] at hC1)
    refine qh (qa (qm (qm ?_)))
    refine hk_region fun K hK => runs_eval tab_ok ?_
    simp only [ev0, evA, evB, evP, fl, gp, tab, simprocAttr, reduceCtorEq, reduceIte]
    refine fin_run trivial (hK _ ?_) <;> clear hK <;> clear K
    refine qa ?_
    refine hk_cond rfl (fun hC3 => ?_) (fun hC3 => ?_)
    · cases hC3
    · (try simp only [nhs] at hC3)
      refine qh (qa (qm (qm ?_)))
      refine hk_region fun K hK => runs_eval tab_ok ?_
      simp only [ev0, evA, evB, evP, fl, gp, tab, simprocAttr, reduceCtorEq, reduceIte]
      refine fin_run trivial (hK _ ?_) <;> clear hK <;> clear K
      refine qa ?_
      refine hk_cond rfl (fun hC4 => ?_) (fun hC4 => ?_)
      · (try simp only [nhs] at hC4)
        refine qm ?_
        refine hk_region fun K hK => runs_eval tab_ok ?_
        simp only [ev0, evA, evB, evP, fl, gp, tab, simprocAttr, reduceCtorEq, reduceIte]
        refine fin_run trivial (hK _ ?_) <;> clear hK <;> clear K
        refine qa (qk (qb ?_))
        simp only [Tryd.results125, enA, ev0, evA, evB, evP, fl, gp, tab, simprocAttr, reduceCtorEq, reduceIte]
        all_goals (unfold cmpi; rw [if_pos hC4])
      · (try simp only [nhs] at hC4)
        refine qh (qa (qm (qm ?_)))
        refine hk_region fun K hK => runs_eval tab_ok ?_
        simp only [ev0, evA, evB, evP, fl, gp, tab, simprocAttr, reduceCtorEq, reduceIte]
        refine fin_run trivial (hK _ ?_) <;> clear hK <;> clear K
        refine qa ?_
        refine hk_cond rfl (fun hC5 => ?_) (fun hC5 => ?_)
        · (try simp only [nhs] at hC5)
          refine qm ?_
          refine hk_region fun K hK => runs_eval tab_ok ?_
          simp only [ev0, evA, evB, evP, fl, gp, tab, simprocAttr, reduceCtorEq, reduceIte]
          refine fin_run trivial (hK _ ?_) <;> clear hK <;> clear K
          refine qa (qk (qb ?_))
          simp only [Tryd.results125, enA, ev0, evA, evB, evP, fl, gp, tab, simprocAttr, reduceCtorEq, reduceIte]
          all_goals (unfold cmpi; rw [if_neg hC4, if_pos hC5])
        · (try simp only [nhs] at hC5)
          refine qh (qa (qm ?_))
          refine hk_region fun K hK => runs_eval tab_ok ?_
          simp only [ev0, evA, evB, evP, fl, gp, tab, simprocAttr, reduceCtorEq, reduceIte]
          refine fin_run trivial (hK _ ?_) <;> clear hK <;> clear K
          refine qa (qk ?_)
          simp only [Tryd.results125, enA, ev0, evA, evB, evP, fl, gp, tab, simprocAttr, reduceCtorEq, reduceIte]
          all_goals (unfold cmpi; rw [if_neg hC4, if_neg hC5])
theorem cmpL_drop {v w : List Int} : ∀ {i : Nat}, (∀ j, j < i → j < v.length → j < w.length ∧ cmpi (v.getD j 0) (w.getD j 0) = 0) → i ≤ v.length → cmpL v w = cmpL (v.drop i) (w.drop i)
  | 0, _, _ => rfl
  | i + 1, h, hi => by
    cases v with
    | nil => simp at hi
    | cons x v =>
      cases w with
      | nil => have := (h 0 (by omega) (by simp)).1; simp at this
      | cons y w =>
        have h0 := (h 0 (by omega) (by simp)).2
        simp at h0
        have ih := cmpL_drop (v := v) (w := w) (i := i) (fun j hj hjv => by
          have := h (j + 1) (by omega) (by simpa using hjv)
          simpa using this) (by simpa using hi)
        simp only [List.drop_succ_cons]
        rw [← ih]
        show (if cmpi x y = 0 then cmpL v w else cmpi x y) = _
        rw [if_pos h0]
theorem drop_getD {v : List Int} {i : Nat} (h : i < v.length) : v.drop i = v.getD i 0 :: v.drop (i + 1) := by
  rw [List.drop_eq_getElem_cons h]
  congr 1
  simp [List.getD, List.getElem?_eq_getElem h]
theorem compareL_c (v w : List Int) (hv : v.length ≤ 1000000000) (hw : w.length ≤ 1000000000) : FnC Tryd.prog 92 [.list (il v), .list (il w)] (.int .i64 (cmpL v w)) := by
  refine fnc_of tab_ok Tryd.func92 rfl (by kernel_rfl) (by rw [Tryd.ntmps92]; exact Nat.le_add_left 2 _) ?_; rw [Tryd.ntmps92]
  refine qm ?_
  refine hk_region fun K hK => runs_eval tab_ok ?_
  simp only [ev0, evA, evB, evP, fl, gp, tab, simprocAttr, reduceCtorEq, reduceIte]
  refine fin_run trivial (hK _ ?_) <;> clear hK <;> clear K
  refine qa (qm (qm ?_))
  refine hk_region fun K hK => runs_eval tab_ok ?_
  simp only [ev0, evA, evB, evP, fl, gp, tab, simprocAttr, reduceCtorEq, reduceIte, il_length]
  refine fin_run trivial (hK _ ?_) <;> clear hK <;> clear K
  refine qa (ql ?_)
  refine hk_loop (ι := Nat) (fun i => ⟨36, [(0, .p (.list (il v))), (1, .p (.list (il w))), (9, .p (.list (il v))), (10, .p (.int .i64 v.length)), (11, .p (.int .i64 i))], []⟩) (fun i => i ≤ v.length ∧ ∀ j, j < i → j < v.length → j < w.length ∧ cmpi (v.getD j 0) (w.getD j 0) = 0) (fun i => v.length - i) 0 ⟨Nat.zero_le _, fun j hj => by omega⟩ [] (by simp only [leq, leA, ev0, evA, evB, evP, fl, gp, tab, simprocAttr, reduceCtorEq, reduceIte] <;> trivial) fun i hi => ?_
  obtain ⟨hi1, hi2⟩ := hi
  have hd := cmpL_drop hi2 hi1
  refine qm ?_
  refine hk_region fun K hK => runs_eval tab_ok ?_
  simp only [ev0, evA, evB, evP, fl, gp, tab, simprocAttr, reduceCtorEq, reduceIte]
  refine fin_run trivial (hK _ ?_) <;> clear hK <;> clear K
  refine qa (qm ?_)
  refine hk_cond rfl (fun hC1 => ?_) (fun hC1 => ?_)
  · (try simp only [nhs] at hC1)
    have hlt : i < v.length := by omega
    have hdv := drop_getD hlt
    refine qh (qa (qm (ql (qm ?_))))
    refine hk_region fun K hK => runs_eval tab_ok ?_
    simp only [ev0, evA, evB, evP, fl, gp, tab, simprocAttr, reduceCtorEq, reduceIte, il_get hlt]
    refine fin_run ?_ (hK _ ?_) <;> clear hK <;> clear K
    · (first | exact trivial | omega | (simp only [In64] at *; omega) | (simp [In64] at *; omega) | (simp_all; done) | skip)
    refine qa (qm (qm ?_))
    refine hk_region fun K hK => runs_eval tab_ok ?_
    simp only [ev0, evA, evB, evP, fl, gp, tab, simprocAttr, reduceCtorEq, reduceIte, il_length]
    refine fin_run trivial (hK _ ?_) <;> clear hK <;> clear K
    refine qa ?_
    refine hk_cond rfl (fun hC2 => ?_) (fun hC2 => ?_)
    · (try simp only [nhs] at hC2)
      refine qm ?_
      refine hk_region fun K hK => runs_eval tab_ok ?_
      simp only [ev0, evA, evB, evP, fl, gp, tab, simprocAttr, reduceCtorEq, reduceIte]
      refine fin_run trivial (hK _ ?_) <;> clear hK <;> clear K
      refine qa (qk (qb (qe (qb (qb (qe (qb ?_)))))))
      simp only [Tryd.results92, enA, ev0, evA, evB, evP, fl, gp, tab, simprocAttr, reduceCtorEq, reduceIte]
      have hdw : w.drop i = [] := List.drop_eq_nil_of_le (by omega)
      rw [hd, hdv, hdw]; rfl
    · (try simp only [nhs] at hC2)
      have hlw : i < w.length := by omega
      have hdw := drop_getD hlw
      refine qh (qa (qm ?_))
      refine hk_region fun K hK => runs_eval tab_ok ?_
      simp only [ev0, evA, evB, evP, fl, gp, tab, simprocAttr, reduceCtorEq, reduceIte, il_get hlw]
      refine fin_run ?_ (hK _ ?_) <;> clear hK <;> clear K
      · (first | exact trivial | omega | (simp only [In64] at *; omega) | (simp [In64] at *; omega) | (simp_all; done) | skip)
      refine qa (qm ?_)
      refine hk_region fun K hK => runs_eval tab_ok ?_
      simp only [ev0, evA, evB, evP, fl, gp, tab, simprocAttr, reduceCtorEq, reduceIte]
      refine fin_stop trivial (runs_call (compare_c (v.getD i 0) (w.getD i 0)) rfl rfl rfl (by simp only [dstOk, Nat.reduceLT]) (by repeat (first | exact trivial | constructor)) (runs_eval tab_ok ?_))
      simp only [ev0, evA, evB, evP, fl, gp, tab, simprocAttr, reduceCtorEq, reduceIte]
      refine fin_run trivial (hK _ ?_) <;> clear hK <;> clear K
      refine qa (qm ?_)
      refine hk_region fun K hK => runs_eval tab_ok ?_
      simp only [ev0, evA, evB, evP, fl, gp, tab, simprocAttr, reduceCtorEq, reduceIte]
      refine fin_run trivial (hK _ ?_) <;> clear hK <;> clear K
      refine qa ?_
      refine hk_cond rfl (fun hC3 => ?_) (fun hC3 => ?_)
      · (try simp only [nhs] at hC3)
        refine qm ?_
        refine hk_region fun K hK => runs_eval tab_ok ?_
        simp only [ev0, evA, evB, evP, fl, gp, tab, simprocAttr, reduceCtorEq, reduceIte]
        refine fin_run trivial (hK _ ?_) <;> clear hK <;> clear K
        refine qa (qk (qe (qb (qb (qe (qb ?_))))))
        simp only [Tryd.results92, enA, ev0, evA, evB, evP, fl, gp, tab, simprocAttr, reduceCtorEq, reduceIte]
        rw [hd, hdv, hdw]
        show _ = if _ then _ else _
        rw [if_neg hC3]
      · (try simp only [nhs] at hC3)
        refine qh (qd (qa ?_))
        refine hk_region fun K hK => runs_eval tab_ok ?_
        simp only [ev0, evA, evB, evP, fl, gp, tab, simprocAttr, reduceCtorEq, reduceIte]
        refine fin_run ?_ (hK _ ?_) <;> clear hK <;> clear K
        · (first | exact trivial | omega | (simp only [In64] at *; omega) | (simp [In64] at *; omega) | (simp_all; done) | skip)
        refine qa ?_
        refine ⟨i + 1, [], ⟨by omega, fun j hj hjv => ?_⟩, by omega, ?_⟩
        · by_cases hji : j = i
          · rw [hji]; exact ⟨hlw, by simpa using hC3⟩
          · exact hi2 j (by omega) hjv
        · simp only [leq, leA, ev0, evA, evB, evP, fl, gp, tab, simprocAttr, reduceCtorEq, reduceIte] <;> omega
  · (try simp only [nhs] at hC1)
    have hin : i = v.length := by omega
    have hdv : v.drop i = [] := List.drop_eq_nil_of_le (by omega)
    refine qj (qc (qc (qf (qa (qm (qm ?_))))))
    refine hk_region fun K hK => runs_eval tab_ok ?_
    simp only [ev0, evA, evB, evP, fl, gp, tab, simprocAttr, reduceCtorEq, reduceIte, il_length]
    refine fin_run trivial (hK _ ?_) <;> clear hK <;> clear K
    refine qa ?_
    refine hk_cond rfl (fun hC4 => ?_) (fun hC4 => ?_)
    · (try simp only [nhs] at hC4)
      refine qm ?_
      refine hk_region fun K hK => runs_eval tab_ok ?_
      simp only [ev0, evA, evB, evP, fl, gp, tab, simprocAttr, reduceCtorEq, reduceIte]
      refine fin_run trivial (hK _ ?_) <;> clear hK <;> clear K
      refine qa (qk (qb ?_))
      simp only [Tryd.results92, enA, ev0, evA, evB, evP, fl, gp, tab, simprocAttr, reduceCtorEq, reduceIte]
      all_goals (rw [hd, hdv, drop_getD (v := w) (i := i) (by omega)]; rfl)
    · (try simp only [nhs] at hC4)
      refine qh (qa (qm ?_))
      refine hk_region fun K hK => runs_eval tab_ok ?_
      simp only [ev0, evA, evB, evP, fl, gp, tab, simprocAttr, reduceCtorEq, reduceIte]
      refine fin_run trivial (hK _ ?_) <;> clear hK <;> clear K
      refine qa (qk ?_)
      simp only [Tryd.results92, enA, ev0, evA, evB, evP, fl, gp, tab, simprocAttr, reduceCtorEq, reduceIte]
      have hdw : w.drop i = [] := by
        refine List.drop_eq_nil_of_le ?_
        omega
      rw [hd, hdv, hdw]; rfl

/-! ### An order -/

theorem cmpi_lt {x y : Int} : cmpi x y < 0 ↔ x < y := by
  unfold cmpi
  by_cases h1 : x < y
  · simp [h1]
  · by_cases h2 : y < x <;> simp [h1, h2]
theorem cmpi_eq {x y : Int} : cmpi x y = 0 ↔ x = y := by
  unfold cmpi
  by_cases h1 : x < y
  · simp [h1]; omega
  · by_cases h2 : y < x
    · simp [h1, h2]; omega
    · simp [h1, h2]; omega
theorem cmpL_self : ∀ v : List Int, cmpL v v = 0
  | [] => rfl
  | x :: v => by show (if cmpi x x = 0 then cmpL v v else cmpi x x) = 0; rw [if_pos (cmpi_eq.2 rfl)]; exact cmpL_self v
theorem cmpL_cons_lt {x y : Int} {v w : List Int} : cmpL (x :: v) (y :: w) < 0 ↔ x < y ∨ x = y ∧ cmpL v w < 0 := by
  show (if cmpi x y = 0 then cmpL v w else cmpi x y) < 0 ↔ _
  by_cases h : cmpi x y = 0
  · rw [if_pos h]
    have := cmpi_eq.1 h
    constructor
    · exact fun h2 => .inr ⟨this, h2⟩
    · rintro (h2 | h2)
      · omega
      · exact h2.2
  · rw [if_neg h, cmpi_lt]
    have : ¬ x = y := fun e => h (cmpi_eq.2 e)
    constructor
    · exact fun h2 => .inl h2
    · rintro (h2 | h2)
      · exact h2
      · exact absurd h2.1 this
theorem cmpL_tot : ∀ v w : List Int, ¬ cmpL v w < 0 → ¬ cmpL w v < 0 → v = w
  | [], [], _, _ => rfl
  | [], _ :: _, h, _ => absurd (show (-1 : Int) < 0 by omega) h
  | _ :: _, [], _, h => absurd (show (-1 : Int) < 0 by omega) h
  | x :: v, y :: w, h1, h2 => by
    rw [cmpL_cons_lt] at h1 h2
    have hxy : x = y := by omega
    subst hxy
    rw [cmpL_tot v w (fun h => h1 (.inr ⟨rfl, h⟩)) (fun h => h2 (.inr ⟨rfl, h⟩))]
theorem cmpL_trans : ∀ u v w : List Int, cmpL u v < 0 → cmpL v w < 0 → cmpL u w < 0
  | [], [], _, h, _ => absurd h (by simp [cmpL])
  | [], _ :: _, [], _, h => absurd h (by simp [cmpL])
  | [], _ :: _, _ :: _, _, _ => by simp [cmpL]
  | _ :: _, [], _, h, _ => absurd h (by simp [cmpL])
  | _ :: _, _ :: _, [], _, h => absurd h (by simp [cmpL])
  | x :: u, y :: v, z :: w, h1, h2 => by
    rw [cmpL_cons_lt] at h1 h2 ⊢
    rcases h1 with h1 | ⟨rfl, h1⟩
    · rcases h2 with h2 | ⟨rfl, h2⟩
      · exact .inl (by omega)
      · exact .inl h1
    · rcases h2 with h2 | ⟨rfl, h2⟩
      · exact .inl h2
      · exact .inr ⟨rfl, cmpL_trans u v w h1 h2⟩
theorem cmpL_ntrans (u v w : List Int) (h1 : ¬ cmpL u v < 0) (h2 : ¬ cmpL v w < 0) : ¬ cmpL u w < 0 := fun h => by
  by_cases h3 : cmpL v u < 0
  · exact h2 (cmpL_trans _ _ _ h3 h)
  · rw [cmpL_tot _ _ h1 h3] at h; exact h2 h

/-- Sets: by how many, then by lists. -/
def cmpS (a b : List Int) : Int := if (a.length : Int) - (b.length : Int) = 0 then cmpL a b else (a.length : Int) - (b.length : Int)
theorem cmpS_lt {a b : List Int} : cmpS a b < 0 ↔ a.length < b.length ∨ a.length = b.length ∧ cmpL a b < 0 := by
  unfold cmpS
  by_cases h : (a.length : Int) - (b.length : Int) = 0
  · rw [if_pos h]; constructor
    · exact fun h2 => .inr ⟨by omega, h2⟩
    · rintro (h2 | h2)
      · omega
      · exact h2.2
  · rw [if_neg h]; omega
theorem cmpS_tot (v w : List Int) (h1 : ¬ cmpS v w < 0) (h2 : ¬ cmpS w v < 0) : v = w := by
  rw [cmpS_lt] at h1 h2
  exact cmpL_tot v w (fun h => h1 (.inr ⟨by omega, h⟩)) (fun h => h2 (.inr ⟨by omega, h⟩))
theorem cmpS_trans (u v w : List Int) (h1 : cmpS u v < 0) (h2 : cmpS v w < 0) : cmpS u w < 0 := by
  rw [cmpS_lt] at h1 h2 ⊢
  rcases h1 with h1 | ⟨e1, h1⟩
  · exact .inl (by omega)
  · rcases h2 with h2 | ⟨e2, h2⟩
    · exact .inl (by omega)
    · exact .inr ⟨by omega, cmpL_trans u v w h1 h2⟩
theorem cmpS_self (v : List Int) : ¬ cmpS v v < 0 := by
  rw [cmpS_lt, cmpL_self]; omega
theorem cmpS_ntrans (u v w : List Int) (h1 : ¬ cmpS u v < 0) (h2 : ¬ cmpS v w < 0) : ¬ cmpS u w < 0 := fun h => by
  by_cases h3 : cmpS v u < 0
  · exact h2 (cmpS_trans _ _ _ h3 h)
  · rw [cmpS_tot _ _ h1 h3] at h; exact h2 h
theorem cnt_stl (x : Nat) : cnt 64 x = (stl x).length := by unfold stl; rw [thl_len]; rfl
theorem allOf1_c (x y : Nat) (hx : x < 2 ^ 64) (hy : y < 2 ^ 64) : FnC Tryd.prog 109 [.int .u64 x, .int .u64 y] (.int .i64 (cmpS (stl x) (stl y))) := by
  have l1 := stl_len x
  have l2 := stl_len y
  refine fnc_of tab_ok Tryd.func109 rfl (by kernel_rfl) (by rw [Tryd.ntmps109]; exact Nat.le_add_left 2 _) ?_; rw [Tryd.ntmps109]
  refine qm ?_
  refine hk_region fun K hK => runs_eval tab_ok ?_
  simp only [ev0, evA, evB, evP, fl, gp, tab, simprocAttr, reduceCtorEq, reduceIte]
  refine fin_run trivial (hK _ ?_) <;> clear hK <;> clear K
  refine qa (qm (qm ?_))
  refine hk_region fun K hK => runs_eval tab_ok ?_
  simp only [ev0, evA, evB, evP, fl, gp, tab, simprocAttr, reduceCtorEq, reduceIte, cnt_stl]
  refine fin_stop trivial (runs_call (ones_c x hx) rfl rfl rfl (by simp only [dstOk, Nat.reduceLT]) (by repeat (first | exact trivial | constructor)) (runs_eval tab_ok ?_))
  simp only [ev0, evA, evB, evP, fl, gp, tab, simprocAttr, reduceCtorEq, reduceIte, cnt_stl]
  refine fin_stop trivial (runs_call (ones_c y hy) rfl rfl rfl (by simp only [dstOk, Nat.reduceLT]) (by repeat (first | exact trivial | constructor)) (runs_eval tab_ok ?_))
  simp only [ev0, evA, evB, evP, fl, gp, tab, simprocAttr, reduceCtorEq, reduceIte, cnt_stl]
  refine fin_run ?_ (hK _ ?_) <;> clear hK <;> clear K
  · (first | exact trivial | omega | (simp only [In64] at *; omega) | (simp [In64] at *; omega) | (simp_all; done) | skip)
  refine qa (qm ?_)
  refine hk_region fun K hK => runs_eval tab_ok ?_
  simp only [ev0, evA, evB, evP, fl, gp, tab, simprocAttr, reduceCtorEq, reduceIte]
  refine fin_run trivial (hK _ ?_) <;> clear hK <;> clear K
  refine qa ?_
  refine hk_cond rfl (fun hC1 => ?_) (fun hC1 => ?_)
  · (try simp only [nhs] at hC1)
    refine qm ?_
    refine hk_region fun K hK => runs_eval tab_ok ?_
    simp only [ev0, evA, evB, evP, fl, gp, tab, simprocAttr, reduceCtorEq, reduceIte]
    refine fin_run trivial (hK _ ?_) <;> clear hK <;> clear K
    refine qa (qk (qb ?_))
    simp only [Tryd.results109, enA, ev0, evA, evB, evP, fl, gp, tab, simprocAttr, reduceCtorEq, reduceIte]
    all_goals (unfold cmpS; rw [if_neg hC1])
  · (try simp only [nhs] at hC1)
    refine qh (qa (qm ?_))
    refine hk_region fun K hK => runs_eval tab_ok ?_
    simp only [ev0, evA, evB, evP, fl, gp, tab, simprocAttr, reduceCtorEq, reduceIte]
    refine fin_stop trivial (runs_call (list_s x hx) rfl rfl rfl (by simp only [dstOk, Nat.reduceLT]) (by repeat (first | exact trivial | constructor)) (runs_eval tab_ok ?_))
    simp only [ev0, evA, evB, evP, fl, gp, tab, simprocAttr, reduceCtorEq, reduceIte]
    refine fin_stop trivial (runs_call (list_s y hy) rfl rfl rfl (by simp only [dstOk, Nat.reduceLT]) (by repeat (first | exact trivial | constructor)) (runs_eval tab_ok ?_))
    simp only [ev0, evA, evB, evP, fl, gp, tab, simprocAttr, reduceCtorEq, reduceIte]
    refine fin_stop trivial (runs_call (compareL_c (stl x) (stl y) (by omega) (by omega)) rfl rfl rfl (by simp only [dstOk, Nat.reduceLT]) (by repeat (first | exact trivial | constructor)) (runs_eval tab_ok ?_))
    simp only [ev0, evA, evB, evP, fl, gp, tab, simprocAttr, reduceCtorEq, reduceIte]
    refine fin_run trivial (hK _ ?_) <;> clear hK <;> clear K
    refine qa (qk ?_)
    simp only [Tryd.results109, enA, ev0, evA, evB, evP, fl, gp, tab, simprocAttr, reduceCtorEq, reduceIte]
    all_goals (unfold cmpS; rw [if_pos (by omega)])
end Go.Proofs.YtjikchbmkodgfaaDoor

/-
  Walks: groups that are made of a product. Conditions: none.
-/
set_option linter.all false
namespace Go.Proofs.YtjikchbmkodgfaaDoor
open Go.Pv

/-- A table, by a rule. -/
def tbr (g : Nat → Nat → Int) (n : Nat) : Nat → List Int := rg fun i => g (i / n) (i % n)
def tbl (g : Nat → Nat → Int) (n : Nat) : List Int := tbr g n (n * n)

theorem tbr_succ (g : Nat → Nat → Int) {n a b : Nat} (hb : b < n) : tbr g n (a * n + (b + 1)) = tbr g n (a * n + b) ++ [g a b] := by
  unfold tbr
  rw [← Nat.add_assoc, rg_succ]
  have h1 : (a * n + b) / n = a := by
    rw [Nat.mul_comm, Nat.mul_add_div (by omega), Nat.div_eq_of_lt hb]; omega
  have h2 : (a * n + b) % n = b := by
    rw [Nat.mul_comm, Nat.mul_add_mod, Nat.mod_eq_of_lt hb]
  simp only [h1, h2]
theorem tbr_len (g : Nat → Nat → Int) (n k : Nat) : (tbr g n k).length = k := rg_len _ k
theorem tbl_len (g : Nat → Nat → Int) (n : Nat) : (tbl g n).length = n * n := rg_len _ _
theorem tbl_get (g : Nat → Nat → Int) {n a b : Nat} (ha : a < n) (hb : b < n) : (tbl g n).getD (a * n + b) 0 = g a b := by
  unfold tbl tbr
  rw [rg_get _ (at_lt ha hb)]
  have h1 : (a * n + b) / n = a := by
    rw [Nat.mul_comm, Nat.mul_add_div (by omega), Nat.div_eq_of_lt hb]; omega
  have h2 : (a * n + b) % n = b := by
    rw [Nat.mul_comm, Nat.mul_add_mod, Nat.mod_eq_of_lt hb]
  rw [h1, h2]

def cyc (n a b : Nat) : Nat := (a + b) % n
def dih (n a b : Nat) : Nat := (a % n + (if a / n = 1 then n - b % n else b % n)) % n + (a / n + b / n) % 2 * n
def dic (n a b : Nat) : Nat := (a % (2 * n) + (if a / (2 * n) + b / (2 * n) = 2 then n else 0) + (if a / (2 * n) = 1 then 2 * n - b % (2 * n) else b % (2 * n))) % (2 * n) + (a / (2 * n) + b / (2 * n)) % 2 * (2 * n)

theorem tm_lit (a : Nat) : Int.tmod (a : Int) 2 = ((a % 2 : Nat) : Int) := rfl

end Go.Proofs.YtjikchbmkodgfaaDoor

/-
  Sets of things: centres; the square's group; an example of the document. Conditions: none.
-/
set_option linter.all false
namespace Go.Proofs.YtjikchbmkodgfaaDoor
open Go.Pv

/-! ### What two lists have -/

def bth (a b : List Int) : List Int := a.filter fun x => decide (x ∈ b)
theorem bth_thl (n : Nat) (p q : Nat → Bool) : bth (thl n p) (thl n q) = thl n (fun a => p a && q a) := by
  unfold bth thl thn'
  rw [List.filter_map, List.filter_filter]
  congr 1
  refine List.filter_congr fun a ha => ?_
  have h1 := List.mem_range.1 ha
  simp only [Function.comp]
  rw [Bool.and_comm (p a)]
  congr 1
  rw [Bool.eq_iff_iff, decide_eq_true_eq]
  exact mem_thl_n (p := q) h1

theorem both_c (a b : List Int) (ha : a.length ≤ 1000000) (hb : b.length ≤ 1000000) : FnC Tryd.prog 30 [.list (il a), .list (il b)] (.list (il (bth a b))) := by
  refine fnc_of tab_ok Tryd.func30 rfl (by kernel_rfl) (by rw [Tryd.ntmps30]; exact Nat.le_add_left 2 _) ?_; rw [Tryd.ntmps30]
  refine qm ?_
  refine hk_region fun K hK => runs_eval tab_ok ?_
  simp only [ev0, evA, evB, evP, fl, gp, tab, simprocAttr, reduceCtorEq, reduceIte]
  refine fin_run trivial (hK _ ?_) <;> clear hK <;> clear K
  refine qa (qm ?_)
  refine hk_region fun K hK => runs_eval tab_ok ?_
  simp only [ev0, evA, evB, evP, fl, gp, tab, simprocAttr, reduceCtorEq, reduceIte]
  refine fin_run trivial (hK _ ?_) <;> clear hK <;> clear K
  refine qa (qm (qm ?_))
  refine hk_own0 5 rfl ?_
  refine hk_region fun K hK => runs_eval tab_ok ?_
  simp only [ev0, evA, evB, evP, fl, gp, tab, simprocAttr, reduceCtorEq, reduceIte]
  refine fin_run trivial (hK _ ?_) <;> clear hK <;> clear K
  refine qa (ql ?_)
  refine hk_loop (ι := Nat) (fun i => ⟨27, [(0, .p (.list (il a))), (1, .p (.list (il b))), (5, .sl 0 0 (bth (a.take i) b).length), (6, .p (.int .i64 i))], [.own (ol (bth (a.take i) b))]⟩) (fun i => i ≤ a.length) (fun i => a.length - i) 0 (Nat.zero_le _) [0] (by simp only [leq, leA, ev0, evA, evB, evP, fl, gp, tab, simprocAttr, reduceCtorEq, reduceIte] <;> simp [bth, ol_nil]) fun i hi => ?_
  have hl : (bth (a.take i) b).length ≤ i := by
    have h1 := List.length_filter_le (fun x => decide (x ∈ b)) (a.take i)
    rw [List.length_take] at h1
    unfold bth; omega
  refine qm (qm ?_)
  refine hk_region fun K hK => runs_eval tab_ok ?_
  simp only [ev0, evA, evB, evP, fl, gp, tab, simprocAttr, reduceCtorEq, reduceIte]
  refine fin_run trivial (hK _ ?_) <;> clear hK <;> clear K
  refine qa ?_
  refine hk_cond rfl (fun hC1 => ?_) (fun hC1 => ?_)
  · (try simp only [nhs] at hC1)
    have hlt : i < a.length := by omega
    have hs : bth (a.take (i + 1)) b = bth (a.take i) b ++ if a.getD i 0 ∈ b then [a.getD i 0] else [] := by
      unfold bth
      have e1 : a[i] = a.getD i 0 := by simp [List.getD, List.getElem?_eq_getElem hlt]
      rw [List.take_succ_eq_append_getElem hlt, List.filter_append, e1]
      congr 1
      by_cases h : a.getD i 0 ∈ b
      · rw [if_pos h, List.filter_cons, if_pos (decide_eq_true h)]; rfl
      · rw [if_neg h, List.filter_cons, if_neg (by simpa using h)]; rfl
    refine qh (qa (qm (ql (qm ?_))))
    refine hk_region fun K hK => runs_eval tab_ok ?_
    simp only [ev0, evA, evB, evP, fl, gp, tab, simprocAttr, reduceCtorEq, reduceIte, il_get hlt]
    refine fin_stop ?_ (runs_call (has_r b (a.getD i 0) (by omega)) rfl rfl rfl (by simp only [dstOk, Nat.reduceLT]) (by repeat (first | exact trivial | constructor)) (runs_eval tab_ok ?_))
    · (first | exact trivial | omega | (simp only [In64] at *; omega) | (simp [In64] at *; omega) | (simp_all; done) | skip)
    simp only [ev0, evA, evB, evP, fl, gp, tab, simprocAttr, reduceCtorEq, reduceIte, il_get hlt]
    refine fin_run ?_ (hK _ ?_) <;> clear hK <;> clear K
    · (first | exact trivial | omega | (simp only [In64] at *; omega) | (simp [In64] at *; omega) | (simp_all; done) | skip)
    refine qa ?_
    refine hk_cond rfl (fun hC2 => ?_) (fun hC2 => ?_)
    · (try simp only [nhs] at hC2)
      rw [if_pos hC2] at hs
      refine hk_region fun K hK => runs_eval tab_ok ?_
      simp only [ev0, evA, evB, evP, fl, gp, tab, simprocAttr, reduceCtorEq, reduceIte, il_get hlt]
      refine fin_run ?_ (hK _ ?_) <;> clear hK <;> clear K
      · (first | exact trivial | omega | (simp only [In64] at *; omega) | (simp [In64] at *; omega) | (simp_all; done) | skip)
      refine qd (qa ?_)
      refine hk_region fun K hK => runs_eval tab_ok ?_
      simp only [ev0, evA, evB, evP, fl, gp, tab, simprocAttr, reduceCtorEq, reduceIte]
      refine fin_run ?_ (hK _ ?_) <;> clear hK <;> clear K
      · (first | exact trivial | omega | (simp only [In64] at *; omega) | (simp [In64] at *; omega) | (simp_all; done) | skip)
      refine qa ?_
      refine ⟨i + 1, [1], by omega, by omega, ?_⟩
      rw [hs]
      simp only [leq, leA, ev0, evA, evB, evP, fl, gp, tab, simprocAttr, reduceCtorEq, reduceIte] <;> first | trivial | omega
    · (try simp only [nhs] at hC2)
      rw [if_neg hC2] at hs
      refine qh (qd (qa ?_))
      refine hk_region fun K hK => runs_eval tab_ok ?_
      simp only [ev0, evA, evB, evP, fl, gp, tab, simprocAttr, reduceCtorEq, reduceIte]
      refine fin_run ?_ (hK _ ?_) <;> clear hK <;> clear K
      · (first | exact trivial | omega | (simp only [In64] at *; omega) | (simp [In64] at *; omega) | (simp_all; done) | skip)
      refine qa ?_
      refine ⟨i + 1, [0], by omega, by omega, ?_⟩
      rw [hs, List.append_nil]
      simp only [leq, leA, ev0, evA, evB, evP, fl, gp, tab, simprocAttr, reduceCtorEq, reduceIte] <;> first | trivial | omega
  · (try simp only [nhs] at hC1)
    have hin : i = a.length := by omega
    rw [hin, List.take_length]
    rw [hin, List.take_length] at hl
    refine hk_seal 5 0 rfl rfl ?_
    refine qj (qc (qc (qf (qa (qm ?_)))))
    refine hk_region fun K hK => runs_eval tab_ok ?_
    simp only [ev0, evA, evB, evP, fl, gp, tab, simprocAttr, reduceCtorEq, reduceIte]
    refine fin_run trivial (hK _ ?_) <;> clear hK <;> clear K
    refine qa (qk ?_)
    simp only [Tryd.results30, enA, ev0, evA, evB, evP, fl, gp, tab, simprocAttr, reduceCtorEq, reduceIte]
    all_goals (rfl)

/-! ### Functions of the library -/

def ixf (p : Int → Bool) (l : List Int) : Int := match fst' (fun i => p (l.getD i 0)) l.length with | some i => (i : Int) | none => -1
theorem ixf_any (p : Int → Bool) (l : List Int) : decide (ixf p l ≥ 0) = l.any p := by
  unfold ixf
  rw [Bool.eq_iff_iff, List.any_eq_true, decide_eq_true_eq]
  cases h : fst' (fun i => p (l.getD i 0)) l.length with
  | none =>
    simp only [ge_iff_le]
    constructor
    · intro h'; omega
    · rintro ⟨x, hx, hp⟩
      obtain ⟨i, hi, e⟩ := List.getElem_of_mem hx
      have := fst_spec0 h i hi
      rw [show l.getD i 0 = x by simp [List.getD, List.getElem?_eq_getElem hi, e], hp] at this
      cases this
  | some i =>
    obtain ⟨h1, h2, _⟩ := fst_spec h
    refine ⟨fun _ => ⟨l.getD i 0, by simp [List.getD, List.getElem?_eq_getElem h1], h2⟩, fun _ => ?_⟩
    show (i : Int) ≥ 0
    omega

theorem indexFunc_c (l : List Int) (F : FuncId) (caps : List PV) (p : Int → Bool) (hl : l.length ≤ 1000000) (hF : ∀ x ∈ l, FnC Tryd.prog F (.int .i64 x :: caps) (.bool (p x))) : FnC Tryd.prog 156 [.list (il l), .fn F caps] (.int .i64 (ixf p l)) := by
  refine fnc_of tab_ok Tryd.func156 rfl (by kernel_rfl) (by rw [Tryd.ntmps156]; exact Nat.le_add_left 2 _) ?_; rw [Tryd.ntmps156]
  refine qm ?_
  refine hk_region fun K hK => runs_eval tab_ok ?_
  simp only [ev0, evA, evB, evP, fl, gp, tab, simprocAttr, reduceCtorEq, reduceIte]
  refine fin_run trivial (hK _ ?_) <;> clear hK <;> clear K
  refine qa (qm (qm ?_))
  refine hk_region fun K hK => runs_eval tab_ok ?_
  simp only [ev0, evA, evB, evP, fl, gp, tab, simprocAttr, reduceCtorEq, reduceIte]
  refine fin_run trivial (hK _ ?_) <;> clear hK <;> clear K
  refine qa (ql ?_)
  refine hk_loop (ι := Nat) (fun i => ⟨19, [(0, .p (.list (il l))), (1, .p (.fn F caps)), (7, .p (.int .i64 l.length)), (8, .p (.int .i64 i))], []⟩) (fun i => i ≤ l.length ∧ ∀ j, j < i → p (l.getD j 0) = false) (fun i => l.length - i) 0 ⟨Nat.zero_le _, fun j hj => by omega⟩ [] (by simp only [leq, leA, ev0, evA, evB, evP, fl, gp, tab, simprocAttr, reduceCtorEq, reduceIte] <;> trivial) fun i hi => ?_
  obtain ⟨hi1, hi2⟩ := hi
  refine qm ?_
  refine hk_region fun K hK => runs_eval tab_ok ?_
  simp only [ev0, evA, evB, evP, fl, gp, tab, simprocAttr, reduceCtorEq, reduceIte]
  refine fin_run trivial (hK _ ?_) <;> clear hK <;> clear K
  refine qa (qm ?_)
  refine hk_cond rfl (fun hC1 => ?_) (fun hC1 => ?_)
  · (try simp only [nhs] at hC1)
    have hlt : i < l.length := by omega
    have hmem : l.getD i 0 ∈ l := by simp [List.getD, List.getElem?_eq_getElem hlt]
    refine qh (qa (qm (ql (qm ?_))))
    refine hk_region fun K hK => runs_eval tab_ok ?_
    simp only [ev0, evA, evB, evP, fl, gp, tab, simprocAttr, reduceCtorEq, reduceIte]
    refine fin_run trivial (hK _ ?_) <;> clear hK <;> clear K
    refine qa (qm ?_)
    refine hk_region fun K hK => runs_eval tab_ok ?_
    simp only [ev0, evA, evB, evP, fl, gp, tab, simprocAttr, reduceCtorEq, reduceIte, il_get hlt]
    refine fin_stop ?_ (runs_call (hF _ hmem) rfl rfl rfl (by simp only [dstOk, Nat.reduceLT]) (by repeat (first | exact trivial | constructor)) (runs_eval tab_ok ?_))
    · (first | exact trivial | omega | (simp only [In64] at *; omega) | (simp [In64] at *; omega) | (simp_all; done) | skip)
    simp only [ev0, evA, evB, evP, fl, gp, tab, simprocAttr, reduceCtorEq, reduceIte, il_get hlt]
    refine fin_run ?_ (hK _ ?_) <;> clear hK <;> clear K
    · (first | exact trivial | omega | (simp only [In64] at *; omega) | (simp [In64] at *; omega) | (simp_all; done) | skip)
    refine qa ?_
    refine hk_cond rfl (fun hC2 => ?_) (fun hC2 => ?_)
    · (try simp only [nhs] at hC2)
      refine qm ?_
      refine hk_region fun K hK => runs_eval tab_ok ?_
      simp only [ev0, evA, evB, evP, fl, gp, tab, simprocAttr, reduceCtorEq, reduceIte]
      refine fin_run trivial (hK _ ?_) <;> clear hK <;> clear K
      refine qa (qk (qe (qb (qb (qe (qb ?_))))))
      simp only [Tryd.results156, enA, ev0, evA, evB, evP, fl, gp, tab, simprocAttr, reduceCtorEq, reduceIte]
      all_goals (unfold ixf; rw [fst_some hlt hC2 hi2])
    · (try simp only [nhs] at hC2)
      refine qh (qd (qa ?_))
      refine hk_region fun K hK => runs_eval tab_ok ?_
      simp only [ev0, evA, evB, evP, fl, gp, tab, simprocAttr, reduceCtorEq, reduceIte]
      refine fin_run ?_ (hK _ ?_) <;> clear hK <;> clear K
      · (first | exact trivial | omega | (simp only [In64] at *; omega) | (simp [In64] at *; omega) | (simp_all; done) | skip)
      refine qa ?_
      refine ⟨i + 1, [], ⟨by omega, fun j hj => ?_⟩, by omega, ?_⟩
      · by_cases hj2 : j = i
        · subst hj2; exact hC2
        · exact hi2 j (by omega)
      · simp only [leq, leA, ev0, evA, evB, evP, fl, gp, tab, simprocAttr, reduceCtorEq, reduceIte] <;> omega
  · (try simp only [nhs] at hC1)
    refine qj (qc (qc (qf (qa (qm ?_)))))
    refine hk_region fun K hK => runs_eval tab_ok ?_
    simp only [ev0, evA, evB, evP, fl, gp, tab, simprocAttr, reduceCtorEq, reduceIte]
    refine fin_run trivial (hK _ ?_) <;> clear hK <;> clear K
    refine qa (qk ?_)
    simp only [Tryd.results156, enA, ev0, evA, evB, evP, fl, gp, tab, simprocAttr, reduceCtorEq, reduceIte]
    all_goals (unfold ixf; rw [fst_none fun j hj => hi2 j (by omega)])

theorem containsFunc_c (l : List Int) (F : FuncId) (caps : List PV) (p : Int → Bool) (hl : l.length ≤ 1000000) (hF : ∀ x ∈ l, FnC Tryd.prog F (.int .i64 x :: caps) (.bool (p x))) : FnC Tryd.prog 132 [.list (il l), .fn F caps] (.bool (l.any p)) := by
  refine fnc_of tab_ok Tryd.func132 rfl (by kernel_rfl) (by rw [Tryd.ntmps132]; exact Nat.le_add_left 2 _) ?_; rw [Tryd.ntmps132]
  refine qm ?_
  refine hk_region fun K hK => runs_eval tab_ok ?_
  simp only [ev0, evA, evB, evP, fl, gp, tab, simprocAttr, reduceCtorEq, reduceIte]
  refine fin_run trivial (hK _ ?_) <;> clear hK <;> clear K
  refine qa (qm ?_)
  refine hk_region fun K hK => runs_eval tab_ok ?_
  simp only [ev0, evA, evB, evP, fl, gp, tab, simprocAttr, reduceCtorEq, reduceIte]
  refine fin_stop trivial (runs_call (indexFunc_c l F caps p hl hF) rfl rfl rfl (by simp only [dstOk, Nat.reduceLT]) (by repeat (first | exact trivial | constructor)) (runs_eval tab_ok ?_))
  simp only [ev0, evA, evB, evP, fl, gp, tab, simprocAttr, reduceCtorEq, reduceIte]
  refine fin_run trivial (hK _ ?_) <;> clear hK <;> clear K
  refine qa (qk ?_)
  simp only [Tryd.results132, enA, ev0, evA, evB, evP, fl, gp, tab, simprocAttr, reduceCtorEq, reduceIte]
  all_goals (exact ixf_any p l)

/-! ### What commutes with a set -/

def cent (m : List Int) (n : Nat) (p : Nat → Bool) (a : Nat) : Bool := decide (∀ b, b < n → p b = true → op m n a b = op m n b a)

theorem central11_c {n e : Nat} {m : List Int} (h : GT n m n e) {a b : Nat} (ha : a < n) (hb : b < n) : FnC Tryd.prog 133 [.int .i64 b, .ptr [.int .i64 n, .list (il m)], .ptr [.int .i64 a]] (.bool (!decide (op m n a b = op m n b a))) := by
  refine fnc_of tab_ok Tryd.func133 rfl (by kernel_rfl) (by rw [Tryd.ntmps133]; exact Nat.le_add_left 3 _) ?_; rw [Tryd.ntmps133]
  refine qm ?_
  refine hk_region fun K hK => runs_eval tab_ok ?_
  simp only [ev0, evA, evB, evP, fl, gp, tab, simprocAttr, reduceCtorEq, reduceIte]
  refine fin_run trivial (hK _ ?_) <;> clear hK <;> clear K
  refine qa (qm ?_)
  refine hk_draw mixed (by kernel_rfl) fun K hK => runs_eval tab_ok ?_
  simp only [ev0, evA, evB, evP, fl, gp, tab, simprocAttr, reduceCtorEq, reduceIte]
  refine fin_stop trivial (runs_call (of_c h.2.1 ha hb) rfl rfl rfl (by simp only [dstOk, Nat.reduceLT]) (by repeat (first | exact trivial | constructor)) (runs_eval tab_ok ?_))
  simp only [ev0, evA, evB, evP, fl, gp, tab, simprocAttr, reduceCtorEq, reduceIte]
  refine fin_stop trivial (runs_call (of_c h.2.1 hb ha) rfl rfl rfl (by simp only [dstOk, Nat.reduceLT]) (by repeat (first | exact trivial | constructor)) (runs_eval tab_ok ?_))
  simp only [ev0, evA, evB, evP, fl, gp, tab, simprocAttr, reduceCtorEq, reduceIte]
  refine fin_run ?_ (hK _ ?_) <;> clear hK <;> clear K
  · (first | exact trivial | omega | (simp only [In64] at *; omega) | (simp [In64] at *; omega) | (simp_all; done) | skip)
  refine qa (qk ?_)
  simp only [Tryd.results133, enA, ev0, evA, evB, evP, fl, gp, tab, simprocAttr, reduceCtorEq, reduceIte]
  all_goals (congr 1; exact decide_eq_decide.2 (by omega))
theorem cent_any {n e : Nat} {m : List Int} (h : GT n m n e) (p : Nat → Bool) {a : Nat} (ha : a < n) : (!(thl n p).any fun x => !decide (op m n a x.toNat = op m n x.toNat a)) = cent m n p a := by
  unfold cent
  rw [Bool.eq_iff_iff]
  simp only [Bool.not_eq_true', decide_eq_true_eq]
  rw [List.any_eq_false]
  constructor
  · intro h1 b hb hp
    have := h1 _ ((mem_thl_n hb).2 hp)
    simpa using this
  · intro h1 x hx
    obtain ⟨b, hb, hp, rfl⟩ := mem_thl.1 hx
    simpa using h1 b hb hp

theorem central1_c {n e : Nat} {m : List Int} (h : GT n m n e) (p : Nat → Bool) {a : Nat} (ha : a < n) : FnC Tryd.prog 131 [.int .i64 a, .ptr [.list (il (thl n p))], .ptr [.int .i64 n, .list (il m)]] (.bool (cent m n p a)) := by
  have hb := h.2.1.big
  have hl := thl_le n p
  have hc := cent_any h p ha
  refine fnc_of tab_ok Tryd.func131 rfl (by kernel_rfl) (by rw [Tryd.ntmps131]; exact Nat.le_add_left 3 _) ?_; rw [Tryd.ntmps131]
  refine qm ?_
  refine hk_region fun K hK => runs_eval tab_ok ?_
  simp only [ev0, evA, evB, evP, fl, gp, tab, simprocAttr, reduceCtorEq, reduceIte]
  refine fin_run ?_ (hK _ ?_) <;> clear hK <;> clear K
  · (first | exact trivial | omega | (simp only [In64] at *; omega) | (simp [In64] at *; omega) | (simp_all; done) | skip)
  refine qa (qm ?_)
  refine hk_freeze 0 rfl rfl ?_
  simp only [hset]
  refine hk_region fun K hK => runs_eval tab_ok ?_
  simp only [ev0, evA, evB, evP, fl, gp, tab, simprocAttr, reduceCtorEq, reduceIte]
  refine fin_stop trivial (runs_call (containsFunc_c (thl n p) _ _ (fun x => !decide (op m n a x.toNat = op m n x.toNat a)) (by omega) (fun x hx => by
    obtain ⟨b, hb', _, rfl⟩ := mem_thl.1 hx
    exact central11_c h ha hb')) rfl rfl rfl (by simp only [dstOk, Nat.reduceLT]) (by repeat (first | exact trivial | constructor)) (runs_eval tab_ok ?_))
  simp only [ev0, evA, evB, evP, fl, gp, tab, simprocAttr, reduceCtorEq, reduceIte]
  refine fin_run ?_ (hK _ ?_) <;> clear hK <;> clear K
  · (first | exact trivial | omega | (simp only [In64] at *; omega) | (simp [In64] at *; omega) | (simp_all; done) | skip)
  refine qa (qk ?_)
  simp only [Tryd.results131, enA, ev0, evA, evB, evP, fl, gp, tab, simprocAttr, reduceCtorEq, reduceIte]
  all_goals (exact hc)

theorem central_no (N : Int) (m l : List Int) (hm : m.length ≤ 1000000000000000) (hl : l.length ≤ 1000000000000000) (hf : ¬ (sf N m l).1 = 0) : FnC Tryd.prog 113 [gp N m, .list (il l)] (.tup [.list [], fl (sf N m l)]) := by
  refine fnc_of tab_ok Tryd.func113 rfl (by kernel_rfl) (by rw [Tryd.ntmps113]; exact Nat.le_add_left 2 _) ?_; rw [Tryd.ntmps113]
  refine qm ?_
  refine hk_region fun K hK => runs_eval tab_ok ?_
  simp only [ev0, evA, evB, evP, fl, gp, tab, simprocAttr, reduceCtorEq, reduceIte]
  refine fin_run ?_ (hK _ ?_) <;> clear hK <;> clear K
  · (first | exact trivial | omega | (simp only [In64] at *; omega) | (simp [In64] at *; omega) | (simp_all; done) | skip)
  refine qa (qm (qm ?_))
  refine hk_region fun K hK => runs_eval tab_ok ?_
  simp only [ev0, evA, evB, evP, fl, gp, tab, simprocAttr, reduceCtorEq, reduceIte]
  refine fin_stop trivial (runs_call (look_c N m l hm hl) rfl rfl rfl (by simp only [dstOk, Nat.reduceLT]) (by repeat (first | exact trivial | constructor)) (runs_eval tab_ok ?_))
  simp only [ev0, evA, evB, evP, fl, gp, tab, simprocAttr, reduceCtorEq, reduceIte]
  refine fin_run ?_ (hK _ ?_) <;> clear hK <;> clear K
  · (first | exact trivial | omega | (simp only [In64] at *; omega) | (simp [In64] at *; omega) | (simp_all; done) | skip)
  refine qa (qm ?_)
  refine hk_region fun K hK => runs_eval tab_ok ?_
  simp only [ev0, evA, evB, evP, fl, gp, tab, simprocAttr, reduceCtorEq, reduceIte]
  refine fin_run ?_ (hK _ ?_) <;> clear hK <;> clear K
  · (first | exact trivial | omega | (simp only [In64] at *; omega) | (simp [In64] at *; omega) | (simp_all; done) | skip)
  refine qa ?_
  refine hk_cond rfl (fun hC1 => ?_) (fun hC1 => ?_)
  · (try simp only [nhs] at hC1)
    refine qm ?_
    refine hk_draw mixed (by kernel_rfl) fun K hK => runs_eval tab_ok ?_
    simp only [ev0, evA, evB, evP, fl, gp, tab, simprocAttr, reduceCtorEq, reduceIte]
    refine fin_run ?_ (hK _ ?_) <;> clear hK <;> clear K
    · (first | exact trivial | omega | (simp only [In64] at *; omega) | (simp [In64] at *; omega) | (simp_all; done) | skip)
    refine qa (qk (qb ?_))
    simp only [Tryd.results113, enA, ev0, evA, evB, evP, fl, gp, tab, simprocAttr, reduceCtorEq, reduceIte]
    all_goals ((first | exact rfl | exact ⟨rfl, rfl⟩ | exact ⟨rfl, rfl, rfl⟩ | exact ⟨trivial, rfl⟩ | exact ⟨Nat.le_refl _, rfl⟩ | trivial | (simp; done)))
  · (try simp only [nhs] at hC1)
    exact absurd hC1 hf
theorem central_ok {n e : Nat} {m : List Int} (h : GT n m n e) (p : Nat → Bool) : FnC Tryd.prog 113 [gp n m, .list (il (thl n p))] (.tup [.list (il (thl n (cent m n p))), fl (0, 0)]) := by
  have hb := h.2.1.big
  have hl := thl_le n p
  have hml := h.2.1.len
  have hsq := sq_le hb
  refine fnc_of tab_ok Tryd.func113 rfl (by kernel_rfl) (by rw [Tryd.ntmps113]; exact Nat.le_add_left 2 _) ?_; rw [Tryd.ntmps113]
  refine qm ?_
  refine hk_region fun K hK => runs_eval tab_ok ?_
  simp only [ev0, evA, evB, evP, fl, gp, tab, simprocAttr, reduceCtorEq, reduceIte]
  refine fin_run ?_ (hK _ ?_) <;> clear hK <;> clear K
  · (first | exact trivial | omega | (simp only [In64] at *; omega) | (simp [In64] at *; omega) | (simp_all; done) | skip)
  refine qa (qm (qm ?_))
  refine hk_region fun K hK => runs_eval tab_ok ?_
  simp only [ev0, evA, evB, evP, fl, gp, tab, simprocAttr, reduceCtorEq, reduceIte]
  refine fin_stop trivial (runs_call (look_c n m (thl n p) (by omega) (by omega)) rfl rfl rfl (by simp only [dstOk, Nat.reduceLT]) (by repeat (first | exact trivial | constructor)) (runs_eval tab_ok ?_))
  simp only [ev0, evA, evB, evP, fl, gp, tab, simprocAttr, reduceCtorEq, reduceIte, sf_thl h]
  refine fin_run ?_ (hK _ ?_) <;> clear hK <;> clear K
  · (first | exact trivial | omega | (simp only [In64] at *; omega) | (simp [In64] at *; omega) | (simp_all; done) | skip)
  refine qa (qm ?_)
  refine hk_region fun K hK => runs_eval tab_ok ?_
  simp only [ev0, evA, evB, evP, fl, gp, tab, simprocAttr, reduceCtorEq, reduceIte]
  refine fin_run ?_ (hK _ ?_) <;> clear hK <;> clear K
  · (first | exact trivial | omega | (simp only [In64] at *; omega) | (simp [In64] at *; omega) | (simp_all; done) | skip)
  refine qa ?_
  refine hk_cond rfl (fun hC1 => ?_) (fun hC1 => ?_)
  · cases hC1
  · (try simp only [nhs] at hC1)
    refine qh (qa (qm ?_))
    refine hk_freeze 0 rfl rfl ?_
    refine hk_freeze 1 rfl rfl ?_
    simp only [hset]
    refine hk_region fun K hK => runs_eval tab_ok ?_
    simp only [ev0, evA, evB, evP, fl, gp, tab, simprocAttr, reduceCtorEq, reduceIte]
    refine fin_stop trivial (runs_call (choose_c n m _ _ (cent m n p) (by omega) (fun a ha => central1_c h p ha)) rfl rfl rfl (by simp only [dstOk, Nat.reduceLT]) (by repeat (first | exact trivial | constructor)) (runs_eval tab_ok ?_))
    simp only [ev0, evA, evB, evP, fl, gp, tab, simprocAttr, reduceCtorEq, reduceIte]
    refine fin_run ?_ (hK _ ?_) <;> clear hK <;> clear K
    · (first | exact trivial | omega | (simp only [In64] at *; omega) | (simp [In64] at *; omega) | (simp_all; done) | skip)
    refine qa (qk ?_)
    simp only [Tryd.results113, enA, ev0, evA, evB, evP, fl, gp, tab, simprocAttr, reduceCtorEq, reduceIte]
    all_goals ((first | exact rfl | exact ⟨rfl, rfl⟩ | exact ⟨rfl, rfl, rfl⟩ | exact ⟨trivial, rfl⟩ | exact ⟨Nat.le_refl _, rfl⟩ | trivial | (simp; done)))

theorem centre1_c (a : Int) : FnC Tryd.prog 114 [.int .i64 a] (.bool true) := by
  refine fnc_of tab_ok Tryd.func114 rfl (by kernel_rfl) (by rw [Tryd.ntmps114]; exact Nat.le_add_left 1 _) ?_; rw [Tryd.ntmps114]
  refine qm ?_
  refine hk_region fun K hK => runs_eval tab_ok ?_
  simp only [ev0, evA, evB, evP, fl, gp, tab, simprocAttr, reduceCtorEq, reduceIte]
  refine fin_run trivial (hK _ ?_) <;> clear hK <;> clear K
  refine qa (qm ?_)
  refine hk_region fun K hK => runs_eval tab_ok ?_
  simp only [ev0, evA, evB, evP, fl, gp, tab, simprocAttr, reduceCtorEq, reduceIte]
  refine fin_run trivial (hK _ ?_) <;> clear hK <;> clear K
  refine qa (qk ?_)
  simp only [Tryd.results114, enA, ev0, evA, evB, evP, fl, gp, tab, simprocAttr, reduceCtorEq, reduceIte]
  all_goals (rfl)
theorem centre_no (N : Int) (m : List Int) (hm : m.length ≤ 1000000000000000) (hf : ¬ (gf N m).1 = 0) : FnC Tryd.prog 74 [gp N m] (.tup [.list [], fl (gf N m)]) := by
  refine fnc_of tab_ok Tryd.func74 rfl (by kernel_rfl) (by rw [Tryd.ntmps74]; exact Nat.le_add_left 1 _) ?_; rw [Tryd.ntmps74]
  refine qm ?_
  refine hk_region fun K hK => runs_eval tab_ok ?_
  simp only [ev0, evA, evB, evP, fl, gp, tab, simprocAttr, reduceCtorEq, reduceIte]
  refine fin_run ?_ (hK _ ?_) <;> clear hK <;> clear K
  · (first | exact trivial | omega | (simp only [In64] at *; omega) | (simp [In64] at *; omega) | (simp_all; done) | skip)
  refine qa (qm (qm ?_))
  refine hk_region fun K hK => runs_eval tab_ok ?_
  simp only [ev0, evA, evB, evP, fl, gp, tab, simprocAttr, reduceCtorEq, reduceIte]
  refine fin_stop trivial (runs_call (check_c N m hm) rfl rfl rfl (by simp only [dstOk, Nat.reduceLT]) (by repeat (first | exact trivial | constructor)) (runs_eval tab_ok ?_))
  simp only [ev0, evA, evB, evP, fl, gp, tab, simprocAttr, reduceCtorEq, reduceIte]
  refine fin_run ?_ (hK _ ?_) <;> clear hK <;> clear K
  · (first | exact trivial | omega | (simp only [In64] at *; omega) | (simp [In64] at *; omega) | (simp_all; done) | skip)
  refine qa (qm ?_)
  refine hk_region fun K hK => runs_eval tab_ok ?_
  simp only [ev0, evA, evB, evP, fl, gp, tab, simprocAttr, reduceCtorEq, reduceIte]
  refine fin_run ?_ (hK _ ?_) <;> clear hK <;> clear K
  · (first | exact trivial | omega | (simp only [In64] at *; omega) | (simp [In64] at *; omega) | (simp_all; done) | skip)
  refine qa ?_
  refine hk_cond rfl (fun hC1 => ?_) (fun hC1 => ?_)
  · (try simp only [nhs] at hC1)
    refine qm ?_
    refine hk_draw mixed (by kernel_rfl) fun K hK => runs_eval tab_ok ?_
    simp only [ev0, evA, evB, evP, fl, gp, tab, simprocAttr, reduceCtorEq, reduceIte]
    refine fin_run ?_ (hK _ ?_) <;> clear hK <;> clear K
    · (first | exact trivial | omega | (simp only [In64] at *; omega) | (simp [In64] at *; omega) | (simp_all; done) | skip)
    refine qa (qk (qb ?_))
    simp only [Tryd.results74, enA, ev0, evA, evB, evP, fl, gp, tab, simprocAttr, reduceCtorEq, reduceIte]
    all_goals ((first | exact rfl | exact ⟨rfl, rfl⟩ | exact ⟨rfl, rfl, rfl⟩ | exact ⟨trivial, rfl⟩ | exact ⟨Nat.le_refl _, rfl⟩ | trivial | (simp; done)))
  · (try simp only [nhs] at hC1)
    exact absurd hC1 hf
theorem centre_ok {n e : Nat} {m : List Int} (h : GT n m n e) : FnC Tryd.prog 74 [gp n m] (.tup [.list (il (thl n (cent m n fun _ => true))), fl (0, 0)]) := by
  have hb := h.2.1.big
  have hml := h.2.1.len
  have hsq := sq_le hb
  refine fnc_of tab_ok Tryd.func74 rfl (by kernel_rfl) (by rw [Tryd.ntmps74]; exact Nat.le_add_left 1 _) ?_; rw [Tryd.ntmps74]
  refine qm ?_
  refine hk_region fun K hK => runs_eval tab_ok ?_
  simp only [ev0, evA, evB, evP, fl, gp, tab, simprocAttr, reduceCtorEq, reduceIte]
  refine fin_run ?_ (hK _ ?_) <;> clear hK <;> clear K
  · (first | exact trivial | omega | (simp only [In64] at *; omega) | (simp [In64] at *; omega) | (simp_all; done) | skip)
  refine qa (qm (qm ?_))
  refine hk_region fun K hK => runs_eval tab_ok ?_
  simp only [ev0, evA, evB, evP, fl, gp, tab, simprocAttr, reduceCtorEq, reduceIte]
  refine fin_stop trivial (runs_call (check_c n m (by omega)) rfl rfl rfl (by simp only [dstOk, Nat.reduceLT]) (by repeat (first | exact trivial | constructor)) (runs_eval tab_ok ?_))
  simp only [ev0, evA, evB, evP, fl, gp, tab, simprocAttr, reduceCtorEq, reduceIte, gf_of h]
  refine fin_run ?_ (hK _ ?_) <;> clear hK <;> clear K
  · (first | exact trivial | omega | (simp only [In64] at *; omega) | (simp [In64] at *; omega) | (simp_all; done) | skip)
  refine qa (qm ?_)
  refine hk_region fun K hK => runs_eval tab_ok ?_
  simp only [ev0, evA, evB, evP, fl, gp, tab, simprocAttr, reduceCtorEq, reduceIte]
  refine fin_run ?_ (hK _ ?_) <;> clear hK <;> clear K
  · (first | exact trivial | omega | (simp only [In64] at *; omega) | (simp [In64] at *; omega) | (simp_all; done) | skip)
  refine qa ?_
  refine hk_cond rfl (fun hC1 => ?_) (fun hC1 => ?_)
  · cases hC1
  · (try simp only [nhs] at hC1)
    refine qh (qa (qm ?_))
    refine hk_draw mixed (by kernel_rfl) fun K hK => runs_eval tab_ok ?_
    simp only [ev0, evA, evB, evP, fl, gp, tab, simprocAttr, reduceCtorEq, reduceIte]
    refine fin_stop trivial (runs_call (choose_c n m _ _ (fun _ => true) (by omega) (fun a ha => centre1_c a)) rfl rfl rfl (by simp only [dstOk, Nat.reduceLT]) (by repeat (first | exact trivial | constructor)) (runs_eval tab_ok ?_))
    simp only [ev0, evA, evB, evP, fl, gp, tab, simprocAttr, reduceCtorEq, reduceIte]
    refine fin_stop trivial (runs_call (central_ok h (fun _ => true)) rfl rfl rfl (by simp only [dstOk, Nat.reduceLT]) (by repeat (first | exact trivial | constructor)) (runs_eval tab_ok ?_))
    simp only [ev0, evA, evB, evP, fl, gp, tab, simprocAttr, reduceCtorEq, reduceIte]
    refine fin_run ?_ (hK _ ?_) <;> clear hK <;> clear K
    · (first | exact trivial | omega | (simp only [In64] at *; omega) | (simp [In64] at *; omega) | (simp_all; done) | skip)
    refine qa (qk ?_)
    simp only [Tryd.results74, enA, ev0, evA, evB, evP, fl, gp, tab, simprocAttr, reduceCtorEq, reduceIte]
    all_goals ((first | exact rfl | exact ⟨rfl, rfl⟩ | exact ⟨rfl, rfl, rfl⟩ | exact ⟨trivial, rfl⟩ | exact ⟨Nat.le_refl _, rfl⟩ | trivial | (simp; done)))

/-! ### The square's group -/

def sq8 : List Int := tbl (fun a b => (dih 4 a b : Nat)) 8
theorem sq8_gf : (gf 8 sq8).1 = 0 := by decide +kernel
theorem sq8_gt : ∃ e, GT (8 : Nat) sq8 8 e := by
  obtain ⟨n, e, h, _⟩ := gf_ok sq8_gf
  obtain rfl : n = 8 := by have := h.1; omega
  exact ⟨e, h⟩

theorem tm4 (a : Nat) : Int.tmod (a : Int) 4 = ((a % 4 : Nat) : Int) := rfl
theorem td4 (a : Nat) : Int.tdiv (a : Int) 4 = ((a / 4 : Nat) : Int) := rfl

theorem square_c : FnC Tryd.prog 75 [] (gp 8 sq8) := by
  have hlen := tbr_len (fun a b => (dih 4 a b : Nat)) 8
  refine fnc_of tab_ok Tryd.func75 rfl (by kernel_rfl) (by rw [Tryd.ntmps75]; exact Nat.le_add_left 0 _) ?_; rw [Tryd.ntmps75]
  refine qm ?_
  refine hk_region fun K hK => runs_eval tab_ok ?_
  simp only [ev0, evA, evB, evP, fl, gp, tab, simprocAttr, reduceCtorEq, reduceIte]
  refine fin_run ?_ (hK _ ?_) <;> clear hK <;> clear K
  · (first | exact trivial | omega | (simp only [In64] at *; omega) | (simp [In64] at *; omega) | (simp_all; done) | skip)
  refine qa (qm ?_)
  refine hk_region fun K hK => runs_eval tab_ok ?_
  simp only [ev0, evA, evB, evP, fl, gp, tab, simprocAttr, reduceCtorEq, reduceIte]
  refine fin_run ?_ (hK _ ?_) <;> clear hK <;> clear K
  · (first | exact trivial | omega | (simp only [In64] at *; omega) | (simp [In64] at *; omega) | (simp_all; done) | skip)
  refine qa (qm (qm ?_))
  refine hk_own0c 1 1 rfl rfl ?_
  simp only [hset, List.cons_append, List.nil_append, List.set, List.length_cons, List.length_nil]
  refine hk_region fun K hK => runs_eval tab_ok ?_
  simp only [ev0, evA, evB, evP, fl, gp, tab, simprocAttr, reduceCtorEq, reduceIte]
  refine fin_run trivial (hK _ ?_) <;> clear hK <;> clear K
  refine qa (ql ?_)
  refine hk_loop (ι := Nat) (fun a => ⟨39, [(0, .ptr 0 0), (1, .ptr 1 0), (2, .p (.int .i64 a))], [.own [.p (.int .i64 0), .p .nil], .own [.p (.int .i64 8), .sl 2 0 (tbr (fun a b => (dih 4 a b : Nat)) 8 (a * 8)).length], .own (ol (tbr (fun a b => (dih 4 a b : Nat)) 8 (a * 8)))]⟩) (fun a => a ≤ 8) (fun a => 8 - a) 0 (Nat.zero_le _) [0, 1, 2] (by simp only [leq, leA, ev0, evA, evB, evP, fl, gp, tab, simprocAttr, reduceCtorEq, reduceIte] <;> simp [tbr, rg, ol_nil]) fun a ha => ?_
  refine qm (qm ?_)
  refine hk_region fun K hK => runs_eval tab_ok ?_
  simp only [ev0, evA, evB, evP, fl, gp, tab, simprocAttr, reduceCtorEq, reduceIte]
  refine fin_run trivial (hK _ ?_) <;> clear hK <;> clear K
  refine qa ?_
  refine hk_cond rfl (fun hC1 => ?_) (fun hC1 => ?_)
  · (try simp only [nhs] at hC1)
    have hal : a < 8 := by omega
    refine qh (qa (qm (ql (qm ?_))))
    refine hk_region fun K hK => runs_eval tab_ok ?_
    simp only [ev0, evA, evB, evP, fl, gp, tab, simprocAttr, reduceCtorEq, reduceIte]
    refine fin_run trivial (hK _ ?_) <;> clear hK <;> clear K
    refine qa (ql ?_)
    refine hk_loop (ι := Nat) (fun b => ⟨39, [(0, .ptr 0 0), (1, .ptr 1 0), (2, .p (.int .i64 a)), (3, .p (.int .i64 b))], [.own [.p (.int .i64 0), .p .nil], .own [.p (.int .i64 8), .sl 2 0 (tbr (fun a b => (dih 4 a b : Nat)) 8 (a * 8 + b)).length], .own (ol (tbr (fun a b => (dih 4 a b : Nat)) 8 (a * 8 + b)))]⟩) (fun b => b ≤ 8) (fun b => 8 - b) 0 (Nat.zero_le _) [0, 1, 2] (by rw [Nat.add_zero]; simp only [leq, leA, ev0, evA, evB, evP, fl, gp, tab, simprocAttr, reduceCtorEq, reduceIte] <;> trivial) fun b hb => ?_
    refine qm (qm ?_)
    refine hk_region fun K hK => runs_eval tab_ok ?_
    simp only [ev0, evA, evB, evP, fl, gp, tab, simprocAttr, reduceCtorEq, reduceIte]
    refine fin_run trivial (hK _ ?_) <;> clear hK <;> clear K
    refine qa ?_
    refine hk_cond rfl (fun hC2 => ?_) (fun hC2 => ?_)
    · (try simp only [nhs] at hC2)
      have hbl : b < 8 := by omega
      have hl := hlen (a * 8 + b)
      have hs : (4 : Int) - ((b % 4 : Nat) : Int) = ((4 - b % 4 : Nat) : Int) := by omega
      have hm : (((a / 4 + b / 4) % 2 : Nat) : Int) * 4 = (((a / 4 + b / 4) % 2 * 4 : Nat) : Int) := by omega
      refine qh (qa (qm (ql (qm ?_))))
      refine hk_region fun K hK => runs_eval tab_ok ?_
      simp only [ev0, evA, evB, evP, fl, gp, tab, simprocAttr, reduceCtorEq, reduceIte, tm4]
      refine fin_run ?_ (hK _ ?_) <;> clear hK <;> clear K
      · (first | exact trivial | omega | (simp only [In64] at *; omega) | (simp [In64] at *; omega) | (simp_all; done) | skip)
      refine qa (qm (qm ?_))
      refine hk_region fun K hK => runs_eval tab_ok ?_
      simp only [ev0, evA, evB, evP, fl, gp, tab, simprocAttr, reduceCtorEq, reduceIte]
      refine fin_run trivial (hK _ ?_) <;> clear hK <;> clear K
      refine qa ?_
      refine hk_cond rfl (fun hC3 => ?_) (fun hC3 => ?_)
      · (try simp only [nhs] at hC3)
        have hd : dih 4 a b = (a % 4 + (4 - b % 4)) % 4 + (a / 4 + b / 4) % 2 * 4 := by rw [dih, if_pos (by omega)]
        refine hk_region fun K hK => runs_eval tab_ok ?_
        simp only [ev0, evA, evB, evP, fl, gp, tab, simprocAttr, reduceCtorEq, reduceIte, hs]
        refine fin_run ?_ (hK _ ?_) <;> clear hK <;> clear K
        · (first | exact trivial | omega | (simp only [In64] at *; omega) | (simp [In64] at *; omega) | (simp_all; done) | skip)
        refine qa ?_
        refine hk_region fun K hK => runs_eval tab_ok ?_
        simp only [ev0, evA, evB, evP, fl, gp, tab, simprocAttr, reduceCtorEq, reduceIte, tm4, td4, ← Int.natCast_add, tm_lit, hm]
        refine fin_run ?_ (hK _ ?_) <;> clear hK <;> clear K
        · simp only [In64]; omega
        refine qd (qa ?_)
        refine hk_region fun K hK => runs_eval tab_ok ?_
        simp only [ev0, evA, evB, evP, fl, gp, tab, simprocAttr, reduceCtorEq, reduceIte]
        refine fin_run ?_ (hK _ ?_) <;> clear hK <;> clear K
        · (first | exact trivial | omega | (simp only [In64] at *; omega) | (simp [In64] at *; omega) | (simp_all; done) | skip)
        refine qa ?_
        refine ⟨b + 1, [0, 1, 3], by omega, by omega, ?_⟩
        rw [tbr_succ (fun a b => (dih 4 a b : Nat)) hbl]
        simp only [hd]
        simp only [leq, leA, ev0, evA, evB, evP, fl, gp, tab, simprocAttr, reduceCtorEq, reduceIte] <;> first | trivial | omega
      · (try simp only [nhs] at hC3)
        have hd : dih 4 a b = (a % 4 + b % 4) % 4 + (a / 4 + b / 4) % 2 * 4 := by rw [dih, if_neg (by omega)]
        refine qh (qa ?_)
        refine hk_region fun K hK => runs_eval tab_ok ?_
        simp only [ev0, evA, evB, evP, fl, gp, tab, simprocAttr, reduceCtorEq, reduceIte, tm4, td4, ← Int.natCast_add, tm_lit, hm]
        refine fin_run ?_ (hK _ ?_) <;> clear hK <;> clear K
        · simp only [In64]; omega
        refine qd (qa ?_)
        refine hk_region fun K hK => runs_eval tab_ok ?_
        simp only [ev0, evA, evB, evP, fl, gp, tab, simprocAttr, reduceCtorEq, reduceIte]
        refine fin_run ?_ (hK _ ?_) <;> clear hK <;> clear K
        · (first | exact trivial | omega | (simp only [In64] at *; omega) | (simp [In64] at *; omega) | (simp_all; done) | skip)
        refine qa ?_
        refine ⟨b + 1, [0, 1, 3], by omega, by omega, ?_⟩
        rw [tbr_succ (fun a b => (dih 4 a b : Nat)) hbl]
        simp only [hd]
        simp only [leq, leA, ev0, evA, evB, evP, fl, gp, tab, simprocAttr, reduceCtorEq, reduceIte] <;> first | trivial | omega
    · (try simp only [nhs] at hC2)
      have hbn : b = 8 := by omega
      refine qj (qc (qc (qf (qd (qa ?_)))))
      refine hk_region fun K hK => runs_eval tab_ok ?_
      simp only [ev0, evA, evB, evP, fl, gp, tab, simprocAttr, reduceCtorEq, reduceIte]
      refine fin_run ?_ (hK _ ?_) <;> clear hK <;> clear K
      · (first | exact trivial | omega | (simp only [In64] at *; omega) | (simp [In64] at *; omega) | (simp_all; done) | skip)
      refine qa ?_
      refine ⟨a + 1, [0, 1, 2], by omega, by omega, ?_⟩
      rw [hbn, show (a + 1) * 8 = a * 8 + 8 by rw [Nat.add_mul, Nat.one_mul]]
      simp only [leq, leA, ev0, evA, evB, evP, fl, gp, tab, simprocAttr, reduceCtorEq, reduceIte] <;> first | trivial | omega
  · (try simp only [nhs] at hC1)
    have han : a = 8 := by omega
    refine qj (qc (qc (qf (qa (qm ?_)))))
    refine hk_region fun K hK => runs_eval tab_ok ?_
    simp only [ev0, evA, evB, evP, fl, gp, tab, simprocAttr, reduceCtorEq, reduceIte]
    refine fin_run ?_ (hK _ ?_) <;> clear hK <;> clear K
    · (first | exact trivial | omega | (simp only [In64] at *; omega) | (simp [In64] at *; omega) | (simp_all; done) | skip)
    refine qa (qk ?_)
    simp only [Tryd.results75, enA, ev0, evA, evB, evP, fl, gp, tab, simprocAttr, reduceCtorEq, reduceIte]
    all_goals (simp [han, sq8, tbl])

theorem begun_s : FnC Tryd.prog 19 [] (.bool true) := by
  obtain ⟨e, h⟩ := sq8_gt
  have hz : thl 8 (cent sq8 8 fun _ => true) = [0, 2] := by decide +kernel
  refine fnc_of tab_ok Tryd.func19 rfl (by kernel_rfl) (by rw [Tryd.ntmps19]; exact Nat.le_add_left 0 _) ?_; rw [Tryd.ntmps19]
  refine qm ?_
  refine hk_region fun K hK => runs_eval tab_ok ?_
  simp only [ev0, evA, evB, evP, fl, gp, tab, simprocAttr, reduceCtorEq, reduceIte]
  refine fin_run trivial (hK _ ?_) <;> clear hK <;> clear K
  refine qa (qm ?_)
  refine hk_region fun K hK => runs_eval tab_ok ?_
  simp only [ev0, evA, evB, evP, fl, gp, tab, simprocAttr, reduceCtorEq, reduceIte]
  refine fin_stop trivial (runs_call (square_c) rfl rfl rfl (by simp only [dstOk, Nat.reduceLT]) (by repeat (first | exact trivial | constructor)) (runs_eval tab_ok ?_))
  simp only [ev0, evA, evB, evP, fl, gp, tab, simprocAttr, reduceCtorEq, reduceIte]
  refine fin_stop trivial (runs_call (centre_ok h) rfl rfl rfl (by simp only [dstOk, Nat.reduceLT]) (by repeat (first | exact trivial | constructor)) (runs_eval tab_ok ?_))
  simp only [ev0, evA, evB, evP, fl, gp, tab, simprocAttr, reduceCtorEq, reduceIte, hz]
  refine fin_run ?_ (hK _ ?_) <;> clear hK <;> clear K
  · (first | exact trivial | omega | (simp only [In64] at *; omega) | (simp [In64] at *; omega) | (simp_all; done) | skip)
  refine qa (qm ?_)
  refine hk_region fun K hK => runs_eval tab_ok ?_
  simp only [ev0, evA, evB, evP, fl, gp, tab, simprocAttr, reduceCtorEq, reduceIte]
  refine fin_stop trivial (runs_call (FnC.sub (args' := [.list (il [0, 2]), .nn (il [0, 2])]) (ints_c [0, 2] [0, 2] (by decide)) (And.intro (.same _) (And.intro (.nn _) trivial))) rfl rfl rfl (by simp only [dstOk, Nat.reduceLT]) (by repeat (first | exact trivial | constructor)) (runs_eval tab_ok ?_))
  simp only [ev0, evA, evB, evP, fl, gp, tab, simprocAttr, reduceCtorEq, reduceIte]
  refine fin_run ?_ (hK _ ?_) <;> clear hK <;> clear K
  · (first | exact trivial | omega | (simp only [In64] at *; omega) | (simp [In64] at *; omega) | (simp_all; done) | skip)
  refine qa (qk ?_)
  simp only [Tryd.results19, enA, ev0, evA, evB, evP, fl, gp, tab, simprocAttr, reduceCtorEq, reduceIte]
  all_goals (rfl)
end Go.Proofs.YtjikchbmkodgfaaDoor

/-
  Plain law, FROBENIUS' THEOREM, its first part: things whose orders have a power of p come by generators of cyclic subgroups. Conditions: none.
-/
set_option linter.all false
namespace Go.Proofs.YtjikchbmkodgfaaDoor
open Go.Pv

/-- CLASSES whose sizes have a divisor: it divides the whole. -/
theorem classesD {α : Type} {k : Nat} {r : α → α → Bool} : ∀ (n : Nat) (l : List α), l.length = n → l.Nodup → (∀ x ∈ l, r x x = true) → (∀ x ∈ l, ∀ y ∈ l, r x y = true → r y x = true) →
    (∀ x ∈ l, ∀ y ∈ l, ∀ z ∈ l, r x y = true → r y z = true → r x z = true) → (∀ x ∈ l, k ∣ (l.filter (r x)).length) → k ∣ l.length := by
  intro n
  induction n using Nat.strongRecOn with
  | _ n ih =>
    intro l hn hnd hr hs ht hk
    cases l with
    | nil => exact ⟨0, rfl⟩
    | cons a t =>
      have hsplit : (a :: t).length = ((a :: t).filter (r a)).length + ((a :: t).filter (fun x => !r a x)).length := by
        have := List.length_eq_countP_add_countP (r a) (l := a :: t)
        simp only [List.countP_eq_length_filter] at this
        rw [this]
        congr 3
        funext x
        cases r a x <;> simp
      have hka := hk a (by simp)
      have hmem : ∀ x, x ∈ (a :: t).filter (fun x => !r a x) ↔ x ∈ a :: t ∧ r a x = false := by
        intro x; rw [List.mem_filter]; simp
      have hpos : 0 < ((a :: t).filter (r a)).length := by
        apply List.length_pos_of_mem (a := a)
        rw [List.mem_filter]
        exact ⟨by simp, hr a (by simp)⟩
      have hrec := ih ((a :: t).filter (fun x => !r a x)).length (by omega) _ rfl (hnd.filter _) (fun x hx => hr x ((hmem x).1 hx).1)
        (fun x hx y hy => hs x ((hmem x).1 hx).1 y ((hmem y).1 hy).1)
        (fun x hx y hy z hz => ht x ((hmem x).1 hx).1 y ((hmem y).1 hy).1 z ((hmem z).1 hz).1)
        (fun x hx => by
          obtain ⟨hx1, hx2⟩ := (hmem x).1 hx
          have hf : ((a :: t).filter (fun x => !r a x)).filter (r x) = (a :: t).filter (r x) := by
            rw [List.filter_filter]
            apply List.filter_congr
            intro y hy
            cases hxy : r x y
            · simp
            · have : r a y = false := by
                cases hay : r a y
                · rfl
                · have h1 := hs x hx1 y hy hxy
                  have := ht a (by simp) y hy x hx1 hay h1
                  rw [hx2] at this; cases this
              simp [this]
          rw [hf]; exact hk x hx1)
      rw [hsplit]
      exact Nat.dvd_add hka hrec

/-- What comes again after m comes P times as often in m P. -/
theorem count_per {m : Nat} {c : Nat → Bool} (h : ∀ j, c (m + j) = c j) : ∀ P, ((List.range (m * P)).filter c).length = P * ((List.range m).filter c).length
  | 0 => by simp
  | P + 1 => by
    rw [show m * (P + 1) = m + m * P by rw [Nat.mul_succ]; omega, List.range_add, List.filter_append, List.length_append, List.filter_map, List.length_map]
    have : (c ∘ fun x => m + x) = c := funext h
    rw [this, count_per h P, Nat.succ_mul]; omega

section
variable {n : Nat} {f : Nat → Nat → Nat} {e : Nat}

theorem Grp.ord_cop (G : Grp n f e) {a j : Nat} (ha : a < n) : ord n f e (pw f e a j) = ord n f e a ↔ Nat.gcd j (ord n f e a) = 1 := by
  have ho := G.ord_pos ha
  constructor
  · intro h
    have hd : Nat.gcd j (ord n f e a) ∣ ord n f e a := Nat.gcd_dvd_right _ _
    have hj : Nat.gcd j (ord n f e a) ∣ j := Nat.gcd_dvd_left _ _
    obtain ⟨t, ht⟩ := hd
    obtain ⟨u, hu⟩ := hj
    have h1 : pw f e (pw f e a j) t = e := by
      rw [← G.pw_mul ha, G.pw_eq_one ha]
      refine ⟨u, ?_⟩
      calc j * t = (Nat.gcd j (ord n f e a) * u) * t := by rw [← hu]
        _ = (Nat.gcd j (ord n f e a) * t) * u := by rw [Nat.mul_assoc, Nat.mul_comm u t, Nat.mul_assoc]
        _ = ord n f e a * u := by rw [← ht]
    have h2 := (G.pw_eq_one (G.pw_lt ha j) t).1 h1
    rw [h] at h2
    have htp : 0 < t := by
      rcases Nat.eq_zero_or_pos t with h0 | h0
      · rw [h0, Nat.mul_zero] at ht; omega
      · exact h0
    have h3 := Nat.le_of_dvd htp h2
    have h4 : 0 < Nat.gcd j (ord n f e a) := Nat.gcd_pos_of_pos_right _ ho
    rcases Nat.lt_or_ge 1 (Nat.gcd j (ord n f e a)) with h5 | h5
    · have : 2 * t ≤ Nat.gcd j (ord n f e a) * t := Nat.mul_le_mul_right _ h5
      omega
    · omega
  · intro h
    refine G.ord_eq (G.pw_lt ha j) fun i => ?_
    rw [← G.pw_mul ha, G.pw_eq_one ha]
    constructor
    · intro h1
      exact Nat.Coprime.dvd_of_dvd_mul_left (Nat.Coprime.symm h) h1
    · intro h1
      exact Nat.dvd_trans h1 (Nat.dvd_mul_left _ _)

/-- What is a power of the same order has it as a power. -/
theorem Grp.gen_symm (G : Grp n f e) {x j : Nat} (hx : x < n) (h : ord n f e (pw f e x j) = ord n f e x) : ∃ i, i < n ∧ x = pw f e (pw f e x j) i := by
  have ho := G.ord_pos hx
  have hon := (G.ord_spec hx).2.1
  have hpm : ∀ i, pw f e (pw f e x j) i = pw f e x (j * i % ord n f e x) := by
    intro i; rw [G.pw_mod hx, G.pw_mul hx]
  obtain ⟨i, hi, he⟩ := inj_onto (n := ord n f e x) (f := fun i => j * i % ord n f e x) (fun i _ => Nat.mod_lt _ ho) (fun i i' hi hi' he => by
    have he' : j * i % ord n f e x = j * i' % ord n f e x := he
    have : pw f e (pw f e x j) i = pw f e (pw f e x j) i' := by rw [hpm, hpm, he']
    exact G.pw_inj (G.pw_lt hx j) (by rw [h]; exact hi) (by rw [h]; exact hi') this) (Nat.mod_lt 1 ho)
  refine ⟨i, by omega, ?_⟩
  have he' : j * i % ord n f e x = 1 % ord n f e x := he
  rw [hpm, he', G.pw_mod hx, G.pw_one hx]

/-- PART ONE: things whose order is of a kind that p^(k+1) divides come p^k at a time. -/
theorem Grp.frob1 (G : Grp n f e) {p k : Nat} {c : Nat → Bool} (hc : ∀ o, c o = true → p ^ (k + 1) ∣ o) :
    p ^ k ∣ ((List.range n).filter (fun x => c (ord n f e x))).length := by
  refine classesD (r := fun x y => decide (ord n f e y = ord n f e x ∧ ∃ j, j < n ∧ y = pw f e x j)) _ _ rfl (List.nodup_range.filter _) ?_ ?_ ?_ ?_
  · intro x hx
    have x1 : x < n := by simpa using (List.mem_filter.1 hx).1
    simp only [decide_eq_true_eq]
    refine ⟨trivial, 1 % ord n f e x, ?_, ?_⟩
    · have := Nat.mod_lt 1 (G.ord_pos x1); have := (G.ord_spec x1).2.1; omega
    · rw [G.pw_mod x1, G.pw_one x1]
  · intro x hx y hy h
    have x1 : x < n := by simpa using (List.mem_filter.1 hx).1
    simp only [decide_eq_true_eq] at h ⊢
    obtain ⟨h1, j, hj, rfl⟩ := h
    exact ⟨h1.symm, G.gen_symm x1 h1⟩
  · intro x hx y hy z hz h h'
    have x1 : x < n := by simpa using (List.mem_filter.1 hx).1
    simp only [decide_eq_true_eq] at h h' ⊢
    obtain ⟨h1, j, hj, rfl⟩ := h
    obtain ⟨h2, i, hi, rfl⟩ := h'
    refine ⟨h2.trans h1, j * i % ord n f e x, ?_, ?_⟩
    · have := Nat.mod_lt (j * i) (G.ord_pos x1); have := (G.ord_spec x1).2.1; omega
    · rw [G.pw_mod x1, G.pw_mul x1]
  · intro x hx
    have x1 : x < n := by simpa using (List.mem_filter.1 hx).1
    have x2 : c (ord n f e x) = true := by simpa using (List.mem_filter.1 hx).2
    obtain ⟨m', hm'⟩ := hc _ x2
    have ho := G.ord_pos x1
    have hon := (G.ord_spec x1).2.1
    have hom : ord n f e x = p * m' * p ^ k := by
      rw [hm', Nat.pow_succ, Nat.mul_assoc, Nat.mul_comm]
    have hcp : ∀ j, Nat.gcd j (ord n f e x) = 1 ↔ Nat.gcd j (p * m') = 1 := by
      intro j
      constructor
      · intro h
        have h' : Nat.Coprime j (ord n f e x) := h
        rw [hom] at h'
        exact Nat.Coprime.coprime_mul_right_right h'
      · intro h
        have h' : Nat.Coprime j (p * m') := h
        have hp : Nat.Coprime j p := Nat.Coprime.coprime_mul_right_right h'
        have : Nat.Coprime j (p * m' * p ^ k) := Nat.Coprime.mul_right h' (Nat.Coprime.pow_right _ hp)
        rw [hom]; exact this
    have hcl : (((List.range n).filter (fun x => c (ord n f e x))).filter (fun y => decide (ord n f e y = ord n f e x ∧ ∃ j, j < n ∧ y = pw f e x j))).length
        = (((List.range (ord n f e x)).filter (fun j => decide (Nat.gcd j (p * m') = 1))).map (pw f e x)).length := by
      refine same_len ((List.nodup_range.filter _).filter _) (nodup_map (List.nodup_range.filter _) fun i hi j hj he => ?_) fun y => ?_
      · exact G.pw_inj x1 (by simpa using (List.mem_filter.1 hi).1) (by simpa using (List.mem_filter.1 hj).1) he
      · simp only [List.mem_filter, List.mem_map, List.mem_range, decide_eq_true_eq]
        constructor
        · rintro ⟨⟨y1, y2⟩, y3, j, hj, rfl⟩
          refine ⟨j % ord n f e x, ⟨Nat.mod_lt _ ho, ?_⟩, G.pw_mod x1 j⟩
          rw [← hcp, ← G.ord_cop x1, G.pw_mod x1]; exact y3
        · rintro ⟨j, ⟨j1, j2⟩, rfl⟩
          have h3 := (G.ord_cop x1).2 ((hcp j).2 j2)
          exact ⟨⟨G.pw_lt x1 j, by rw [h3]; exact x2⟩, h3, j, by omega, rfl⟩
    rw [hcl, List.length_map, hom, count_per (fun j => decide_eq_decide.2 (by rw [show Nat.gcd (p * m' + j) (p * m') = Nat.gcd j (p * m') by simp]))]
    exact Nat.dvd_mul_right _ _
end
end Go.Proofs.YtjikchbmkodgfaaDoor

/-
  Plain law, FROBENIUS' THEOREM, its second part: centralisers, and what they are after a cyclic part of the centre. Conditions: none.
-/
set_option linter.all false
namespace Go.Proofs.YtjikchbmkodgfaaDoor
open Go.Pv

/-- DOUBLE COUNTING. -/
theorem sum_filter {α β : Type} (R : α → β → Bool) (L1 : List α) : ∀ L2 : List β, (L1.map fun a => (L2.filter (R a)).length).sum = (L2.map fun b => (L1.filter fun a => R a b).length).sum
  | [] => by induction L1 with
    | nil => rfl
    | cons a t ih => simpa using ih
  | b :: t => by
    have ih := sum_filter R L1 t
    have : (L1.map fun a => ((b :: t).filter (R a)).length).sum = (L1.filter fun a => R a b).length + (L1.map fun a => (t.filter (R a)).length).sum := by
      clear ih
      induction L1 with
      | nil => rfl
      | cons a u ihu =>
        have h1 : ((b :: t).filter (R a)).length = (if R a b then 1 else 0) + (t.filter (R a)).length := by
          rw [List.filter_cons]; cases R a b <;> simp <;> omega
        have h2 : ((a :: u).filter fun a => R a b).length = (if R a b then 1 else 0) + (u.filter fun a => R a b).length := by
          rw [List.filter_cons]; cases R a b <;> simp <;> omega
        rw [List.map_cons, List.sum_cons, ihu, List.map_cons, List.sum_cons, h1, h2]
        omega
    rw [this, ih]; simp
theorem sum_const {α : Type} {g : α → Nat} {c : Nat} : ∀ {l : List α}, (∀ a ∈ l, g a = c) → (l.map g).sum = l.length * c
  | [], _ => by simp
  | a :: t, h => by
    rw [List.map_cons, List.sum_cons, h a (by simp), sum_const (fun x hx => h x (by simp [hx])), List.length_cons, Nat.succ_mul]; omega
theorem dbl {α β : Type} (R : α → β → Bool) {L1 : List α} {L2 : List β} {c1 c2 : Nat} (h1 : ∀ a ∈ L1, (L2.filter (R a)).length = c1) (h2 : ∀ b ∈ L2, (L1.filter fun a => R a b).length = c2) : L1.length * c1 = L2.length * c2 := by
  rw [← sum_const h1, ← sum_const h2, sum_filter]

section
variable {n : Nat} {f : Nat → Nat → Nat} {e : Nat}

/-- What commutes with y. -/
def cen (f : Nat → Nat → Nat) (y x : Nat) : Bool := decide (f x y = f y x)
theorem cen_iff {y x : Nat} : cen f y x = true ↔ f x y = f y x := by simp [cen]
theorem Grp.cen_sub (G : Grp n f e) {y : Nat} (hy : y < n) : Sub n f e (cen f y) where
  one := by rw [cen_iff, G.one_l y hy, G.one_r y hy]
  mul a b ha hb h1 h2 := by
    rw [cen_iff] at *
    rw [G.assoc a b y ha hb hy, h2, ← G.assoc a y b ha hy hb, h1, G.assoc y a b hy ha hb]
  inv a ha h := by
    rw [cen_iff] at *
    have hi := G.iv_lt ha
    refine G.cancel_l ha (G.cl _ _ hi hy) (G.cl _ _ hy hi) ?_
    rw [← G.assoc a _ y ha hi hy, G.mul_iv ha, G.one_l y hy, ← G.assoc a y _ ha hy hi, h, G.assoc y a _ hy ha hi, G.mul_iv ha, G.one_r y hy]
theorem Grp.cen_pw (G : Grp n f e) {y x : Nat} (hy : y < n) (hx : x < n) (h : f x y = f y x) : ∀ j, f x (pw f e y j) = f (pw f e y j) x
  | 0 => by show f x e = f e x; rw [G.one_l x hx, G.one_r x hx]
  | j + 1 => by
    have hj := G.pw_lt hy j
    show f x (f (pw f e y j) y) = f (f (pw f e y j) y) x
    rw [← G.assoc x _ y hx hj hy, G.cen_pw hy hx h j, G.assoc _ x y hj hx hy, h, ← G.assoc _ y x hj hy hx]
theorem Grp.pw_comm2 (G : Grp n f e) {y x : Nat} (hy : y < n) (hx : x < n) (h : f x y = f y x) : ∀ k, pw f e (f x y) k = f (pw f e x k) (pw f e y k)
  | 0 => by show e = f e e; rw [G.one_l e G.el]
  | k + 1 => by
    have hxk := G.pw_lt hx k
    have hyk := G.pw_lt hy k
    show f (pw f e (f x y) k) (f x y) = f (f (pw f e x k) x) (f (pw f e y k) y)
    rw [G.pw_comm2 hy hx h k, G.assoc _ _ _ hxk hyk (G.cl _ _ hx hy), ← G.assoc _ x y hyk hx hy, ← G.cen_pw hy hx h k, G.assoc x _ y hx hyk hy, ← G.assoc _ x _ hxk hx (G.cl _ _ hyk hy)]
end
end Go.Proofs.YtjikchbmkodgfaaDoor

/-
  Plain law: products of two subgroups; THE PRODUCT FORMULA; DEDEKIND's law; commutators. Conditions: none.
-/
set_option linter.all false
namespace Go.Proofs.YtjikchbmkodgfaaDoor
open Go.Pv

section
variable {n : Nat} {f : Nat → Nat → Nat} {e : Nat}

/-- What is a thing of the first times a thing of the second. -/
def pr2 (n : Nat) (f : Nat → Nat → Nat) (e : Nat) (a b : Nat → Bool) (x : Nat) : Bool := decide (∃ i, i < n ∧ a i = true ∧ b (f (iv n f e i) x) = true)
theorem pr2_iff {a b : Nat → Bool} {x : Nat} : pr2 n f e a b x = true ↔ ∃ i, i < n ∧ a i = true ∧ b (f (iv n f e i) x) = true := by unfold pr2; exact decide_eq_true_iff

theorem Sub.and {a b : Nat → Bool} (ha : Sub n f e a) (hb : Sub n f e b) : Sub n f e fun x => a x && b x where
  one := by simp [ha.one, hb.one]
  mul x y hx hy h1 h2 := by
    rw [Bool.and_eq_true] at *
    exact ⟨ha.mul x y hx hy h1.1 h2.1, hb.mul x y hx hy h1.2 h2.2⟩
  inv x hx h := by
    rw [Bool.and_eq_true] at *
    exact ⟨ha.inv x hx h.1, hb.inv x hx h.2⟩

/-- THE PRODUCT FORMULA. -/
theorem Grp.prod_count (G : Grp n f e) {a b : Nat → Bool} (ha : Sub n f e a) (hb : Sub n f e b) : (mem n (pr2 n f e a b)).length * (mem n fun x => a x && b x).length = (mem n a).length * (mem n b).length := by
  refine dbl (fun x i => b (f (iv n f e i) x)) (fun x hx => ?_) fun i hi => ?_
  · obtain ⟨x1, x2⟩ := mem_mem.1 hx
    obtain ⟨i0, i1, i2, i3⟩ := pr2_iff.1 x2
    have ii := G.iv_lt i1
    rw [← List.length_map (f := fun c => f i0 c) («as» := mem n fun x => a x && b x)]
    refine same_len ((List.nodup_range.filter _).filter _) (nodup_map (List.nodup_range.filter _) fun u hu v hv he => G.cancel_l i1 (mem_mem.1 hu).1 (mem_mem.1 hv).1 he) fun y => ?_
    rw [List.mem_filter, mem_mem, List.mem_map]
    constructor
    · rintro ⟨⟨y1, y2⟩, y3⟩
      have iy := G.iv_lt y1
      refine ⟨f (iv n f e i0) y, mem_mem.2 ⟨G.cl _ _ ii y1, ?_⟩, by rw [← G.assoc _ _ _ i1 ii y1, G.mul_iv i1, G.one_l y y1]⟩
      rw [Bool.and_eq_true]
      refine ⟨ha.mul _ _ ii y1 (ha.inv _ i1 i2) y2, ?_⟩
      have h1 := hb.mul _ _ (G.cl _ _ ii x1) (G.iv_lt (G.cl _ _ iy x1)) i3 (hb.inv _ (G.cl _ _ iy x1) y3)
      rw [G.iv_prod iy x1, G.iv_iv y1, G.assoc _ _ _ ii x1 (G.cl _ _ (G.iv_lt x1) y1), ← G.assoc x _ y x1 (G.iv_lt x1) y1, G.mul_iv x1, G.one_l y y1] at h1
      exact h1
    · rintro ⟨c, hc, rfl⟩
      obtain ⟨c1, c2⟩ := mem_mem.1 hc
      rw [Bool.and_eq_true] at c2
      refine ⟨⟨G.cl _ _ i1 c1, ha.mul _ _ i1 c1 i2 c2.1⟩, ?_⟩
      rw [G.iv_prod i1 c1, G.assoc _ _ _ (G.iv_lt c1) ii x1]
      exact hb.mul _ _ (G.iv_lt c1) (G.cl _ _ ii x1) (hb.inv _ c1 c2.2) i3
  · obtain ⟨i1, i2⟩ := mem_mem.1 hi
    have ii := G.iv_lt i1
    rw [← List.length_map (f := fun c => f i c) («as» := mem n b)]
    refine same_len ((List.nodup_range.filter _).filter _) (nodup_map (List.nodup_range.filter _) fun u hu v hv he => G.cancel_l i1 (mem_mem.1 hu).1 (mem_mem.1 hv).1 he) fun y => ?_
    rw [List.mem_filter, mem_mem, List.mem_map]
    constructor
    · rintro ⟨⟨y1, y2⟩, y3⟩
      exact ⟨f (iv n f e i) y, mem_mem.2 ⟨G.cl _ _ ii y1, y3⟩, by rw [← G.assoc _ _ _ i1 ii y1, G.mul_iv i1, G.one_l y y1]⟩
    · rintro ⟨c, hc, rfl⟩
      obtain ⟨c1, c2⟩ := mem_mem.1 hc
      have h2 : b (f (iv n f e i) (f i c)) = true := by rw [← G.assoc _ _ _ ii i1 c1, G.iv_mul i1, G.one_l c c1]; exact c2
      exact ⟨⟨G.cl _ _ i1 c1, pr2_iff.2 ⟨i, i1, i2, h2⟩⟩, h2⟩

/-- DEDEKIND's law. -/
theorem Grp.dedekind (G : Grp n f e) {a b c : Nat → Bool} (hc : Sub n f e c) (hac : ∀ x, x < n → a x = true → c x = true) {x : Nat} (hx : x < n) : pr2 n f e a (fun y => b y && c y) x = (pr2 n f e a b x && c x) := by
  rw [Bool.eq_iff_iff, Bool.and_eq_true, pr2_iff, pr2_iff]
  constructor
  · rintro ⟨i, i1, i2, i3⟩
    rw [Bool.and_eq_true] at i3
    refine ⟨⟨i, i1, i2, i3.1⟩, ?_⟩
    have h := hc.mul _ _ i1 (G.cl _ _ (G.iv_lt i1) hx) (hac i i1 i2) i3.2
    rwa [← G.assoc _ _ _ i1 (G.iv_lt i1) hx, G.mul_iv i1, G.one_l x hx] at h
  · rintro ⟨⟨i, i1, i2, i3⟩, hcx⟩
    refine ⟨i, i1, i2, ?_⟩
    rw [Bool.and_eq_true]
    exact ⟨i3, hc.mul _ _ (G.iv_lt i1) hx (hc.inv _ i1 (hac i i1 i2)) hcx⟩

/-- A set of one thing has one place. -/
theorem mem_one {p : Nat → Bool} (he : e < n) (h : ∀ a, a < n → (p a = true ↔ a = e)) : (mem n p).length = 1 := by
  have : (mem n p).length = [e].length := same_len (List.nodup_range.filter _) (by simp) fun x => by
    rw [mem_mem, List.mem_singleton]
    constructor
    · rintro ⟨h1, h2⟩; exact (h x h1).1 h2
    · rintro rfl; exact ⟨he, (h x he).2 rfl⟩
  exact this
theorem one_mem {p : Nat → Bool} (he : e < n) (hp : p e = true) (h : (mem n p).length = 1) {a : Nat} (ha : a < n) (hpa : p a = true) : a = e := by
  obtain ⟨x, hx⟩ := List.length_eq_one_iff.1 h
  have h1 : a ∈ mem n p := mem_mem.2 ⟨ha, hpa⟩
  have h2 : e ∈ mem n p := mem_mem.2 ⟨he, hp⟩
  rw [hx, List.mem_singleton] at h1 h2
  rw [h1, h2]
theorem mem_all {p : Nat → Bool} : (mem n p).length = n ↔ ∀ a, a < n → p a = true := by
  constructor
  · intro h a ha
    have h1 : (mem n p).length = (List.range n).length := by rw [h, List.length_range]
    have h2 := List.length_filter_eq_length_iff.1 h1
    exact h2 a (List.mem_range.2 ha)
  · intro h
    have : mem n p = List.range n := List.filter_eq_self.2 fun a ha => h a (List.mem_range.1 ha)
    rw [this, List.length_range]
end
end Go.Proofs.YtjikchbmkodgfaaDoor

/-
  Plain law: classes of an equivalence, by their least things; conjugate things; THE CLASS EQUATION. Conditions: none.
-/
set_option linter.all false
namespace Go.Proofs.YtjikchbmkodgfaaDoor
open Go.Pv

/-- Is a thing the least that it is like? -/
def lead (r : Nat → Nat → Bool) (a : Nat) : Bool := r a a && decide (∀ b, b < a → r a b = false)
theorem lead_iff {r : Nat → Nat → Bool} {a : Nat} : lead r a = true ↔ r a a = true ∧ ∀ b, b < a → r a b = false := by
  unfold lead; rw [Bool.and_eq_true, decide_eq_true_eq]

structure Eqv (n : Nat) (r : Nat → Nat → Bool) : Prop where
  refl : ∀ a, a < n → r a a = true
  symm : ∀ a b, a < n → b < n → r a b = true → r b a = true
  trans : ∀ a b c, a < n → b < n → c < n → r a b = true → r b c = true → r a c = true

/-- The least thing that a thing is like. -/
theorem Eqv.least {n : Nat} {r : Nat → Nat → Bool} (h : Eqv n r) {y : Nat} (hy : y < n) : ∃ x, x < n ∧ lead r x = true ∧ r x y = true := by
  cases hf : fst' (r y) n with
  | none => have := fst_spec0 hf y hy; rw [h.refl y hy] at this; cases this
  | some x =>
    obtain ⟨h1, h2, h3⟩ := fst_spec hf
    refine ⟨x, h1, lead_iff.2 ⟨h.refl x h1, fun b hb => ?_⟩, h.symm y x hy h1 h2⟩
    cases hb2 : r x b with
    | false => rfl
    | true => have := h.trans y x b hy h1 (by omega) h2 hb2; rw [h3 b hb] at this; cases this
theorem Eqv.lead_eq {n : Nat} {r : Nat → Nat → Bool} (h : Eqv n r) {x y : Nat} (hx : x < n) (hy : y < n) (lx : lead r x = true) (ly : lead r y = true) (hr : r x y = true) : x = y := by
  rcases Nat.lt_trichotomy x y with h1 | h1 | h1
  · have := (lead_iff.1 ly).2 x h1; rw [h.symm x y hx hy hr] at this; cases this
  · exact h1
  · have := (lead_iff.1 lx).2 y h1; rw [hr] at this; cases this
/-- Each thing is in one class. -/
theorem Eqv.one {n : Nat} {r : Nat → Nat → Bool} (h : Eqv n r) {y : Nat} (hy : y < n) : ((mem n (lead r)).filter fun x => r x y).length = 1 := by
  obtain ⟨x, x1, x2, x3⟩ := h.least hy
  have : ((mem n (lead r)).filter fun x => r x y).length = [x].length := same_len ((List.nodup_range.filter _).filter _) (by simp) fun z => by
    rw [List.mem_filter, mem_mem, List.mem_singleton]
    constructor
    · rintro ⟨⟨z1, z2⟩, z3⟩
      exact h.lead_eq z1 x1 z2 x2 (h.trans z y x z1 hy x1 z3 (h.symm x y x1 hy x3))
    · rintro rfl
      exact ⟨⟨x1, x2⟩, x3⟩
  exact this
/-- All classes together are all things. -/
theorem Eqv.sum {n : Nat} {r : Nat → Nat → Bool} (h : Eqv n r) : ((mem n (lead r)).map fun x => (mem n (r x)).length).sum = n := by
  have h1 := sum_filter (fun x y => r x y) (mem n (lead r)) (List.range n)
  have h2 : ((List.range n).map fun y => ((mem n (lead r)).filter fun x => r x y).length).sum = (List.range n).length * 1 := sum_const fun y hy => h.one (List.mem_range.1 hy)
  rw [List.length_range, Nat.mul_one] at h2
  exact h1.trans h2

theorem filter_one' {l : List Nat} (h : l.Nodup) {a : Nat} (ha : a ∈ l) : (l.filter fun w => decide (a = w)).length = 1 := by
  have : (l.filter fun w => decide (a = w)).length = [a].length := same_len (h.filter _) (by simp) fun x => by
    rw [List.mem_filter, decide_eq_true_eq, List.mem_singleton]
    constructor
    · rintro ⟨_, h⟩; exact h.symm
    · rintro rfl; exact ⟨ha, rfl⟩
  exact this

section
variable {n : Nat} {f : Nat → Nat → Nat} {e : Nat}
/-- Is y conjugate to x? -/
def cjb (n : Nat) (f : Nat → Nat → Nat) (e x y : Nat) : Bool := decide (∃ a, a < n ∧ f (f (iv n f e a) x) a = y)
theorem cjb_iff {x y : Nat} : cjb n f e x y = true ↔ ∃ a, a < n ∧ f (f (iv n f e a) x) a = y := by unfold cjb; exact decide_eq_true_iff
theorem Grp.cjr_mul (G : Grp n f e) {x a b : Nat} (hx : x < n) (ha : a < n) (hb : b < n) : f (f (iv n f e b) (f (f (iv n f e a) x) a)) b = f (f (iv n f e (f a b)) x) (f a b) := by
  have ia := G.iv_lt ha
  have ib := G.iv_lt hb
  have h1 := G.cl _ _ ia hx
  rw [G.iv_prod ha hb, ← G.assoc _ (f (iv n f e a) x) a ib h1 ha, G.assoc (f (iv n f e b) (f (iv n f e a) x)) a b (G.cl _ _ ib h1) ha hb, ← G.assoc _ _ x ib ia hx]
theorem Grp.cjb_eqv (G : Grp n f e) : Eqv n (cjb n f e) where
  refl a ha := cjb_iff.2 ⟨e, G.el, by rw [G.iv_one, G.one_l a ha, G.one_r a ha]⟩
  symm a b ha hb h := by
    obtain ⟨c, hc, rfl⟩ := cjb_iff.1 h
    refine cjb_iff.2 ⟨iv n f e c, G.iv_lt hc, ?_⟩
    rw [G.cjr_mul ha hc (G.iv_lt hc), G.mul_iv hc, G.iv_one, G.one_l a ha, G.one_r a ha]
  trans a b c ha hb hc h1 h2 := by
    obtain ⟨x, hx, rfl⟩ := cjb_iff.1 h1
    obtain ⟨y, hy, rfl⟩ := cjb_iff.1 h2
    exact cjb_iff.2 ⟨f x y, G.cl _ _ hx hy, (G.cjr_mul ha hx hy).symm⟩
/-- So many things in a class, as cosets of what commutes with one. -/
theorem Grp.cls_count (G : Grp n f e) {x : Nat} (hx : x < n) : (mem n (cen f x)).length * (mem n (cjb n f e x)).length = n := by
  have hl : ∀ a, a < n → f (f (iv n f e a) x) a < n := fun a ha => G.cl _ _ (G.cl _ _ (G.iv_lt ha) hx) ha
  have := dbl (fun a y => decide (f (f (iv n f e a) x) a = y)) (L1 := List.range n) (L2 := mem n (cjb n f e x)) (c1 := 1) (c2 := (mem n (cen f x)).length) (fun a ha => ?_) fun y hy => ?_
  · rw [List.length_range, Nat.mul_one] at this
    rw [Nat.mul_comm]; exact this.symm
  · have a1 := List.mem_range.1 ha
    exact filter_one' (List.nodup_range.filter _) (mem_mem.2 ⟨hl a a1, cjb_iff.2 ⟨a, a1, rfl⟩⟩)
  · obtain ⟨y1, y2⟩ := mem_mem.1 hy
    obtain ⟨a0, a1, rfl⟩ := cjb_iff.1 y2
    rw [← List.length_map (f := fun c => f c a0) («as» := mem n (cen f x))]
    refine same_len (List.nodup_range.filter _) (nodup_map (List.nodup_range.filter _) fun u hu v hv he => G.cancel_r a1 (mem_mem.1 hu).1 (mem_mem.1 hv).1 he) fun b => ?_
    rw [List.mem_filter, List.mem_range, decide_eq_true_eq, List.mem_map]
    have key : ∀ b, b < n → (f (f (iv n f e b) x) b = f (f (iv n f e a0) x) a0 ↔ f (f b (iv n f e a0)) x = f x (f b (iv n f e a0))) := by
      intro b hb
      have ib := G.iv_lt hb
      have ia := G.iv_lt a1
      have hbi := G.cl _ _ hb ia
      constructor
      · intro h
        have h1 : f b (f (f (iv n f e b) x) b) = f b (f (f (iv n f e a0) x) a0) := by rw [h]
        rw [← G.assoc b _ b hb (G.cl _ _ ib hx) hb, ← G.assoc b _ x hb ib hx, G.mul_iv hb, G.one_l x hx, ← G.assoc b _ a0 hb (G.cl _ _ ia hx) a1, ← G.assoc b _ x hb ia hx] at h1
        have h2 : f (f x b) (iv n f e a0) = f (f (f (f b (iv n f e a0)) x) a0) (iv n f e a0) := by rw [h1]
        rw [G.assoc _ a0 _ (G.cl _ _ hbi hx) a1 ia, G.mul_iv a1, G.one_r _ (G.cl _ _ hbi hx), G.assoc x b _ hx hb ia] at h2
        exact h2.symm
      · intro h
        refine G.cancel_l hb (G.cl _ _ (G.cl _ _ ib hx) hb) (G.cl _ _ (G.cl _ _ ia hx) a1) ?_
        rw [← G.assoc b _ b hb (G.cl _ _ ib hx) hb, ← G.assoc b _ x hb ib hx, G.mul_iv hb, G.one_l x hx, ← G.assoc b _ a0 hb (G.cl _ _ ia hx) a1, ← G.assoc b _ x hb ia hx, h, G.assoc x _ a0 hx hbi a1, G.assoc b _ a0 hb ia a1, G.iv_mul a1, G.one_r b hb]
    constructor
    · rintro ⟨b1, b2⟩
      refine ⟨f b (iv n f e a0), mem_mem.2 ⟨G.cl _ _ b1 (G.iv_lt a1), cen_iff.2 ((key b b1).1 b2)⟩, ?_⟩
      show f (f b (iv n f e a0)) a0 = b
      rw [G.assoc b _ a0 b1 (G.iv_lt a1) a1, G.iv_mul a1, G.one_r b b1]
    · rintro ⟨c, hc, rfl⟩
      obtain ⟨c1, c2⟩ := mem_mem.1 hc
      rw [cen_iff] at c2
      have hca := G.cl _ _ c1 a1
      refine ⟨hca, (key _ hca).2 ?_⟩
      rw [G.assoc c a0 _ c1 a1 (G.iv_lt a1), G.mul_iv a1, G.one_r c c1]
      exact c2
end
end Go.Proofs.YtjikchbmkodgfaaDoor

/-
  Plain law: classes of conjugate things: how many; things that commute; groups of a prime's power. Conditions: none.
-/
set_option linter.all false
namespace Go.Proofs.YtjikchbmkodgfaaDoor
open Go.Pv

/-- Counting by weights. -/
theorem sum_filterW {α β : Type} (R : α → β → Bool) (g : β → Nat) (L1 : List α) : ∀ L2 : List β, (L1.map fun a => ((L2.filter (R a)).map g).sum).sum = (L2.map fun b => (L1.filter fun a => R a b).length * g b).sum
  | [] => by induction L1 with
    | nil => rfl
    | cons a t ih => simpa using ih
  | b :: t => by
    have ih := sum_filterW R g L1 t
    have : (L1.map fun a => (((b :: t).filter (R a)).map g).sum).sum = (L1.filter fun a => R a b).length * g b + (L1.map fun a => ((t.filter (R a)).map g).sum).sum := by
      clear ih
      induction L1 with
      | nil => simp
      | cons a u ihu =>
        have h1 : (((b :: t).filter (R a)).map g).sum = (if R a b then g b else 0) + ((t.filter (R a)).map g).sum := by
          rw [List.filter_cons]; cases R a b <;> simp
        have h2 : ((a :: u).filter fun a => R a b).length * g b = (if R a b then g b else 0) + (u.filter fun a => R a b).length * g b := by
          rw [List.filter_cons]
          cases R a b
          · simp
          · simp only [if_true, List.length_cons, Nat.succ_mul]; omega
        rw [List.map_cons, List.sum_cons, ihu, List.map_cons, List.sum_cons, h1, h2]
        omega
    rw [this, ih]; simp

section
variable {n : Nat} {f : Nat → Nat → Nat} {e : Nat}

/-- Classes of what is alike are the same. -/
theorem Eqv.row {r : Nat → Nat → Bool} (h : Eqv n r) {x y : Nat} (hx : x < n) (hy : y < n) (hr : r x y = true) : mem n (r x) = mem n (r y) := by
  unfold mem
  refine List.filter_congr fun z hz => ?_
  have z1 := List.mem_range.1 hz
  rw [Bool.eq_iff_iff]
  exact ⟨fun h1 => h.trans y x z hy hx z1 (h.symm x y hx hy hr) h1, fun h1 => h.trans x y z hx hy z1 hr h1⟩

/-- PAIRS that commute are as many as classes, times things. -/
theorem Grp.pairs (G : Grp n f e) : ((List.range n).map fun a => (mem n (cen f a)).length).sum = (mem n (lead (cjb n f e))).length * n := by
  have E := G.cjb_eqv
  have h1 := sum_filterW (fun x y => cjb n f e x y) (fun a => (mem n (cen f a)).length) (mem n (lead (cjb n f e))) (List.range n)
  have h2 : ((List.range n).map fun b => ((mem n (lead (cjb n f e))).filter fun a => cjb n f e a b).length * (mem n (cen f b)).length) = (List.range n).map fun a => (mem n (cen f a)).length :=
    List.map_congr_left fun b hb => by rw [E.one (List.mem_range.1 hb), Nat.one_mul]
  rw [← h2, ← h1]
  refine sum_const fun x hx => ?_
  obtain ⟨x1, _⟩ := mem_mem.1 hx
  have hc := G.cls_count x1
  have h3 : (((List.range n).filter (cjb n f e x)).map fun a => (mem n (cen f a)).length).sum = ((List.range n).filter (cjb n f e x)).length * (mem n (cen f x)).length := by
    refine sum_const fun a ha => ?_
    obtain ⟨a1, a2⟩ := List.mem_filter.1 ha
    have a1 := List.mem_range.1 a1
    have h4 := G.cls_count a1
    rw [← E.row x1 a1 a2] at h4
    have hp : 0 < (mem n (cjb n f e x)).length := List.length_pos_of_mem (mem_mem.2 ⟨x1, E.refl x x1⟩)
    exact Nat.eq_of_mul_eq_mul_right hp (h4.trans hc.symm)
  rw [h3, Nat.mul_comm]
  exact hc

/-- Does a thing commute with all? -/
def zen (n : Nat) (f : Nat → Nat → Nat) (x : Nat) : Bool := decide (∀ b, b < n → f x b = f b x)
theorem zen_iff {x : Nat} : zen n f x = true ↔ ∀ b, b < n → f x b = f b x := by unfold zen; exact decide_eq_true_iff
theorem Grp.cls_zen (G : Grp n f e) {x : Nat} (hx : x < n) : zen n f x = true ↔ ∀ y, y < n → (cjb n f e x y = true ↔ y = x) := by
  rw [zen_iff]
  constructor
  · intro h y hy
    constructor
    · intro hc
      obtain ⟨a, ha, rfl⟩ := cjb_iff.1 hc
      rw [G.assoc _ x a (G.iv_lt ha) hx ha, h a ha, ← G.assoc _ a x (G.iv_lt ha) ha hx, G.iv_mul ha, G.one_l x hx]
    · rintro rfl; exact G.cjb_eqv.refl y hy
  · intro h b hb
    have ib := G.iv_lt hb
    have h1 := (h _ (G.cl _ _ (G.cl _ _ ib hx) hb)).1 (cjb_iff.2 ⟨b, hb, rfl⟩)
    have h2 : f b (f (f (iv n f e b) x) b) = f b x := by rw [h1]
    rwa [← G.assoc b _ b hb (G.cl _ _ ib hx) hb, ← G.assoc b _ x hb ib hx, G.mul_iv hb, G.one_l x hx] at h2
theorem Grp.ones (G : Grp n f e) : ((mem n (lead (cjb n f e))).filter fun x => decide ((mem n (cjb n f e x)).length = 1)).length = (mem n (zen n f)).length := by
  have E := G.cjb_eqv
  refine same_len ((List.nodup_range.filter _).filter _) (List.nodup_range.filter _) fun x => ?_
  rw [List.mem_filter, mem_mem, mem_mem, decide_eq_true_eq]
  constructor
  · rintro ⟨⟨x1, _⟩, h⟩
    refine ⟨x1, (G.cls_zen x1).2 fun y hy => ⟨fun hc => one_mem x1 (E.refl x x1) h hy hc, ?_⟩⟩
    rintro rfl; exact E.refl y hy
  · rintro ⟨x1, h⟩
    have h1 := (G.cls_zen x1).1 h
    refine ⟨⟨x1, lead_iff.2 ⟨E.refl x x1, fun b hb => ?_⟩⟩, mem_one x1 h1⟩
    cases hv : cjb n f e x b with
    | false => rfl
    | true => have := (h1 b (by omega)).1 hv; omega
theorem Grp.cls_all (G : Grp n f e) : (mem n (lead (cjb n f e))).length = n ↔ ∀ a, a < n → ∀ b, b < n → f a b = f b a := by
  have E := G.cjb_eqv
  rw [mem_all]
  constructor
  · intro h a ha
    refine zen_iff.1 ((G.cls_zen ha).2 fun y hy => ⟨fun hc => (E.lead_eq ha hy (h a ha) (h y hy) hc).symm, ?_⟩)
    rintro rfl; exact E.refl y hy
  · intro h a ha
    refine lead_iff.2 ⟨E.refl a ha, fun b hb => ?_⟩
    cases hv : cjb n f e a b with
    | false => rfl
    | true =>
      have := ((G.cls_zen ha).1 (zen_iff.2 (h a ha)) b (by omega)).1 hv
      omega

/-- In sum, but for multiples of p, the ones. -/
theorem sum_mod {α : Type} {p : Nat} {g : α → Nat} : ∀ {l : List α}, (∀ x ∈ l, g x = 1 ∨ p ∣ g x) → p ≠ 1 → ∃ c, (l.map g).sum = (l.filter fun x => decide (g x = 1)).length + p * c
  | [], _, _ => ⟨0, by simp⟩
  | a :: l, h, hp => by
    obtain ⟨c, hc⟩ := sum_mod (l := l) (fun x hx => h x (by simp [hx])) hp
    rcases h a (by simp) with h1 | ⟨d, h1⟩
    · refine ⟨c, ?_⟩
      rw [List.map_cons, List.sum_cons, hc, List.filter_cons, if_pos (by simpa using h1), List.length_cons, h1]; omega
    · refine ⟨c + d, ?_⟩
      have : ¬ g a = 1 := fun h2 => hp (Nat.dvd_one.1 (h2 ▸ ⟨d, h1⟩))
      rw [List.map_cons, List.sum_cons, hc, List.filter_cons, if_neg (by simpa using this), h1, Nat.mul_add]; omega

/-- A number without whole parts, as the laws ask it. -/
def isPr (p : Nat) : Prop := 2 ≤ p ∧ p ≤ 100 ∧ ∀ d, d < p → 2 ≤ d → ¬ p % d = 0
instance (p : Nat) : Decidable (isPr p) := by unfold isPr; infer_instance
theorem isPr.div {p : Nat} (h : isPr p) {d : Nat} (hd : d ∣ p) : d = 1 ∨ d = p := by
  obtain ⟨h1, _, h3⟩ := h
  have hp := Nat.pos_of_dvd_of_pos hd (by omega)
  have hl := Nat.le_of_dvd (by omega) hd
  by_cases hd1 : d = 1
  · exact .inl hd1
  · by_cases hd2 : d = p
    · exact .inr hd2
    · exact absurd (Nat.mod_eq_zero_of_dvd hd) (h3 d (by omega) (by omega))
theorem isPr.cop {p : Nat} (h : isPr p) {s : Nat} (hs : ¬ p ∣ s) : Nat.gcd p s = 1 := by
  rcases h.div (Nat.gcd_dvd_left p s) with h1 | h1
  · exact h1
  · exact absurd (h1 ▸ Nat.gcd_dvd_right p s) hs
/-- What divides a power of p and is not 1 is a multiple of p. -/
theorem isPr.part {p : Nat} (h : isPr p) {k d : Nat} (hd : d ∣ p ^ k) (h1 : d ≠ 1) : p ∣ d := by
  by_cases hp : p ∣ d
  · exact hp
  · exfalso
    have hc : Nat.Coprime d (p ^ k) := Nat.Coprime.pow_right _ (Nat.Coprime.symm (h.cop hp))
    have : d ∣ Nat.gcd d (p ^ k) := Nat.dvd_gcd (Nat.dvd_refl d) hd
    rw [hc] at this
    exact h1 (Nat.dvd_one.1 this)

/-- A power of a prime of things has a centre that is a multiple of the prime. -/
theorem Grp.pcentre (G : Grp n f e) {p k : Nat} (hp : isPr p) (hn : n = p ^ k) (hd : p ∣ n) : p ∣ (mem n (zen n f)).length := by
  have E := G.cjb_eqv
  have hp2 := hp.1
  obtain ⟨c, hc⟩ := sum_mod (p := p) (g := fun x => (mem n (cjb n f e x)).length) (l := mem n (lead (cjb n f e))) (fun x hx => by
    obtain ⟨x1, _⟩ := mem_mem.1 hx
    by_cases h1 : (mem n (cjb n f e x)).length = 1
    · exact .inl h1
    · refine .inr (hp.part (k := k) ?_ h1)
      rw [← hn]
      exact ⟨(mem n (cen f x)).length, by rw [Nat.mul_comm]; exact (G.cls_count x1).symm⟩) (by omega)
  rw [E.sum, G.ones] at hc
  rw [hc] at hd
  exact (Nat.dvd_add_left (Nat.dvd_mul_right p c)).1 hd
end
end Go.Proofs.YtjikchbmkodgfaaDoor

/-
  Conjugated subgroups: normalisers, cores, closures. Conditions: none.
-/
set_option linter.all false
namespace Go.Proofs.YtjikchbmkodgfaaDoor
open Go.Pv

/-- x, conjugated by a. -/
def cjr (n : Nat) (f : Nat → Nat → Nat) (e x a : Nat) : Nat := f (f (iv n f e a) x) a
/-- a^-1 b^-1 a b -/
def cmt (n : Nat) (f : Nat → Nat → Nat) (e a b : Nat) : Nat := f (f (iv n f e a) (iv n f e b)) (f a b)
/-- A set, conjugated. -/
def shf (n : Nat) (f : Nat → Nat → Nat) (e : Nat) (p : Nat → Bool) (a y : Nat) : Bool := decide (∃ x, x < n ∧ p x = true ∧ cjr n f e x a = y)
/-- What lets a set stay. -/
def nzr (n : Nat) (f : Nat → Nat → Nat) (e : Nat) (p : Nat → Bool) (a : Nat) : Bool := decide (∀ y, y < n → shf n f e p a y = p y)
/-- The set stays, whatever it is conjugated by. -/
def Nml (n : Nat) (f : Nat → Nat → Nat) (e : Nat) (p : Nat → Bool) : Prop := ∀ a, a < n → ∀ x, x < n → p x = true → p (cjr n f e x a) = true
def crp (n : Nat) (f : Nat → Nat → Nat) (e : Nat) (p : Nat → Bool) (y : Nat) : Bool := decide (∀ a, a < n → p (cjr n f e y a) = true)
def cup (n : Nat) (f : Nat → Nat → Nat) (e : Nat) (p : Nat → Bool) (y : Nat) : Bool := decide (∃ x, x < n ∧ p x = true ∧ ∃ a, a < n ∧ cjr n f e x a = y)

section
variable {n : Nat} {f : Nat → Nat → Nat} {e : Nat}
theorem shf_iff {p : Nat → Bool} {a y : Nat} : shf n f e p a y = true ↔ ∃ x, x < n ∧ p x = true ∧ cjr n f e x a = y := by unfold shf; exact decide_eq_true_iff
theorem nzr_iff {p : Nat → Bool} {a : Nat} : nzr n f e p a = true ↔ ∀ y, y < n → shf n f e p a y = p y := by unfold nzr; exact decide_eq_true_iff
theorem crp_iff {p : Nat → Bool} {y : Nat} : crp n f e p y = true ↔ ∀ a, a < n → p (cjr n f e y a) = true := by unfold crp; exact decide_eq_true_iff
theorem cup_iff {p : Nat → Bool} {y : Nat} : cup n f e p y = true ↔ ∃ x a, x < n ∧ a < n ∧ p x = true ∧ cjr n f e x a = y := by
  unfold cup; rw [decide_eq_true_iff]
  exact ⟨fun ⟨x, h1, h2, a, h3, h4⟩ => ⟨x, a, h1, h3, h2, h4⟩, fun ⟨x, a, h1, h3, h2, h4⟩ => ⟨x, h1, h2, a, h3, h4⟩⟩

theorem Grp.cjr_lt (G : Grp n f e) {x a : Nat} (hx : x < n) (ha : a < n) : cjr n f e x a < n := G.cl _ _ (G.cl _ _ (G.iv_lt ha) hx) ha
theorem Grp.cjr_cjr (G : Grp n f e) {x a b : Nat} (hx : x < n) (ha : a < n) (hb : b < n) : cjr n f e (cjr n f e x a) b = cjr n f e x (f a b) := G.cjr_mul hx ha hb
theorem Grp.cjr_e (G : Grp n f e) {x : Nat} (hx : x < n) : cjr n f e x e = x := by
  unfold cjr; rw [G.iv_one, G.one_l x hx, G.one_r x hx]
theorem Grp.cjr_iv (G : Grp n f e) {x a : Nat} (hx : x < n) (ha : a < n) : cjr n f e (cjr n f e x a) (iv n f e a) = x := by
  rw [G.cjr_cjr hx ha (G.iv_lt ha), G.mul_iv ha, G.cjr_e hx]
theorem Grp.cjr_vi (G : Grp n f e) {x a : Nat} (hx : x < n) (ha : a < n) : cjr n f e (cjr n f e x (iv n f e a)) a = x := by
  rw [G.cjr_cjr hx (G.iv_lt ha) ha, G.iv_mul ha, G.cjr_e hx]
theorem Grp.cjr_hom (G : Grp n f e) {x y a : Nat} (hx : x < n) (hy : y < n) (ha : a < n) : cjr n f e (f x y) a = f (cjr n f e x a) (cjr n f e y a) := by
  have ia := G.iv_lt ha
  have h1 := G.cl _ _ ia hx
  have h2 := G.cl _ _ ia hy
  have h3 := G.cl _ _ h2 ha
  unfold cjr
  rw [G.assoc (f (iv n f e a) x) a _ h1 ha h3, G.assoc (iv n f e a) y a ia hy ha, ← G.assoc a (iv n f e a) (f y a) ha ia (G.cl _ _ hy ha), G.mul_iv ha, G.one_l _ (G.cl _ _ hy ha), ← G.assoc _ y a h1 hy ha, G.assoc _ x y ia hx hy]
theorem Grp.cjr_one (G : Grp n f e) {a : Nat} (ha : a < n) : cjr n f e e a = e := by
  unfold cjr; rw [G.one_r _ (G.iv_lt ha), G.iv_mul ha]
theorem Grp.iv_cjr (G : Grp n f e) {x a : Nat} (hx : x < n) (ha : a < n) : iv n f e (cjr n f e x a) = cjr n f e (iv n f e x) a :=
  (G.iv_unique (G.cjr_lt hx ha) (G.cjr_lt (G.iv_lt hx) ha) (.inl (by rw [← G.cjr_hom hx (G.iv_lt hx) ha, G.mul_iv hx, G.cjr_one ha]))).symm
theorem Grp.cmt_lt (G : Grp n f e) {a b : Nat} (ha : a < n) (hb : b < n) : cmt n f e a b < n := G.cl _ _ (G.cl _ _ (G.iv_lt ha) (G.iv_lt hb)) (G.cl _ _ ha hb)
theorem Grp.cmt_cjr (G : Grp n f e) {x a : Nat} (hx : x < n) (ha : a < n) : cmt n f e x a = f (iv n f e x) (cjr n f e x a) := by
  have ia := G.iv_lt ha
  unfold cmt cjr
  rw [G.assoc _ _ _ (G.iv_lt hx) ia (G.cl _ _ hx ha), G.assoc _ x a ia hx ha]
theorem Grp.cjr_cmt (G : Grp n f e) {x y a : Nat} (hx : x < n) (hy : y < n) (ha : a < n) : cjr n f e (cmt n f e x y) a = cmt n f e (cjr n f e x a) (cjr n f e y a) := by
  have ix := G.iv_lt hx
  have iy := G.iv_lt hy
  unfold cmt
  rw [G.cjr_hom (G.cl _ _ ix iy) (G.cl _ _ hx hy) ha, G.cjr_hom ix iy ha, G.cjr_hom hx hy ha, G.iv_cjr hx ha, G.iv_cjr hy ha]

theorem Grp.cjr_alt (G : Grp n f e) {x a : Nat} (hx : x < n) (ha : a < n) : f (iv n f e a) (f x a) = cjr n f e x a := (G.assoc _ _ _ (G.iv_lt ha) hx ha).symm
theorem Grp.cmt_alt (G : Grp n f e) {a b : Nat} (ha : a < n) (hb : b < n) : f (iv n f e a) (cjr n f e a b) = cmt n f e a b := by
  have ia := G.iv_lt ha
  have ib := G.iv_lt hb
  unfold cjr cmt
  rw [G.assoc _ _ _ ia ib (G.cl _ _ ha hb), G.assoc _ a b ib ha hb]
/-- A commutator is the one just where both commute. -/
theorem Grp.cmt_one (G : Grp n f e) {a b : Nat} (ha : a < n) (hb : b < n) : cmt n f e a b = e ↔ f a b = f b a := by
  unfold cmt
  have ia := G.iv_lt ha
  have ib := G.iv_lt hb
  rw [← G.iv_prod hb ha]
  have hba := G.cl _ _ hb ha
  constructor
  · intro h
    refine G.cancel_l (G.iv_lt hba) (G.cl _ _ ha hb) hba ?_
    rw [h, G.iv_mul hba]
  · intro h
    rw [h, G.iv_mul hba]
theorem Grp.shf_back (G : Grp n f e) {p : Nat → Bool} {a y : Nat} (ha : a < n) (hy : y < n) : shf n f e p a y = p (cjr n f e y (iv n f e a)) := by
  rw [Bool.eq_iff_iff, shf_iff]
  constructor
  · rintro ⟨x, x1, x2, rfl⟩; rwa [G.cjr_iv x1 ha]
  · intro h; exact ⟨_, G.cjr_lt hy (G.iv_lt ha), h, G.cjr_vi hy ha⟩
theorem Grp.nml_iff (G : Grp n f e) {p : Nat → Bool} : Nml n f e p ↔ ∀ a, a < n → nzr n f e p a = true := by
  constructor
  · intro h a ha
    rw [nzr_iff]
    intro y hy
    rw [G.shf_back ha hy, Bool.eq_iff_iff]
    refine ⟨fun h1 => ?_, fun h1 => h _ (G.iv_lt ha) y hy h1⟩
    have := h a ha _ (G.cjr_lt hy (G.iv_lt ha)) h1
    rwa [G.cjr_vi hy ha] at this
  · intro h a ha x hx hp
    have h1 := nzr_iff.1 (h a ha) _ (G.cjr_lt hx ha)
    rw [G.shf_back ha (G.cjr_lt hx ha), G.cjr_iv hx ha, hp] at h1
    exact h1.symm
/-- A core, as a set's conjugated sets have it. -/
theorem Grp.crp_back (G : Grp n f e) {p : Nat → Bool} {y : Nat} (hy : y < n) : crp n f e p y = true ↔ p y = true ∧ ∀ a, a < n → shf n f e p a y = true := by
  rw [crp_iff]
  constructor
  · intro h
    refine ⟨by have := h e G.el; rwa [G.cjr_e hy] at this, fun a ha => ?_⟩
    rw [G.shf_back ha hy]; exact h _ (G.iv_lt ha)
  · rintro ⟨_, h⟩ a ha
    have := h _ (G.iv_lt ha)
    rwa [G.shf_back (G.iv_lt ha) hy, G.iv_iv ha] at this
theorem Grp.crp_sub (G : Grp n f e) {p : Nat → Bool} (hp : Sub n f e p) : Sub n f e (crp n f e p) :=
  sub_of G (crp_iff.2 fun a ha => by rw [G.cjr_one ha]; exact hp.one) fun x y hx hy h1 h2 => crp_iff.2 fun a ha => by
    rw [G.cjr_hom hx hy ha]
    exact hp.mul _ _ (G.cjr_lt hx ha) (G.cjr_lt hy ha) (crp_iff.1 h1 a ha) (crp_iff.1 h2 a ha)
theorem Grp.crp_nml (G : Grp n f e) (p : Nat → Bool) : Nml n f e (crp n f e p) := fun a ha x hx h => crp_iff.2 fun b hb => by
  rw [G.cjr_cjr hx ha hb]; exact crp_iff.1 h _ (G.cl _ _ ha hb)
theorem Grp.crp_le (G : Grp n f e) {p : Nat → Bool} {y : Nat} (hy : y < n) (h : crp n f e p y = true) : p y = true := by
  have := crp_iff.1 h e G.el; rwa [G.cjr_e hy] at this
theorem Grp.crp_nml_iff (G : Grp n f e) {p : Nat → Bool} : Nml n f e p ↔ ∀ y, y < n → crp n f e p y = p y := by
  constructor
  · intro h y hy
    rw [Bool.eq_iff_iff]
    exact ⟨G.crp_le hy, fun h1 => crp_iff.2 fun a ha => h a ha y hy h1⟩
  · intro h a ha x hx h1
    rw [← h x hx] at h1
    exact crp_iff.1 h1 a ha
/-- What conjugated things make is normal. -/
theorem Grp.gen_nml (G : Grp n f e) {p q : Nat → Bool} (hp : Nml n f e p) (hq : ∀ a, a < n → (q a = true ↔ Gen n f e p a)) : Nml n f e q := fun a ha x hx h => by
  have key : ∀ y, Gen n f e p y → Gen n f e p (cjr n f e y a) := fun y hy => by
    have h1 : ∀ z, Gen n f e p z → z < n ∧ Gen n f e p (cjr n f e z a) := by
      intro z hz
      refine ⟨hz.lt G, ?_⟩
      refine Gen.least (H := fun z => Gen n f e p (cjr n f e z a)) (by rw [G.cjr_one ha]; exact .one) (fun u v gu hv pv hu => ?_) hz
      rw [G.cjr_hom (gu.lt G) hv ha]
      exact .step _ _ hu (G.cjr_lt hv ha) (hp a ha v hv pv)
    exact (h1 y hy).2
  rw [hq _ (G.cjr_lt hx ha)]
  exact key x ((hq x hx).1 h)
theorem Grp.cup_nml (G : Grp n f e) (p : Nat → Bool) : Nml n f e (cup n f e p) := fun a ha x hx h => by
  obtain ⟨z, b, z1, b1, z2, rfl⟩ := cup_iff.1 h
  rw [G.cjr_cjr z1 b1 ha]
  exact cup_iff.2 ⟨z, _, z1, G.cl _ _ b1 ha, z2, rfl⟩
theorem Grp.cup_in (G : Grp n f e) {p : Nat → Bool} {x : Nat} (hx : x < n) (h : p x = true) : cup n f e p x = true := cup_iff.2 ⟨x, e, hx, G.el, h, G.cjr_e hx⟩
/-- A normal subgroup is its own closure; and only such a one. -/
theorem Grp.clo_iff (G : Grp n f e) {p q : Nat → Bool} (hp : Sub n f e p) (hq : ∀ a, a < n → (q a = true ↔ Gen n f e (cup n f e p) a)) : Nml n f e p ↔ ∀ y, y < n → q y = p y := by
  constructor
  · intro h y hy
    rw [Bool.eq_iff_iff, hq y hy]
    refine ⟨fun h1 => h1.sub G hp fun b hb hc => ?_, fun h1 => .mem G hy (G.cup_in hy h1)⟩
    obtain ⟨z, c, z1, c1, z2, rfl⟩ := cup_iff.1 hc
    exact h c c1 z z1 z2
  · intro h a ha x hx h1
    have := G.gen_nml (G.cup_nml p) hq a ha x hx (by rw [h x hx]; exact h1)
    rwa [h _ (G.cjr_lt hx ha)] at this
theorem Grp.zen_nml (G : Grp n f e) : Nml n f e (zen n f) := fun a ha x hx h => by
  have h1 := zen_iff.1 h
  have : cjr n f e x a = x := by
    unfold cjr
    rw [G.assoc _ x a (G.iv_lt ha) hx ha, h1 a ha, ← G.assoc _ a x (G.iv_lt ha) ha hx, G.iv_mul ha, G.one_l x hx]
  rw [this]; exact h
theorem Grp.zen_sub (G : Grp n f e) : Sub n f e (zen n f) :=
  sub_of G (zen_iff.2 fun b hb => by rw [G.one_l b hb, G.one_r b hb]) fun x y hx hy h1 h2 => zen_iff.2 fun b hb => by
    rw [G.assoc x y b hx hy hb, zen_iff.1 h2 b hb, ← G.assoc x b y hx hb hy, zen_iff.1 h1 b hb, G.assoc b x y hb hx hy]
/-- What normalises a subgroup is a subgroup; the subgroup is in it. -/
theorem Grp.nzr_in (G : Grp n f e) {p : Nat → Bool} (hp : Sub n f e p) {a : Nat} (ha : a < n) (h : p a = true) : nzr n f e p a = true := nzr_iff.2 fun y hy => by
  have ia := G.iv_lt ha
  have h1 := hp.inv a ha h
  rw [G.shf_back ha hy, Bool.eq_iff_iff]
  unfold cjr
  rw [G.iv_iv ha]
  constructor
  · intro h2
    have h3 := hp.mul _ _ (G.cl _ _ ia (G.cl _ _ (G.cl _ _ ha hy) ia)) ha (hp.mul _ _ ia (G.cl _ _ (G.cl _ _ ha hy) ia) h1 h2) h
    have : f (f (iv n f e a) (f (f a y) (iv n f e a))) a = y := by
      have := G.cjr_cjr hy ia ha
      unfold cjr at this
      rw [G.iv_iv ha, G.iv_mul ha] at this
      rw [this]; exact G.cjr_e hy
    rwa [this] at h3
  · intro h2
    exact hp.mul _ _ (G.cl _ _ ha hy) ia (hp.mul _ _ ha hy h h2) h1
theorem Grp.nzr_zen (G : Grp n f e) {p : Nat → Bool} {a : Nat} (ha : a < n) (h : zen n f a = true) : nzr n f e p a = true := nzr_iff.2 fun y hy => by
  have h1 := zen_iff.1 h
  have : cjr n f e y (iv n f e a) = y := by
    unfold cjr
    rw [G.iv_iv ha, h1 y hy, G.assoc y a _ hy ha (G.iv_lt ha), G.mul_iv ha, G.one_r y hy]
  rw [G.shf_back ha hy, this]
end
end Go.Proofs.YtjikchbmkodgfaaDoor

/-
  Sets of things: conjugated things, commutators, what they make. Conditions: none.
-/
set_option linter.all false
namespace Go.Proofs.YtjikchbmkodgfaaDoor
open Go.Pv

theorem truth (q : Prop) : ∃ b : Bool, b = true ↔ q := ⟨@decide q (Classical.propDecidable q), @decide_eq_true_iff q (Classical.propDecidable q)⟩
theorem thl_rng2 {n : Nat} {p : Nat → Bool} : ∀ x ∈ thl n p, ∃ a, a < n ∧ x = ((a : Nat) : Int) := fun x hx => by
  obtain ⟨a, h1, _, h3⟩ := mem_thl.1 hx
  exact ⟨a, h1, h3⟩
/-- What a list of a set makes is what the set makes. -/
theorem gen_tst {n e : Nat} {f : Nat → Nat → Nat} {p : Nat → Bool} {a : Nat} : Gen n f e (tst (thl n p)) a ↔ Gen n f e p a :=
  ⟨Gen.mono fun b hb h => by rwa [tst_thl hb] at h, Gen.mono fun b hb h => by rwa [tst_thl hb]⟩

theorem conj_s {n e : Nat} {m : List Int} (h : GT n m n e) {x a : Nat} (hx : x < n) (ha : a < n) : FnC Tryd.prog 122 [gp n m, .int .i64 x, .int .i64 a] (.int .i64 (cjr n (op m n) e x a : Nat)) := by
  have G := h.2.2
  have ia := G.iv_lt ha
  refine fnc_of tab_ok Tryd.func122 rfl (by kernel_rfl) (by rw [Tryd.ntmps122]; exact Nat.le_add_left 3 _) ?_; rw [Tryd.ntmps122]
  refine qm ?_
  refine hk_region fun K hK => runs_eval tab_ok ?_
  simp only [ev0, evA, evB, evP, fl, gp, tab, simprocAttr, reduceCtorEq, reduceIte]
  refine fin_run ?_ (hK _ ?_) <;> clear hK <;> clear K
  · (first | exact trivial | omega | (simp only [In64] at *; omega) | (simp [In64] at *; omega) | (simp_all; done) | skip)
  refine qa (qm ?_)
  refine hk_draw mixed (by kernel_rfl) fun K hK => runs_eval tab_ok ?_
  simp only [ev0, evA, evB, evP, fl, gp, tab, simprocAttr, reduceCtorEq, reduceIte]
  refine fin_stop trivial (runs_call (invOf_c h ha) rfl rfl rfl (by simp only [dstOk, Nat.reduceLT]) (by repeat (first | exact trivial | constructor)) (runs_eval tab_ok ?_))
  simp only [ev0, evA, evB, evP, fl, gp, tab, simprocAttr, reduceCtorEq, reduceIte]
  refine fin_stop trivial (runs_call (of_c h.2.1 ia hx) rfl rfl rfl (by simp only [dstOk, Nat.reduceLT]) (by repeat (first | exact trivial | constructor)) (runs_eval tab_ok ?_))
  simp only [ev0, evA, evB, evP, fl, gp, tab, simprocAttr, reduceCtorEq, reduceIte]
  refine fin_stop trivial (runs_call (of_c h.2.1 (G.cl _ _ ia hx) ha) rfl rfl rfl (by simp only [dstOk, Nat.reduceLT]) (by repeat (first | exact trivial | constructor)) (runs_eval tab_ok ?_))
  simp only [ev0, evA, evB, evP, fl, gp, tab, simprocAttr, reduceCtorEq, reduceIte]
  refine fin_run ?_ (hK _ ?_) <;> clear hK <;> clear K
  · (first | exact trivial | omega | (simp only [In64] at *; omega) | (simp [In64] at *; omega) | (simp_all; done) | skip)
  refine qa (qk ?_)
  simp only [Tryd.results122, enA, ev0, evA, evB, evP, fl, gp, tab, simprocAttr, reduceCtorEq, reduceIte]
  all_goals (rfl)
theorem c_r {n e : Nat} {m : List Int} (h : GT n m n e) {x a : Nat} (hx : x < n) (ha : a < n) : FnC Tryd.prog 94 [gp n m, .int .i64 x, .int .i64 a] (.int .i64 (cjr n (op m n) e x a : Nat)) := by
  have G := h.2.2
  have ia := G.iv_lt ha
  refine fnc_of tab_ok Tryd.func94 rfl (by kernel_rfl) (by rw [Tryd.ntmps94]; exact Nat.le_add_left 3 _) ?_; rw [Tryd.ntmps94]
  refine qm ?_
  refine hk_region fun K hK => runs_eval tab_ok ?_
  simp only [ev0, evA, evB, evP, fl, gp, tab, simprocAttr, reduceCtorEq, reduceIte]
  refine fin_run ?_ (hK _ ?_) <;> clear hK <;> clear K
  · (first | exact trivial | omega | (simp only [In64] at *; omega) | (simp [In64] at *; omega) | (simp_all; done) | skip)
  refine qa (qm ?_)
  refine hk_draw mixed (by kernel_rfl) fun K hK => runs_eval tab_ok ?_
  simp only [ev0, evA, evB, evP, fl, gp, tab, simprocAttr, reduceCtorEq, reduceIte]
  refine fin_stop trivial (runs_call (i_c h.2.1 ha) rfl rfl rfl (by simp only [dstOk, Nat.reduceLT]) (by repeat (first | exact trivial | constructor)) (runs_eval tab_ok ?_))
  simp only [ev0, evA, evB, evP, fl, gp, tab, simprocAttr, reduceCtorEq, reduceIte, h.iI ha]
  refine fin_stop trivial (runs_call (m_c h.2.1 hx ha) rfl rfl rfl (by simp only [dstOk, Nat.reduceLT]) (by repeat (first | exact trivial | constructor)) (runs_eval tab_ok ?_))
  simp only [ev0, evA, evB, evP, fl, gp, tab, simprocAttr, reduceCtorEq, reduceIte]
  refine fin_stop trivial (runs_call (m_c h.2.1 ia (G.cl _ _ hx ha)) rfl rfl rfl (by simp only [dstOk, Nat.reduceLT]) (by repeat (first | exact trivial | constructor)) (runs_eval tab_ok ?_))
  simp only [ev0, evA, evB, evP, fl, gp, tab, simprocAttr, reduceCtorEq, reduceIte]
  refine fin_run ?_ (hK _ ?_) <;> clear hK <;> clear K
  · (first | exact trivial | omega | (simp only [In64] at *; omega) | (simp [In64] at *; omega) | (simp_all; done) | skip)
  refine qa (qk ?_)
  simp only [Tryd.results94, enA, ev0, evA, evB, evP, fl, gp, tab, simprocAttr, reduceCtorEq, reduceIte]
  all_goals (rw [G.cjr_alt hx ha])
theorem commOf_s {n e : Nat} {m : List Int} (h : GT n m n e) {a b : Nat} (ha : a < n) (hb : b < n) : FnC Tryd.prog 105 [gp n m, .int .i64 a, .int .i64 b] (.int .i64 (cmt n (op m n) e a b : Nat)) := by
  have G := h.2.2
  refine fnc_of tab_ok Tryd.func105 rfl (by kernel_rfl) (by rw [Tryd.ntmps105]; exact Nat.le_add_left 3 _) ?_; rw [Tryd.ntmps105]
  refine qm ?_
  refine hk_region fun K hK => runs_eval tab_ok ?_
  simp only [ev0, evA, evB, evP, fl, gp, tab, simprocAttr, reduceCtorEq, reduceIte]
  refine fin_run ?_ (hK _ ?_) <;> clear hK <;> clear K
  · (first | exact trivial | omega | (simp only [In64] at *; omega) | (simp [In64] at *; omega) | (simp_all; done) | skip)
  refine qa (qm ?_)
  refine hk_draw mixed (by kernel_rfl) fun K hK => runs_eval tab_ok ?_
  simp only [ev0, evA, evB, evP, fl, gp, tab, simprocAttr, reduceCtorEq, reduceIte]
  refine fin_stop trivial (runs_call (invOf_c h ha) rfl rfl rfl (by simp only [dstOk, Nat.reduceLT]) (by repeat (first | exact trivial | constructor)) (runs_eval tab_ok ?_))
  simp only [ev0, evA, evB, evP, fl, gp, tab, simprocAttr, reduceCtorEq, reduceIte]
  refine fin_stop trivial (runs_call (conj_s h ha hb) rfl rfl rfl (by simp only [dstOk, Nat.reduceLT]) (by repeat (first | exact trivial | constructor)) (runs_eval tab_ok ?_))
  simp only [ev0, evA, evB, evP, fl, gp, tab, simprocAttr, reduceCtorEq, reduceIte]
  refine fin_stop trivial (runs_call (of_c h.2.1 (G.iv_lt ha) (G.cjr_lt ha hb)) rfl rfl rfl (by simp only [dstOk, Nat.reduceLT]) (by repeat (first | exact trivial | constructor)) (runs_eval tab_ok ?_))
  simp only [ev0, evA, evB, evP, fl, gp, tab, simprocAttr, reduceCtorEq, reduceIte]
  refine fin_run ?_ (hK _ ?_) <;> clear hK <;> clear K
  · (first | exact trivial | omega | (simp only [In64] at *; omega) | (simp [In64] at *; omega) | (simp_all; done) | skip)
  refine qa (qk ?_)
  simp only [Tryd.results105, enA, ev0, evA, evB, evP, fl, gp, tab, simprocAttr, reduceCtorEq, reduceIte]
  all_goals (rw [G.cmt_alt ha hb])
/-! ### Commutators of two lists -/

def cmr (n : Nat) (f : Nat → Nat → Nat) (e : Nat) (a : Int) (lb : List Int) : List Int := lb.map fun b => ((cmt n f e a.toNat b.toNat : Nat) : Int)
def cml (n : Nat) (f : Nat → Nat → Nat) (e : Nat) (la lb : List Int) : List Int := la.flatMap fun a => cmr n f e a lb

theorem cml_succ (n : Nat) (f : Nat → Nat → Nat) (e : Nat) {la : List Int} (lb : List Int) {i : Nat} (hi : i < la.length) : cml n f e (la.take (i + 1)) lb = cml n f e (la.take i) lb ++ cmr n f e (la.getD i 0) lb := by
  unfold cml
  rw [List.take_succ_eq_append_getElem hi, List.flatMap_append]
  congr 1
  have : la[i] = la.getD i 0 := by simp [List.getD, List.getElem?_eq_getElem hi]
  rw [this]; simp
theorem cmr_succ (n : Nat) (f : Nat → Nat → Nat) (e : Nat) (a : Int) {lb : List Int} {j : Nat} (hj : j < lb.length) : cmr n f e a (lb.take (j + 1)) = cmr n f e a (lb.take j) ++ [((cmt n f e a.toNat (lb.getD j 0).toNat : Nat) : Int)] := by
  unfold cmr
  rw [List.take_succ_eq_append_getElem hj, List.map_append]
  have : lb[j] = lb.getD j 0 := by simp [List.getD, List.getElem?_eq_getElem hj]
  rw [this]; rfl
theorem cml_len (n : Nat) (f : Nat → Nat → Nat) (e : Nat) (lb : List Int) : ∀ la : List Int, (cml n f e la lb).length = la.length * lb.length
  | [] => by simp [cml]
  | a :: la => by
    have := cml_len n f e lb la
    unfold cml at this ⊢
    rw [List.flatMap_cons, List.length_append, this]
    simp [cmr, Nat.add_mul, Nat.add_comm]
theorem mem_cml {n e : Nat} {f : Nat → Nat → Nat} {p r : Nat → Bool} {x : Int} : x ∈ cml n f e (thl n p) (thl n r) ↔ ∃ a b, a < n ∧ b < n ∧ p a = true ∧ r b = true ∧ x = ((cmt n f e a b : Nat) : Int) := by
  unfold cml cmr
  rw [List.mem_flatMap]
  constructor
  · rintro ⟨y, hy, hx⟩
    obtain ⟨z, hz, rfl⟩ := List.mem_map.1 hx
    obtain ⟨a, a1, a2, rfl⟩ := mem_thl.1 hy
    obtain ⟨b, b1, b2, rfl⟩ := mem_thl.1 hz
    exact ⟨a, b, a1, b1, a2, b2, by simp⟩
  · rintro ⟨a, b, a1, b1, a2, b2, rfl⟩
    exact ⟨(a : Int), (mem_thl_n a1).2 a2, List.mem_map.2 ⟨(b : Int), (mem_thl_n b1).2 b2, by simp⟩⟩
theorem cml_rng {n e : Nat} {f : Nat → Nat → Nat} (G : Grp n f e) {p r : Nat → Bool} : ∀ x ∈ cml n f e (thl n p) (thl n r), ∃ a, a < n ∧ x = ((a : Nat) : Int) := fun x hx => by
  obtain ⟨a, b, a1, b1, _, _, rfl⟩ := mem_cml.1 hx
  exact ⟨_, G.cmt_lt a1 b1, rfl⟩
/-- The bits of a list make what the list makes. -/
theorem gen_msk {n e : Nat} {f : Nat → Nat → Nat} {l : List Int} (hl : ∀ x ∈ l, ∃ a, a < n ∧ x = ((a : Nat) : Int)) {a : Nat} : Gen n f e (msk l).testBit a ↔ Gen n f e (tst l) a := by
  have key : ∀ b, (msk l).testBit b = tst l b := fun b => by
    rw [msk_bit]
    unfold tst
    refine decide_eq_decide.2 ⟨?_, fun h => ⟨_, h, by simp⟩⟩
    rintro ⟨x, hx, rfl⟩
    obtain ⟨c, _, rfl⟩ := hl x hx
    simpa using hx
  have : (msk l).testBit = tst l := funext key
  rw [this]

theorem derive_s {n e : Nat} {m : List Int} (h : GT n m n e) (p r q : Nat → Bool) (hq : ∀ a, a < n → (q a = true ↔ Gen n (op m n) e (tst (cml n (op m n) e (thl n p) (thl n r))) a)) :
    FnC Tryd.prog 102 [gp n m, .int .u64 (bo n p), .int .u64 (bo n r)] (.int .u64 (bo n q)) := by
  have G := h.2.2
  have hb := h.2.1.big
  have hlp := thl_le n p
  have hlr := thl_le n r
  refine fnc_of tab_ok Tryd.func102 rfl (by kernel_rfl) (by rw [Tryd.ntmps102]; exact Nat.le_add_left 3 _) ?_; rw [Tryd.ntmps102]
  refine qm ?_
  refine hk_region fun K hK => runs_eval tab_ok ?_
  simp only [ev0, evA, evB, evP, fl, gp, tab, simprocAttr, reduceCtorEq, reduceIte]
  refine fin_run ?_ (hK _ ?_) <;> clear hK <;> clear K
  · (first | exact trivial | omega | (simp only [In64] at *; omega) | (simp [In64] at *; omega) | (simp_all; done) | skip)
  refine qa (qm ?_)
  refine hk_region fun K hK => runs_eval tab_ok ?_
  simp only [ev0, evA, evB, evP, fl, gp, tab, simprocAttr, reduceCtorEq, reduceIte]
  refine fin_run trivial (hK _ ?_) <;> clear hK <;> clear K
  refine qa (qm (qm ?_))
  refine hk_region fun K hK => runs_eval tab_ok ?_
  simp only [ev0, evA, evB, evP, fl, gp, tab, simprocAttr, reduceCtorEq, reduceIte]
  refine fin_stop trivial (runs_call (list_s (bo n p) (bo_lt64 hb p)) rfl rfl rfl (by simp only [dstOk, Nat.reduceLT]) (by repeat (first | exact trivial | constructor)) (runs_eval tab_ok ?_))
  simp only [ev0, evA, evB, evP, fl, gp, tab, simprocAttr, reduceCtorEq, reduceIte, stl_bo hb, il_length]
  refine fin_run trivial (hK _ ?_) <;> clear hK <;> clear K
  refine qa (ql ?_)
  refine hk_loop (ι := Nat) (fun i => ⟨38, [(2, .p (.int .u64 (bo n r))), (3, .ptr 0 0), (7, .p (.int .u64 (msk (cml n (op m n) e ((thl n p).take i) (thl n r))))), (13, .p (.list (il (thl n p)))), (14, .p (.int .i64 (thl n p).length)), (15, .p (.int .i64 i))], [.own [.p (.int .i64 n), .p (.list (il m))]]⟩) (fun i => i ≤ (thl n p).length) (fun i => (thl n p).length - i) 0 (Nat.zero_le _) [0] (by simp only [leq, leA, ev0, evA, evB, evP, fl, gp, tab, simprocAttr, reduceCtorEq, reduceIte] <;> first | trivial | simp [cml, msk]) fun i hi => ?_
  refine qm ?_
  refine hk_region fun K hK => runs_eval tab_ok ?_
  simp only [ev0, evA, evB, evP, fl, gp, tab, simprocAttr, reduceCtorEq, reduceIte]
  refine fin_run trivial (hK _ ?_) <;> clear hK <;> clear K
  refine qa (qm ?_)
  refine hk_cond rfl (fun hC1 => ?_) (fun hC1 => ?_)
  · (try simp only [nhs] at hC1)
    have hlt : i < (thl n p).length := by omega
    obtain ⟨x, x1, x2, x3⟩ := thl_get hlt
    refine qh (qa (qm (ql (qm ?_))))
    refine hk_region fun K hK => runs_eval tab_ok ?_
    simp only [ev0, evA, evB, evP, fl, gp, tab, simprocAttr, reduceCtorEq, reduceIte, il_get hlt, x3]
    refine fin_run ?_ (hK _ ?_) <;> clear hK <;> clear K
    · (first | exact trivial | omega | (simp only [In64] at *; omega) | (simp [In64] at *; omega) | (simp_all; done) | skip)
    refine qa (qm ?_)
    refine hk_region fun K hK => runs_eval tab_ok ?_
    simp only [ev0, evA, evB, evP, fl, gp, tab, simprocAttr, reduceCtorEq, reduceIte]
    refine fin_stop trivial (runs_call (list_s (bo n r) (bo_lt64 hb r)) rfl rfl rfl (by simp only [dstOk, Nat.reduceLT]) (by repeat (first | exact trivial | constructor)) (runs_eval tab_ok ?_))
    simp only [ev0, evA, evB, evP, fl, gp, tab, simprocAttr, reduceCtorEq, reduceIte, stl_bo hb, il_length]
    refine fin_run trivial (hK _ ?_) <;> clear hK <;> clear K
    refine qa (ql ?_)
    refine hk_loop (ι := Nat) (fun j => ⟨38, [(2, .p (.int .u64 (bo n r))), (3, .ptr 0 0), (7, .p (.int .u64 (msk (cml n (op m n) e ((thl n p).take i) (thl n r) ++ cmr n (op m n) e x ((thl n r).take j))))), (9, .p (.int .i64 x)), (13, .p (.list (il (thl n p)))), (14, .p (.int .i64 (thl n p).length)), (15, .p (.int .i64 i)), (20, .p (.list (il (thl n r)))), (21, .p (.int .i64 (thl n r).length)), (22, .p (.int .i64 j))], [.own [.p (.int .i64 n), .p (.list (il m))]]⟩) (fun j => j ≤ (thl n r).length) (fun j => (thl n r).length - j) 0 (Nat.zero_le _) [0] (by simp only [leq, leA, ev0, evA, evB, evP, fl, gp, tab, simprocAttr, reduceCtorEq, reduceIte] <;> first | trivial | simp [cmr]) fun j hj => ?_
    refine qm ?_
    refine hk_region fun K hK => runs_eval tab_ok ?_
    simp only [ev0, evA, evB, evP, fl, gp, tab, simprocAttr, reduceCtorEq, reduceIte]
    refine fin_run trivial (hK _ ?_) <;> clear hK <;> clear K
    refine qa (qm ?_)
    refine hk_cond rfl (fun hC2 => ?_) (fun hC2 => ?_)
    · (try simp only [nhs] at hC2)
      have hjl : j < (thl n r).length := by omega
      obtain ⟨y, y1, y2, y3⟩ := thl_get hjl
      have hc := G.cmt_lt x1 y1
      have hp := pow_lt64 (b := cmt n (op m n) e x y) (by omega)
      have hall : ∀ z ∈ cml n (op m n) e ((thl n p).take i) (thl n r) ++ cmr n (op m n) e x ((thl n r).take j), z.toNat < n := fun z hz => by
        rcases List.mem_append.1 hz with hz | hz
        · obtain ⟨u, hu, hv⟩ := List.mem_flatMap.1 hz
          obtain ⟨w, hw, rfl⟩ := List.mem_map.1 hv
          obtain ⟨u', u1, u2⟩ := thl_rng2 u (List.mem_of_mem_take hu)
          obtain ⟨w', w1, w2⟩ := thl_rng2 w hw
          subst u2; subst w2
          exact G.cmt_lt u1 w1
        · obtain ⟨w, hw, rfl⟩ := List.mem_map.1 hz
          obtain ⟨w', w1, w2⟩ := thl_rng2 w (List.mem_of_mem_take hw)
          subst w2
          exact G.cmt_lt x1 w1
      have hm := lt64 hb (msk_lt hall)
      refine qh (qa (qm (ql (qm ?_))))
      refine hk_region fun K hK => runs_eval tab_ok ?_
      simp only [ev0, evA, evB, evP, fl, gp, tab, simprocAttr, reduceCtorEq, reduceIte, il_get hjl, y3]
      refine fin_run ?_ (hK _ ?_) <;> clear hK <;> clear K
      · (first | exact trivial | omega | (simp only [In64] at *; omega) | (simp [In64] at *; omega) | (simp_all; done) | skip)
      refine qa ?_
      refine hk_region fun K hK => runs_eval tab_ok ?_
      simp only [ev0, evA, evB, evP, fl, gp, tab, simprocAttr, reduceCtorEq, reduceIte]
      refine fin_stop trivial (runs_call (commOf_s h x1 y1) rfl rfl rfl (by simp only [dstOk, Nat.reduceLT]) (by repeat (first | exact trivial | constructor)) (runs_eval tab_ok ?_))
      simp only [ev0, evA, evB, evP, fl, gp, tab, simprocAttr, reduceCtorEq, reduceIte, shl_one (show cmt n (op m n) e x y < 64 by omega), bv_or hm hp]
      refine fin_run ?_ (hK _ ?_) <;> clear hK <;> clear K
      · (first | exact trivial | omega | (simp only [In64] at *; omega) | (simp [In64] at *; omega) | (simp_all; done) | skip)
      refine qd (qa ?_)
      refine hk_region fun K hK => runs_eval tab_ok ?_
      simp only [ev0, evA, evB, evP, fl, gp, tab, simprocAttr, reduceCtorEq, reduceIte]
      refine fin_run ?_ (hK _ ?_) <;> clear hK <;> clear K
      · (first | exact trivial | omega | (simp only [In64] at *; omega) | (simp [In64] at *; omega) | (simp_all; done) | skip)
      refine qa ?_
      refine ⟨j + 1, [0], by omega, by omega, ?_⟩
      rw [cmr_succ n (op m n) e x hjl, ← List.append_assoc, msk_snoc, y3]
      simp only [leq, leA, ev0, evA, evB, evP, fl, gp, tab, simprocAttr, reduceCtorEq, reduceIte] <;> first | trivial | omega
    · (try simp only [nhs] at hC2)
      have hjn : j = (thl n r).length := by omega
      rw [hjn, List.take_length]
      refine qj (qc (qc (qf (qd (qa ?_)))))
      refine hk_region fun K hK => runs_eval tab_ok ?_
      simp only [ev0, evA, evB, evP, fl, gp, tab, simprocAttr, reduceCtorEq, reduceIte]
      refine fin_run ?_ (hK _ ?_) <;> clear hK <;> clear K
      · (first | exact trivial | omega | (simp only [In64] at *; omega) | (simp [In64] at *; omega) | (simp_all; done) | skip)
      refine qa ?_
      refine ⟨i + 1, [0], by omega, by omega, ?_⟩
      rw [cml_succ n (op m n) e (thl n r) hlt, x3]
      simp only [leq, leA, ev0, evA, evB, evP, fl, gp, tab, simprocAttr, reduceCtorEq, reduceIte] <;> first | trivial | omega
  · (try simp only [nhs] at hC1)
    have hin : i = (thl n p).length := by omega
    rw [hin, List.take_length]
    refine qj (qc (qc (qf (qa (qm ?_)))))
    refine hk_region fun K hK => runs_eval tab_ok ?_
    simp only [ev0, evA, evB, evP, fl, gp, tab, simprocAttr, reduceCtorEq, reduceIte]
    refine fin_stop trivial (runs_call (grow_c h (msk (cml n (op m n) e (thl n p) (thl n r))) (msk_lt fun z hz => by obtain ⟨a, a1, rfl⟩ := cml_rng G z hz; simpa using a1) q (fun a ha => by rw [gen_msk (cml_rng G)]; exact hq a ha)) rfl rfl rfl (by simp only [dstOk, Nat.reduceLT]) (by repeat (first | exact trivial | constructor)) (runs_eval tab_ok ?_))
    simp only [ev0, evA, evB, evP, fl, gp, tab, simprocAttr, reduceCtorEq, reduceIte]
    refine fin_run ?_ (hK _ ?_) <;> clear hK <;> clear K
    · (first | exact trivial | omega | (simp only [In64] at *; omega) | (simp [In64] at *; omega) | (simp_all; done) | skip)
    refine qa (qk ?_)
    simp only [Tryd.results102, enA, ev0, evA, evB, evP, fl, gp, tab, simprocAttr, reduceCtorEq, reduceIte]
    all_goals (rfl)

/-! ### Small words -/

theorem parted_r (n : Nat) (p q : Nat → Bool) (hn : n ≤ 60) (b : Bool) (hb : b = true ↔ ∀ a, a < n → p a = true → q a = true) : FnC Tryd.prog 54 [.list (il (thl n p)), .list (il (thl n q))] (.bool b) := by
  have hlp := thl_le n p
  have hlq := thl_le n q
  refine fnc_of tab_ok Tryd.func54 rfl (by kernel_rfl) (by rw [Tryd.ntmps54]; exact Nat.le_add_left 2 _) ?_; rw [Tryd.ntmps54]
  refine qm ?_
  refine hk_region fun K hK => runs_eval tab_ok ?_
  simp only [ev0, evA, evB, evP, fl, gp, tab, simprocAttr, reduceCtorEq, reduceIte]
  refine fin_run trivial (hK _ ?_) <;> clear hK <;> clear K
  refine qa (qm (qm ?_))
  refine hk_region fun K hK => runs_eval tab_ok ?_
  simp only [ev0, evA, evB, evP, fl, gp, tab, simprocAttr, reduceCtorEq, reduceIte]
  refine fin_run trivial (hK _ ?_) <;> clear hK <;> clear K
  refine qa (ql ?_)
  refine hk_loop (ι := Nat) (fun i => ⟨19, [(0, .p (.list (il (thl n p)))), (1, .p (.list (il (thl n q)))), (5, .p (.int .i64 i))], []⟩) (fun i => i ≤ (thl n p).length ∧ ∀ j, j < i → q ((thl n p).getD j 0).toNat = true) (fun i => (thl n p).length - i) 0 ⟨Nat.zero_le _, fun j hj => by omega⟩ [] (by simp only [leq, leA, ev0, evA, evB, evP, fl, gp, tab, simprocAttr, reduceCtorEq, reduceIte] <;> trivial) fun i hi => ?_
  obtain ⟨hi1, hi2⟩ := hi
  refine qm (qm ?_)
  refine hk_region fun K hK => runs_eval tab_ok ?_
  simp only [ev0, evA, evB, evP, fl, gp, tab, simprocAttr, reduceCtorEq, reduceIte]
  refine fin_run trivial (hK _ ?_) <;> clear hK <;> clear K
  refine qa ?_
  refine hk_cond rfl (fun hC1 => ?_) (fun hC1 => ?_)
  · (try simp only [nhs] at hC1)
    have hlt : i < (thl n p).length := by omega
    obtain ⟨x, x1, x2, x3⟩ := thl_get hlt
    refine qh (qa (qm (ql (qm ?_))))
    refine hk_region fun K hK => runs_eval tab_ok ?_
    simp only [ev0, evA, evB, evP, fl, gp, tab, simprocAttr, reduceCtorEq, reduceIte, il_get hlt, x3]
    refine fin_stop ?_ (runs_call (has_r (thl n q) x (by omega)) rfl rfl rfl (by simp only [dstOk, Nat.reduceLT]) (by repeat (first | exact trivial | constructor)) (runs_eval tab_ok ?_))
    · (first | exact trivial | omega | (simp only [In64] at *; omega) | (simp [In64] at *; omega) | (simp_all; done) | skip)
    simp only [ev0, evA, evB, evP, fl, gp, tab, simprocAttr, reduceCtorEq, reduceIte, il_get hlt, x3]
    refine fin_run ?_ (hK _ ?_) <;> clear hK <;> clear K
    · (first | exact trivial | omega | (simp only [In64] at *; omega) | (simp [In64] at *; omega) | (simp_all; done) | skip)
    refine qa ?_
    refine hk_cond rfl (fun hC2 => ?_) (fun hC2 => ?_)
    · (try simp only [nhs] at hC2)
      refine qm ?_
      refine hk_region fun K hK => runs_eval tab_ok ?_
      simp only [ev0, evA, evB, evP, fl, gp, tab, simprocAttr, reduceCtorEq, reduceIte]
      refine fin_run trivial (hK _ ?_) <;> clear hK <;> clear K
      refine qa (qk (qe (qb (qb (qe (qb ?_))))))
      simp only [Tryd.results54, enA, ev0, evA, evB, evP, fl, gp, tab, simprocAttr, reduceCtorEq, reduceIte]
      cases b with
      | false => rfl
      | true => exact absurd ((mem_thl_n x1).2 (hb.1 rfl x x1 x2)) (by simpa using hC2)
    · (try simp only [nhs] at hC2)
      have hx : q x = true := (mem_thl_n x1).1 hC2
      refine qh (qd (qa ?_))
      refine hk_region fun K hK => runs_eval tab_ok ?_
      simp only [ev0, evA, evB, evP, fl, gp, tab, simprocAttr, reduceCtorEq, reduceIte]
      refine fin_run ?_ (hK _ ?_) <;> clear hK <;> clear K
      · (first | exact trivial | omega | (simp only [In64] at *; omega) | (simp [In64] at *; omega) | (simp_all; done) | skip)
      refine qa ?_
      refine ⟨i + 1, [], ⟨by omega, fun j hj => ?_⟩, by omega, ?_⟩
      · by_cases hj2 : j = i
        · subst hj2; rw [x3, Int.toNat_natCast]; exact hx
        · exact hi2 j (by omega)
      · simp only [leq, leA, ev0, evA, evB, evP, fl, gp, tab, simprocAttr, reduceCtorEq, reduceIte] <;> omega
  · (try simp only [nhs] at hC1)
    refine qj (qc (qc (qf (qa (qm ?_)))))
    refine hk_region fun K hK => runs_eval tab_ok ?_
    simp only [ev0, evA, evB, evP, fl, gp, tab, simprocAttr, reduceCtorEq, reduceIte]
    refine fin_run trivial (hK _ ?_) <;> clear hK <;> clear K
    refine qa (qk ?_)
    simp only [Tryd.results54, enA, ev0, evA, evB, evP, fl, gp, tab, simprocAttr, reduceCtorEq, reduceIte]
    rw [eq_comm, hb]
    intro a ha h1
    obtain ⟨j, j1, j2⟩ := thl_at ha h1
    have := hi2 j (by omega)
    rwa [j2, Int.toNat_natCast] at this
end Go.Proofs.YtjikchbmkodgfaaDoor
