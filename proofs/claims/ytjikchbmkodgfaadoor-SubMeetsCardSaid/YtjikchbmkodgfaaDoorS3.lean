/-
  Sets of things: what they make, as the program has it. Conditions: none.
-/
import Derived.Test.YtjikchbmkodgfaaDoorS2
import Derived.Test.YtjikchbmkodgfaaDoorG12
set_option linter.all false
namespace Go.Proofs.YtjikchbmkodgfaaDoor
open Go.Pv

/-- The bits of the things of which something holds. -/
def bo (n : Nat) (p : Nat → Bool) : Nat := msk (thl n p)
theorem bo_bit (n : Nat) (p : Nat → Bool) (i : Nat) : (bo n p).testBit i = (decide (i < n) && p i) := by
  unfold bo
  rw [msk_bit, Bool.eq_iff_iff, decide_eq_true_eq, Bool.and_eq_true, decide_eq_true_eq]
  constructor
  · rintro ⟨x, hx, rfl⟩
    obtain ⟨a, h1, h2, rfl⟩ := mem_thl.1 hx
    exact ⟨h1, h2⟩
  · rintro ⟨h1, h2⟩
    exact ⟨(i : Int), mem_thl.2 ⟨i, h1, h2, rfl⟩, rfl⟩
theorem bo_lt (n : Nat) (p : Nat → Bool) : bo n p < 2 ^ n := msk_lt fun x hx => by
  obtain ⟨a, h1, _, rfl⟩ := mem_thl.1 hx
  exact h1
theorem bo_lt64 {n : Nat} (hn : n ≤ 60) (p : Nat → Bool) : bo n p < 2 ^ 64 := Nat.lt_of_lt_of_le (bo_lt n p) (Nat.pow_le_pow_right (by omega) (by omega))
theorem bo_eq {n s : Nat} {p : Nat → Bool} (hs : s < 2 ^ n) (h : ∀ i, i < n → s.testBit i = p i) : s = bo n p := by
  refine Nat.eq_of_testBit_eq fun i => ?_
  rw [bo_bit]
  by_cases hi : i < n
  · rw [h i hi]; simp [hi]
  · rw [Nat.testBit_lt_two_pow (Nat.lt_of_lt_of_le hs (Nat.pow_le_pow_right (by omega) (by omega)))]; simp [hi]
theorem bo_congr {n : Nat} {p q : Nat → Bool} (h : ∀ a, a < n → p a = q a) : bo n p = bo n q := by unfold bo; rw [thl_congr h]
theorem bo_inj {n : Nat} {p q : Nat → Bool} (h : bo n p = bo n q) {a : Nat} (ha : a < n) : p a = q a := by
  have h1 := bo_bit n p a
  rw [h, bo_bit] at h1
  simpa [ha] using h1.symm
theorem stl_bo {n : Nat} (hn : n ≤ 60) (p : Nat → Bool) : stl (bo n p) = thl n p := by
  rw [stl_n (by omega) (bo_lt n p)]
  exact thl_congr fun a ha => by rw [bo_bit]; simp [ha]
theorem msk_thl (n : Nat) (p : Nat → Bool) : msk (thl n p) = bo n p := rfl
theorem thl_rng {n : Nat} (hn : n ≤ 60) (p : Nat → Bool) : ∀ x ∈ thl n p, 0 ≤ x ∧ x < 64 := by
  intro x hx
  obtain ⟨a, h1, _, rfl⟩ := mem_thl.1 hx
  omega
theorem pow_lt64 {b : Nat} (hb : b < 64) : 2 ^ b < 2 ^ 64 := Nat.pow_lt_pow_right (by omega) hb
theorem lt64 {n s : Nat} (hn : n ≤ 60) (hs : s < 2 ^ n) : s < 2 ^ 64 := Nat.lt_of_lt_of_le hs (Nat.pow_le_pow_right (by omega) (by omega))
theorem bit_ltn {n s i : Nat} (hs : s < 2 ^ n) (h : s.testBit i = true) : i < n := by
  rcases Nat.lt_or_ge i n with h1 | h1
  · exact h1
  · rw [Nat.testBit_lt_two_pow (Nat.lt_of_lt_of_le hs (Nat.pow_le_pow_right (by omega) h1))] at h; cases h

theorem app_at (pre w : List Int) (a : Int) (d : AV) : (ol (pre ++ a :: w)).getD pre.length d = .p (.int .i64 a) := by
  simp [ol, il, List.getD]

/-- What holds while a set grows. -/
structure GrowI (n : Nat) (f : Nat → Nat → Nat) (e s out : Nat) (w : List Int) : Prop where
  lt : out < 2 ^ n
  one : out.testBit e = true
  gen : ∀ a, out.testBit a = true → Gen n f e s.testBit a
  wait : ∀ x ∈ w, ∃ a, x = ((a : Nat) : Int) ∧ out.testBit a = true
  nd : w.Nodup

theorem or_bit (s b i : Nat) : (s ||| 2 ^ b).testBit i = (s.testBit i || decide (b = i)) := by rw [Nat.testBit_or, Nat.testBit_two_pow]
theorem GrowI.len {n e s out : Nat} {f : Nat → Nat → Nat} {w : List Int} (h : GrowI n f e s out w) : w.length ≤ n := by
  have h1 := List.Nodup.length_le_of_subset h.nd (l₂ := thl n fun _ => true) fun x hx => by
    obtain ⟨a, rfl, ha⟩ := h.wait x hx
    exact mem_thl.2 ⟨a, bit_ltn h.lt ha, rfl, rfl⟩
  exact Nat.le_trans h1 (thl_le _ _)
theorem GrowI.add {n e s out a z : Nat} {f : Nat → Nat → Nat} {w : List Int} (h : GrowI n f e s out w) (ha : out.testBit a = true) (hz : s.testBit z = true) (hzn : z < n) (hn : f a z < n) (hno : out.testBit (f a z) = false) :
    GrowI n f e s (out ||| 2 ^ f a z) (w ++ [((f a z : Nat) : Int)]) where
  lt := Nat.or_lt_two_pow h.lt (Nat.pow_lt_pow_right (by omega) hn)
  one := by rw [or_bit, h.one]; rfl
  gen y hy := by
    rw [or_bit, Bool.or_eq_true, decide_eq_true_eq] at hy
    rcases hy with hy | rfl
    · exact h.gen y hy
    · exact .step a z (h.gen a ha) hzn hz
  wait x hx := by
    rcases List.mem_append.1 hx with hx | hx
    · obtain ⟨y, e1, e2⟩ := h.wait x hx
      exact ⟨y, e1, by rw [or_bit, e2]; rfl⟩
    · exact ⟨_, List.mem_singleton.1 hx, by rw [or_bit]; simp⟩
  nd := by
    refine List.nodup_append.2 ⟨h.nd, by simp, fun x hx y hy e => ?_⟩
    rw [List.mem_singleton] at hy
    obtain ⟨y', e1, e2⟩ := h.wait x hx
    have : y' = f a z := by omega
    rw [this, hno] at e2; cases e2

theorem grow_c {n e : Nat} {m : List Int} (h : GT n m n e) (s : Nat) (hs : s < 2 ^ n) (q : Nat → Bool) (hq : ∀ a, a < n → (q a = true ↔ Gen n (op m n) e s.testBit a)) : FnC Tryd.prog 79 [gp n m, .int .u64 s] (.int .u64 (bo n q)) := by
  have G := h.2.2
  have T := h.2.1
  have hb := T.big
  have hel := G.el
  have hs64 := lt64 hb hs
  have hone := pow_lt64 (b := e) (by omega)
  have hbe : ∀ a, (2 ^ e).testBit a = true → a = e := fun a ha => by rw [Nat.testBit_two_pow] at ha; simp at ha; exact ha.symm
  have hstl : ∀ x ∈ stl (2 ^ e), x = (e : Int) := fun x hx => by
    obtain ⟨a, _, h2, rfl⟩ := mem_thl.1 hx
    rw [hbe a h2]
  have hstl2 : (e : Int) ∈ stl (2 ^ e) := mem_thl.2 ⟨e, by omega, by rw [Nat.testBit_two_pow]; simp, rfl⟩
  refine fnc_of tab_ok Tryd.func79 rfl (by kernel_rfl) (by rw [Tryd.ntmps79]; exact Nat.le_add_left 2 _) ?_; rw [Tryd.ntmps79]
  refine qm ?_
  refine hk_region fun K hK => runs_eval tab_ok ?_
  simp only [ev0, evA, evB, evP, fl, gp, tab, simprocAttr, reduceCtorEq, reduceIte]
  refine fin_run ?_ (hK _ ?_) <;> clear hK <;> clear K
  · (first | exact trivial | omega | (simp only [In64] at *; omega) | (simp [In64] at *; omega) | (simp_all; done) | skip)
  refine qa (qm ?_)
  refine hk_region fun K hK => runs_eval tab_ok ?_
  simp only [ev0, evA, evB, evP, fl, gp, tab, simprocAttr, reduceCtorEq, reduceIte]
  refine fin_stop trivial (runs_call (oneOf_c h) rfl rfl rfl (by simp only [dstOk, Nat.reduceLT]) (by repeat (first | exact trivial | constructor)) (runs_eval tab_ok ?_))
  simp only [ev0, evA, evB, evP, fl, gp, tab, simprocAttr, reduceCtorEq, reduceIte, shl_one (show e < 64 by omega)]
  refine fin_run ?_ (hK _ ?_) <;> clear hK <;> clear K
  · (first | exact trivial | omega | (simp only [In64] at *; omega) | (simp [In64] at *; omega) | (simp_all; done) | skip)
  refine qa (qm ?_)
  refine hk_region fun K hK => runs_eval tab_ok ?_
  simp only [ev0, evA, evB, evP, fl, gp, tab, simprocAttr, reduceCtorEq, reduceIte]
  refine fin_stop trivial (runs_callG (list_g (2 ^ e) hone) rfl rfl (by first | rfl | (simp [scG, scA, sc1, opl]; done) | (simp only [scG, List.all_cons, List.all_nil, ol_sc, Bool.and_true]; rfl)) (by simp only [dstOk, Nat.reduceLT]) (by repeat (first | exact trivial | constructor)) (runs_eval tab_ok ?_))
  simp only [shf, List.range', Blk.ren, opl_ren, ren, ren1, ev0, evA, evB, evP, fl, gp, tab, simprocAttr, reduceCtorEq, reduceIte]
  refine fin_run trivial (hK _ ?_) <;> clear hK <;> clear K
  refine qa (qm (ql ?_))
  refine hk_loop (ι := Nat × List Int × List Int) (fun p => ⟨48, [(1, .p (.int .u64 s)), (2, .ptr 0 0), (5, .p (.int .u64 p.1)), (6, .sl 1 p.2.1.length p.2.2.length)], [.own [.p (.int .i64 n), .p (.list (il m))], .own (ol (p.2.1 ++ p.2.2))]⟩) (fun p => GrowI n (op m n) e s p.1 p.2.2 ∧ ∀ a, p.1.testBit a = true → ((a : Nat) : Int) ∉ p.2.2 → ∀ b, s.testBit b = true → p.1.testBit (op m n a b) = true) (fun p => 2 * (2 ^ 64 - p.1) + p.2.2.length) (2 ^ e, [], stl (2 ^ e)) ⟨⟨Nat.pow_lt_pow_right (by omega) hel, by rw [Nat.testBit_two_pow]; simp, fun a ha => by rw [hbe a ha]; exact .one, fun x hx => ⟨e, hstl x hx, by rw [Nat.testBit_two_pow]; simp⟩, (thl_asc _ _).imp fun h => by omega⟩, fun a ha hn => absurd (by rw [hbe a ha]; exact hstl2) hn⟩ [0, 1] (by simp only [leq, leA, ev0, evA, evB, evP, fl, gp, tab, simprocAttr, reduceCtorEq, reduceIte] <;> first | trivial | simp [ol, opl]) fun p hp => ?_
  obtain ⟨out, pre, w⟩ := p
  obtain ⟨⟨i1, i2, i3, i4, i6⟩, i5⟩ := hp
  simp only at i1 i2 i3 i4 i5
  refine qm (qm ?_)
  refine hk_region fun K hK => runs_eval tab_ok ?_
  simp only [ev0, evA, evB, evP, fl, gp, tab, simprocAttr, reduceCtorEq, reduceIte]
  refine fin_run trivial (hK _ ?_) <;> clear hK <;> clear K
  refine qa ?_
  refine hk_cond rfl (fun hC1 => ?_) (fun hC1 => ?_)
  · (try simp only [nhs] at hC1)
    obtain ⟨x, w', rfl⟩ : ∃ x w', w = x :: w' := by
      cases w with
      | nil => simp at hC1
      | cons x w' => exact ⟨x, w', rfl⟩
    obtain ⟨a, rfl, hoa⟩ := i4 x (by simp)
    have hal := bit_ltn i1 hoa
    refine qh (qa (ql (qm ?_)))
    refine hk_region fun K hK => runs_eval tab_ok ?_
    simp only [ev0, evA, evB, evP, fl, gp, tab, simprocAttr, reduceCtorEq, reduceIte, app_at, Nat.add_zero]
    refine fin_run ?_ (hK _ ?_) <;> clear hK <;> clear K
    · (first | exact trivial | omega | (simp only [In64] at *; omega) | (simp [In64] at *; omega) | (simp_all; done) | skip)
    refine qa (qm ?_)
    refine hk_region fun K hK => runs_eval tab_ok ?_
    simp only [ev0, evA, evB, evP, fl, gp, tab, simprocAttr, reduceCtorEq, reduceIte]
    refine fin_run ?_ (hK _ ?_) <;> clear hK <;> clear K
    · (first | exact trivial | omega | (simp only [In64] at *; omega) | (simp [In64] at *; omega) | (simp_all; done) | skip)
    refine qa (qm ?_)
    refine hk_region fun K hK => runs_eval tab_ok ?_
    simp only [ev0, evA, evB, evP, fl, gp, tab, simprocAttr, reduceCtorEq, reduceIte]
    refine fin_run trivial (hK _ ?_) <;> clear hK <;> clear K
    refine qa (ql ?_)
    refine hk_loop (ι := Nat × Nat × List Int × List Int) (fun p => ⟨48, [(1, .p (.int .u64 s)), (2, .ptr 0 0), (5, .p (.int .u64 p.2.1)), (6, .sl 1 p.2.2.1.length p.2.2.2.length), (7, .p (.int .i64 a)), (8, .p (.int .u64 p.1))], [.own [.p (.int .i64 n), .p (.list (il m))], .own (ol (p.2.2.1 ++ p.2.2.2))]⟩) (fun p => GrowI n (op m n) e s p.2.1 p.2.2.2 ∧ (∀ i, p.1.testBit i = true → s.testBit i = true) ∧ p.1 < 2 ^ 64 ∧ (∀ y, p.2.1.testBit y = true → ((y : Nat) : Int) ∉ p.2.2.2 → y ≠ a → ∀ b, s.testBit b = true → p.2.1.testBit (op m n y b) = true) ∧ (∀ b, s.testBit b = true → p.1.testBit b = false → p.2.1.testBit (op m n a b) = true) ∧ p.2.1.testBit a = true ∧ 2 * (2 ^ 64 - p.2.1) + p.2.2.2.length ≤ 2 * (2 ^ 64 - out) + w'.length) (fun p => p.1) (s, out, pre ++ [(a : Int)], w') ⟨⟨i1, i2, i3, fun x hx => i4 x (by simp [hx]), (List.nodup_cons.1 i6).2⟩, fun i hi => hi, hs64, fun y hy hn hya b hbs => i5 y hy (by simp only [List.mem_cons, not_or]; exact ⟨by omega, hn⟩) b hbs, fun b hb1 hb2 => absurd (hb1.symm.trans hb2) (by simp), hoa, Nat.le_refl _⟩ [0, 1] (by simp only [leq, leA, ev0, evA, evB, evP, fl, gp, tab, simprocAttr, reduceCtorEq, reduceIte] <;> first | trivial | (simp; done) | (simp; rw [List.take_of_length_le (by simp; omega)])) fun p hp => ?_
    obtain ⟨t, out2, pre2, w2⟩ := p
    obtain ⟨jI, j5, j6, j7, j8, j9, j10⟩ := hp
    simp only at jI j5 j6 j7 j8 j9 j10
    have hw2 := jI.len
    have j1 := jI.lt
    refine qm (qm ?_)
    refine hk_region fun K hK => runs_eval tab_ok ?_
    simp only [ev0, evA, evB, evP, fl, gp, tab, simprocAttr, reduceCtorEq, reduceIte]
    refine fin_run trivial (hK _ ?_) <;> clear hK <;> clear K
    refine qa ?_
    refine hk_cond rfl (fun hC2 => ?_) (fun hC2 => ?_)
    · (try simp only [nhs] at hC2)
      have h0 : t ≠ 0 := by omega
      obtain ⟨z1, z2, z3⟩ := tz_spec j6 h0
      have hzs := j5 _ z2
      have hzn := bit_ltn hs hzs
      have hfn := G.cl a (tz t) hal hzn
      have ht1 : t - 1 < 2 ^ 64 := by omega
      have hsub : IntKind.u64.wrap ((t : Int) - 1) = ((t - 1 : Nat) : Int) := by rw [wrap_u]; omega
      have hcut : t &&& (t - 1) = cut t := rfl
      have ho64 := lt64 hb j1
      have hp64 := pow_lt64 (b := op m n a (tz t)) (by omega)
      refine qh (qa (qm (ql (qm ?_))))
      refine hk_draw mixed (by kernel_rfl) fun K hK => runs_eval tab_ok ?_
      simp only [ev0, evA, evB, evP, fl, gp, tab, simprocAttr, reduceCtorEq, reduceIte]
      refine fin_stop trivial (runs_call (tz_c t j6 h0) rfl rfl rfl (by simp only [dstOk, Nat.reduceLT]) (by repeat (first | exact trivial | constructor)) (runs_eval tab_ok ?_))
      simp only [ev0, evA, evB, evP, fl, gp, tab, simprocAttr, reduceCtorEq, reduceIte]
      refine fin_stop trivial (runs_call (of_c T hal hzn) rfl rfl rfl (by simp only [dstOk, Nat.reduceLT]) (by repeat (first | exact trivial | constructor)) (runs_eval tab_ok ?_))
      simp only [ev0, evA, evB, evP, fl, gp, tab, simprocAttr, reduceCtorEq, reduceIte]
      refine fin_run ?_ (hK _ ?_) <;> clear hK <;> clear K
      · (first | exact trivial | omega | (simp only [In64] at *; omega) | (simp [In64] at *; omega) | (simp_all; done) | skip)
      refine qa (qm ?_)
      refine hk_region fun K hK => runs_eval tab_ok ?_
      simp only [ev0, evA, evB, evP, fl, gp, tab, simprocAttr, reduceCtorEq, reduceIte]
      refine fin_stop trivial (runs_call (has_s out2 (op m n a (tz t)) ho64 (by omega)) rfl rfl rfl (by simp only [dstOk, Nat.reduceLT]) (by repeat (first | exact trivial | constructor)) (runs_eval tab_ok ?_))
      simp only [ev0, evA, evB, evP, fl, gp, tab, simprocAttr, reduceCtorEq, reduceIte]
      refine fin_run trivial (hK _ ?_) <;> clear hK <;> clear K
      refine qa ?_
      refine hk_cond rfl (fun hC3 => ?_) (fun hC3 => ?_)
      · (try simp only [nhs] at hC3)
        have hno : out2.testBit (op m n a (tz t)) = false := hC3
        have hlt2 : out2 < out2 ||| 2 ^ op m n a (tz t) := by
          rcases Nat.lt_or_eq_of_le (Nat.left_le_or (n := out2) (m := 2 ^ op m n a (tz t))) with h1 | h1
          · exact h1
          · exfalso
            have h2 := or_bit out2 (op m n a (tz t)) (op m n a (tz t))
            rw [← h1, hno] at h2
            simp at h2
        refine qm ?_
        refine hk_region fun K hK => runs_eval tab_ok ?_
        simp only [ev0, evA, evB, evP, fl, gp, tab, simprocAttr, reduceCtorEq, reduceIte, shl_one (show op m n a (tz t) < 64 by omega), bv_or ho64 hp64]
        refine fin_run ?_ (hK _ ?_) <;> clear hK <;> clear K
        · (first | exact trivial | omega | (simp only [In64] at *; omega) | (simp [In64] at *; omega) | (simp_all; done) | skip)
        refine qa ?_
        refine hk_region fun K hK => runs_eval tab_ok ?_
        simp only [ev0, evA, evB, evP, fl, gp, tab, simprocAttr, reduceCtorEq, reduceIte]
        refine fin_run ?_ (hK _ ?_) <;> clear hK <;> clear K
        · simp only [List.length_append]; omega
        refine qd (qa ?_)
        refine hk_region fun K hK => runs_eval tab_ok ?_
        simp only [ev0, evA, evB, evP, fl, gp, tab, simprocAttr, reduceCtorEq, reduceIte, hsub, bv_and j6 ht1, hcut]
        refine fin_run ?_ (hK _ ?_) <;> clear hK <;> clear K
        · (first | exact trivial | omega | (simp only [In64] at *; omega) | (simp [In64] at *; omega) | (simp_all; done) | skip)
        refine qa ?_
        have hI := jI.add j9 hzs hzn hfn hno
        have hI1 := lt64 hb hI.lt
        refine ⟨(cut t, out2 ||| 2 ^ op m n a (tz t), [], w2 ++ [((op m n a (tz t) : Nat) : Int)]), [0, 2], ⟨hI, fun i hi => ?_, ?_, fun y hy hn hya b hbs => ?_, fun b hb1 hb2 => ?_, ?_, ?_⟩, ?_, ?_⟩
        · simp only [cut_bit j6 h0, Bool.and_eq_true] at hi
          exact j5 i hi.1
        · exact Nat.lt_trans (cut_lt h0) j6
        · simp only [or_bit, Bool.or_eq_true, decide_eq_true_eq] at hy ⊢
          simp only [List.mem_append, List.mem_singleton, not_or] at hn
          rcases hy with hy | hy
          · exact .inl (j7 y hy hn.1 hya b hbs)
          · exact absurd (by rw [hy]) hn.2
        · simp only [cut_bit j6 h0] at hb2
          simp only [or_bit, Bool.or_eq_true, decide_eq_true_eq]
          by_cases hbz : b = tz t
          · right; rw [hbz]
          · left
            refine j8 b hb1 ?_
            cases htb : t.testBit b with
            | false => rfl
            | true => rw [htb] at hb2; simp at hb2; exact absurd hb2 hbz
        · simp only [or_bit, j9, Bool.true_or]
        · simp only [List.length_append, List.length_cons, List.length_nil]
          omega
        · exact cut_lt h0
        · simp only [leq, leA, ev0, evA, evB, evP, fl, gp, tab, simprocAttr, reduceCtorEq, reduceIte]
          rw [List.drop_left, List.take_length, List.take_of_length_le (by simp)]
      · (try simp only [nhs] at hC3)
        refine qh (qd (qa ?_))
        refine hk_region fun K hK => runs_eval tab_ok ?_
        simp only [ev0, evA, evB, evP, fl, gp, tab, simprocAttr, reduceCtorEq, reduceIte, hsub, bv_and j6 ht1, hcut]
        refine fin_run ?_ (hK _ ?_) <;> clear hK <;> clear K
        · (first | exact trivial | omega | (simp only [In64] at *; omega) | (simp [In64] at *; omega) | (simp_all; done) | skip)
        refine qa ?_
        refine ⟨(cut t, out2, pre2, w2), [0, 1], ⟨jI, fun i hi => ?_, ?_, j7, fun b hb1 hb2 => ?_, j9, j10⟩, cut_lt h0, ?_⟩
        · simp only [cut_bit j6 h0, Bool.and_eq_true] at hi
          exact j5 i hi.1
        · exact Nat.lt_trans (cut_lt h0) j6
        · simp only [cut_bit j6 h0] at hb2
          by_cases hbz : b = tz t
          · show out2.testBit (op m n a b) = true
            rw [hbz]; exact hC3
          · refine j8 b hb1 ?_
            cases htb : t.testBit b with
            | false => rfl
            | true => rw [htb] at hb2; simp at hb2; exact absurd hb2 hbz
        · simp only [leq, leA, ev0, evA, evB, evP, fl, gp, tab, simprocAttr, reduceCtorEq, reduceIte] <;> first | trivial | omega
    · (try simp only [nhs] at hC2)
      have ht0 : t = 0 := by omega
      subst ht0
      refine qj (qc (qc (qf (qd (qa ?_)))))
      refine ⟨(out2, pre2, w2), [0, 1], ⟨jI, fun y hy hn b hbs => ?_⟩, ?_, ?_⟩
      · by_cases hya : y = a
        · rw [hya]; exact j8 b hbs (by simp)
        · exact j7 y hy hn hya b hbs
      · have ho := lt64 hb j1
        have ho2 := lt64 hb i1
        simp only [List.length_cons]
        omega
      · simp only [leq, leA, ev0, evA, evB, evP, fl, gp, tab, simprocAttr, reduceCtorEq, reduceIte] <;> first | trivial | omega
  · (try simp only [nhs] at hC1)
    have hw0 : w = [] := by
      cases w with
      | nil => rfl
      | cons x r => simp at hC1
    subst hw0
    have hfin : out = bo n q := by
      refine bo_eq i1 fun i hi => ?_
      rw [Bool.eq_iff_iff, hq i hi]
      refine ⟨i3 i, fun hg => ?_⟩
      exact Gen.least i2 (fun a b _ _ hb hH => i5 a hH (by simp) b hb) hg
    refine qj (qc (qc (qf (qa (qm ?_)))))
    refine hk_region fun K hK => runs_eval tab_ok ?_
    simp only [ev0, evA, evB, evP, fl, gp, tab, simprocAttr, reduceCtorEq, reduceIte]
    refine fin_run trivial (hK _ ?_) <;> clear hK <;> clear K
    refine qa (qk ?_)
    simp only [Tryd.results79, enA, ev0, evA, evB, evP, fl, gp, tab, simprocAttr, reduceCtorEq, reduceIte]
    all_goals (rw [hfin])
end Go.Proofs.YtjikchbmkodgfaaDoor
