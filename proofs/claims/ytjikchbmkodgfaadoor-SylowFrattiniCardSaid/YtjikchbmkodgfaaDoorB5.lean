/-
  Texts of this proof, one behind the other: what each says stands at its head. Conditions: none.
-/
import Derived.Test.YtjikchbmkodgfaaDoorB4
import Derived.Test.YtjikchbmkodgfaaDoorB3
import Derived.Shelf.SlSortCmp.Whole1

/-
  Sets of things: lists and bits; what is looked at first; what is chosen. Conditions: none.
-/
set_option linter.all false
namespace Go.Proofs.YtjikchbmkodgfaaDoor
open Go.Pv

/-- A row of its own that is handed out reads as a row. -/
theorem FnG_fnc {P : Program} {f : FuncId} {args l : List PV} (h : FnG P f args (.sl 0 0 l.length) [.own (opl l)]) (hone : l.all PV.one = true) : FnC P f args (.list l) := by
  refine ⟨h.1, fun okA w vals h1 h2 h3 => (h.2 okA w vals h1 h2 h3).mono fun e w' ⟨v, m', he, hbl, ho⟩ => ⟨v, he, hbl, ?_⟩⟩
  cases ho.val with
  | sl _ _ _ _ hk hs =>
    rcases hs with ⟨h0, ad, rfl⟩ | ⟨lc, cap, hm, rfl, hc1, hc2⟩
    · have : l = [] := List.eq_nil_of_length_eq_zero h0
      subst this
      exact .list0 _ _ fun _ => rfl
    · rcases ho.blk 0 (opl l) rfl with ⟨hn, _⟩ | ⟨l', cur, e', hm2, hB, hh, hs1, hs3, hs2, hcells⟩
      · have : l = [] := List.map_eq_nil_iff.1 hn
        subst this
        exact .list0 _ _ fun h => by cases h
      · rw [hm] at hm2; cases hm2
        rw [opl_length] at hs2
        refine row_reads rfl hone ⟨.inr hB, (Array.getElem?_eq_some_iff.1 hh).1⟩ hc1 (fun j => cur.getD (lc.o + j) undef) (fun j hj => ?_) fun j hj => ?_
        · have : lc.o + 0 + j = lc.o + j := by omega
          rw [this]; exact cell_of hh (by omega)
        · have := hcells j (by rw [opl_length]; exact hj)
          have e2 : (opl l)[j]'(by rw [opl_length]; exact hj) = .p l[j] := by simp [opl]
          rw [e2] at this
          exact this.p_inv.mono fun b hb => ⟨hb.1, hb.2.1⟩

/-! ### Lists and bits -/

theorem list_g (s : Nat) (hs : s < 2 ^ 64) : FnG Tryd.prog 68 [.int .u64 s] (.sl 0 0 (stl s).length) [.own (opl (il (stl s)))] := by
  refine fng_of tab_ok Tryd.func68 rfl (by kernel_rfl) (by rw [Tryd.ntmps68]; exact Nat.le_add_left 1 _) ?_; rw [Tryd.ntmps68]
  refine qm ?_
  refine hk_region fun K hK => runs_eval tab_ok ?_
  simp only [ev0, evA, evB, evP, fl, gp, tab, simprocAttr, reduceCtorEq, reduceIte]
  refine fin_run trivial (hK _ ?_) <;> clear hK <;> clear K
  refine qa (qm ?_)
  refine hk_region fun K hK => runs_eval tab_ok ?_
  simp only [ev0, evA, evB, evP, fl, gp, tab, simprocAttr, reduceCtorEq, reduceIte]
  refine fin_run trivial (hK _ ?_) <;> clear hK <;> clear K
  refine qa (qm (ql ?_))
  refine hk_own0 3 rfl ?_
  refine hk_loop (ι := Nat × List Int) (fun p => ⟨16, [(0, .p (.int .u64 p.1)), (3, .sl 0 0 p.2.length)], [.own (ol p.2)]⟩) (fun p => p.1 < 2 ^ 64 ∧ p.2 ++ stl p.1 = stl s) (fun p => p.1) (s, []) ⟨hs, rfl⟩ [0] (by simp only [leq, leA, ev0, evA, evB, evP, fl, gp, tab, simprocAttr, reduceCtorEq, reduceIte] <;> simp [ol_nil]) fun p hp => ?_
  obtain ⟨t, out⟩ := p
  obtain ⟨ht, ho⟩ := hp
  simp only at ht ho
  refine qm (qm ?_)
  refine hk_region fun K hK => runs_eval tab_ok ?_
  simp only [ev0, evA, evB, evP, fl, gp, tab, simprocAttr, reduceCtorEq, reduceIte]
  refine fin_run trivial (hK _ ?_) <;> clear hK <;> clear K
  refine qa ?_
  refine hk_cond rfl (fun hC1 => ?_) (fun hC1 => ?_)
  · (try simp only [nhs] at hC1)
    have h0 : t ≠ 0 := by omega
    have ht1 : t - 1 < 2 ^ 64 := by omega
    have hsub : IntKind.u64.wrap ((t : Int) - 1) = ((t - 1 : Nat) : Int) := by rw [wrap_u]; omega
    have hcut : t &&& (t - 1) = cut t := rfl
    have hc := stl_cons ht h0
    have hlen : out.length + 1 ≤ 64 := by
      have h1 := stl_len s
      rw [← ho, hc] at h1
      simp at h1; omega
    refine qh (qa (qm (ql ?_)))
    refine hk_region fun K hK => runs_eval tab_ok ?_
    simp only [ev0, evA, evB, evP, fl, gp, tab, simprocAttr, reduceCtorEq, reduceIte]
    refine fin_stop trivial (runs_call (tz_c t ht h0) rfl rfl rfl (by simp only [dstOk, Nat.reduceLT]) (by repeat (first | exact trivial | constructor)) (runs_eval tab_ok ?_))
    simp only [ev0, evA, evB, evP, fl, gp, tab, simprocAttr, reduceCtorEq, reduceIte]
    refine fin_run ?_ (hK _ ?_) <;> clear hK <;> clear K
    · (first | exact trivial | omega | (simp only [In64] at *; omega) | (simp [In64] at *; omega) | (simp_all; done) | skip)
    refine qd (qa ?_)
    refine hk_region fun K hK => runs_eval tab_ok ?_
    simp only [ev0, evA, evB, evP, fl, gp, tab, simprocAttr, reduceCtorEq, reduceIte, hsub, bv_and ht ht1, hcut]
    refine fin_run ?_ (hK _ ?_) <;> clear hK <;> clear K
    · (first | exact trivial | omega | (simp only [In64] at *; omega) | (simp [In64] at *; omega) | (simp_all; done) | skip)
    refine qa ?_
    refine ⟨(cut t, out ++ [(tz t : Int)]), [1], ⟨?_, ?_⟩, cut_lt h0, ?_⟩
    · exact Nat.lt_trans (cut_lt h0) ht
    · show out ++ [(tz t : Int)] ++ stl (cut t) = stl s
      rw [← ho, hc]; simp
    · simp only [leq, leA, ev0, evA, evB, evP, fl, gp, tab, simprocAttr, reduceCtorEq, reduceIte] <;> first | trivial | omega
  · (try simp only [nhs] at hC1)
    have h0 : t = 0 := by omega
    rw [h0, stl_zero, List.append_nil] at ho
    refine qj (qc (qc (qf (qa (qm ?_)))))
    refine hk_region fun K hK => runs_eval tab_ok ?_
    simp only [ev0, evA, evB, evP, fl, gp, tab, simprocAttr, reduceCtorEq, reduceIte]
    refine fin_run trivial (hK _ ?_) <;> clear hK <;> clear K
    refine qa (qk ?_)
    simp only [Tryd.results68, PostG, endG, rvsA, rvA, mkTup, ev0, evA, evB, evP, fl, gp, tab, simprocAttr, reduceCtorEq, reduceIte]
    all_goals (rw [← ho]; exact ⟨[0], by simp only [leq, leA, ev0, evA, evB, evP, fl, gp, tab, simprocAttr, reduceCtorEq, reduceIte] <;> simp [ol, opl]⟩)
theorem list_s (s : Nat) (hs : s < 2 ^ 64) : FnC Tryd.prog 68 [.int .u64 s] (.list (il (stl s))) := by
  have h := list_g s hs
  rw [← il_length] at h
  exact FnG_fnc h (il_all _)

/-- The bits of a list of things. -/
def msk (l : List Int) : Nat := l.foldl (fun s a => s ||| 2 ^ a.toNat) 0
theorem msk_snoc (l : List Int) (a : Int) : msk (l ++ [a]) = msk l ||| 2 ^ a.toNat := by simp [msk, List.foldl_append]
theorem msk_bit (l : List Int) (i : Nat) : (msk l).testBit i = decide (∃ a ∈ l, a.toNat = i) := by
  have key : ∀ (l : List Int) (s : Nat), (l.foldl (fun s a => s ||| 2 ^ a.toNat) s).testBit i = (s.testBit i || decide (∃ a ∈ l, a.toNat = i)) := by
    intro l
    induction l with
    | nil => intro s; simp
    | cons a r ih =>
      intro s
      rw [List.foldl_cons, ih, Nat.testBit_or, Nat.testBit_two_pow]
      by_cases h : a.toNat = i
      · simp [h]
      · simp [h]
  rw [msk, key]; simp
theorem msk_lt {l : List Int} {n : Nat} (h : ∀ a ∈ l, a.toNat < n) : msk l < 2 ^ n := by
  refine Nat.lt_pow_two_of_testBit _ fun i hi => ?_
  rw [msk_bit, decide_eq_false_iff_not]
  rintro ⟨a, ha, rfl⟩
  have := h a ha; omega

theorem of_s (l : List Int) (hl : l.length ≤ 1000000) (h : ∀ a ∈ l, 0 ≤ a ∧ a < 64) : FnC Tryd.prog 80 [.list (il l)] (.int .u64 (msk l)) := by
  refine fnc_of tab_ok Tryd.func80 rfl (by kernel_rfl) (by rw [Tryd.ntmps80]; exact Nat.le_add_left 1 _) ?_; rw [Tryd.ntmps80]
  refine qm ?_
  refine hk_region fun K hK => runs_eval tab_ok ?_
  simp only [ev0, evA, evB, evP, fl, gp, tab, simprocAttr, reduceCtorEq, reduceIte]
  refine fin_run trivial (hK _ ?_) <;> clear hK <;> clear K
  refine qa (qm ?_)
  refine hk_region fun K hK => runs_eval tab_ok ?_
  simp only [ev0, evA, evB, evP, fl, gp, tab, simprocAttr, reduceCtorEq, reduceIte]
  refine fin_run trivial (hK _ ?_) <;> clear hK <;> clear K
  refine qa (qm (qm ?_))
  refine hk_region fun K hK => runs_eval tab_ok ?_
  simp only [ev0, evA, evB, evP, fl, gp, tab, simprocAttr, reduceCtorEq, reduceIte]
  refine fin_run trivial (hK _ ?_) <;> clear hK <;> clear K
  refine qa (ql ?_)
  refine hk_loop (ι := Nat) (fun i => ⟨18, [(3, .p (.int .u64 (msk (l.take i)))), (6, .p (.list (il l))), (7, .p (.int .i64 l.length)), (8, .p (.int .i64 i))], []⟩) (fun i => i ≤ l.length) (fun i => l.length - i) 0 (Nat.zero_le _) [] (by simp only [leq, leA, ev0, evA, evB, evP, fl, gp, tab, simprocAttr, reduceCtorEq, reduceIte] <;> simp [msk]) fun i hi => ?_
  refine qm ?_
  refine hk_region fun K hK => runs_eval tab_ok ?_
  simp only [ev0, evA, evB, evP, fl, gp, tab, simprocAttr, reduceCtorEq, reduceIte]
  refine fin_run trivial (hK _ ?_) <;> clear hK <;> clear K
  refine qa (qm ?_)
  refine hk_cond rfl (fun hC1 => ?_) (fun hC1 => ?_)
  · (try simp only [nhs] at hC1)
    have hlt : i < l.length := by omega
    have hmem : l.getD i 0 ∈ l := by simp [List.getD, List.getElem?_eq_getElem hlt]
    obtain ⟨a1, a2⟩ := h _ hmem
    obtain ⟨a, ha⟩ := Int.eq_ofNat_of_zero_le a1
    have ha64 : a < 64 := by omega
    have hm : msk (l.take i) < 2 ^ 64 := msk_lt fun x hx => by have := h x (List.mem_of_mem_take hx); omega
    have hp : 2 ^ a < 2 ^ 64 := Nat.pow_lt_pow_right (by omega) ha64
    have hs : msk (l.take (i + 1)) = msk (l.take i) ||| 2 ^ a := by
      rw [List.take_succ_eq_append_getElem hlt, msk_snoc]
      have : l[i] = (a : Int) := by rw [← ha]; simp [List.getD, List.getElem?_eq_getElem hlt]
      rw [this]; rfl
    refine qh (qa (qm (ql (qm ?_))))
    refine hk_region fun K hK => runs_eval tab_ok ?_
    simp only [ev0, evA, evB, evP, fl, gp, tab, simprocAttr, reduceCtorEq, reduceIte, il_get hlt, ha]
    refine fin_run ?_ (hK _ ?_) <;> clear hK <;> clear K
    · (first | exact trivial | omega | (simp only [In64] at *; omega) | (simp [In64] at *; omega) | (simp_all; done) | skip)
    refine qa ?_
    refine hk_region fun K hK => runs_eval tab_ok ?_
    simp only [ev0, evA, evB, evP, fl, gp, tab, simprocAttr, reduceCtorEq, reduceIte, shl_one ha64, bv_or hm hp]
    refine fin_run ?_ (hK _ ?_) <;> clear hK <;> clear K
    · (first | exact trivial | omega | (simp only [In64] at *; omega) | (simp [In64] at *; omega) | (simp_all; done) | skip)
    refine qd (qa ?_)
    refine hk_region fun K hK => runs_eval tab_ok ?_
    simp only [ev0, evA, evB, evP, fl, gp, tab, simprocAttr, reduceCtorEq, reduceIte]
    refine fin_run ?_ (hK _ ?_) <;> clear hK <;> clear K
    · (first | exact trivial | omega | (simp only [In64] at *; omega) | (simp [In64] at *; omega) | (simp_all; done) | skip)
    refine qa ?_
    refine ⟨i + 1, [], by omega, by omega, ?_⟩
    rw [hs]
    simp only [leq, leA, ev0, evA, evB, evP, fl, gp, tab, simprocAttr, reduceCtorEq, reduceIte] <;> first | trivial | omega
  · (try simp only [nhs] at hC1)
    have hin : i = l.length := by omega
    refine qj (qc (qc (qf (qa (qm ?_)))))
    refine hk_region fun K hK => runs_eval tab_ok ?_
    simp only [ev0, evA, evB, evP, fl, gp, tab, simprocAttr, reduceCtorEq, reduceIte]
    refine fin_run trivial (hK _ ?_) <;> clear hK <;> clear K
    refine qa (qk ?_)
    simp only [Tryd.results80, enA, ev0, evA, evB, evP, fl, gp, tab, simprocAttr, reduceCtorEq, reduceIte]
    all_goals (rw [hin, List.take_length])

/-! ### Lists that rise -/

theorem asc_ext : ∀ {l r : List Int}, l.Pairwise (· < ·) → r.Pairwise (· < ·) → (∀ x, x ∈ l ↔ x ∈ r) → l = r
  | [], [], _, _, _ => rfl
  | [], b :: r, _, _, h => by have := (h b).2 (by simp); simp at this
  | a :: l, [], _, _, h => by have := (h a).1 (by simp); simp at this
  | a :: l, b :: r, h1, h2, h => by
    rw [List.pairwise_cons] at h1 h2
    have hab : a = b := by
      have ha := (h a).1 (by simp)
      have hb := (h b).2 (by simp)
      rcases List.mem_cons.1 ha with e | e
      · exact e
      · rcases List.mem_cons.1 hb with e' | e'
        · exact e'.symm
        · have := h1.1 b e'; have := h2.1 a e; omega
    subst hab
    rw [asc_ext h1.2 h2.2 fun x => ?_]
    have hx := h x
    constructor
    · intro hm
      rcases List.mem_cons.1 (hx.1 (by simp [hm])) with e | e
      · subst e; have := h1.1 x hm; omega
      · exact e
    · intro hm
      rcases List.mem_cons.1 (hx.2 (by simp [hm])) with e | e
      · subst e; have := h2.1 x hm; omega
      · exact e
theorem mem_thl {n : Nat} {p : Nat → Bool} {x : Int} : x ∈ thl n p ↔ ∃ a, a < n ∧ p a = true ∧ x = (a : Int) := by
  unfold thl
  rw [List.mem_map]
  constructor
  · rintro ⟨a, ha, rfl⟩
    obtain ⟨h1, h2⟩ := mem_thn.1 ha
    exact ⟨a, h1, h2, rfl⟩
  · rintro ⟨a, h1, h2, rfl⟩
    exact ⟨a, mem_thn.2 ⟨h1, h2⟩, rfl⟩
theorem thl_asc (n : Nat) (p : Nat → Bool) : (thl n p).Pairwise (· < ·) := by
  unfold thl thn'
  rw [List.pairwise_map]
  refine (List.Pairwise.filter p List.pairwise_lt_range).imp fun {a b} h => by omega

/-- The test of a list. -/
def tst (l : List Int) (a : Nat) : Bool := decide ((a : Int) ∈ l)
/-- What is at fault in a list, at i. -/
def lfb (N : Int) (l : List Int) (i : Nat) : Int × Int := if ¬ okT N l i then (3, (i : Int)) else if 0 < i ∧ l.getD i 0 ≤ l.getD (i - 1) 0 then (5, (i : Int)) else (0, 0)
/-- The fault of a list. -/
def lf (N : Int) (l : List Int) : Int × Int :=
  if (l.length : Int) > N then (2, 0)
  else match fst' (fun i => decide (¬ (lfb N l i).1 = 0)) l.length with
    | some i => lfb N l i
    | none => (0, 0)
/-- The fault of a group and a list. -/
def sf (N : Int) (m l : List Int) : Int × Int := if ¬ (gf N m).1 = 0 then gf N m else lf N l

theorem lf_many {N : Int} {l : List Int} (h : (l.length : Int) > N) : lf N l = (2, 0) := by unfold lf; rw [if_pos h]
theorem lf_at {N : Int} {l : List Int} {i : Nat} {w : Int × Int} (h : ¬ (l.length : Int) > N) (hi : i < l.length) (hw : lfb N l i = w) (hn : ¬ w.1 = 0) (hj : ∀ j, j < i → (lfb N l j).1 = 0) : lf N l = w := by
  have : fst' (fun i => decide (¬ (lfb N l i).1 = 0)) l.length = some i := fst_some hi (decide_eq_true (by rw [hw]; exact hn)) fun j h => decide_eq_false fun h' => h' (hj j h)
  unfold lf; rw [if_neg h, this]; exact hw
theorem lf_none {N : Int} {l : List Int} (h : ¬ (l.length : Int) > N) (hj : ∀ j, j < l.length → (lfb N l j).1 = 0) : lf N l = (0, 0) := by
  have : fst' (fun i => decide (¬ (lfb N l i).1 = 0)) l.length = none := fst_none fun j h => decide_eq_false fun h' => h' (hj j h)
  unfold lf; rw [if_neg h, this]
theorem lfb_3 {N : Int} {l : List Int} {i : Nat} (h : ¬ okT N l i) : lfb N l i = (3, (i : Int)) := by unfold lfb; rw [if_pos h]
theorem lfb_5 {N : Int} {l : List Int} {i : Nat} (h : okT N l i) (h2 : 0 < i) (h3 : l.getD i 0 ≤ l.getD (i - 1) 0) : lfb N l i = (5, (i : Int)) := by unfold lfb; rw [if_neg (by simpa using h), if_pos ⟨h2, h3⟩]
theorem lfb_0 {N : Int} {l : List Int} {i : Nat} (h : okT N l i) (h2 : 0 < i → ¬ l.getD i 0 ≤ l.getD (i - 1) 0) : (lfb N l i).1 = 0 := by unfold lfb; rw [if_neg (by simpa using h), if_neg (fun h' => h2 h'.1 h'.2)]
theorem lfb_inv {N : Int} {l : List Int} {i : Nat} (h : (lfb N l i).1 = 0) : okT N l i ∧ (0 < i → l.getD (i - 1) 0 < l.getD i 0) := by
  unfold lfb at h
  split at h
  · simp at h
  · rename_i h1
    split at h
    · simp at h
    · rename_i h2
      exact ⟨by simpa using h1, fun h3 => by
        rcases Int.lt_or_le (l.getD (i - 1) 0) (l.getD i 0) with h4 | h4
        · exact h4
        · exact absurd ⟨h3, h4⟩ h2⟩

/-- A list without fault is that of what it has. -/
theorem lf_list {n : Nat} {l : List Int} (h : (lf n l).1 = 0) : l = thl n (tst l) ∧ lf n l = (0, 0) ∧ l.length ≤ n := by
  have h0 : ¬ (l.length : Int) > n := fun h' => by rw [lf_many h'] at h; simp at h
  have hj : ∀ j, j < l.length → (lfb n l j).1 = 0 := by
    cases hf : fst' (fun i => decide (¬ (lfb n l i).1 = 0)) l.length with
    | none => exact fun j hj => Classical.not_not.1 (of_decide_eq_false (fst_spec0 hf j hj))
    | some i =>
      exfalso
      obtain ⟨_, h2, _⟩ := fst_spec hf
      unfold lf at h
      rw [if_neg h0, hf] at h
      exact (of_decide_eq_true h2) h
  refine ⟨?_, lf_none h0 hj, by omega⟩
  have hget : ∀ i (hi : i < l.length), l.getD i 0 = l[i] := fun i hi => by simp [List.getD, List.getElem?_eq_getElem hi]
  have hstep : ∀ d i (h : i + d + 1 < l.length), l[i]'(by omega) < l[i + d + 1] := by
    intro d
    induction d with
    | zero =>
      intro i h
      have := (lfb_inv (hj (i + 1) h)).2 (by omega)
      rw [show i + 1 - 1 = i by omega, hget i (by omega), hget (i + 1) h] at this
      exact this
    | succ d ih =>
      intro i h
      have h1 := ih i (by omega)
      have := (lfb_inv (hj (i + (d + 1) + 1) h)).2 (by omega)
      rw [show i + (d + 1) + 1 - 1 = i + d + 1 by omega, hget (i + d + 1) (by omega), hget _ h] at this
      omega
  refine asc_ext (List.pairwise_iff_getElem.2 fun i j hi hj' hij => ?_) (thl_asc _ _) fun x => ?_
  · have := hstep (j - i - 1) i (by omega)
    have e : i + (j - i - 1) + 1 = j := by omega
    simp only [e] at this
    exact this
  · rw [mem_thl]
    constructor
    · intro hx
      obtain ⟨i, hi, rfl⟩ := List.getElem_of_mem hx
      have := (lfb_inv (hj i hi)).1
      unfold okT at this
      rw [hget i hi] at this
      obtain ⟨a, ha⟩ := Int.eq_ofNat_of_zero_le (show 0 ≤ l[i] by omega)
      exact ⟨a, by omega, by unfold tst; rw [← ha]; exact decide_eq_true hx, ha⟩
    · rintro ⟨a, _, h2, rfl⟩
      exact of_decide_eq_true h2

theorem sfault_c (c a : Int) : FnC Tryd.prog 66 [.int .i64 c, .int .i64 a] (fl (c, a)) := by
  refine fnc_of tab_ok Tryd.func66 rfl (by kernel_rfl) (by rw [Tryd.ntmps66]; exact Nat.le_add_left 2 _) ?_; rw [Tryd.ntmps66]
  refine qm ?_
  refine hk_region fun K hK => runs_eval tab_ok ?_
  simp only [ev0, evA, evB, evP, fl, gp, tab, simprocAttr, reduceCtorEq, reduceIte]
  refine fin_run ?_ (hK _ ?_) <;> clear hK <;> clear K
  · (first | exact trivial | omega | (simp only [In64] at *; omega) | (simp [In64] at *; omega) | (simp_all; done) | skip)
  refine qa (qm ?_)
  refine hk_region fun K hK => runs_eval tab_ok ?_
  simp only [ev0, evA, evB, evP, fl, gp, tab, simprocAttr, reduceCtorEq, reduceIte]
  refine fin_run ?_ (hK _ ?_) <;> clear hK <;> clear K
  · (first | exact trivial | omega | (simp only [In64] at *; omega) | (simp [In64] at *; omega) | (simp_all; done) | skip)
  refine qa (qk ?_)
  simp only [Tryd.results66, enA, ev0, evA, evB, evP, fl, gp, tab, simprocAttr, reduceCtorEq, reduceIte]
  all_goals (rfl)

set_option maxHeartbeats 2000000 in
theorem look_c (N : Int) (m l : List Int) (hm : m.length ≤ 1000000000000000) (hl : l.length ≤ 1000000000000000) : FnC Tryd.prog 78 [gp N m, .list (il l)] (fl (sf N m l)) := by
  refine fnc_of tab_ok Tryd.func78 rfl (by kernel_rfl) (by rw [Tryd.ntmps78]; exact Nat.le_add_left 2 _) ?_; rw [Tryd.ntmps78]
  refine qm ?_
  refine hk_region fun K hK => runs_eval tab_ok ?_
  simp only [ev0, evA, evB, evP, fl, gp, tab, simprocAttr, reduceCtorEq, reduceIte]
  refine fin_run ?_ (hK _ ?_) <;> clear hK <;> clear K
  · (first | exact trivial | omega | (simp only [In64] at *; omega) | (simp [In64] at *; omega) | (simp_all; done) | skip)
  refine qa (qm (qm ?_))
  refine hk_region fun K hK => runs_eval tab_ok ?_
  simp only [ev0, evA, evB, evP, fl, gp, tab, simprocAttr, reduceCtorEq, reduceIte]
  refine fin_stop trivial (runs_call (check_c N m hm) rfl rfl rfl (by simp only [dstOk, Nat.reduceLT]) (by repeat (first | exact trivial | constructor)) (runs_eval tab_ok ?_))
  simp only [ev0, evA, evB, evP, fl, gp, tab, simprocAttr, reduceCtorEq, reduceIte]
  refine fin_run ?_ (hK _ ?_) <;> clear hK <;> clear K
  · (first | exact trivial | omega | (simp only [In64] at *; omega) | (simp [In64] at *; omega) | (simp_all; done) | skip)
  refine qa (qm ?_)
  refine hk_region fun K hK => runs_eval tab_ok ?_
  simp only [ev0, evA, evB, evP, fl, gp, tab, simprocAttr, reduceCtorEq, reduceIte]
  refine fin_run ?_ (hK _ ?_) <;> clear hK <;> clear K
  · (first | exact trivial | omega | (simp only [In64] at *; omega) | (simp [In64] at *; omega) | (simp_all; done) | skip)
  refine qa ?_
  refine hk_cond rfl (fun hC1 => ?_) (fun hC1 => ?_)
  · (try simp only [nhs] at hC1)
    refine qm ?_
    refine hk_region fun K hK => runs_eval tab_ok ?_
    simp only [ev0, evA, evB, evP, fl, gp, tab, simprocAttr, reduceCtorEq, reduceIte]
    refine fin_run ?_ (hK _ ?_) <;> clear hK <;> clear K
    · (first | exact trivial | omega | (simp only [In64] at *; omega) | (simp [In64] at *; omega) | (simp_all; done) | skip)
    refine qa (qk (qb ?_))
    simp only [Tryd.results78, enA, ev0, evA, evB, evP, fl, gp, tab, simprocAttr, reduceCtorEq, reduceIte]
    all_goals (rw [sf, if_pos (by simpa using hC1)]; simp)
  · (try simp only [nhs] at hC1)
    have hg : (gf N m).1 = 0 := hC1
    refine qh (qa (qm (qm ?_)))
    refine hk_region fun K hK => runs_eval tab_ok ?_
    simp only [ev0, evA, evB, evP, fl, gp, tab, simprocAttr, reduceCtorEq, reduceIte]
    refine fin_run ?_ (hK _ ?_) <;> clear hK <;> clear K
    · (first | exact trivial | omega | (simp only [In64] at *; omega) | (simp [In64] at *; omega) | (simp_all; done) | skip)
    refine qa ?_
    refine hk_cond rfl (fun hC2 => ?_) (fun hC2 => ?_)
    · (try simp only [nhs] at hC2)
      refine qm ?_
      refine hk_region fun K hK => runs_eval tab_ok ?_
      simp only [ev0, evA, evB, evP, fl, gp, tab, simprocAttr, reduceCtorEq, reduceIte]
      refine fin_stop trivial (runs_call (sfault_c 2 0) rfl rfl rfl (by simp only [dstOk, Nat.reduceLT]) (by repeat (first | exact trivial | constructor)) (runs_eval tab_ok ?_))
      simp only [ev0, evA, evB, evP, fl, gp, tab, simprocAttr, reduceCtorEq, reduceIte]
      refine fin_run ?_ (hK _ ?_) <;> clear hK <;> clear K
      · (first | exact trivial | omega | (simp only [In64] at *; omega) | (simp [In64] at *; omega) | (simp_all; done) | skip)
      refine qa (qk (qb ?_))
      simp only [Tryd.results78, enA, ev0, evA, evB, evP, fl, gp, tab, simprocAttr, reduceCtorEq, reduceIte]
      all_goals (rw [sf, if_neg (by simpa using hg), lf_many hC2]; simp)
    · (try simp only [nhs] at hC2)
      refine qh (qa (qm (qm ?_)))
      refine hk_region fun K hK => runs_eval tab_ok ?_
      simp only [ev0, evA, evB, evP, fl, gp, tab, simprocAttr, reduceCtorEq, reduceIte]
      refine fin_run trivial (hK _ ?_) <;> clear hK <;> clear K
      refine qa (ql ?_)
      refine hk_loop (ι := Nat) (fun i => ⟨52, [(1, .p (.list (il l))), (2, .ptr 0 0), (4, .ptr 1 0), (20, .p (.list (il l))), (21, .p (.int .i64 l.length)), (22, .p (.int .i64 i))], [.own [.p (.int .i64 N), .p (.list (il m))], .own [.p (.int .i64 0), .p (.int .i64 0)]]⟩) (fun i => i ≤ l.length ∧ ∀ j, j < i → (lfb N l j).1 = 0) (fun i => l.length - i) 0 ⟨Nat.zero_le _, fun j hj => by omega⟩ [0, 1] (by simp only [leq, leA, ev0, evA, evB, evP, fl, gp, tab, simprocAttr, reduceCtorEq, reduceIte] <;> trivial) fun i hi => ?_
      obtain ⟨hi1, hi2⟩ := hi
      refine qm ?_
      refine hk_region fun K hK => runs_eval tab_ok ?_
      simp only [ev0, evA, evB, evP, fl, gp, tab, simprocAttr, reduceCtorEq, reduceIte]
      refine fin_run trivial (hK _ ?_) <;> clear hK <;> clear K
      refine qa (qm ?_)
      refine hk_cond rfl (fun hC3 => ?_) (fun hC3 => ?_)
      · (try simp only [nhs] at hC3)
        have hlt : i < l.length := by omega
        refine qh (qa (qm (ql (qm ?_))))
        refine hk_region fun K hK => runs_eval tab_ok ?_
        simp only [ev0, evA, evB, evP, fl, gp, tab, simprocAttr, reduceCtorEq, reduceIte, il_get hlt]
        refine fin_run ?_ (hK _ ?_) <;> clear hK <;> clear K
        · (first | exact trivial | omega | (simp only [In64] at *; omega) | (simp [In64] at *; omega) | (simp_all; done) | skip)
        refine qa (qm (qm ?_))
        by_cases g9a : l.getD i 0 < 0
        · refine hk_region fun K hK => runs_eval tab_ok ?_
          simp only [ev0, evA, evB, evP, fl, gp, tab, simprocAttr, reduceCtorEq, reduceIte, decide_eq_true g9a]
          refine fin_run trivial (hK _ ?_) <;> clear hK <;> clear K
          refine qa ?_
          refine hk_cond rfl (fun hC4 => ?_) (fun hC4 => ?_)
          · refine qm ?_
            refine hk_region fun K hK => runs_eval tab_ok ?_
            simp only [ev0, evA, evB, evP, fl, gp, tab, simprocAttr, reduceCtorEq, reduceIte]
            refine fin_stop trivial (runs_call (sfault_c 3 i) rfl rfl rfl (by simp only [dstOk, Nat.reduceLT]) (by repeat (first | exact trivial | constructor)) (runs_eval tab_ok ?_))
            simp only [ev0, evA, evB, evP, fl, gp, tab, simprocAttr, reduceCtorEq, reduceIte]
            refine fin_run ?_ (hK _ ?_) <;> clear hK <;> clear K
            · (first | exact trivial | omega | (simp only [In64] at *; omega) | (simp [In64] at *; omega) | (simp_all; done) | skip)
            refine qa (qk (qb (qe (qb (qb (qe (qb ?_)))))))
            simp only [Tryd.results78, enA, ev0, evA, evB, evP, fl, gp, tab, simprocAttr, reduceCtorEq, reduceIte]
            all_goals (rw [sf, if_neg (by simpa using hg), lf_at hC2 hlt (lfb_3 (fun h => h (.inl g9a))) (by simp) hi2]; simp)
          · cases hC4
        · refine hk_region fun K hK => runs_eval tab_ok ?_
          simp only [ev0, evA, evB, evP, fl, gp, tab, simprocAttr, reduceCtorEq, reduceIte, decide_eq_false g9a]
          refine fin_run ?_ (hK _ ?_) <;> clear hK <;> clear K
          · (first | exact trivial | omega | (simp only [In64] at *; omega) | (simp [In64] at *; omega) | (simp_all; done) | skip)
          refine qa ?_
          refine hk_cond rfl (fun hC4 => ?_) (fun hC4 => ?_)
          · (try simp only [nhs] at hC4)
            refine qm ?_
            refine hk_region fun K hK => runs_eval tab_ok ?_
            simp only [ev0, evA, evB, evP, fl, gp, tab, simprocAttr, reduceCtorEq, reduceIte]
            refine fin_stop trivial (runs_call (sfault_c 3 i) rfl rfl rfl (by simp only [dstOk, Nat.reduceLT]) (by repeat (first | exact trivial | constructor)) (runs_eval tab_ok ?_))
            simp only [ev0, evA, evB, evP, fl, gp, tab, simprocAttr, reduceCtorEq, reduceIte]
            refine fin_run ?_ (hK _ ?_) <;> clear hK <;> clear K
            · (first | exact trivial | omega | (simp only [In64] at *; omega) | (simp [In64] at *; omega) | (simp_all; done) | skip)
            refine qa (qk (qb (qe (qb (qb (qe (qb ?_)))))))
            simp only [Tryd.results78, enA, ev0, evA, evB, evP, fl, gp, tab, simprocAttr, reduceCtorEq, reduceIte]
            all_goals (rw [sf, if_neg (by simpa using hg), lf_at hC2 hlt (lfb_3 (fun h => h (.inr hC4))) (by simp) hi2]; simp)
          · (try simp only [nhs] at hC4)
            have hok : okT N l i := by unfold okT; omega
            refine qh (qa (qm ?_))
            by_cases g11a : (i : Int) > 0
            · refine hk_region fun K hK => runs_eval tab_ok ?_
              simp only [ev0, evA, evB, evP, fl, gp, tab, simprocAttr, reduceCtorEq, reduceIte, il_get hlt, tn_pred, il_get (show i - 1 < l.length by omega), decide_eq_true g11a]
              refine fin_run ?_ (hK _ ?_) <;> clear hK <;> clear K
              · (first | exact trivial | omega | (simp only [In64] at *; omega) | (simp [In64] at *; omega) | (simp_all; done) | skip)
              refine qa ?_
              refine hk_cond rfl (fun hC5 => ?_) (fun hC5 => ?_)
              · (try simp only [nhs] at hC5)
                refine qm ?_
                refine hk_region fun K hK => runs_eval tab_ok ?_
                simp only [ev0, evA, evB, evP, fl, gp, tab, simprocAttr, reduceCtorEq, reduceIte]
                refine fin_stop trivial (runs_call (sfault_c 5 i) rfl rfl rfl (by simp only [dstOk, Nat.reduceLT]) (by repeat (first | exact trivial | constructor)) (runs_eval tab_ok ?_))
                simp only [ev0, evA, evB, evP, fl, gp, tab, simprocAttr, reduceCtorEq, reduceIte]
                refine fin_run ?_ (hK _ ?_) <;> clear hK <;> clear K
                · (first | exact trivial | omega | (simp only [In64] at *; omega) | (simp [In64] at *; omega) | (simp_all; done) | skip)
                refine qa (qk (qe (qb (qb (qe (qb ?_))))))
                simp only [Tryd.results78, enA, ev0, evA, evB, evP, fl, gp, tab, simprocAttr, reduceCtorEq, reduceIte]
                all_goals (rw [sf, if_neg (by simpa using hg), lf_at hC2 hlt (lfb_5 hok (by omega) hC5) (by simp) hi2]; simp)
              · (try simp only [nhs] at hC5)
                have h0 : (lfb N l i).1 = 0 := lfb_0 hok fun h => by omega
                refine qh (qd (qa ?_))
                refine hk_region fun K hK => runs_eval tab_ok ?_
                simp only [ev0, evA, evB, evP, fl, gp, tab, simprocAttr, reduceCtorEq, reduceIte]
                refine fin_run ?_ (hK _ ?_) <;> clear hK <;> clear K
                · (first | exact trivial | omega | (simp only [In64] at *; omega) | (simp [In64] at *; omega) | (simp_all; done) | skip)
                refine qa ?_
                refine ⟨i + 1, [0, 1], ⟨by omega, fun j hj => ?_⟩, by omega, ?_⟩
                · by_cases hj : j = i
                  · subst hj; exact h0
                  · exact hi2 j (by omega)
                · simp only [leq, leA, ev0, evA, evB, evP, fl, gp, tab, simprocAttr, reduceCtorEq, reduceIte] <;> omega
            · refine hk_region fun K hK => runs_eval tab_ok ?_
              simp only [ev0, evA, evB, evP, fl, gp, tab, simprocAttr, reduceCtorEq, reduceIte, il_get hlt, tn_pred, il_get (show i - 1 < l.length by omega), decide_eq_false g11a]
              refine fin_run trivial (hK _ ?_) <;> clear hK <;> clear K
              refine qa ?_
              refine hk_cond rfl (fun hC5 => ?_) (fun hC5 => ?_)
              · cases hC5
              · have h0 : (lfb N l i).1 = 0 := lfb_0 hok fun h => by omega
                refine qh (qd (qa ?_))
                refine hk_region fun K hK => runs_eval tab_ok ?_
                simp only [ev0, evA, evB, evP, fl, gp, tab, simprocAttr, reduceCtorEq, reduceIte]
                refine fin_run ?_ (hK _ ?_) <;> clear hK <;> clear K
                · (first | exact trivial | omega | (simp only [In64] at *; omega) | (simp [In64] at *; omega) | (simp_all; done) | skip)
                refine qa ?_
                refine ⟨i + 1, [0, 1], ⟨by omega, fun j hj => ?_⟩, by omega, ?_⟩
                · by_cases hj : j = i
                  · subst hj; exact h0
                  · exact hi2 j (by omega)
                · simp only [leq, leA, ev0, evA, evB, evP, fl, gp, tab, simprocAttr, reduceCtorEq, reduceIte] <;> omega
      · (try simp only [nhs] at hC3)
        refine qj (qc (qc (qf (qa (qm ?_)))))
        refine hk_region fun K hK => runs_eval tab_ok ?_
        simp only [ev0, evA, evB, evP, fl, gp, tab, simprocAttr, reduceCtorEq, reduceIte]
        refine fin_run ?_ (hK _ ?_) <;> clear hK <;> clear K
        · (first | exact trivial | omega | (simp only [In64] at *; omega) | (simp [In64] at *; omega) | (simp_all; done) | skip)
        refine qa (qk ?_)
        simp only [Tryd.results78, enA, ev0, evA, evB, evP, fl, gp, tab, simprocAttr, reduceCtorEq, reduceIte]
        all_goals (rw [sf, if_neg (by simpa using hg), lf_none hC2 (fun j hj => hi2 j (by omega))]; simp)

/-! ### Choosing -/

theorem those_c (n : Nat) (m : List Int) (F : FuncId) (caps : List PV) (p : Nat → Bool) (hn : n ≤ 1000000) (hF : ∀ a, a < n → FnC Tryd.prog F (.int .i64 a :: caps) (.bool (p a))) : FnC Tryd.prog 23 [gp n m, .fn F caps] (.list (il (thl n p))) := by
  refine fnc_of tab_ok Tryd.func23 rfl (by kernel_rfl) (by rw [Tryd.ntmps23]; exact Nat.le_add_left 2 _) ?_; rw [Tryd.ntmps23]
  refine qm ?_
  refine hk_region fun K hK => runs_eval tab_ok ?_
  simp only [ev0, evA, evB, evP, fl, gp, tab, simprocAttr, reduceCtorEq, reduceIte]
  refine fin_run ?_ (hK _ ?_) <;> clear hK <;> clear K
  · (first | exact trivial | omega | (simp only [In64] at *; omega) | (simp [In64] at *; omega) | (simp_all; done) | skip)
  refine qa (qm ?_)
  refine hk_region fun K hK => runs_eval tab_ok ?_
  simp only [ev0, evA, evB, evP, fl, gp, tab, simprocAttr, reduceCtorEq, reduceIte]
  refine fin_run trivial (hK _ ?_) <;> clear hK <;> clear K
  refine qa (qm (qm ?_))
  refine hk_region fun K hK => runs_eval tab_ok ?_
  simp only [ev0, evA, evB, evP, fl, gp, tab, simprocAttr, reduceCtorEq, reduceIte]
  refine fin_run trivial (hK _ ?_) <;> clear hK <;> clear K
  refine qa (ql ?_)
  refine hk_own0 5 rfl ?_
  refine hk_loop (ι := Nat) (fun i => ⟨21, [(1, .p (.fn F caps)), (2, .ptr 0 0), (5, .sl 1 0 (thl i p).length), (6, .p (.int .i64 i))], [.own [.p (.int .i64 n), .p (.list (il m))], .own (ol (thl i p))]⟩) (fun i => i ≤ n) (fun i => n - i) 0 (Nat.zero_le _) [0, 1] (by simp only [leq, leA, ev0, evA, evB, evP, fl, gp, tab, simprocAttr, reduceCtorEq, reduceIte] <;> simp [thl, thn', ol_nil]) fun i hi => ?_
  have hl := thl_le i p
  refine qm (qm ?_)
  refine hk_region fun K hK => runs_eval tab_ok ?_
  simp only [ev0, evA, evB, evP, fl, gp, tab, simprocAttr, reduceCtorEq, reduceIte]
  refine fin_run ?_ (hK _ ?_) <;> clear hK <;> clear K
  · (first | exact trivial | omega | (simp only [In64] at *; omega) | (simp [In64] at *; omega) | (simp_all; done) | skip)
  refine qa ?_
  refine hk_cond rfl (fun hC1 => ?_) (fun hC1 => ?_)
  · (try simp only [nhs] at hC1)
    have hlt : i < n := by omega
    have hs := thl_succ i p
    refine qh (qa (qm (ql (qm ?_))))
    refine hk_region fun K hK => runs_eval tab_ok ?_
    simp only [ev0, evA, evB, evP, fl, gp, tab, simprocAttr, reduceCtorEq, reduceIte]
    refine fin_stop trivial (runs_call (hF i hlt) rfl rfl rfl (by simp only [dstOk, Nat.reduceLT]) (by repeat (first | exact trivial | constructor)) (runs_eval tab_ok ?_))
    simp only [ev0, evA, evB, evP, fl, gp, tab, simprocAttr, reduceCtorEq, reduceIte]
    refine fin_run trivial (hK _ ?_) <;> clear hK <;> clear K
    refine qa ?_
    refine hk_cond rfl (fun hC2 => ?_) (fun hC2 => ?_)
    · (try simp only [nhs] at hC2)
      rw [if_pos hC2] at hs
      refine hk_region fun K hK => runs_eval tab_ok ?_
      simp only [ev0, evA, evB, evP, fl, gp, tab, simprocAttr, reduceCtorEq, reduceIte]
      refine fin_run ?_ (hK _ ?_) <;> clear hK <;> clear K
      · (first | exact trivial | omega | (simp only [In64] at *; omega) | (simp [In64] at *; omega) | (simp_all; done) | skip)
      refine qd (qa ?_)
      refine hk_region fun K hK => runs_eval tab_ok ?_
      simp only [ev0, evA, evB, evP, fl, gp, tab, simprocAttr, reduceCtorEq, reduceIte]
      refine fin_run ?_ (hK _ ?_) <;> clear hK <;> clear K
      · (first | exact trivial | omega | (simp only [In64] at *; omega) | (simp [In64] at *; omega) | (simp_all; done) | skip)
      refine qa ?_
      refine ⟨i + 1, [0, 2], by omega, by omega, ?_⟩
      rw [hs]
      simp only [leq, leA, ev0, evA, evB, evP, fl, gp, tab, simprocAttr, reduceCtorEq, reduceIte] <;> first | trivial | omega
    · (try simp only [nhs] at hC2)
      rw [if_neg (by rw [hC2]; simp)] at hs
      refine qh (qd (qa ?_))
      refine hk_region fun K hK => runs_eval tab_ok ?_
      simp only [ev0, evA, evB, evP, fl, gp, tab, simprocAttr, reduceCtorEq, reduceIte]
      refine fin_run ?_ (hK _ ?_) <;> clear hK <;> clear K
      · (first | exact trivial | omega | (simp only [In64] at *; omega) | (simp [In64] at *; omega) | (simp_all; done) | skip)
      refine qa ?_
      refine ⟨i + 1, [0, 1], by omega, by omega, ?_⟩
      rw [hs, List.append_nil]
      simp only [leq, leA, ev0, evA, evB, evP, fl, gp, tab, simprocAttr, reduceCtorEq, reduceIte] <;> first | trivial | omega
  · (try simp only [nhs] at hC1)
    have hin : i = n := by omega
    subst hin
    refine hk_seal 5 1 rfl rfl ?_
    refine qj (qc (qc (qf (qa (qm ?_)))))
    refine hk_region fun K hK => runs_eval tab_ok ?_
    simp only [ev0, evA, evB, evP, fl, gp, tab, simprocAttr, reduceCtorEq, reduceIte]
    refine fin_run trivial (hK _ ?_) <;> clear hK <;> clear K
    refine qa (qk ?_)
    simp only [Tryd.results23, enA, ev0, evA, evB, evP, fl, gp, tab, simprocAttr, reduceCtorEq, reduceIte]
    all_goals (rfl)

theorem choose_c (n : Nat) (m : List Int) (F : FuncId) (caps : List PV) (p : Nat → Bool) (hn : n ≤ 1000000) (hF : ∀ a, a < n → FnC Tryd.prog F (.int .i64 a :: caps) (.bool (p a))) : FnC Tryd.prog 96 [gp n m, .fn F caps] (.list (il (thl n p))) := by
  refine fnc_of tab_ok Tryd.func96 rfl (by kernel_rfl) (by rw [Tryd.ntmps96]; exact Nat.le_add_left 2 _) ?_; rw [Tryd.ntmps96]
  refine qm ?_
  refine hk_region fun K hK => runs_eval tab_ok ?_
  simp only [ev0, evA, evB, evP, fl, gp, tab, simprocAttr, reduceCtorEq, reduceIte]
  refine fin_run ?_ (hK _ ?_) <;> clear hK <;> clear K
  · (first | exact trivial | omega | (simp only [In64] at *; omega) | (simp [In64] at *; omega) | (simp_all; done) | skip)
  refine qa (qm ?_)
  refine hk_region fun K hK => runs_eval tab_ok ?_
  simp only [ev0, evA, evB, evP, fl, gp, tab, simprocAttr, reduceCtorEq, reduceIte]
  refine fin_run trivial (hK _ ?_) <;> clear hK <;> clear K
  refine qa (qm (qm ?_))
  refine hk_own0 5 rfl ?_
  refine hk_region fun K hK => runs_eval tab_ok ?_
  simp only [ev0, evA, evB, evP, fl, gp, tab, simprocAttr, reduceCtorEq, reduceIte]
  refine fin_run ?_ (hK _ ?_) <;> clear hK <;> clear K
  · (first | exact trivial | omega | (simp only [In64] at *; omega) | (simp [In64] at *; omega) | (simp_all; done) | skip)
  refine qa (ql ?_)
  refine hk_loop (ι := Nat) (fun i => ⟨21, [(1, .p (.fn F caps)), (5, .sl 0 0 (thl i p).length), (8, .p (.int .i64 n)), (9, .p (.int .i64 i))], [.own (ol (thl i p))]⟩) (fun i => i ≤ n) (fun i => n - i) 0 (Nat.zero_le _) [1] (by simp only [leq, leA, ev0, evA, evB, evP, fl, gp, tab, simprocAttr, reduceCtorEq, reduceIte] <;> simp [thl, thn', ol_nil]) fun i hi => ?_
  have hl := thl_le i p
  refine qm ?_
  refine hk_region fun K hK => runs_eval tab_ok ?_
  simp only [ev0, evA, evB, evP, fl, gp, tab, simprocAttr, reduceCtorEq, reduceIte]
  refine fin_run trivial (hK _ ?_) <;> clear hK <;> clear K
  refine qa (qm ?_)
  refine hk_cond rfl (fun hC1 => ?_) (fun hC1 => ?_)
  · (try simp only [nhs] at hC1)
    have hlt : i < n := by omega
    have hs := thl_succ i p
    refine qh (qa (qm (ql (qm ?_))))
    refine hk_region fun K hK => runs_eval tab_ok ?_
    simp only [ev0, evA, evB, evP, fl, gp, tab, simprocAttr, reduceCtorEq, reduceIte]
    refine fin_run trivial (hK _ ?_) <;> clear hK <;> clear K
    refine qa (qm ?_)
    refine hk_region fun K hK => runs_eval tab_ok ?_
    simp only [ev0, evA, evB, evP, fl, gp, tab, simprocAttr, reduceCtorEq, reduceIte]
    refine fin_stop trivial (runs_call (hF i hlt) rfl rfl rfl (by simp only [dstOk, Nat.reduceLT]) (by repeat (first | exact trivial | constructor)) (runs_eval tab_ok ?_))
    simp only [ev0, evA, evB, evP, fl, gp, tab, simprocAttr, reduceCtorEq, reduceIte]
    refine fin_run trivial (hK _ ?_) <;> clear hK <;> clear K
    refine qa ?_
    refine hk_cond rfl (fun hC2 => ?_) (fun hC2 => ?_)
    · (try simp only [nhs] at hC2)
      rw [if_pos hC2] at hs
      refine hk_region fun K hK => runs_eval tab_ok ?_
      simp only [ev0, evA, evB, evP, fl, gp, tab, simprocAttr, reduceCtorEq, reduceIte]
      refine fin_run ?_ (hK _ ?_) <;> clear hK <;> clear K
      · (first | exact trivial | omega | (simp only [In64] at *; omega) | (simp [In64] at *; omega) | (simp_all; done) | skip)
      refine qd (qa ?_)
      refine hk_region fun K hK => runs_eval tab_ok ?_
      simp only [ev0, evA, evB, evP, fl, gp, tab, simprocAttr, reduceCtorEq, reduceIte]
      refine fin_run ?_ (hK _ ?_) <;> clear hK <;> clear K
      · (first | exact trivial | omega | (simp only [In64] at *; omega) | (simp [In64] at *; omega) | (simp_all; done) | skip)
      refine qa ?_
      refine ⟨i + 1, [1], by omega, by omega, ?_⟩
      rw [hs]
      simp only [leq, leA, ev0, evA, evB, evP, fl, gp, tab, simprocAttr, reduceCtorEq, reduceIte] <;> first | trivial | omega
    · (try simp only [nhs] at hC2)
      rw [if_neg (by rw [hC2]; simp)] at hs
      refine qh (qd (qa ?_))
      refine hk_region fun K hK => runs_eval tab_ok ?_
      simp only [ev0, evA, evB, evP, fl, gp, tab, simprocAttr, reduceCtorEq, reduceIte]
      refine fin_run ?_ (hK _ ?_) <;> clear hK <;> clear K
      · (first | exact trivial | omega | (simp only [In64] at *; omega) | (simp [In64] at *; omega) | (simp_all; done) | skip)
      refine qa ?_
      refine ⟨i + 1, [0], by omega, by omega, ?_⟩
      rw [hs, List.append_nil]
      simp only [leq, leA, ev0, evA, evB, evP, fl, gp, tab, simprocAttr, reduceCtorEq, reduceIte] <;> first | trivial | omega
  · (try simp only [nhs] at hC1)
    have hin : i = n := by omega
    subst hin
    refine hk_seal 5 0 rfl rfl ?_
    refine qj (qc (qc (qf (qa (qm ?_)))))
    refine hk_region fun K hK => runs_eval tab_ok ?_
    simp only [ev0, evA, evB, evP, fl, gp, tab, simprocAttr, reduceCtorEq, reduceIte]
    refine fin_run trivial (hK _ ?_) <;> clear hK <;> clear K
    refine qa (qk ?_)
    simp only [Tryd.results96, enA, ev0, evA, evB, evP, fl, gp, tab, simprocAttr, reduceCtorEq, reduceIte]
    all_goals (rfl)

theorem has_r (l : List Int) (x : Int) (hl : l.length ≤ 1000000000000000) : FnC Tryd.prog 29 [.list (il l), .int .i64 x] (.bool (decide (x ∈ l))) := by
  refine fnc_of tab_ok Tryd.func29 rfl (by kernel_rfl) (by rw [Tryd.ntmps29]; exact Nat.le_add_left 2 _) ?_; rw [Tryd.ntmps29]
  refine qm ?_
  refine hk_region fun K hK => runs_eval tab_ok ?_
  simp only [ev0, evA, evB, evP, fl, gp, tab, simprocAttr, reduceCtorEq, reduceIte]
  refine fin_run trivial (hK _ ?_) <;> clear hK <;> clear K
  refine qa (qm (qm ?_))
  refine hk_region fun K hK => runs_eval tab_ok ?_
  simp only [ev0, evA, evB, evP, fl, gp, tab, simprocAttr, reduceCtorEq, reduceIte]
  refine fin_run trivial (hK _ ?_) <;> clear hK <;> clear K
  refine qa (ql ?_)
  refine hk_loop (ι := Nat) (fun i => ⟨18, [(0, .p (.list (il l))), (1, .p (.int .i64 x)), (5, .p (.int .i64 i))], []⟩) (fun i => i ≤ l.length ∧ ∀ j, j < i → l.getD j 0 ≠ x) (fun i => l.length - i) 0 ⟨Nat.zero_le _, fun j hj => by omega⟩ [] (by simp only [leq, leA, ev0, evA, evB, evP, fl, gp, tab, simprocAttr, reduceCtorEq, reduceIte] <;> trivial) fun i hi => ?_
  obtain ⟨hi1, hi2⟩ := hi
  refine qm (qm ?_)
  refine hk_region fun K hK => runs_eval tab_ok ?_
  simp only [ev0, evA, evB, evP, fl, gp, tab, simprocAttr, reduceCtorEq, reduceIte]
  refine fin_run trivial (hK _ ?_) <;> clear hK <;> clear K
  refine qa ?_
  refine hk_cond rfl (fun hC1 => ?_) (fun hC1 => ?_)
  · (try simp only [nhs] at hC1)
    have hlt : i < l.length := by omega
    refine qh (qa (qm (ql (qm ?_))))
    refine hk_region fun K hK => runs_eval tab_ok ?_
    simp only [ev0, evA, evB, evP, fl, gp, tab, simprocAttr, reduceCtorEq, reduceIte, il_get hlt]
    refine fin_run ?_ (hK _ ?_) <;> clear hK <;> clear K
    · (first | exact trivial | omega | (simp only [In64] at *; omega) | (simp [In64] at *; omega) | (simp_all; done) | skip)
    refine qa ?_
    refine hk_cond rfl (fun hC2 => ?_) (fun hC2 => ?_)
    · (try simp only [nhs] at hC2)
      refine qm ?_
      refine hk_region fun K hK => runs_eval tab_ok ?_
      simp only [ev0, evA, evB, evP, fl, gp, tab, simprocAttr, reduceCtorEq, reduceIte]
      refine fin_run trivial (hK _ ?_) <;> clear hK <;> clear K
      refine qa (qk (qe (qb (qb (qe (qb ?_))))))
      simp only [Tryd.results29, enA, ev0, evA, evB, evP, fl, gp, tab, simprocAttr, reduceCtorEq, reduceIte]
      all_goals (rw [eq_comm]; refine decide_eq_true ?_; rw [← hC2]; simp [List.getD, List.getElem?_eq_getElem hlt])
    · (try simp only [nhs] at hC2)
      refine qh (qd (qa ?_))
      refine hk_region fun K hK => runs_eval tab_ok ?_
      simp only [ev0, evA, evB, evP, fl, gp, tab, simprocAttr, reduceCtorEq, reduceIte]
      refine fin_run ?_ (hK _ ?_) <;> clear hK <;> clear K
      · (first | exact trivial | omega | (simp only [In64] at *; omega) | (simp [In64] at *; omega) | (simp_all; done) | skip)
      refine qa ?_
      refine ⟨i + 1, [], ⟨by omega, fun j hj => ?_⟩, by omega, ?_⟩
      · by_cases hj : j = i
        · subst hj; exact hC2
        · exact hi2 j (by omega)
      · simp only [leq, leA, ev0, evA, evB, evP, fl, gp, tab, simprocAttr, reduceCtorEq, reduceIte] <;> omega
  · (try simp only [nhs] at hC1)
    refine qj (qc (qc (qf (qa (qm ?_)))))
    refine hk_region fun K hK => runs_eval tab_ok ?_
    simp only [ev0, evA, evB, evP, fl, gp, tab, simprocAttr, reduceCtorEq, reduceIte]
    refine fin_run trivial (hK _ ?_) <;> clear hK <;> clear K
    refine qa (qk ?_)
    simp only [Tryd.results29, enA, ev0, evA, evB, evP, fl, gp, tab, simprocAttr, reduceCtorEq, reduceIte]
    all_goals (rw [eq_comm]; refine decide_eq_false fun hm => ?_; obtain ⟨j, hj, e⟩ := List.getElem_of_mem hm; exact hi2 j (by omega) (by simp [List.getD, List.getElem?_eq_getElem hj, e]))

end Go.Proofs.YtjikchbmkodgfaaDoor

/-
  Sets of things: what they make, as the program has it. Conditions: none.
-/
set_option linter.all false
namespace Go.Proofs.YtjikchbmkodgfaaDoor
open Go.Pv

/-- The bits of the things of which something holds. -/
def bo (n : Nat) (p : Nat → Bool) : Nat := msk (thl n p)
theorem bo_bit (n : Nat) (p : Nat → Bool) (i : Nat) : (bo n p).testBit i = (decide (i < n) && p i) := by
  unfold bo
  rw [msk_bit, Bool.eq_iff_iff, decide_eq_true_eq, Bool.and_eq_true, decide_eq_true_eq]
  constructor
  · rintro ⟨x, hx, rfl⟩
    obtain ⟨a, h1, h2, rfl⟩ := mem_thl.1 hx
    exact ⟨h1, h2⟩
  · rintro ⟨h1, h2⟩
    exact ⟨(i : Int), mem_thl.2 ⟨i, h1, h2, rfl⟩, rfl⟩
theorem bo_lt (n : Nat) (p : Nat → Bool) : bo n p < 2 ^ n := msk_lt fun x hx => by
  obtain ⟨a, h1, _, rfl⟩ := mem_thl.1 hx
  exact h1
theorem bo_lt64 {n : Nat} (hn : n ≤ 60) (p : Nat → Bool) : bo n p < 2 ^ 64 := Nat.lt_of_lt_of_le (bo_lt n p) (Nat.pow_le_pow_right (by omega) (by omega))
theorem bo_eq {n s : Nat} {p : Nat → Bool} (hs : s < 2 ^ n) (h : ∀ i, i < n → s.testBit i = p i) : s = bo n p := by
  refine Nat.eq_of_testBit_eq fun i => ?_
  rw [bo_bit]
  by_cases hi : i < n
  · rw [h i hi]; simp [hi]
  · rw [Nat.testBit_lt_two_pow (Nat.lt_of_lt_of_le hs (Nat.pow_le_pow_right (by omega) (by omega)))]; simp [hi]
theorem bo_congr {n : Nat} {p q : Nat → Bool} (h : ∀ a, a < n → p a = q a) : bo n p = bo n q := by unfold bo; rw [thl_congr h]
theorem bo_inj {n : Nat} {p q : Nat → Bool} (h : bo n p = bo n q) {a : Nat} (ha : a < n) : p a = q a := by
  have h1 := bo_bit n p a
  rw [h, bo_bit] at h1
  simpa [ha] using h1.symm
theorem stl_bo {n : Nat} (hn : n ≤ 60) (p : Nat → Bool) : stl (bo n p) = thl n p := by
  rw [stl_n (by omega) (bo_lt n p)]
  exact thl_congr fun a ha => by rw [bo_bit]; simp [ha]
theorem msk_thl (n : Nat) (p : Nat → Bool) : msk (thl n p) = bo n p := rfl
theorem thl_rng {n : Nat} (hn : n ≤ 60) (p : Nat → Bool) : ∀ x ∈ thl n p, 0 ≤ x ∧ x < 64 := by
  intro x hx
  obtain ⟨a, h1, _, rfl⟩ := mem_thl.1 hx
  omega
theorem pow_lt64 {b : Nat} (hb : b < 64) : 2 ^ b < 2 ^ 64 := Nat.pow_lt_pow_right (by omega) hb
theorem lt64 {n s : Nat} (hn : n ≤ 60) (hs : s < 2 ^ n) : s < 2 ^ 64 := Nat.lt_of_lt_of_le hs (Nat.pow_le_pow_right (by omega) (by omega))
theorem bit_ltn {n s i : Nat} (hs : s < 2 ^ n) (h : s.testBit i = true) : i < n := by
  rcases Nat.lt_or_ge i n with h1 | h1
  · exact h1
  · rw [Nat.testBit_lt_two_pow (Nat.lt_of_lt_of_le hs (Nat.pow_le_pow_right (by omega) h1))] at h; cases h

theorem app_at (pre w : List Int) (a : Int) (d : AV) : (ol (pre ++ a :: w)).getD pre.length d = .p (.int .i64 a) := by
  simp [ol, il, List.getD]

/-- What holds while a set grows. -/
structure GrowI (n : Nat) (f : Nat → Nat → Nat) (e s out : Nat) (w : List Int) : Prop where
  lt : out < 2 ^ n
  one : out.testBit e = true
  gen : ∀ a, out.testBit a = true → Gen n f e s.testBit a
  wait : ∀ x ∈ w, ∃ a, x = ((a : Nat) : Int) ∧ out.testBit a = true
  nd : w.Nodup

theorem or_bit (s b i : Nat) : (s ||| 2 ^ b).testBit i = (s.testBit i || decide (b = i)) := by rw [Nat.testBit_or, Nat.testBit_two_pow]
theorem GrowI.len {n e s out : Nat} {f : Nat → Nat → Nat} {w : List Int} (h : GrowI n f e s out w) : w.length ≤ n := by
  have h1 := List.Nodup.length_le_of_subset h.nd (l₂ := thl n fun _ => true) fun x hx => by
    obtain ⟨a, rfl, ha⟩ := h.wait x hx
    exact mem_thl.2 ⟨a, bit_ltn h.lt ha, rfl, rfl⟩
  exact Nat.le_trans h1 (thl_le _ _)
theorem GrowI.add {n e s out a z : Nat} {f : Nat → Nat → Nat} {w : List Int} (h : GrowI n f e s out w) (ha : out.testBit a = true) (hz : s.testBit z = true) (hzn : z < n) (hn : f a z < n) (hno : out.testBit (f a z) = false) :
    GrowI n f e s (out ||| 2 ^ f a z) (w ++ [((f a z : Nat) : Int)]) where
  lt := Nat.or_lt_two_pow h.lt (Nat.pow_lt_pow_right (by omega) hn)
  one := by rw [or_bit, h.one]; rfl
  gen y hy := by
    rw [or_bit, Bool.or_eq_true, decide_eq_true_eq] at hy
    rcases hy with hy | rfl
    · exact h.gen y hy
    · exact .step a z (h.gen a ha) hzn hz
  wait x hx := by
    rcases List.mem_append.1 hx with hx | hx
    · obtain ⟨y, e1, e2⟩ := h.wait x hx
      exact ⟨y, e1, by rw [or_bit, e2]; rfl⟩
    · exact ⟨_, List.mem_singleton.1 hx, by rw [or_bit]; simp⟩
  nd := by
    refine List.nodup_append.2 ⟨h.nd, by simp, fun x hx y hy e => ?_⟩
    rw [List.mem_singleton] at hy
    obtain ⟨y', e1, e2⟩ := h.wait x hx
    have : y' = f a z := by omega
    rw [this, hno] at e2; cases e2

theorem grow_c {n e : Nat} {m : List Int} (h : GT n m n e) (s : Nat) (hs : s < 2 ^ n) (q : Nat → Bool) (hq : ∀ a, a < n → (q a = true ↔ Gen n (op m n) e s.testBit a)) : FnC Tryd.prog 79 [gp n m, .int .u64 s] (.int .u64 (bo n q)) := by
  have G := h.2.2
  have T := h.2.1
  have hb := T.big
  have hel := G.el
  have hs64 := lt64 hb hs
  have hone := pow_lt64 (b := e) (by omega)
  have hbe : ∀ a, (2 ^ e).testBit a = true → a = e := fun a ha => by rw [Nat.testBit_two_pow] at ha; simp at ha; exact ha.symm
  have hstl : ∀ x ∈ stl (2 ^ e), x = (e : Int) := fun x hx => by
    obtain ⟨a, _, h2, rfl⟩ := mem_thl.1 hx
    rw [hbe a h2]
  have hstl2 : (e : Int) ∈ stl (2 ^ e) := mem_thl.2 ⟨e, by omega, by rw [Nat.testBit_two_pow]; simp, rfl⟩
  refine fnc_of tab_ok Tryd.func79 rfl (by kernel_rfl) (by rw [Tryd.ntmps79]; exact Nat.le_add_left 2 _) ?_; rw [Tryd.ntmps79]
  refine qm ?_
  refine hk_region fun K hK => runs_eval tab_ok ?_
  simp only [ev0, evA, evB, evP, fl, gp, tab, simprocAttr, reduceCtorEq, reduceIte]
  refine fin_run ?_ (hK _ ?_) <;> clear hK <;> clear K
  · (first | exact trivial | omega | (simp only [In64] at *; omega) | (simp [In64] at *; omega) | (simp_all; done) | skip)
  refine qa (qm ?_)
  refine hk_region fun K hK => runs_eval tab_ok ?_
  simp only [ev0, evA, evB, evP, fl, gp, tab, simprocAttr, reduceCtorEq, reduceIte]
  refine fin_stop trivial (runs_call (oneOf_c h) rfl rfl rfl (by simp only [dstOk, Nat.reduceLT]) (by repeat (first | exact trivial | constructor)) (runs_eval tab_ok ?_))
  simp only [ev0, evA, evB, evP, fl, gp, tab, simprocAttr, reduceCtorEq, reduceIte, shl_one (show e < 64 by omega)]
  refine fin_run ?_ (hK _ ?_) <;> clear hK <;> clear K
  · (first | exact trivial | omega | (simp only [In64] at *; omega) | (simp [In64] at *; omega) | (simp_all; done) | skip)
  refine qa (qm ?_)
  refine hk_region fun K hK => runs_eval tab_ok ?_
  simp only [ev0, evA, evB, evP, fl, gp, tab, simprocAttr, reduceCtorEq, reduceIte]
  refine fin_stop trivial (runs_callG (list_g (2 ^ e) hone) rfl rfl (by first | rfl | (simp [scG, scA, sc1, opl]; done) | (simp only [scG, List.all_cons, List.all_nil, ol_sc, Bool.and_true]; rfl)) (by simp only [dstOk, Nat.reduceLT]) (by repeat (first | exact trivial | constructor)) (runs_eval tab_ok ?_))
  simp only [shf, List.range', Blk.ren, opl_ren, ren, ren1, ev0, evA, evB, evP, fl, gp, tab, simprocAttr, reduceCtorEq, reduceIte]
  refine fin_run trivial (hK _ ?_) <;> clear hK <;> clear K
  refine qa (qm (ql ?_))
  refine hk_loop (ι := Nat × List Int × List Int) (fun p => ⟨48, [(1, .p (.int .u64 s)), (2, .ptr 0 0), (5, .p (.int .u64 p.1)), (6, .sl 1 p.2.1.length p.2.2.length)], [.own [.p (.int .i64 n), .p (.list (il m))], .own (ol (p.2.1 ++ p.2.2))]⟩) (fun p => GrowI n (op m n) e s p.1 p.2.2 ∧ ∀ a, p.1.testBit a = true → ((a : Nat) : Int) ∉ p.2.2 → ∀ b, s.testBit b = true → p.1.testBit (op m n a b) = true) (fun p => 2 * (2 ^ 64 - p.1) + p.2.2.length) (2 ^ e, [], stl (2 ^ e)) ⟨⟨Nat.pow_lt_pow_right (by omega) hel, by rw [Nat.testBit_two_pow]; simp, fun a ha => by rw [hbe a ha]; exact .one, fun x hx => ⟨e, hstl x hx, by rw [Nat.testBit_two_pow]; simp⟩, (thl_asc _ _).imp fun h => by omega⟩, fun a ha hn => absurd (by rw [hbe a ha]; exact hstl2) hn⟩ [0, 1] (by simp only [leq, leA, ev0, evA, evB, evP, fl, gp, tab, simprocAttr, reduceCtorEq, reduceIte] <;> first | trivial | simp [ol, opl]) fun p hp => ?_
  obtain ⟨out, pre, w⟩ := p
  obtain ⟨⟨i1, i2, i3, i4, i6⟩, i5⟩ := hp
  simp only at i1 i2 i3 i4 i5
  refine qm (qm ?_)
  refine hk_region fun K hK => runs_eval tab_ok ?_
  simp only [ev0, evA, evB, evP, fl, gp, tab, simprocAttr, reduceCtorEq, reduceIte]
  refine fin_run trivial (hK _ ?_) <;> clear hK <;> clear K
  refine qa ?_
  refine hk_cond rfl (fun hC1 => ?_) (fun hC1 => ?_)
  · (try simp only [nhs] at hC1)
    obtain ⟨x, w', rfl⟩ : ∃ x w', w = x :: w' := by
      cases w with
      | nil => simp at hC1
      | cons x w' => exact ⟨x, w', rfl⟩
    obtain ⟨a, rfl, hoa⟩ := i4 x (by simp)
    have hal := bit_ltn i1 hoa
    refine qh (qa (ql (qm ?_)))
    refine hk_region fun K hK => runs_eval tab_ok ?_
    simp only [ev0, evA, evB, evP, fl, gp, tab, simprocAttr, reduceCtorEq, reduceIte, app_at, Nat.add_zero]
    refine fin_run ?_ (hK _ ?_) <;> clear hK <;> clear K
    · (first | exact trivial | omega | (simp only [In64] at *; omega) | (simp [In64] at *; omega) | (simp_all; done) | skip)
    refine qa (qm ?_)
    refine hk_region fun K hK => runs_eval tab_ok ?_
    simp only [ev0, evA, evB, evP, fl, gp, tab, simprocAttr, reduceCtorEq, reduceIte]
    refine fin_run ?_ (hK _ ?_) <;> clear hK <;> clear K
    · (first | exact trivial | omega | (simp only [In64] at *; omega) | (simp [In64] at *; omega) | (simp_all; done) | skip)
    refine qa (qm ?_)
    refine hk_region fun K hK => runs_eval tab_ok ?_
    simp only [ev0, evA, evB, evP, fl, gp, tab, simprocAttr, reduceCtorEq, reduceIte]
    refine fin_run trivial (hK _ ?_) <;> clear hK <;> clear K
    refine qa (ql ?_)
    refine hk_loop (ι := Nat × Nat × List Int × List Int) (fun p => ⟨48, [(1, .p (.int .u64 s)), (2, .ptr 0 0), (5, .p (.int .u64 p.2.1)), (6, .sl 1 p.2.2.1.length p.2.2.2.length), (7, .p (.int .i64 a)), (8, .p (.int .u64 p.1))], [.own [.p (.int .i64 n), .p (.list (il m))], .own (ol (p.2.2.1 ++ p.2.2.2))]⟩) (fun p => GrowI n (op m n) e s p.2.1 p.2.2.2 ∧ (∀ i, p.1.testBit i = true → s.testBit i = true) ∧ p.1 < 2 ^ 64 ∧ (∀ y, p.2.1.testBit y = true → ((y : Nat) : Int) ∉ p.2.2.2 → y ≠ a → ∀ b, s.testBit b = true → p.2.1.testBit (op m n y b) = true) ∧ (∀ b, s.testBit b = true → p.1.testBit b = false → p.2.1.testBit (op m n a b) = true) ∧ p.2.1.testBit a = true ∧ 2 * (2 ^ 64 - p.2.1) + p.2.2.2.length ≤ 2 * (2 ^ 64 - out) + w'.length) (fun p => p.1) (s, out, pre ++ [(a : Int)], w') ⟨⟨i1, i2, i3, fun x hx => i4 x (by simp [hx]), (List.nodup_cons.1 i6).2⟩, fun i hi => hi, hs64, fun y hy hn hya b hbs => i5 y hy (by simp only [List.mem_cons, not_or]; exact ⟨by omega, hn⟩) b hbs, fun b hb1 hb2 => absurd (hb1.symm.trans hb2) (by simp), hoa, Nat.le_refl _⟩ [0, 1] (by simp only [leq, leA, ev0, evA, evB, evP, fl, gp, tab, simprocAttr, reduceCtorEq, reduceIte] <;> first | trivial | (simp; done) | (simp; rw [List.take_of_length_le (by simp; omega)])) fun p hp => ?_
    obtain ⟨t, out2, pre2, w2⟩ := p
    obtain ⟨jI, j5, j6, j7, j8, j9, j10⟩ := hp
    simp only at jI j5 j6 j7 j8 j9 j10
    have hw2 := jI.len
    have j1 := jI.lt
    refine qm (qm ?_)
    refine hk_region fun K hK => runs_eval tab_ok ?_
    simp only [ev0, evA, evB, evP, fl, gp, tab, simprocAttr, reduceCtorEq, reduceIte]
    refine fin_run trivial (hK _ ?_) <;> clear hK <;> clear K
    refine qa ?_
    refine hk_cond rfl (fun hC2 => ?_) (fun hC2 => ?_)
    · (try simp only [nhs] at hC2)
      have h0 : t ≠ 0 := by omega
      obtain ⟨z1, z2, z3⟩ := tz_spec j6 h0
      have hzs := j5 _ z2
      have hzn := bit_ltn hs hzs
      have hfn := G.cl a (tz t) hal hzn
      have ht1 : t - 1 < 2 ^ 64 := by omega
      have hsub : IntKind.u64.wrap ((t : Int) - 1) = ((t - 1 : Nat) : Int) := by rw [wrap_u]; omega
      have hcut : t &&& (t - 1) = cut t := rfl
      have ho64 := lt64 hb j1
      have hp64 := pow_lt64 (b := op m n a (tz t)) (by omega)
      refine qh (qa (qm (ql (qm ?_))))
      refine hk_draw mixed (by kernel_rfl) fun K hK => runs_eval tab_ok ?_
      simp only [ev0, evA, evB, evP, fl, gp, tab, simprocAttr, reduceCtorEq, reduceIte]
      refine fin_stop trivial (runs_call (tz_c t j6 h0) rfl rfl rfl (by simp only [dstOk, Nat.reduceLT]) (by repeat (first | exact trivial | constructor)) (runs_eval tab_ok ?_))
      simp only [ev0, evA, evB, evP, fl, gp, tab, simprocAttr, reduceCtorEq, reduceIte]
      refine fin_stop trivial (runs_call (of_c T hal hzn) rfl rfl rfl (by simp only [dstOk, Nat.reduceLT]) (by repeat (first | exact trivial | constructor)) (runs_eval tab_ok ?_))
      simp only [ev0, evA, evB, evP, fl, gp, tab, simprocAttr, reduceCtorEq, reduceIte]
      refine fin_run ?_ (hK _ ?_) <;> clear hK <;> clear K
      · (first | exact trivial | omega | (simp only [In64] at *; omega) | (simp [In64] at *; omega) | (simp_all; done) | skip)
      refine qa (qm ?_)
      refine hk_region fun K hK => runs_eval tab_ok ?_
      simp only [ev0, evA, evB, evP, fl, gp, tab, simprocAttr, reduceCtorEq, reduceIte]
      refine fin_stop trivial (runs_call (has_s out2 (op m n a (tz t)) ho64 (by omega)) rfl rfl rfl (by simp only [dstOk, Nat.reduceLT]) (by repeat (first | exact trivial | constructor)) (runs_eval tab_ok ?_))
      simp only [ev0, evA, evB, evP, fl, gp, tab, simprocAttr, reduceCtorEq, reduceIte]
      refine fin_run trivial (hK _ ?_) <;> clear hK <;> clear K
      refine qa ?_
      refine hk_cond rfl (fun hC3 => ?_) (fun hC3 => ?_)
      · (try simp only [nhs] at hC3)
        have hno : out2.testBit (op m n a (tz t)) = false := hC3
        have hlt2 : out2 < out2 ||| 2 ^ op m n a (tz t) := by
          rcases Nat.lt_or_eq_of_le (Nat.left_le_or (n := out2) (m := 2 ^ op m n a (tz t))) with h1 | h1
          · exact h1
          · exfalso
            have h2 := or_bit out2 (op m n a (tz t)) (op m n a (tz t))
            rw [← h1, hno] at h2
            simp at h2
        refine qm ?_
        refine hk_region fun K hK => runs_eval tab_ok ?_
        simp only [ev0, evA, evB, evP, fl, gp, tab, simprocAttr, reduceCtorEq, reduceIte, shl_one (show op m n a (tz t) < 64 by omega), bv_or ho64 hp64]
        refine fin_run ?_ (hK _ ?_) <;> clear hK <;> clear K
        · (first | exact trivial | omega | (simp only [In64] at *; omega) | (simp [In64] at *; omega) | (simp_all; done) | skip)
        refine qa ?_
        refine hk_region fun K hK => runs_eval tab_ok ?_
        simp only [ev0, evA, evB, evP, fl, gp, tab, simprocAttr, reduceCtorEq, reduceIte]
        refine fin_run ?_ (hK _ ?_) <;> clear hK <;> clear K
        · simp only [List.length_append]; omega
        refine qd (qa ?_)
        refine hk_region fun K hK => runs_eval tab_ok ?_
        simp only [ev0, evA, evB, evP, fl, gp, tab, simprocAttr, reduceCtorEq, reduceIte, hsub, bv_and j6 ht1, hcut]
        refine fin_run ?_ (hK _ ?_) <;> clear hK <;> clear K
        · (first | exact trivial | omega | (simp only [In64] at *; omega) | (simp [In64] at *; omega) | (simp_all; done) | skip)
        refine qa ?_
        have hI := jI.add j9 hzs hzn hfn hno
        have hI1 := lt64 hb hI.lt
        refine ⟨(cut t, out2 ||| 2 ^ op m n a (tz t), [], w2 ++ [((op m n a (tz t) : Nat) : Int)]), [0, 2], ⟨hI, fun i hi => ?_, ?_, fun y hy hn hya b hbs => ?_, fun b hb1 hb2 => ?_, ?_, ?_⟩, ?_, ?_⟩
        · simp only [cut_bit j6 h0, Bool.and_eq_true] at hi
          exact j5 i hi.1
        · exact Nat.lt_trans (cut_lt h0) j6
        · simp only [or_bit, Bool.or_eq_true, decide_eq_true_eq] at hy ⊢
          simp only [List.mem_append, List.mem_singleton, not_or] at hn
          rcases hy with hy | hy
          · exact .inl (j7 y hy hn.1 hya b hbs)
          · exact absurd (by rw [hy]) hn.2
        · simp only [cut_bit j6 h0] at hb2
          simp only [or_bit, Bool.or_eq_true, decide_eq_true_eq]
          by_cases hbz : b = tz t
          · right; rw [hbz]
          · left
            refine j8 b hb1 ?_
            cases htb : t.testBit b with
            | false => rfl
            | true => rw [htb] at hb2; simp at hb2; exact absurd hb2 hbz
        · simp only [or_bit, j9, Bool.true_or]
        · simp only [List.length_append, List.length_cons, List.length_nil]
          omega
        · exact cut_lt h0
        · simp only [leq, leA, ev0, evA, evB, evP, fl, gp, tab, simprocAttr, reduceCtorEq, reduceIte]
          rw [List.drop_left, List.take_length, List.take_of_length_le (by simp)]
      · (try simp only [nhs] at hC3)
        refine qh (qd (qa ?_))
        refine hk_region fun K hK => runs_eval tab_ok ?_
        simp only [ev0, evA, evB, evP, fl, gp, tab, simprocAttr, reduceCtorEq, reduceIte, hsub, bv_and j6 ht1, hcut]
        refine fin_run ?_ (hK _ ?_) <;> clear hK <;> clear K
        · (first | exact trivial | omega | (simp only [In64] at *; omega) | (simp [In64] at *; omega) | (simp_all; done) | skip)
        refine qa ?_
        refine ⟨(cut t, out2, pre2, w2), [0, 1], ⟨jI, fun i hi => ?_, ?_, j7, fun b hb1 hb2 => ?_, j9, j10⟩, cut_lt h0, ?_⟩
        · simp only [cut_bit j6 h0, Bool.and_eq_true] at hi
          exact j5 i hi.1
        · exact Nat.lt_trans (cut_lt h0) j6
        · simp only [cut_bit j6 h0] at hb2
          by_cases hbz : b = tz t
          · show out2.testBit (op m n a b) = true
            rw [hbz]; exact hC3
          · refine j8 b hb1 ?_
            cases htb : t.testBit b with
            | false => rfl
            | true => rw [htb] at hb2; simp at hb2; exact absurd hb2 hbz
        · simp only [leq, leA, ev0, evA, evB, evP, fl, gp, tab, simprocAttr, reduceCtorEq, reduceIte] <;> first | trivial | omega
    · (try simp only [nhs] at hC2)
      have ht0 : t = 0 := by omega
      subst ht0
      refine qj (qc (qc (qf (qd (qa ?_)))))
      refine ⟨(out2, pre2, w2), [0, 1], ⟨jI, fun y hy hn b hbs => ?_⟩, ?_, ?_⟩
      · by_cases hya : y = a
        · rw [hya]; exact j8 b hbs (by simp)
        · exact j7 y hy hn hya b hbs
      · have ho := lt64 hb j1
        have ho2 := lt64 hb i1
        simp only [List.length_cons]
        omega
      · simp only [leq, leA, ev0, evA, evB, evP, fl, gp, tab, simprocAttr, reduceCtorEq, reduceIte] <;> first | trivial | omega
  · (try simp only [nhs] at hC1)
    have hw0 : w = [] := by
      cases w with
      | nil => rfl
      | cons x r => simp at hC1
    subst hw0
    have hfin : out = bo n q := by
      refine bo_eq i1 fun i hi => ?_
      rw [Bool.eq_iff_iff, hq i hi]
      refine ⟨i3 i, fun hg => ?_⟩
      exact Gen.least i2 (fun a b _ _ hb hH => i5 a hH (by simp) b hb) hg
    refine qj (qc (qc (qf (qa (qm ?_)))))
    refine hk_region fun K hK => runs_eval tab_ok ?_
    simp only [ev0, evA, evB, evP, fl, gp, tab, simprocAttr, reduceCtorEq, reduceIte]
    refine fin_run trivial (hK _ ?_) <;> clear hK <;> clear K
    refine qa (qk ?_)
    simp only [Tryd.results79, enA, ev0, evA, evB, evP, fl, gp, tab, simprocAttr, reduceCtorEq, reduceIte]
    all_goals (rw [hfin])
end Go.Proofs.YtjikchbmkodgfaaDoor

/-
  Sets of things: what they make, as the document has it. Conditions: none.
-/
set_option linter.all false
namespace Go.Proofs.YtjikchbmkodgfaaDoor
open Go.Pv

/-! ### Looked at -/

theorem thl_get_asc {n : Nat} {p : Nat → Bool} {i j : Nat} (hij : i < j) (hj : j < (thl n p).length) : (thl n p).getD i 0 < (thl n p).getD j 0 := by
  have := List.pairwise_iff_getElem.1 (thl_asc n p) i j (by omega) hj hij
  simpa [List.getD, List.getElem?_eq_getElem hj, List.getElem?_eq_getElem (show i < (thl n p).length by omega)] using this
theorem thl_get {n : Nat} {p : Nat → Bool} {i : Nat} (hi : i < (thl n p).length) : ∃ a, a < n ∧ p a = true ∧ (thl n p).getD i 0 = ((a : Nat) : Int) := by
  have : (thl n p).getD i 0 ∈ thl n p := by simp [List.getD, List.getElem?_eq_getElem hi]
  exact mem_thl.1 this
theorem thl_at {n : Nat} {p : Nat → Bool} {a : Nat} (ha : a < n) (h : p a = true) : ∃ i, i < (thl n p).length ∧ (thl n p).getD i 0 = ((a : Nat) : Int) := by
  obtain ⟨i, hi, e⟩ := List.getElem_of_mem (mem_thl.2 ⟨a, ha, h, rfl⟩)
  exact ⟨i, hi, by simp [List.getD, List.getElem?_eq_getElem hi, e]⟩
theorem mem_thl_n {n : Nat} {p : Nat → Bool} {a : Nat} (ha : a < n) : ((a : Nat) : Int) ∈ thl n p ↔ p a = true := by
  rw [mem_thl]
  constructor
  · rintro ⟨b, _, h2, e⟩
    have : a = b := by omega
    subst this; exact h2
  · exact fun h => ⟨a, ha, h, rfl⟩
theorem lf_thl (n : Nat) (p : Nat → Bool) : lf n (thl n p) = (0, 0) := by
  refine lf_none (by have := thl_le n p; omega) fun j hj => lfb_0 ?_ fun h0 => ?_
  · obtain ⟨a, h1, _, h3⟩ := thl_get hj
    unfold okT; rw [h3]; omega
  · have := thl_get_asc (n := n) (p := p) (show j - 1 < j by omega) hj
    omega
theorem sf_thl {n e : Nat} {m : List Int} (h : GT n m n e) (p : Nat → Bool) : sf n m (thl n p) = (0, 0) := by
  unfold sf; rw [gf_of h, if_neg (by simp), lf_thl]
theorem sf_ok {N : Int} {m l : List Int} (h : (sf N m l).1 = 0) : ∃ n e, GT N m n e ∧ N = (n : Nat) ∧ l = thl n (tst l) ∧ sf N m l = (0, 0) := by
  unfold sf at h
  by_cases hg : (gf N m).1 = 0
  · rw [if_neg (by simpa using hg)] at h
    obtain ⟨n, e, hT, _⟩ := gf_ok hg
    obtain rfl := hT.1
    obtain ⟨h1, h2, _⟩ := lf_list h
    exact ⟨n, e, hT, rfl, h1, by unfold sf; rw [if_neg (by simpa using hg), h2]⟩
  · rw [if_pos hg] at h; exact absurd h hg

theorem gen_bo {n e : Nat} {f : Nat → Nat → Nat} {p : Nat → Bool} {a : Nat} : Gen n f e (bo n p).testBit a ↔ Gen n f e p a :=
  ⟨Gen.mono fun b hb h => by rw [bo_bit] at h; simpa [hb] using h, Gen.mono fun b hb h => by rw [bo_bit]; simpa [hb] using h⟩

theorem made_ok {n e : Nat} {m : List Int} (h : GT n m n e) (p q : Nat → Bool) (hq : ∀ a, a < n → (q a = true ↔ Gen n (op m n) e p a)) : FnC Tryd.prog 27 [gp n m, .list (il (thl n p))] (.tup [.list (il (thl n q)), fl (0, 0)]) := by
  have hb := h.2.1.big
  have hl := thl_le n p
  have hml := h.2.1.len
  have hsq := sq_le hb
  refine fnc_of tab_ok Tryd.func27 rfl (by kernel_rfl) (by rw [Tryd.ntmps27]; exact Nat.le_add_left 2 _) ?_; rw [Tryd.ntmps27]
  refine qm ?_
  refine hk_region fun K hK => runs_eval tab_ok ?_
  simp only [ev0, evA, evB, evP, fl, gp, tab, simprocAttr, reduceCtorEq, reduceIte]
  refine fin_run ?_ (hK _ ?_) <;> clear hK <;> clear K
  · (first | exact trivial | omega | (simp only [In64] at *; omega) | (simp [In64] at *; omega) | (simp_all; done) | skip)
  refine qa (qm (qm ?_))
  refine hk_region fun K hK => runs_eval tab_ok ?_
  simp only [ev0, evA, evB, evP, fl, gp, tab, simprocAttr, reduceCtorEq, reduceIte]
  refine fin_stop trivial (runs_call (look_c n m (thl n p) (by omega) (by omega)) rfl rfl rfl (by simp only [dstOk, Nat.reduceLT]) (by repeat (first | exact trivial | constructor)) (runs_eval tab_ok ?_))
  simp only [ev0, evA, evB, evP, fl, gp, tab, simprocAttr, reduceCtorEq, reduceIte, sf_thl h]
  refine fin_run ?_ (hK _ ?_) <;> clear hK <;> clear K
  · (first | exact trivial | omega | (simp only [In64] at *; omega) | (simp [In64] at *; omega) | (simp_all; done) | skip)
  refine qa (qm ?_)
  refine hk_region fun K hK => runs_eval tab_ok ?_
  simp only [ev0, evA, evB, evP, fl, gp, tab, simprocAttr, reduceCtorEq, reduceIte]
  refine fin_run ?_ (hK _ ?_) <;> clear hK <;> clear K
  · (first | exact trivial | omega | (simp only [In64] at *; omega) | (simp [In64] at *; omega) | (simp_all; done) | skip)
  refine qa ?_
  refine hk_cond rfl (fun hC1 => ?_) (fun hC1 => ?_)
  · cases hC1
  · (try simp only [nhs] at hC1)
    refine qh (qa (qm ?_))
    refine hk_draw mixed (by kernel_rfl) fun K hK => runs_eval tab_ok ?_
    simp only [ev0, evA, evB, evP, fl, gp, tab, simprocAttr, reduceCtorEq, reduceIte]
    refine fin_stop trivial (runs_call (of_s (thl n p) (by omega) (thl_rng hb p)) rfl rfl rfl (by simp only [dstOk, Nat.reduceLT]) (by repeat (first | exact trivial | constructor)) (runs_eval tab_ok ?_))
    simp only [ev0, evA, evB, evP, fl, gp, tab, simprocAttr, reduceCtorEq, reduceIte, msk_thl]
    refine fin_stop trivial (runs_call (grow_c h (bo n p) (bo_lt n p) q (fun a ha => by rw [gen_bo]; exact hq a ha)) rfl rfl rfl (by simp only [dstOk, Nat.reduceLT]) (by repeat (first | exact trivial | constructor)) (runs_eval tab_ok ?_))
    simp only [ev0, evA, evB, evP, fl, gp, tab, simprocAttr, reduceCtorEq, reduceIte]
    refine fin_stop trivial (runs_call (list_s (bo n q) (bo_lt64 hb q)) rfl rfl rfl (by simp only [dstOk, Nat.reduceLT]) (by repeat (first | exact trivial | constructor)) (runs_eval tab_ok ?_))
    simp only [ev0, evA, evB, evP, fl, gp, tab, simprocAttr, reduceCtorEq, reduceIte, stl_bo hb]
    refine fin_run ?_ (hK _ ?_) <;> clear hK <;> clear K
    · (first | exact trivial | omega | (simp only [In64] at *; omega) | (simp [In64] at *; omega) | (simp_all; done) | skip)
    refine qa (qk ?_)
    simp only [Tryd.results27, enA, ev0, evA, evB, evP, fl, gp, tab, simprocAttr, reduceCtorEq, reduceIte]
    all_goals ((first | exact rfl | exact ⟨rfl, rfl⟩ | exact ⟨rfl, rfl, rfl⟩ | exact ⟨trivial, rfl⟩ | exact ⟨Nat.le_refl _, rfl⟩ | trivial | (simp; done)))

theorem is_ok {n e : Nat} {m : List Int} (h : GT n m n e) (p : Nat → Bool) (b : Bool) (hbs : b = true ↔ Sub n (op m n) e p) : FnC Tryd.prog 126 [gp n m, .list (il (thl n p))] (.tup [.bool b, fl (0, 0)]) := by
  have G := h.2.2
  have hb := h.2.1.big
  have hl := thl_le n p
  have hml := h.2.1.len
  have hsq := sq_le hb
  obtain ⟨q, hq⟩ := gen_ex n (op m n) e p
  have hqs := gen_sub G hq
  have hqp : (((bo n q : Nat) : Int) = ((bo n p : Nat) : Int)) ↔ b = true := by
    rw [hbs]
    constructor
    · intro he
      have he2 : bo n q = bo n p := by omega
      have hc : ∀ a, a < n → q a = p a := fun a ha => bo_inj he2 ha
      refine ⟨?_, fun a b ha hb h1 h2 => ?_, fun a ha h1 => ?_⟩
      · rw [← hc e G.el]; exact hqs.one
      · rw [← hc _ (G.cl a b ha hb)]; exact hqs.mul a b ha hb (by rw [hc a ha]; exact h1) (by rw [hc b hb]; exact h2)
      · rw [← hc _ (G.iv_lt ha)]; exact hqs.inv a ha (by rw [hc a ha]; exact h1)
    · intro hs
      have : bo n q = bo n p := bo_congr fun a ha => by rw [Bool.eq_iff_iff, hq a ha, ← hs.gen G ha]
      rw [this]
  have hpos : b = true → 0 < (thl n p).length := fun hb1 => by
    obtain ⟨i, hi, _⟩ := thl_at G.el (hbs.1 hb1).one
    omega
  refine fnc_of tab_ok Tryd.func126 rfl (by kernel_rfl) (by rw [Tryd.ntmps126]; exact Nat.le_add_left 2 _) ?_; rw [Tryd.ntmps126]
  refine qm ?_
  refine hk_region fun K hK => runs_eval tab_ok ?_
  simp only [ev0, evA, evB, evP, fl, gp, tab, simprocAttr, reduceCtorEq, reduceIte]
  refine fin_run ?_ (hK _ ?_) <;> clear hK <;> clear K
  · (first | exact trivial | omega | (simp only [In64] at *; omega) | (simp [In64] at *; omega) | (simp_all; done) | skip)
  refine qa (qm (qm ?_))
  refine hk_region fun K hK => runs_eval tab_ok ?_
  simp only [ev0, evA, evB, evP, fl, gp, tab, simprocAttr, reduceCtorEq, reduceIte]
  refine fin_stop trivial (runs_call (look_c n m (thl n p) (by omega) (by omega)) rfl rfl rfl (by simp only [dstOk, Nat.reduceLT]) (by repeat (first | exact trivial | constructor)) (runs_eval tab_ok ?_))
  simp only [ev0, evA, evB, evP, fl, gp, tab, simprocAttr, reduceCtorEq, reduceIte, sf_thl h]
  refine fin_run ?_ (hK _ ?_) <;> clear hK <;> clear K
  · (first | exact trivial | omega | (simp only [In64] at *; omega) | (simp [In64] at *; omega) | (simp_all; done) | skip)
  refine qa (qm ?_)
  refine hk_region fun K hK => runs_eval tab_ok ?_
  simp only [ev0, evA, evB, evP, fl, gp, tab, simprocAttr, reduceCtorEq, reduceIte]
  refine fin_run ?_ (hK _ ?_) <;> clear hK <;> clear K
  · (first | exact trivial | omega | (simp only [In64] at *; omega) | (simp [In64] at *; omega) | (simp_all; done) | skip)
  refine qa ?_
  refine hk_cond rfl (fun hC1 => ?_) (fun hC1 => ?_)
  · cases hC1
  · (try simp only [nhs] at hC1)
    refine qh (qa (qm ?_))
    by_cases g4a : ((thl n p).length : Int) > 0
    · refine hk_draw mixed (by kernel_rfl) fun K hK => runs_eval tab_ok ?_
      simp only [ev0, evA, evB, evP, fl, gp, tab, simprocAttr, reduceCtorEq, reduceIte, decide_eq_true g4a]
      refine fin_stop trivial (runs_call (of_s (thl n p) (by omega) (thl_rng hb p)) rfl rfl rfl (by simp only [dstOk, Nat.reduceLT]) (by repeat (first | exact trivial | constructor)) (runs_eval tab_ok ?_))
      simp only [ev0, evA, evB, evP, fl, gp, tab, simprocAttr, reduceCtorEq, reduceIte, msk_thl, decide_eq_true g4a]
      refine fin_stop trivial (runs_call (grow_c h (bo n p) (bo_lt n p) q (fun a ha => by rw [gen_bo]; exact hq a ha)) rfl rfl rfl (by simp only [dstOk, Nat.reduceLT]) (by repeat (first | exact trivial | constructor)) (runs_eval tab_ok ?_))
      simp only [ev0, evA, evB, evP, fl, gp, tab, simprocAttr, reduceCtorEq, reduceIte, decide_eq_true g4a]
      refine fin_stop trivial (runs_call (of_s (thl n p) (by omega) (thl_rng hb p)) rfl rfl rfl (by simp only [dstOk, Nat.reduceLT]) (by repeat (first | exact trivial | constructor)) (runs_eval tab_ok ?_))
      simp only [ev0, evA, evB, evP, fl, gp, tab, simprocAttr, reduceCtorEq, reduceIte, msk_thl, decide_eq_true g4a]
      refine fin_run ?_ (hK _ ?_) <;> clear hK <;> clear K
      · (first | exact trivial | omega | (simp only [In64] at *; omega) | (simp [In64] at *; omega) | (simp_all; done) | skip)
      refine qa (qk ?_)
      simp only [Tryd.results126, enA, ev0, evA, evB, evP, fl, gp, tab, simprocAttr, reduceCtorEq, reduceIte]
      all_goals (rw [Bool.eq_iff_iff, decide_eq_true_eq]; exact hqp)
    · refine hk_draw mixed (by kernel_rfl) fun K hK => runs_eval tab_ok ?_
      simp only [ev0, evA, evB, evP, fl, gp, tab, simprocAttr, reduceCtorEq, reduceIte, decide_eq_false g4a]
      refine fin_run ?_ (hK _ ?_) <;> clear hK <;> clear K
      · (first | exact trivial | omega | (simp only [In64] at *; omega) | (simp [In64] at *; omega) | (simp_all; done) | skip)
      refine qa (qk ?_)
      simp only [Tryd.results126, enA, ev0, evA, evB, evP, fl, gp, tab, simprocAttr, reduceCtorEq, reduceIte]
      cases b with
      | false => rfl
      | true => have := hpos rfl; omega

/-! ### Rows of truths -/

def bl (n : Nat) (r : Nat → Bool) : List PV := (List.range n).map fun a => .bool (r a)
/-- With one more. -/
def upd (r : Nat → Bool) (a i : Nat) : Bool := r i || decide (i = a)
end Go.Proofs.YtjikchbmkodgfaaDoor

/-
  Walks: groups that are made of a product. Conditions: none.
-/
set_option linter.all false
namespace Go.Proofs.YtjikchbmkodgfaaDoor
open Go.Pv

/-- A table, by a rule. -/
def tbr (g : Nat → Nat → Int) (n : Nat) : Nat → List Int := rg fun i => g (i / n) (i % n)
def tbl (g : Nat → Nat → Int) (n : Nat) : List Int := tbr g n (n * n)

theorem tbr_succ (g : Nat → Nat → Int) {n a b : Nat} (hb : b < n) : tbr g n (a * n + (b + 1)) = tbr g n (a * n + b) ++ [g a b] := by
  unfold tbr
  rw [← Nat.add_assoc, rg_succ]
  have h1 : (a * n + b) / n = a := by
    rw [Nat.mul_comm, Nat.mul_add_div (by omega), Nat.div_eq_of_lt hb]; omega
  have h2 : (a * n + b) % n = b := by
    rw [Nat.mul_comm, Nat.mul_add_mod, Nat.mod_eq_of_lt hb]
  simp only [h1, h2]
theorem tbr_len (g : Nat → Nat → Int) (n k : Nat) : (tbr g n k).length = k := rg_len _ k
theorem tbl_len (g : Nat → Nat → Int) (n : Nat) : (tbl g n).length = n * n := rg_len _ _
theorem tbl_get (g : Nat → Nat → Int) {n a b : Nat} (ha : a < n) (hb : b < n) : (tbl g n).getD (a * n + b) 0 = g a b := by
  unfold tbl tbr
  rw [rg_get _ (at_lt ha hb)]
  have h1 : (a * n + b) / n = a := by
    rw [Nat.mul_comm, Nat.mul_add_div (by omega), Nat.div_eq_of_lt hb]; omega
  have h2 : (a * n + b) % n = b := by
    rw [Nat.mul_comm, Nat.mul_add_mod, Nat.mod_eq_of_lt hb]
  rw [h1, h2]

def cyc (n a b : Nat) : Nat := (a + b) % n
def dih (n a b : Nat) : Nat := (a % n + (if a / n = 1 then n - b % n else b % n)) % n + (a / n + b / n) % 2 * n
def dic (n a b : Nat) : Nat := (a % (2 * n) + (if a / (2 * n) + b / (2 * n) = 2 then n else 0) + (if a / (2 * n) = 1 then 2 * n - b % (2 * n) else b % (2 * n))) % (2 * n) + (a / (2 * n) + b / (2 * n)) % 2 * (2 * n)

theorem tm_lit (a : Nat) : Int.tmod (a : Int) 2 = ((a % 2 : Nat) : Int) := rfl

end Go.Proofs.YtjikchbmkodgfaaDoor

/-
  Sets of things: centres; the square's group; an example of the document. Conditions: none.
-/
set_option linter.all false
namespace Go.Proofs.YtjikchbmkodgfaaDoor
open Go.Pv

/-! ### What two lists have -/

def bth (a b : List Int) : List Int := a.filter fun x => decide (x ∈ b)
/-! ### Functions of the library -/

def ixf (p : Int → Bool) (l : List Int) : Int := match fst' (fun i => p (l.getD i 0)) l.length with | some i => (i : Int) | none => -1
/-! ### What commutes with a set -/

def cent (m : List Int) (n : Nat) (p : Nat → Bool) (a : Nat) : Bool := decide (∀ b, b < n → p b = true → op m n a b = op m n b a)

/-! ### The square's group -/

def sq8 : List Int := tbl (fun a b => (dih 4 a b : Nat)) 8
theorem sq8_gf : (gf 8 sq8).1 = 0 := by decide +kernel
theorem sq8_gt : ∃ e, GT (8 : Nat) sq8 8 e := by
  obtain ⟨n, e, h, _⟩ := gf_ok sq8_gf
  obtain rfl : n = 8 := by have := h.1; omega
  exact ⟨e, h⟩

theorem tm4 (a : Nat) : Int.tmod (a : Int) 4 = ((a % 4 : Nat) : Int) := rfl
theorem td4 (a : Nat) : Int.tdiv (a : Int) 4 = ((a / 4 : Nat) : Int) := rfl

theorem square_c : FnC Tryd.prog 75 [] (gp 8 sq8) := by
  have hlen := tbr_len (fun a b => (dih 4 a b : Nat)) 8
  refine fnc_of tab_ok Tryd.func75 rfl (by kernel_rfl) (by rw [Tryd.ntmps75]; exact Nat.le_add_left 0 _) ?_; rw [Tryd.ntmps75]
  refine qm ?_
  refine hk_region fun K hK => runs_eval tab_ok ?_
  simp only [ev0, evA, evB, evP, fl, gp, tab, simprocAttr, reduceCtorEq, reduceIte]
  refine fin_run ?_ (hK _ ?_) <;> clear hK <;> clear K
  · (first | exact trivial | omega | (simp only [In64] at *; omega) | (simp [In64] at *; omega) | (simp_all; done) | skip)
  refine qa (qm ?_)
  refine hk_region fun K hK => runs_eval tab_ok ?_
  simp only [ev0, evA, evB, evP, fl, gp, tab, simprocAttr, reduceCtorEq, reduceIte]
  refine fin_run ?_ (hK _ ?_) <;> clear hK <;> clear K
  · (first | exact trivial | omega | (simp only [In64] at *; omega) | (simp [In64] at *; omega) | (simp_all; done) | skip)
  refine qa (qm (qm ?_))
  refine hk_own0c 1 1 rfl rfl ?_
  simp only [hset, List.cons_append, List.nil_append, List.set, List.length_cons, List.length_nil]
  refine hk_region fun K hK => runs_eval tab_ok ?_
  simp only [ev0, evA, evB, evP, fl, gp, tab, simprocAttr, reduceCtorEq, reduceIte]
  refine fin_run trivial (hK _ ?_) <;> clear hK <;> clear K
  refine qa (ql ?_)
  refine hk_loop (ι := Nat) (fun a => ⟨39, [(0, .ptr 0 0), (1, .ptr 1 0), (2, .p (.int .i64 a))], [.own [.p (.int .i64 0), .p .nil], .own [.p (.int .i64 8), .sl 2 0 (tbr (fun a b => (dih 4 a b : Nat)) 8 (a * 8)).length], .own (ol (tbr (fun a b => (dih 4 a b : Nat)) 8 (a * 8)))]⟩) (fun a => a ≤ 8) (fun a => 8 - a) 0 (Nat.zero_le _) [0, 1, 2] (by simp only [leq, leA, ev0, evA, evB, evP, fl, gp, tab, simprocAttr, reduceCtorEq, reduceIte] <;> simp [tbr, rg, ol_nil]) fun a ha => ?_
  refine qm (qm ?_)
  refine hk_region fun K hK => runs_eval tab_ok ?_
  simp only [ev0, evA, evB, evP, fl, gp, tab, simprocAttr, reduceCtorEq, reduceIte]
  refine fin_run trivial (hK _ ?_) <;> clear hK <;> clear K
  refine qa ?_
  refine hk_cond rfl (fun hC1 => ?_) (fun hC1 => ?_)
  · (try simp only [nhs] at hC1)
    have hal : a < 8 := by omega
    refine qh (qa (qm (ql (qm ?_))))
    refine hk_region fun K hK => runs_eval tab_ok ?_
    simp only [ev0, evA, evB, evP, fl, gp, tab, simprocAttr, reduceCtorEq, reduceIte]
    refine fin_run trivial (hK _ ?_) <;> clear hK <;> clear K
    refine qa (ql ?_)
    refine hk_loop (ι := Nat) (fun b => ⟨39, [(0, .ptr 0 0), (1, .ptr 1 0), (2, .p (.int .i64 a)), (3, .p (.int .i64 b))], [.own [.p (.int .i64 0), .p .nil], .own [.p (.int .i64 8), .sl 2 0 (tbr (fun a b => (dih 4 a b : Nat)) 8 (a * 8 + b)).length], .own (ol (tbr (fun a b => (dih 4 a b : Nat)) 8 (a * 8 + b)))]⟩) (fun b => b ≤ 8) (fun b => 8 - b) 0 (Nat.zero_le _) [0, 1, 2] (by rw [Nat.add_zero]; simp only [leq, leA, ev0, evA, evB, evP, fl, gp, tab, simprocAttr, reduceCtorEq, reduceIte] <;> trivial) fun b hb => ?_
    refine qm (qm ?_)
    refine hk_region fun K hK => runs_eval tab_ok ?_
    simp only [ev0, evA, evB, evP, fl, gp, tab, simprocAttr, reduceCtorEq, reduceIte]
    refine fin_run trivial (hK _ ?_) <;> clear hK <;> clear K
    refine qa ?_
    refine hk_cond rfl (fun hC2 => ?_) (fun hC2 => ?_)
    · (try simp only [nhs] at hC2)
      have hbl : b < 8 := by omega
      have hl := hlen (a * 8 + b)
      have hs : (4 : Int) - ((b % 4 : Nat) : Int) = ((4 - b % 4 : Nat) : Int) := by omega
      have hm : (((a / 4 + b / 4) % 2 : Nat) : Int) * 4 = (((a / 4 + b / 4) % 2 * 4 : Nat) : Int) := by omega
      refine qh (qa (qm (ql (qm ?_))))
      refine hk_region fun K hK => runs_eval tab_ok ?_
      simp only [ev0, evA, evB, evP, fl, gp, tab, simprocAttr, reduceCtorEq, reduceIte, tm4]
      refine fin_run ?_ (hK _ ?_) <;> clear hK <;> clear K
      · (first | exact trivial | omega | (simp only [In64] at *; omega) | (simp [In64] at *; omega) | (simp_all; done) | skip)
      refine qa (qm (qm ?_))
      refine hk_region fun K hK => runs_eval tab_ok ?_
      simp only [ev0, evA, evB, evP, fl, gp, tab, simprocAttr, reduceCtorEq, reduceIte]
      refine fin_run trivial (hK _ ?_) <;> clear hK <;> clear K
      refine qa ?_
      refine hk_cond rfl (fun hC3 => ?_) (fun hC3 => ?_)
      · (try simp only [nhs] at hC3)
        have hd : dih 4 a b = (a % 4 + (4 - b % 4)) % 4 + (a / 4 + b / 4) % 2 * 4 := by rw [dih, if_pos (by omega)]
        refine hk_region fun K hK => runs_eval tab_ok ?_
        simp only [ev0, evA, evB, evP, fl, gp, tab, simprocAttr, reduceCtorEq, reduceIte, hs]
        refine fin_run ?_ (hK _ ?_) <;> clear hK <;> clear K
        · (first | exact trivial | omega | (simp only [In64] at *; omega) | (simp [In64] at *; omega) | (simp_all; done) | skip)
        refine qa ?_
        refine hk_region fun K hK => runs_eval tab_ok ?_
        simp only [ev0, evA, evB, evP, fl, gp, tab, simprocAttr, reduceCtorEq, reduceIte, tm4, td4, ← Int.natCast_add, tm_lit, hm]
        refine fin_run ?_ (hK _ ?_) <;> clear hK <;> clear K
        · simp only [In64]; omega
        refine qd (qa ?_)
        refine hk_region fun K hK => runs_eval tab_ok ?_
        simp only [ev0, evA, evB, evP, fl, gp, tab, simprocAttr, reduceCtorEq, reduceIte]
        refine fin_run ?_ (hK _ ?_) <;> clear hK <;> clear K
        · (first | exact trivial | omega | (simp only [In64] at *; omega) | (simp [In64] at *; omega) | (simp_all; done) | skip)
        refine qa ?_
        refine ⟨b + 1, [0, 1, 3], by omega, by omega, ?_⟩
        rw [tbr_succ (fun a b => (dih 4 a b : Nat)) hbl]
        simp only [hd]
        simp only [leq, leA, ev0, evA, evB, evP, fl, gp, tab, simprocAttr, reduceCtorEq, reduceIte] <;> first | trivial | omega
      · (try simp only [nhs] at hC3)
        have hd : dih 4 a b = (a % 4 + b % 4) % 4 + (a / 4 + b / 4) % 2 * 4 := by rw [dih, if_neg (by omega)]
        refine qh (qa ?_)
        refine hk_region fun K hK => runs_eval tab_ok ?_
        simp only [ev0, evA, evB, evP, fl, gp, tab, simprocAttr, reduceCtorEq, reduceIte, tm4, td4, ← Int.natCast_add, tm_lit, hm]
        refine fin_run ?_ (hK _ ?_) <;> clear hK <;> clear K
        · simp only [In64]; omega
        refine qd (qa ?_)
        refine hk_region fun K hK => runs_eval tab_ok ?_
        simp only [ev0, evA, evB, evP, fl, gp, tab, simprocAttr, reduceCtorEq, reduceIte]
        refine fin_run ?_ (hK _ ?_) <;> clear hK <;> clear K
        · (first | exact trivial | omega | (simp only [In64] at *; omega) | (simp [In64] at *; omega) | (simp_all; done) | skip)
        refine qa ?_
        refine ⟨b + 1, [0, 1, 3], by omega, by omega, ?_⟩
        rw [tbr_succ (fun a b => (dih 4 a b : Nat)) hbl]
        simp only [hd]
        simp only [leq, leA, ev0, evA, evB, evP, fl, gp, tab, simprocAttr, reduceCtorEq, reduceIte] <;> first | trivial | omega
    · (try simp only [nhs] at hC2)
      have hbn : b = 8 := by omega
      refine qj (qc (qc (qf (qd (qa ?_)))))
      refine hk_region fun K hK => runs_eval tab_ok ?_
      simp only [ev0, evA, evB, evP, fl, gp, tab, simprocAttr, reduceCtorEq, reduceIte]
      refine fin_run ?_ (hK _ ?_) <;> clear hK <;> clear K
      · (first | exact trivial | omega | (simp only [In64] at *; omega) | (simp [In64] at *; omega) | (simp_all; done) | skip)
      refine qa ?_
      refine ⟨a + 1, [0, 1, 2], by omega, by omega, ?_⟩
      rw [hbn, show (a + 1) * 8 = a * 8 + 8 by rw [Nat.add_mul, Nat.one_mul]]
      simp only [leq, leA, ev0, evA, evB, evP, fl, gp, tab, simprocAttr, reduceCtorEq, reduceIte] <;> first | trivial | omega
  · (try simp only [nhs] at hC1)
    have han : a = 8 := by omega
    refine qj (qc (qc (qf (qa (qm ?_)))))
    refine hk_region fun K hK => runs_eval tab_ok ?_
    simp only [ev0, evA, evB, evP, fl, gp, tab, simprocAttr, reduceCtorEq, reduceIte]
    refine fin_run ?_ (hK _ ?_) <;> clear hK <;> clear K
    · (first | exact trivial | omega | (simp only [In64] at *; omega) | (simp [In64] at *; omega) | (simp_all; done) | skip)
    refine qa (qk ?_)
    simp only [Tryd.results75, enA, ev0, evA, evB, evP, fl, gp, tab, simprocAttr, reduceCtorEq, reduceIte]
    all_goals (simp [han, sq8, tbl])

end Go.Proofs.YtjikchbmkodgfaaDoor

/-
  Sets of things: conjugated things, commutators, what they make. Conditions: none.
-/
set_option linter.all false
namespace Go.Proofs.YtjikchbmkodgfaaDoor
open Go.Pv

theorem thl_rng2 {n : Nat} {p : Nat → Bool} : ∀ x ∈ thl n p, ∃ a, a < n ∧ x = ((a : Nat) : Int) := fun x hx => by
  obtain ⟨a, h1, _, h3⟩ := mem_thl.1 hx
  exact ⟨a, h1, h3⟩
theorem conj_s {n e : Nat} {m : List Int} (h : GT n m n e) {x a : Nat} (hx : x < n) (ha : a < n) : FnC Tryd.prog 122 [gp n m, .int .i64 x, .int .i64 a] (.int .i64 (cjr n (op m n) e x a : Nat)) := by
  have G := h.2.2
  have ia := G.iv_lt ha
  refine fnc_of tab_ok Tryd.func122 rfl (by kernel_rfl) (by rw [Tryd.ntmps122]; exact Nat.le_add_left 3 _) ?_; rw [Tryd.ntmps122]
  refine qm ?_
  refine hk_region fun K hK => runs_eval tab_ok ?_
  simp only [ev0, evA, evB, evP, fl, gp, tab, simprocAttr, reduceCtorEq, reduceIte]
  refine fin_run ?_ (hK _ ?_) <;> clear hK <;> clear K
  · (first | exact trivial | omega | (simp only [In64] at *; omega) | (simp [In64] at *; omega) | (simp_all; done) | skip)
  refine qa (qm ?_)
  refine hk_draw mixed (by kernel_rfl) fun K hK => runs_eval tab_ok ?_
  simp only [ev0, evA, evB, evP, fl, gp, tab, simprocAttr, reduceCtorEq, reduceIte]
  refine fin_stop trivial (runs_call (invOf_c h ha) rfl rfl rfl (by simp only [dstOk, Nat.reduceLT]) (by repeat (first | exact trivial | constructor)) (runs_eval tab_ok ?_))
  simp only [ev0, evA, evB, evP, fl, gp, tab, simprocAttr, reduceCtorEq, reduceIte]
  refine fin_stop trivial (runs_call (of_c h.2.1 ia hx) rfl rfl rfl (by simp only [dstOk, Nat.reduceLT]) (by repeat (first | exact trivial | constructor)) (runs_eval tab_ok ?_))
  simp only [ev0, evA, evB, evP, fl, gp, tab, simprocAttr, reduceCtorEq, reduceIte]
  refine fin_stop trivial (runs_call (of_c h.2.1 (G.cl _ _ ia hx) ha) rfl rfl rfl (by simp only [dstOk, Nat.reduceLT]) (by repeat (first | exact trivial | constructor)) (runs_eval tab_ok ?_))
  simp only [ev0, evA, evB, evP, fl, gp, tab, simprocAttr, reduceCtorEq, reduceIte]
  refine fin_run ?_ (hK _ ?_) <;> clear hK <;> clear K
  · (first | exact trivial | omega | (simp only [In64] at *; omega) | (simp [In64] at *; omega) | (simp_all; done) | skip)
  refine qa (qk ?_)
  simp only [Tryd.results122, enA, ev0, evA, evB, evP, fl, gp, tab, simprocAttr, reduceCtorEq, reduceIte]
  all_goals (rfl)
/-! ### Commutators of two lists -/

def cmr (n : Nat) (f : Nat → Nat → Nat) (e : Nat) (a : Int) (lb : List Int) : List Int := lb.map fun b => ((cmt n f e a.toNat b.toNat : Nat) : Int)
def cml (n : Nat) (f : Nat → Nat → Nat) (e : Nat) (la lb : List Int) : List Int := la.flatMap fun a => cmr n f e a lb

/-! ### Small words -/

end Go.Proofs.YtjikchbmkodgfaaDoor

/-
  Subgroups, conjugated: Moved, Normaliser, Normal, Core, Closure, and what the document has. Conditions: none.
-/
set_option linter.all false
namespace Go.Proofs.YtjikchbmkodgfaaDoor
open Go.Pv

/-- The fault of a set that is, or is not, a subgroup. -/
def ufb (b : Bool) : Int × Int := bif b then (0, 0) else (7, 0)

theorem group_ok {n e : Nat} {m : List Int} (h : GT n m n e) (p : Nat → Bool) (b : Bool) (hbs : b = true ↔ Sub n (op m n) e p) : FnC Tryd.prog 95 [gp n m, .list (il (thl n p))] (fl (ufb b)) := by
  refine fnc_of tab_ok Tryd.func95 rfl (by kernel_rfl) (by rw [Tryd.ntmps95]; exact Nat.le_add_left 2 _) ?_; rw [Tryd.ntmps95]
  refine qm ?_
  refine hk_region fun K hK => runs_eval tab_ok ?_
  simp only [ev0, evA, evB, evP, fl, gp, tab, simprocAttr, reduceCtorEq, reduceIte]
  refine fin_run ?_ (hK _ ?_) <;> clear hK <;> clear K
  · (first | exact trivial | omega | (simp only [In64] at *; omega) | (simp [In64] at *; omega) | (simp_all; done) | skip)
  refine qa (qm ?_)
  refine hk_region fun K hK => runs_eval tab_ok ?_
  simp only [ev0, evA, evB, evP, fl, gp, tab, simprocAttr, reduceCtorEq, reduceIte]
  refine fin_stop trivial (runs_call (is_ok h p b hbs) rfl rfl rfl (by simp only [dstOk, Nat.reduceLT]) (by repeat (first | exact trivial | constructor)) (runs_eval tab_ok ?_))
  simp only [ev0, evA, evB, evP, fl, gp, tab, simprocAttr, reduceCtorEq, reduceIte]
  refine fin_run ?_ (hK _ ?_) <;> clear hK <;> clear K
  · (first | exact trivial | omega | (simp only [In64] at *; omega) | (simp [In64] at *; omega) | (simp_all; done) | skip)
  refine qa (qm (qm ?_))
  refine hk_region fun K hK => runs_eval tab_ok ?_
  simp only [ev0, evA, evB, evP, fl, gp, tab, simprocAttr, reduceCtorEq, reduceIte]
  refine fin_run ?_ (hK _ ?_) <;> clear hK <;> clear K
  · (first | exact trivial | omega | (simp only [In64] at *; omega) | (simp [In64] at *; omega) | (simp_all; done) | skip)
  refine qa ?_
  refine hk_cond rfl (fun hC1 => ?_) (fun hC1 => ?_)
  · (try simp only [nhs] at hC1)
    have hbf : b = false := by simpa using hC1
    refine qm ?_
    refine hk_region fun K hK => runs_eval tab_ok ?_
    simp only [ev0, evA, evB, evP, fl, gp, tab, simprocAttr, reduceCtorEq, reduceIte]
    refine fin_stop trivial (runs_call (sfault_c 7 0) rfl rfl rfl (by simp only [dstOk, Nat.reduceLT]) (by repeat (first | exact trivial | constructor)) (runs_eval tab_ok ?_))
    simp only [ev0, evA, evB, evP, fl, gp, tab, simprocAttr, reduceCtorEq, reduceIte]
    refine fin_run ?_ (hK _ ?_) <;> clear hK <;> clear K
    · (first | exact trivial | omega | (simp only [In64] at *; omega) | (simp [In64] at *; omega) | (simp_all; done) | skip)
    refine qa (qk (qb ?_))
    simp only [Tryd.results95, enA, ev0, evA, evB, evP, fl, gp, tab, simprocAttr, reduceCtorEq, reduceIte]
    all_goals (rw [hbf]; exact ⟨rfl, rfl⟩)
  · (try simp only [nhs] at hC1)
    have hbt : b = true := by simpa using hC1
    refine qh (qa (qm ?_))
    refine hk_region fun K hK => runs_eval tab_ok ?_
    simp only [ev0, evA, evB, evP, fl, gp, tab, simprocAttr, reduceCtorEq, reduceIte]
    refine fin_run ?_ (hK _ ?_) <;> clear hK <;> clear K
    · (first | exact trivial | omega | (simp only [In64] at *; omega) | (simp [In64] at *; omega) | (simp_all; done) | skip)
    refine qa (qk ?_)
    simp only [Tryd.results95, enA, ev0, evA, evB, evP, fl, gp, tab, simprocAttr, reduceCtorEq, reduceIte]
    all_goals (rw [hbt]; exact ⟨rfl, rfl⟩)
/-! ### A set, conjugated -/

def cjl (n : Nat) (f : Nat → Nat → Nat) (e a : Nat) (l : List Int) : List Int := l.map fun x => ((cjr n f e x.toNat a : Nat) : Int)
theorem cjl_succ (n : Nat) (f : Nat → Nat → Nat) (e a : Nat) {l : List Int} {i : Nat} (hi : i < l.length) : cjl n f e a (l.take (i + 1)) = cjl n f e a (l.take i) ++ [((cjr n f e (l.getD i 0).toNat a : Nat) : Int)] := by
  unfold cjl
  rw [List.take_succ_eq_append_getElem hi, List.map_append]
  have : l[i] = l.getD i 0 := by simp [List.getD, List.getElem?_eq_getElem hi]
  rw [this]; rfl
theorem mem_cjl {n e a : Nat} {f : Nat → Nat → Nat} {p : Nat → Bool} {x : Int} : x ∈ cjl n f e a (thl n p) ↔ ∃ y, y < n ∧ p y = true ∧ x = ((cjr n f e y a : Nat) : Int) := by
  unfold cjl
  rw [List.mem_map]
  constructor
  · rintro ⟨z, hz, rfl⟩
    obtain ⟨y, y1, y2, rfl⟩ := mem_thl.1 hz
    exact ⟨y, y1, y2, by simp⟩
  · rintro ⟨y, y1, y2, rfl⟩
    exact ⟨_, (mem_thl_n y1).2 y2, by simp⟩
theorem msk_cjl {n e a : Nat} {f : Nat → Nat → Nat} (G : Grp n f e) (p : Nat → Bool) (ha : a < n) : msk (cjl n f e a (thl n p)) = bo n (shf n f e p a) := by
  refine Nat.eq_of_testBit_eq fun i => ?_
  rw [msk_bit, bo_bit, Bool.eq_iff_iff, decide_eq_true_eq, Bool.and_eq_true, decide_eq_true_eq, shf_iff]
  constructor
  · rintro ⟨x, hx, rfl⟩
    obtain ⟨y, y1, y2, rfl⟩ := mem_cjl.1 hx
    exact ⟨by simpa using G.cjr_lt y1 ha, y, y1, y2, by simp⟩
  · rintro ⟨_, y, y1, y2, rfl⟩
    exact ⟨_, mem_cjl.2 ⟨y, y1, y2, rfl⟩, by simp⟩

theorem moved_s {n e : Nat} {m : List Int} (h : GT n m n e) (p : Nat → Bool) {a : Nat} (ha : a < n) : FnC Tryd.prog 90 [gp n m, .int .u64 (bo n p), .int .i64 a] (.int .u64 (bo n (shf n (op m n) e p a))) := by
  have G := h.2.2
  have hb := h.2.1.big
  have hlp := thl_le n p
  refine fnc_of tab_ok Tryd.func90 rfl (by kernel_rfl) (by rw [Tryd.ntmps90]; exact Nat.le_add_left 3 _) ?_; rw [Tryd.ntmps90]
  refine qm ?_
  refine hk_region fun K hK => runs_eval tab_ok ?_
  simp only [ev0, evA, evB, evP, fl, gp, tab, simprocAttr, reduceCtorEq, reduceIte]
  refine fin_run ?_ (hK _ ?_) <;> clear hK <;> clear K
  · (first | exact trivial | omega | (simp only [In64] at *; omega) | (simp [In64] at *; omega) | (simp_all; done) | skip)
  refine qa (qm ?_)
  refine hk_region fun K hK => runs_eval tab_ok ?_
  simp only [ev0, evA, evB, evP, fl, gp, tab, simprocAttr, reduceCtorEq, reduceIte]
  refine fin_run trivial (hK _ ?_) <;> clear hK <;> clear K
  refine qa (qm (qm ?_))
  refine hk_region fun K hK => runs_eval tab_ok ?_
  simp only [ev0, evA, evB, evP, fl, gp, tab, simprocAttr, reduceCtorEq, reduceIte]
  refine fin_stop trivial (runs_call (list_s (bo n p) (bo_lt64 hb p)) rfl rfl rfl (by simp only [dstOk, Nat.reduceLT]) (by repeat (first | exact trivial | constructor)) (runs_eval tab_ok ?_))
  simp only [ev0, evA, evB, evP, fl, gp, tab, simprocAttr, reduceCtorEq, reduceIte, stl_bo hb, il_length]
  refine fin_run trivial (hK _ ?_) <;> clear hK <;> clear K
  refine qa (ql ?_)
  refine hk_loop (ι := Nat) (fun i => ⟨26, [(2, .p (.int .i64 a)), (3, .ptr 0 0), (7, .p (.int .u64 (msk (cjl n (op m n) e a ((thl n p).take i))))), (11, .p (.list (il (thl n p)))), (12, .p (.int .i64 (thl n p).length)), (13, .p (.int .i64 i))], [.own [.p (.int .i64 n), .p (.list (il m))]]⟩) (fun i => i ≤ (thl n p).length) (fun i => (thl n p).length - i) 0 (Nat.zero_le _) [0] (by simp only [leq, leA, ev0, evA, evB, evP, fl, gp, tab, simprocAttr, reduceCtorEq, reduceIte] <;> first | trivial | simp [cjl, msk]) fun i hi => ?_
  refine qm ?_
  refine hk_region fun K hK => runs_eval tab_ok ?_
  simp only [ev0, evA, evB, evP, fl, gp, tab, simprocAttr, reduceCtorEq, reduceIte]
  refine fin_run trivial (hK _ ?_) <;> clear hK <;> clear K
  refine qa (qm ?_)
  refine hk_cond rfl (fun hC1 => ?_) (fun hC1 => ?_)
  · (try simp only [nhs] at hC1)
    have hlt : i < (thl n p).length := by omega
    obtain ⟨x, x1, x2, x3⟩ := thl_get hlt
    have hc := G.cjr_lt x1 ha
    have hp := pow_lt64 (b := cjr n (op m n) e x a) (by omega)
    have hall : ∀ z ∈ cjl n (op m n) e a ((thl n p).take i), z.toNat < n := fun z hz => by
      obtain ⟨w, hw, rfl⟩ := List.mem_map.1 hz
      obtain ⟨w', w1, w2⟩ := thl_rng2 w (List.mem_of_mem_take hw)
      subst w2
      exact G.cjr_lt w1 ha
    have hm := lt64 hb (msk_lt hall)
    refine qh (qa (qm (ql (qm ?_))))
    refine hk_region fun K hK => runs_eval tab_ok ?_
    simp only [ev0, evA, evB, evP, fl, gp, tab, simprocAttr, reduceCtorEq, reduceIte, il_get hlt, x3]
    refine fin_run ?_ (hK _ ?_) <;> clear hK <;> clear K
    · (first | exact trivial | omega | (simp only [In64] at *; omega) | (simp [In64] at *; omega) | (simp_all; done) | skip)
    refine qa ?_
    refine hk_region fun K hK => runs_eval tab_ok ?_
    simp only [ev0, evA, evB, evP, fl, gp, tab, simprocAttr, reduceCtorEq, reduceIte]
    refine fin_stop trivial (runs_call (conj_s h x1 ha) rfl rfl rfl (by simp only [dstOk, Nat.reduceLT]) (by repeat (first | exact trivial | constructor)) (runs_eval tab_ok ?_))
    simp only [ev0, evA, evB, evP, fl, gp, tab, simprocAttr, reduceCtorEq, reduceIte, shl_one (show cjr n (op m n) e x a < 64 by omega), bv_or hm hp]
    refine fin_run ?_ (hK _ ?_) <;> clear hK <;> clear K
    · (first | exact trivial | omega | (simp only [In64] at *; omega) | (simp [In64] at *; omega) | (simp_all; done) | skip)
    refine qd (qa ?_)
    refine hk_region fun K hK => runs_eval tab_ok ?_
    simp only [ev0, evA, evB, evP, fl, gp, tab, simprocAttr, reduceCtorEq, reduceIte]
    refine fin_run ?_ (hK _ ?_) <;> clear hK <;> clear K
    · (first | exact trivial | omega | (simp only [In64] at *; omega) | (simp [In64] at *; omega) | (simp_all; done) | skip)
    refine qa ?_
    refine ⟨i + 1, [0], by omega, by omega, ?_⟩
    rw [cjl_succ n (op m n) e a hlt, msk_snoc, x3]
    simp only [leq, leA, ev0, evA, evB, evP, fl, gp, tab, simprocAttr, reduceCtorEq, reduceIte] <;> first | trivial | omega
  · (try simp only [nhs] at hC1)
    have hin : i = (thl n p).length := by omega
    rw [hin, List.take_length, msk_cjl G p ha]
    refine qj (qc (qc (qf (qa (qm ?_)))))
    refine hk_region fun K hK => runs_eval tab_ok ?_
    simp only [ev0, evA, evB, evP, fl, gp, tab, simprocAttr, reduceCtorEq, reduceIte]
    refine fin_run trivial (hK _ ?_) <;> clear hK <;> clear K
    refine qa (qk ?_)
    simp only [Tryd.results90, enA, ev0, evA, evB, evP, fl, gp, tab, simprocAttr, reduceCtorEq, reduceIte]
    all_goals (rfl)

theorem normaliser1_c {n e : Nat} {m : List Int} (h : GT n m n e) (p : Nat → Bool) {a : Nat} (ha : a < n) : FnC Tryd.prog 97 [.int .i64 a, .ptr [.int .i64 n, .list (il m)], .ptr [.list (il (thl n p))]] (.bool (nzr n (op m n) e p a)) := by
  have hb := h.2.1.big
  have hlp := thl_le n p
  have hz : decide ((bo n (shf n (op m n) e p a) : Int) = (bo n p : Int)) = nzr n (op m n) e p a := by
    rw [Bool.eq_iff_iff, decide_eq_true_eq, nzr_iff]
    exact ⟨fun he y hy => bo_inj (by omega) hy, fun he => by rw [bo_congr he]⟩
  refine fnc_of tab_ok Tryd.func97 rfl (by kernel_rfl) (by rw [Tryd.ntmps97]; exact Nat.le_add_left 3 _) ?_; rw [Tryd.ntmps97]
  refine qm ?_
  refine hk_region fun K hK => runs_eval tab_ok ?_
  simp only [ev0, evA, evB, evP, fl, gp, tab, simprocAttr, reduceCtorEq, reduceIte]
  refine fin_run trivial (hK _ ?_) <;> clear hK <;> clear K
  refine qa (qm ?_)
  refine hk_draw mixed (by kernel_rfl) fun K hK => runs_eval tab_ok ?_
  simp only [ev0, evA, evB, evP, fl, gp, tab, simprocAttr, reduceCtorEq, reduceIte]
  refine fin_stop trivial (runs_call (of_s (thl n p) (by omega) (thl_rng hb p)) rfl rfl rfl (by simp only [dstOk, Nat.reduceLT]) (by repeat (first | exact trivial | constructor)) (runs_eval tab_ok ?_))
  simp only [ev0, evA, evB, evP, fl, gp, tab, simprocAttr, reduceCtorEq, reduceIte, msk_thl]
  refine fin_stop trivial (runs_call (moved_s h p ha) rfl rfl rfl (by simp only [dstOk, Nat.reduceLT]) (by repeat (first | exact trivial | constructor)) (runs_eval tab_ok ?_))
  simp only [ev0, evA, evB, evP, fl, gp, tab, simprocAttr, reduceCtorEq, reduceIte]
  refine fin_stop trivial (runs_call (of_s (thl n p) (by omega) (thl_rng hb p)) rfl rfl rfl (by simp only [dstOk, Nat.reduceLT]) (by repeat (first | exact trivial | constructor)) (runs_eval tab_ok ?_))
  simp only [ev0, evA, evB, evP, fl, gp, tab, simprocAttr, reduceCtorEq, reduceIte]
  refine fin_run ?_ (hK _ ?_) <;> clear hK <;> clear K
  · (first | exact trivial | omega | (simp only [In64] at *; omega) | (simp [In64] at *; omega) | (simp_all; done) | skip)
  refine qa (qk ?_)
  simp only [Tryd.results97, enA, ev0, evA, evB, evP, fl, gp, tab, simprocAttr, reduceCtorEq, reduceIte]
  all_goals (exact hz)
theorem normaliser_ok {n e : Nat} {m : List Int} (h : GT n m n e) (p : Nat → Bool) (hs : Sub n (op m n) e p) : FnC Tryd.prog 53 [gp n m, .list (il (thl n p))] (.tup [.list (il (thl n (nzr n (op m n) e p))), fl (0, 0)]) := by
  have hb := h.2.1.big
  refine fnc_of tab_ok Tryd.func53 rfl (by kernel_rfl) (by rw [Tryd.ntmps53]; exact Nat.le_add_left 2 _) ?_; rw [Tryd.ntmps53]
  refine qm ?_
  refine hk_region fun K hK => runs_eval tab_ok ?_
  simp only [ev0, evA, evB, evP, fl, gp, tab, simprocAttr, reduceCtorEq, reduceIte]
  refine fin_run ?_ (hK _ ?_) <;> clear hK <;> clear K
  · (first | exact trivial | omega | (simp only [In64] at *; omega) | (simp [In64] at *; omega) | (simp_all; done) | skip)
  refine qa (qm (qm ?_))
  refine hk_region fun K hK => runs_eval tab_ok ?_
  simp only [ev0, evA, evB, evP, fl, gp, tab, simprocAttr, reduceCtorEq, reduceIte]
  refine fin_stop trivial (runs_call (group_ok h p true (by simp [hs])) rfl rfl rfl (by simp only [dstOk, Nat.reduceLT]) (by repeat (first | exact trivial | constructor)) (runs_eval tab_ok ?_))
  simp only [ev0, evA, evB, evP, fl, gp, tab, simprocAttr, reduceCtorEq, reduceIte, ufb]
  refine fin_run ?_ (hK _ ?_) <;> clear hK <;> clear K
  · (first | exact trivial | omega | (simp only [In64] at *; omega) | (simp [In64] at *; omega) | (simp_all; done) | skip)
  refine qa (qm ?_)
  refine hk_region fun K hK => runs_eval tab_ok ?_
  simp only [ev0, evA, evB, evP, fl, gp, tab, simprocAttr, reduceCtorEq, reduceIte]
  refine fin_run ?_ (hK _ ?_) <;> clear hK <;> clear K
  · (first | exact trivial | omega | (simp only [In64] at *; omega) | (simp [In64] at *; omega) | (simp_all; done) | skip)
  refine qa ?_
  refine hk_cond rfl (fun hC1 => ?_) (fun hC1 => ?_)
  · cases hC1
  · (try simp only [nhs] at hC1)
    refine qh (qa (qm ?_))
    refine hk_freeze 0 rfl rfl ?_
    refine hk_freeze 1 rfl rfl ?_
    simp only [hset]
    refine hk_region fun K hK => runs_eval tab_ok ?_
    simp only [ev0, evA, evB, evP, fl, gp, tab, simprocAttr, reduceCtorEq, reduceIte]
    refine fin_stop trivial (runs_call (choose_c n m _ _ (nzr n (op m n) e p) (by omega) (fun a ha => normaliser1_c h p ha)) rfl rfl rfl (by simp only [dstOk, Nat.reduceLT]) (by repeat (first | exact trivial | constructor)) (runs_eval tab_ok ?_))
    simp only [ev0, evA, evB, evP, fl, gp, tab, simprocAttr, reduceCtorEq, reduceIte]
    refine fin_run ?_ (hK _ ?_) <;> clear hK <;> clear K
    · (first | exact trivial | omega | (simp only [In64] at *; omega) | (simp [In64] at *; omega) | (simp_all; done) | skip)
    refine qa (qk ?_)
    simp only [Tryd.results53, enA, ev0, evA, evB, evP, fl, gp, tab, simprocAttr, reduceCtorEq, reduceIte]
    all_goals ((first | exact rfl | exact ⟨rfl, rfl⟩ | exact ⟨rfl, rfl, rfl⟩ | exact ⟨trivial, rfl⟩ | exact ⟨Nat.le_refl _, rfl⟩ | trivial | (simp; done)))
/-- What is in a set, and in it conjugated by things below a. -/
def crs (n : Nat) (f : Nat → Nat → Nat) (e : Nat) (p : Nat → Bool) (a y : Nat) : Bool := p y && decide (∀ b, b < a → shf n f e p b y = true)
theorem bo_and (n : Nat) (p q : Nat → Bool) : bo n p &&& bo n q = bo n fun a => p a && q a := by
  refine Nat.eq_of_testBit_eq fun i => ?_
  rw [Nat.testBit_and, bo_bit, bo_bit, bo_bit]
  cases decide (i < n) <;> simp
theorem closure_no (N : Int) (m l : List Int) (hm : m.length ≤ 1000000000000000) (hl : l.length ≤ 1000000000000000) (hf : ¬ (sf N m l).1 = 0) : FnC Tryd.prog 56 [gp N m, .list (il l)] (.tup [.list [], fl (sf N m l)]) := by
  refine fnc_of tab_ok Tryd.func56 rfl (by kernel_rfl) (by rw [Tryd.ntmps56]; exact Nat.le_add_left 2 _) ?_; rw [Tryd.ntmps56]
  refine qm ?_
  refine hk_region fun K hK => runs_eval tab_ok ?_
  simp only [ev0, evA, evB, evP, fl, gp, tab, simprocAttr, reduceCtorEq, reduceIte]
  refine fin_run ?_ (hK _ ?_) <;> clear hK <;> clear K
  · (first | exact trivial | omega | (simp only [In64] at *; omega) | (simp [In64] at *; omega) | (simp_all; done) | skip)
  refine qa (qm (qm ?_))
  refine hk_region fun K hK => runs_eval tab_ok ?_
  simp only [ev0, evA, evB, evP, fl, gp, tab, simprocAttr, reduceCtorEq, reduceIte]
  refine fin_stop trivial (runs_call (look_c N m l hm hl) rfl rfl rfl (by simp only [dstOk, Nat.reduceLT]) (by repeat (first | exact trivial | constructor)) (runs_eval tab_ok ?_))
  simp only [ev0, evA, evB, evP, fl, gp, tab, simprocAttr, reduceCtorEq, reduceIte]
  refine fin_run ?_ (hK _ ?_) <;> clear hK <;> clear K
  · (first | exact trivial | omega | (simp only [In64] at *; omega) | (simp [In64] at *; omega) | (simp_all; done) | skip)
  refine qa (qm ?_)
  refine hk_region fun K hK => runs_eval tab_ok ?_
  simp only [ev0, evA, evB, evP, fl, gp, tab, simprocAttr, reduceCtorEq, reduceIte]
  refine fin_run ?_ (hK _ ?_) <;> clear hK <;> clear K
  · (first | exact trivial | omega | (simp only [In64] at *; omega) | (simp [In64] at *; omega) | (simp_all; done) | skip)
  refine qa ?_
  refine hk_cond rfl (fun hC1 => ?_) (fun hC1 => ?_)
  · (try simp only [nhs] at hC1)
    refine qm ?_
    refine hk_draw mixed (by kernel_rfl) fun K hK => runs_eval tab_ok ?_
    simp only [ev0, evA, evB, evP, fl, gp, tab, simprocAttr, reduceCtorEq, reduceIte]
    refine fin_run ?_ (hK _ ?_) <;> clear hK <;> clear K
    · (first | exact trivial | omega | (simp only [In64] at *; omega) | (simp [In64] at *; omega) | (simp_all; done) | skip)
    refine qa (qk (qb ?_))
    simp only [Tryd.results56, enA, ev0, evA, evB, evP, fl, gp, tab, simprocAttr, reduceCtorEq, reduceIte]
    all_goals ((first | exact rfl | exact ⟨rfl, rfl⟩ | exact ⟨rfl, rfl, rfl⟩ | exact ⟨trivial, rfl⟩ | exact ⟨Nat.le_refl _, rfl⟩ | trivial | (simp; done)))
  · (try simp only [nhs] at hC1)
    exact absurd hC1 hf
/-- What is in a set conjugated by things below a. -/
def cus (n : Nat) (f : Nat → Nat → Nat) (e : Nat) (p : Nat → Bool) (a y : Nat) : Bool := decide (∃ b, b < a ∧ shf n f e p b y = true)
theorem cus_succ (n : Nat) (f : Nat → Nat → Nat) (e : Nat) (p : Nat → Bool) (a y : Nat) : cus n f e p (a + 1) y = (cus n f e p a y || shf n f e p a y) := by
  unfold cus
  rw [Bool.eq_iff_iff, Bool.or_eq_true, decide_eq_true_eq, decide_eq_true_eq]
  constructor
  · rintro ⟨b, hb, h⟩
    by_cases hba : b = a
    · subst hba; exact .inr h
    · exact .inl ⟨b, by omega, h⟩
  · rintro (⟨b, hb, h⟩ | h)
    · exact ⟨b, by omega, h⟩
    · exact ⟨a, by omega, h⟩
theorem bo_orb (n : Nat) (p q : Nat → Bool) : bo n p ||| bo n q = bo n fun a => p a || q a := by
  refine Nat.eq_of_testBit_eq fun i => ?_
  rw [Nat.testBit_or, bo_bit, bo_bit, bo_bit]
  cases decide (i < n) <;> simp
theorem cus_all {n e : Nat} {f : Nat → Nat → Nat} (p : Nat → Bool) (y : Nat) : cus n f e p n y = cup n f e p y := by
  rw [Bool.eq_iff_iff, cup_iff]
  unfold cus
  rw [decide_eq_true_eq]
  constructor
  · rintro ⟨b, hb, h⟩
    obtain ⟨x, x1, x2, x3⟩ := shf_iff.1 h
    exact ⟨x, b, x1, hb, x2, x3⟩
  · rintro ⟨x, b, x1, hb, x2, x3⟩
    exact ⟨b, hb, shf_iff.2 ⟨x, x1, x2, x3⟩⟩
theorem closure_ok {n e : Nat} {m : List Int} (h : GT n m n e) (p q : Nat → Bool) (hq : ∀ a, a < n → (q a = true ↔ Gen n (op m n) e (cup n (op m n) e p) a)) : FnC Tryd.prog 56 [gp n m, .list (il (thl n p))] (.tup [.list (il (thl n q)), fl (0, 0)]) := by
  have G := h.2.2
  have hb := h.2.1.big
  have hlp := thl_le n p
  have hml := h.2.1.len
  have hsq := sq_le hb
  have h0 : bo n (cus n (op m n) e p 0) = 0 := Nat.eq_of_testBit_eq fun i => by rw [bo_bit]; simp [cus]
  refine fnc_of tab_ok Tryd.func56 rfl (by kernel_rfl) (by rw [Tryd.ntmps56]; exact Nat.le_add_left 2 _) ?_; rw [Tryd.ntmps56]
  refine qm ?_
  refine hk_region fun K hK => runs_eval tab_ok ?_
  simp only [ev0, evA, evB, evP, fl, gp, tab, simprocAttr, reduceCtorEq, reduceIte]
  refine fin_run ?_ (hK _ ?_) <;> clear hK <;> clear K
  · (first | exact trivial | omega | (simp only [In64] at *; omega) | (simp [In64] at *; omega) | (simp_all; done) | skip)
  refine qa (qm (qm ?_))
  refine hk_region fun K hK => runs_eval tab_ok ?_
  simp only [ev0, evA, evB, evP, fl, gp, tab, simprocAttr, reduceCtorEq, reduceIte]
  refine fin_stop trivial (runs_call (look_c n m (thl n p) (by omega) (by omega)) rfl rfl rfl (by simp only [dstOk, Nat.reduceLT]) (by repeat (first | exact trivial | constructor)) (runs_eval tab_ok ?_))
  simp only [ev0, evA, evB, evP, fl, gp, tab, simprocAttr, reduceCtorEq, reduceIte, sf_thl h]
  refine fin_run ?_ (hK _ ?_) <;> clear hK <;> clear K
  · (first | exact trivial | omega | (simp only [In64] at *; omega) | (simp [In64] at *; omega) | (simp_all; done) | skip)
  refine qa (qm ?_)
  refine hk_region fun K hK => runs_eval tab_ok ?_
  simp only [ev0, evA, evB, evP, fl, gp, tab, simprocAttr, reduceCtorEq, reduceIte]
  refine fin_run ?_ (hK _ ?_) <;> clear hK <;> clear K
  · (first | exact trivial | omega | (simp only [In64] at *; omega) | (simp [In64] at *; omega) | (simp_all; done) | skip)
  refine qa ?_
  refine hk_cond rfl (fun hC1 => ?_) (fun hC1 => ?_)
  · cases hC1
  · (try simp only [nhs] at hC1)
    refine qh (qa (qm ?_))
    refine hk_region fun K hK => runs_eval tab_ok ?_
    simp only [ev0, evA, evB, evP, fl, gp, tab, simprocAttr, reduceCtorEq, reduceIte]
    refine fin_run trivial (hK _ ?_) <;> clear hK <;> clear K
    refine qa (qm (qm ?_))
    refine hk_region fun K hK => runs_eval tab_ok ?_
    simp only [ev0, evA, evB, evP, fl, gp, tab, simprocAttr, reduceCtorEq, reduceIte]
    refine fin_run ?_ (hK _ ?_) <;> clear hK <;> clear K
    · (first | exact trivial | omega | (simp only [In64] at *; omega) | (simp [In64] at *; omega) | (simp_all; done) | skip)
    refine qa (ql ?_)
    refine hk_loop (ι := Nat) (fun a => ⟨34, [(1, .p (.list (il (thl n p)))), (2, .ptr 0 0), (5, .ptr 1 0), (7, .p (.int .u64 (bo n (cus n (op m n) e p a)))), (17, .p (.int .i64 n)), (18, .p (.int .i64 a))], [.own [.p (.int .i64 n), .p (.list (il m))], .own [.p (.int .i64 0), .p (.int .i64 0)]]⟩) (fun a => a ≤ n) (fun a => n - a) 0 (Nat.zero_le _) [0, 1] (by rw [h0]; simp only [leq, leA, ev0, evA, evB, evP, fl, gp, tab, simprocAttr, reduceCtorEq, reduceIte] <;> trivial) fun a ha => ?_
    refine qm ?_
    refine hk_region fun K hK => runs_eval tab_ok ?_
    simp only [ev0, evA, evB, evP, fl, gp, tab, simprocAttr, reduceCtorEq, reduceIte]
    refine fin_run trivial (hK _ ?_) <;> clear hK <;> clear K
    refine qa (qm ?_)
    refine hk_cond rfl (fun hC2 => ?_) (fun hC2 => ?_)
    · (try simp only [nhs] at hC2)
      have hlt : a < n := by omega
      have hb1 := bo_lt64 hb (cus n (op m n) e p a)
      have hb2 := bo_lt64 hb (shf n (op m n) e p a)
      have hs1 : bo n (cus n (op m n) e p (a + 1)) = bo n fun y => cus n (op m n) e p a y || shf n (op m n) e p a y := bo_congr fun y _ => cus_succ n (op m n) e p a y
      refine qh (qa (qm (ql (qm ?_))))
      refine hk_region fun K hK => runs_eval tab_ok ?_
      simp only [ev0, evA, evB, evP, fl, gp, tab, simprocAttr, reduceCtorEq, reduceIte]
      refine fin_run trivial (hK _ ?_) <;> clear hK <;> clear K
      refine qa ?_
      refine hk_draw mixed (by kernel_rfl) fun K hK => runs_eval tab_ok ?_
      simp only [ev0, evA, evB, evP, fl, gp, tab, simprocAttr, reduceCtorEq, reduceIte]
      refine fin_stop trivial (runs_call (of_s (thl n p) (by omega) (thl_rng hb p)) rfl rfl rfl (by simp only [dstOk, Nat.reduceLT]) (by repeat (first | exact trivial | constructor)) (runs_eval tab_ok ?_))
      simp only [ev0, evA, evB, evP, fl, gp, tab, simprocAttr, reduceCtorEq, reduceIte, msk_thl]
      refine fin_stop trivial (runs_call (moved_s h p hlt) rfl rfl rfl (by simp only [dstOk, Nat.reduceLT]) (by repeat (first | exact trivial | constructor)) (runs_eval tab_ok ?_))
      simp only [ev0, evA, evB, evP, fl, gp, tab, simprocAttr, reduceCtorEq, reduceIte, bv_or hb1 hb2, bo_orb]
      refine fin_run ?_ (hK _ ?_) <;> clear hK <;> clear K
      · (first | exact trivial | omega | (simp only [In64] at *; omega) | (simp [In64] at *; omega) | (simp_all; done) | skip)
      refine qd (qa ?_)
      refine hk_region fun K hK => runs_eval tab_ok ?_
      simp only [ev0, evA, evB, evP, fl, gp, tab, simprocAttr, reduceCtorEq, reduceIte]
      refine fin_run ?_ (hK _ ?_) <;> clear hK <;> clear K
      · (first | exact trivial | omega | (simp only [In64] at *; omega) | (simp [In64] at *; omega) | (simp_all; done) | skip)
      refine qa ?_
      refine ⟨a + 1, [0, 1], by omega, by omega, ?_⟩
      rw [hs1]
      simp only [leq, leA, ev0, evA, evB, evP, fl, gp, tab, simprocAttr, reduceCtorEq, reduceIte] <;> first | trivial | omega
    · (try simp only [nhs] at hC2)
      have han : a = n := by omega
      have hfin : bo n (cus n (op m n) e p a) = bo n (cup n (op m n) e p) := bo_congr fun y hy => by rw [han, cus_all]
      rw [hfin]
      refine qj (qc (qc (qf (qa (qm ?_)))))
      refine hk_region fun K hK => runs_eval tab_ok ?_
      simp only [ev0, evA, evB, evP, fl, gp, tab, simprocAttr, reduceCtorEq, reduceIte]
      refine fin_stop trivial (runs_call (grow_c h (bo n (cup n (op m n) e p)) (bo_lt n _) q (fun a ha => by rw [gen_bo]; exact hq a ha)) rfl rfl rfl (by simp only [dstOk, Nat.reduceLT]) (by repeat (first | exact trivial | constructor)) (runs_eval tab_ok ?_))
      simp only [ev0, evA, evB, evP, fl, gp, tab, simprocAttr, reduceCtorEq, reduceIte]
      refine fin_stop trivial (runs_call (list_s (bo n q) (bo_lt64 hb q)) rfl rfl rfl (by simp only [dstOk, Nat.reduceLT]) (by repeat (first | exact trivial | constructor)) (runs_eval tab_ok ?_))
      simp only [ev0, evA, evB, evP, fl, gp, tab, simprocAttr, reduceCtorEq, reduceIte, stl_bo hb]
      refine fin_run ?_ (hK _ ?_) <;> clear hK <;> clear K
      · (first | exact trivial | omega | (simp only [In64] at *; omega) | (simp [In64] at *; omega) | (simp_all; done) | skip)
      refine qa (qk ?_)
      simp only [Tryd.results56, enA, ev0, evA, evB, evP, fl, gp, tab, simprocAttr, reduceCtorEq, reduceIte]
      all_goals ((first | exact rfl | exact ⟨rfl, rfl⟩ | exact ⟨rfl, rfl, rfl⟩ | exact ⟨trivial, rfl⟩ | exact ⟨Nat.le_refl _, rfl⟩ | trivial | (simp; done)))

/-! ### As the document has them -/

end Go.Proofs.YtjikchbmkodgfaaDoor

/-
  How many bits are set: by sums of neighbours. Conditions: none.
-/
set_option linter.all false
namespace Go.Proofs.YtjikchbmkodgfaaDoor
open Go.Pv

def msk8 (c : Nat) : Nat → Nat
  | 0 => 0
  | k + 1 => c + 256 * msk8 c k
def p1 (M x : Nat) : Nat := (x / 2 &&& M) + (x &&& M)
def p2 (M x : Nat) : Nat := (x / 4 &&& M) + (x &&& M)
def p3 (M x : Nat) : Nat := (x / 16 + x) &&& M
def pT (k x : Nat) : Nat := p3 (msk8 15 k) (p2 (msk8 51 k) (p1 (msk8 85 k) x))
def pM (k x : Nat) : Nat := p2 (msk8 51 k) (p1 (msk8 85 k) x)
def cnt (k x : Nat) : Nat := ((List.range k).filter x.testBit).length
def pcf (x : Nat) : Nat :=
  let y := pT 8 x
  let y4 := y + y / 256
  let y5 := y4 + y4 / 65536
  let y6 := y5 + y5 / 4294967296
  y6 % 128
theorem dv {a B q : Nat} (h : a < B) : (a + B * q) / B = q := by
  rw [Nat.add_mul_div_left _ _ (Nat.lt_of_le_of_lt (Nat.zero_le _) h), Nat.div_eq_of_lt h, Nat.zero_add]
theorem l3 {E0 E1 E2 E3 : Nat} (h0 : E0 ≤ 5000) (h1 : E1 ≤ 5000) (h2 : E2 ≤ 5000) (h3 : E3 ≤ 5000) :
    let y4 := E0 + 65536 * (E1 + 65536 * (E2 + 65536 * E3))
    let y5 := y4 + y4 / 65536
    (y5 + y5 / 4294967296) % 128 = (E0 + E1 + E2 + E3) % 128 := by
  intro y4 y5
  have a1 : y4 / 65536 = E1 + 65536 * (E2 + 65536 * E3) := dv (by omega)
  have a2 : y5 = ((E0 + E1) + 65536 * (E1 + E2)) + 4294967296 * ((E2 + E3) + 65536 * E3) := by
    show y4 + y4 / 65536 = _
    rw [a1]; show E0 + 65536 * (E1 + 65536 * (E2 + 65536 * E3)) + _ = _
    omega
  have a3 : y5 / 4294967296 = (E2 + E3) + 65536 * E3 := by rw [a2]; exact dv (by omega)
  rw [a3, a2]
  omega
theorem l1 {d0 d1 d2 d3 d4 d5 d6 d7 : Nat} : d0 + 256 * (d1 + 256 * (d2 + 256 * (d3 + 256 * (d4 + 256 * (d5 + 256 * (d6 + 256 * d7)))))) + (d1 + 256 * (d2 + 256 * (d3 + 256 * (d4 + 256 * (d5 + 256 * (d6 + 256 * d7)))))) =
    (d0 + d1 + 256 * (d1 + d2)) + 65536 * ((d2 + d3 + 256 * (d3 + d4)) + 65536 * ((d4 + d5 + 256 * (d5 + d6)) + 65536 * (d6 + d7 + 256 * d7))) := by
  omega

end Go.Proofs.YtjikchbmkodgfaaDoor

/-
  How many bits are set; lists compared. Conditions: none.
-/
set_option linter.all false
namespace Go.Proofs.YtjikchbmkodgfaaDoor
open Go.Pv

/-! ### Lists, compared -/

def cmpi (x y : Int) : Int := if x < y then -1 else if y < x then 1 else 0
def cmpL : List Int → List Int → Int
  | [], [] => 0
  | [], _ :: _ => -1
  | _ :: _, [] => 1
  | x :: v, y :: w => if cmpi x y = 0 then cmpL v w else cmpi x y
theorem isNaN_c (x : Int) : FnC Tryd.prog 147 [.int .i64 x] (.bool false) := by
  refine fnc_of tab_ok Tryd.func147 rfl (by kernel_rfl) (by rw [Tryd.ntmps147]; exact Nat.le_add_left 1 _) ?_; rw [Tryd.ntmps147]
  refine qm ?_
  refine hk_region fun K hK => runs_eval tab_ok ?_
  simp only [ev0, evA, evB, evP, fl, gp, tab, simprocAttr, reduceCtorEq, reduceIte]
  refine fin_run trivial (hK _ ?_) <;> clear hK <;> clear K
  refine qa (qm ?_)
  refine hk_region fun K hK => runs_eval tab_ok ?_
  simp only [ev0, evA, evB, evP, fl, gp, tab, simprocAttr, reduceCtorEq, reduceIte]
  refine fin_run trivial (hK _ ?_) <;> clear hK <;> clear K
  refine qa (qk ?_)
  simp only [Tryd.results147, enA, ev0, evA, evB, evP, fl, gp, tab, simprocAttr, reduceCtorEq, reduceIte]
  all_goals ((first | exact rfl | exact ⟨rfl, rfl⟩ | exact ⟨rfl, rfl, rfl⟩ | exact ⟨trivial, rfl⟩ | exact ⟨Nat.le_refl _, rfl⟩ | trivial | (simp; done)))
theorem compare_c (x y : Int) : FnC Tryd.prog 125 [.int .i64 x, .int .i64 y] (.int .i64 (cmpi x y)) := by
  refine fnc_of tab_ok Tryd.func125 rfl (by kernel_rfl) (by rw [Tryd.ntmps125]; exact Nat.le_add_left 2 _) ?_; rw [Tryd.ntmps125]
  refine qm ?_
  refine hk_region fun K hK => runs_eval tab_ok ?_
  simp only [ev0, evA, evB, evP, fl, gp, tab, simprocAttr, reduceCtorEq, reduceIte]
  refine fin_run trivial (hK _ ?_) <;> clear hK <;> clear K
  refine qa (qm ?_)
  refine hk_region fun K hK => runs_eval tab_ok ?_
  simp only [ev0, evA, evB, evP, fl, gp, tab, simprocAttr, reduceCtorEq, reduceIte]
  refine fin_stop trivial (runs_call (isNaN_c x) rfl rfl rfl (by simp only [dstOk, Nat.reduceLT]) (by repeat (first | exact trivial | constructor)) (runs_eval tab_ok ?_))
  simp only [ev0, evA, evB, evP, fl, gp, tab, simprocAttr, reduceCtorEq, reduceIte]
  refine fin_run trivial (hK _ ?_) <;> clear hK <;> clear K
  refine qa (qm ?_)
  refine hk_region fun K hK => runs_eval tab_ok ?_
  simp only [ev0, evA, evB, evP, fl, gp, tab, simprocAttr, reduceCtorEq, reduceIte]
  refine fin_stop trivial (runs_call (isNaN_c y) rfl rfl rfl (by simp only [dstOk, Nat.reduceLT]) (by repeat (first | exact trivial | constructor)) (runs_eval tab_ok ?_))
  simp only [ev0, evA, evB, evP, fl, gp, tab, simprocAttr, reduceCtorEq, reduceIte]
  refine fin_run trivial (hK _ ?_) <;> clear hK <;> clear K
  refine qa (qm (qm ?_))
  refine hk_region fun K hK => runs_eval tab_ok ?_
  simp only [ev0, evA, evB, evP, fl, gp, tab, simprocAttr, reduceCtorEq, reduceIte]
  refine fin_run trivial (hK _ ?_) <;> clear hK <;> clear K
  refine qa ?_
  refine hk_cond rfl (fun hC1 => ?_) (fun hC1 => ?_)
  · cases hC1
  · (try simp only [nhs] at hC1)
    refine qh (qa (qm (qm ?_)))
    refine hk_region fun K hK => runs_eval tab_ok ?_
    simp only [ev0, evA, evB, evP, fl, gp, tab, simprocAttr, reduceCtorEq, reduceIte]
    refine fin_run trivial (hK _ ?_) <;> clear hK <;> clear K
    refine qa ?_
    refine hk_cond rfl (fun hC3 => ?_) (fun hC3 => ?_)
    · cases hC3
    · (try simp only [nhs] at hC3)
      refine qh (qa (qm (qm ?_)))
      refine hk_region fun K hK => runs_eval tab_ok ?_
      simp only [ev0, evA, evB, evP, fl, gp, tab, simprocAttr, reduceCtorEq, reduceIte]
      refine fin_run trivial (hK _ ?_) <;> clear hK <;> clear K
      refine qa ?_
      refine hk_cond rfl (fun hC4 => ?_) (fun hC4 => ?_)
      · (try simp only [nhs] at hC4)
        refine qm ?_
        refine hk_region fun K hK => runs_eval tab_ok ?_
        simp only [ev0, evA, evB, evP, fl, gp, tab, simprocAttr, reduceCtorEq, reduceIte]
        refine fin_run trivial (hK _ ?_) <;> clear hK <;> clear K
        refine qa (qk (qb ?_))
        simp only [Tryd.results125, enA, ev0, evA, evB, evP, fl, gp, tab, simprocAttr, reduceCtorEq, reduceIte]
        all_goals (unfold cmpi; rw [if_pos hC4])
      · (try simp only [nhs] at hC4)
        refine qh (qa (qm (qm ?_)))
        refine hk_region fun K hK => runs_eval tab_ok ?_
        simp only [ev0, evA, evB, evP, fl, gp, tab, simprocAttr, reduceCtorEq, reduceIte]
        refine fin_run trivial (hK _ ?_) <;> clear hK <;> clear K
        refine qa ?_
        refine hk_cond rfl (fun hC5 => ?_) (fun hC5 => ?_)
        · (try simp only [nhs] at hC5)
          refine qm ?_
          refine hk_region fun K hK => runs_eval tab_ok ?_
          simp only [ev0, evA, evB, evP, fl, gp, tab, simprocAttr, reduceCtorEq, reduceIte]
          refine fin_run trivial (hK _ ?_) <;> clear hK <;> clear K
          refine qa (qk (qb ?_))
          simp only [Tryd.results125, enA, ev0, evA, evB, evP, fl, gp, tab, simprocAttr, reduceCtorEq, reduceIte]
          all_goals (unfold cmpi; rw [if_neg hC4, if_pos hC5])
        · (try simp only [nhs] at hC5)
          refine qh (qa (qm ?_))
          refine hk_region fun K hK => runs_eval tab_ok ?_
          simp only [ev0, evA, evB, evP, fl, gp, tab, simprocAttr, reduceCtorEq, reduceIte]
          refine fin_run trivial (hK _ ?_) <;> clear hK <;> clear K
          refine qa (qk ?_)
          simp only [Tryd.results125, enA, ev0, evA, evB, evP, fl, gp, tab, simprocAttr, reduceCtorEq, reduceIte]
          all_goals (unfold cmpi; rw [if_neg hC4, if_neg hC5])
theorem cmpL_drop {v w : List Int} : ∀ {i : Nat}, (∀ j, j < i → j < v.length → j < w.length ∧ cmpi (v.getD j 0) (w.getD j 0) = 0) → i ≤ v.length → cmpL v w = cmpL (v.drop i) (w.drop i)
  | 0, _, _ => rfl
  | i + 1, h, hi => by
    cases v with
    | nil => simp at hi
    | cons x v =>
      cases w with
      | nil => have := (h 0 (by omega) (by simp)).1; simp at this
      | cons y w =>
        have h0 := (h 0 (by omega) (by simp)).2
        simp at h0
        have ih := cmpL_drop (v := v) (w := w) (i := i) (fun j hj hjv => by
          have := h (j + 1) (by omega) (by simpa using hjv)
          simpa using this) (by simpa using hi)
        simp only [List.drop_succ_cons]
        rw [← ih]
        show (if cmpi x y = 0 then cmpL v w else cmpi x y) = _
        rw [if_pos h0]
theorem drop_getD {v : List Int} {i : Nat} (h : i < v.length) : v.drop i = v.getD i 0 :: v.drop (i + 1) := by
  rw [List.drop_eq_getElem_cons h]
  congr 1
  simp [List.getD, List.getElem?_eq_getElem h]
theorem compareL_c (v w : List Int) (hv : v.length ≤ 1000000000) (hw : w.length ≤ 1000000000) : FnC Tryd.prog 92 [.list (il v), .list (il w)] (.int .i64 (cmpL v w)) := by
  refine fnc_of tab_ok Tryd.func92 rfl (by kernel_rfl) (by rw [Tryd.ntmps92]; exact Nat.le_add_left 2 _) ?_; rw [Tryd.ntmps92]
  refine qm ?_
  refine hk_region fun K hK => runs_eval tab_ok ?_
  simp only [ev0, evA, evB, evP, fl, gp, tab, simprocAttr, reduceCtorEq, reduceIte]
  refine fin_run trivial (hK _ ?_) <;> clear hK <;> clear K
  refine qa (qm (qm ?_))
  refine hk_region fun K hK => runs_eval tab_ok ?_
  simp only [ev0, evA, evB, evP, fl, gp, tab, simprocAttr, reduceCtorEq, reduceIte, il_length]
  refine fin_run trivial (hK _ ?_) <;> clear hK <;> clear K
  refine qa (ql ?_)
  refine hk_loop (ι := Nat) (fun i => ⟨36, [(0, .p (.list (il v))), (1, .p (.list (il w))), (9, .p (.list (il v))), (10, .p (.int .i64 v.length)), (11, .p (.int .i64 i))], []⟩) (fun i => i ≤ v.length ∧ ∀ j, j < i → j < v.length → j < w.length ∧ cmpi (v.getD j 0) (w.getD j 0) = 0) (fun i => v.length - i) 0 ⟨Nat.zero_le _, fun j hj => by omega⟩ [] (by simp only [leq, leA, ev0, evA, evB, evP, fl, gp, tab, simprocAttr, reduceCtorEq, reduceIte] <;> trivial) fun i hi => ?_
  obtain ⟨hi1, hi2⟩ := hi
  have hd := cmpL_drop hi2 hi1
  refine qm ?_
  refine hk_region fun K hK => runs_eval tab_ok ?_
  simp only [ev0, evA, evB, evP, fl, gp, tab, simprocAttr, reduceCtorEq, reduceIte]
  refine fin_run trivial (hK _ ?_) <;> clear hK <;> clear K
  refine qa (qm ?_)
  refine hk_cond rfl (fun hC1 => ?_) (fun hC1 => ?_)
  · (try simp only [nhs] at hC1)
    have hlt : i < v.length := by omega
    have hdv := drop_getD hlt
    refine qh (qa (qm (ql (qm ?_))))
    refine hk_region fun K hK => runs_eval tab_ok ?_
    simp only [ev0, evA, evB, evP, fl, gp, tab, simprocAttr, reduceCtorEq, reduceIte, il_get hlt]
    refine fin_run ?_ (hK _ ?_) <;> clear hK <;> clear K
    · (first | exact trivial | omega | (simp only [In64] at *; omega) | (simp [In64] at *; omega) | (simp_all; done) | skip)
    refine qa (qm (qm ?_))
    refine hk_region fun K hK => runs_eval tab_ok ?_
    simp only [ev0, evA, evB, evP, fl, gp, tab, simprocAttr, reduceCtorEq, reduceIte, il_length]
    refine fin_run trivial (hK _ ?_) <;> clear hK <;> clear K
    refine qa ?_
    refine hk_cond rfl (fun hC2 => ?_) (fun hC2 => ?_)
    · (try simp only [nhs] at hC2)
      refine qm ?_
      refine hk_region fun K hK => runs_eval tab_ok ?_
      simp only [ev0, evA, evB, evP, fl, gp, tab, simprocAttr, reduceCtorEq, reduceIte]
      refine fin_run trivial (hK _ ?_) <;> clear hK <;> clear K
      refine qa (qk (qb (qe (qb (qb (qe (qb ?_)))))))
      simp only [Tryd.results92, enA, ev0, evA, evB, evP, fl, gp, tab, simprocAttr, reduceCtorEq, reduceIte]
      have hdw : w.drop i = [] := List.drop_eq_nil_of_le (by omega)
      rw [hd, hdv, hdw]; rfl
    · (try simp only [nhs] at hC2)
      have hlw : i < w.length := by omega
      have hdw := drop_getD hlw
      refine qh (qa (qm ?_))
      refine hk_region fun K hK => runs_eval tab_ok ?_
      simp only [ev0, evA, evB, evP, fl, gp, tab, simprocAttr, reduceCtorEq, reduceIte, il_get hlw]
      refine fin_run ?_ (hK _ ?_) <;> clear hK <;> clear K
      · (first | exact trivial | omega | (simp only [In64] at *; omega) | (simp [In64] at *; omega) | (simp_all; done) | skip)
      refine qa (qm ?_)
      refine hk_region fun K hK => runs_eval tab_ok ?_
      simp only [ev0, evA, evB, evP, fl, gp, tab, simprocAttr, reduceCtorEq, reduceIte]
      refine fin_stop trivial (runs_call (compare_c (v.getD i 0) (w.getD i 0)) rfl rfl rfl (by simp only [dstOk, Nat.reduceLT]) (by repeat (first | exact trivial | constructor)) (runs_eval tab_ok ?_))
      simp only [ev0, evA, evB, evP, fl, gp, tab, simprocAttr, reduceCtorEq, reduceIte]
      refine fin_run trivial (hK _ ?_) <;> clear hK <;> clear K
      refine qa (qm ?_)
      refine hk_region fun K hK => runs_eval tab_ok ?_
      simp only [ev0, evA, evB, evP, fl, gp, tab, simprocAttr, reduceCtorEq, reduceIte]
      refine fin_run trivial (hK _ ?_) <;> clear hK <;> clear K
      refine qa ?_
      refine hk_cond rfl (fun hC3 => ?_) (fun hC3 => ?_)
      · (try simp only [nhs] at hC3)
        refine qm ?_
        refine hk_region fun K hK => runs_eval tab_ok ?_
        simp only [ev0, evA, evB, evP, fl, gp, tab, simprocAttr, reduceCtorEq, reduceIte]
        refine fin_run trivial (hK _ ?_) <;> clear hK <;> clear K
        refine qa (qk (qe (qb (qb (qe (qb ?_))))))
        simp only [Tryd.results92, enA, ev0, evA, evB, evP, fl, gp, tab, simprocAttr, reduceCtorEq, reduceIte]
        rw [hd, hdv, hdw]
        show _ = if _ then _ else _
        rw [if_neg hC3]
      · (try simp only [nhs] at hC3)
        refine qh (qd (qa ?_))
        refine hk_region fun K hK => runs_eval tab_ok ?_
        simp only [ev0, evA, evB, evP, fl, gp, tab, simprocAttr, reduceCtorEq, reduceIte]
        refine fin_run ?_ (hK _ ?_) <;> clear hK <;> clear K
        · (first | exact trivial | omega | (simp only [In64] at *; omega) | (simp [In64] at *; omega) | (simp_all; done) | skip)
        refine qa ?_
        refine ⟨i + 1, [], ⟨by omega, fun j hj hjv => ?_⟩, by omega, ?_⟩
        · by_cases hji : j = i
          · rw [hji]; exact ⟨hlw, by simpa using hC3⟩
          · exact hi2 j (by omega) hjv
        · simp only [leq, leA, ev0, evA, evB, evP, fl, gp, tab, simprocAttr, reduceCtorEq, reduceIte] <;> omega
  · (try simp only [nhs] at hC1)
    have hin : i = v.length := by omega
    have hdv : v.drop i = [] := List.drop_eq_nil_of_le (by omega)
    refine qj (qc (qc (qf (qa (qm (qm ?_))))))
    refine hk_region fun K hK => runs_eval tab_ok ?_
    simp only [ev0, evA, evB, evP, fl, gp, tab, simprocAttr, reduceCtorEq, reduceIte, il_length]
    refine fin_run trivial (hK _ ?_) <;> clear hK <;> clear K
    refine qa ?_
    refine hk_cond rfl (fun hC4 => ?_) (fun hC4 => ?_)
    · (try simp only [nhs] at hC4)
      refine qm ?_
      refine hk_region fun K hK => runs_eval tab_ok ?_
      simp only [ev0, evA, evB, evP, fl, gp, tab, simprocAttr, reduceCtorEq, reduceIte]
      refine fin_run trivial (hK _ ?_) <;> clear hK <;> clear K
      refine qa (qk (qb ?_))
      simp only [Tryd.results92, enA, ev0, evA, evB, evP, fl, gp, tab, simprocAttr, reduceCtorEq, reduceIte]
      all_goals (rw [hd, hdv, drop_getD (v := w) (i := i) (by omega)]; rfl)
    · (try simp only [nhs] at hC4)
      refine qh (qa (qm ?_))
      refine hk_region fun K hK => runs_eval tab_ok ?_
      simp only [ev0, evA, evB, evP, fl, gp, tab, simprocAttr, reduceCtorEq, reduceIte]
      refine fin_run trivial (hK _ ?_) <;> clear hK <;> clear K
      refine qa (qk ?_)
      simp only [Tryd.results92, enA, ev0, evA, evB, evP, fl, gp, tab, simprocAttr, reduceCtorEq, reduceIte]
      have hdw : w.drop i = [] := by
        refine List.drop_eq_nil_of_le ?_
        omega
      rw [hd, hdv, hdw]; rfl

/-! ### An order -/

theorem cmpi_lt {x y : Int} : cmpi x y < 0 ↔ x < y := by
  unfold cmpi
  by_cases h1 : x < y
  · simp [h1]
  · by_cases h2 : y < x <;> simp [h1, h2]
theorem cmpi_eq {x y : Int} : cmpi x y = 0 ↔ x = y := by
  unfold cmpi
  by_cases h1 : x < y
  · simp [h1]; omega
  · by_cases h2 : y < x
    · simp [h1, h2]; omega
    · simp [h1, h2]; omega
theorem cmpL_self : ∀ v : List Int, cmpL v v = 0
  | [] => rfl
  | x :: v => by show (if cmpi x x = 0 then cmpL v v else cmpi x x) = 0; rw [if_pos (cmpi_eq.2 rfl)]; exact cmpL_self v
theorem cmpL_cons_lt {x y : Int} {v w : List Int} : cmpL (x :: v) (y :: w) < 0 ↔ x < y ∨ x = y ∧ cmpL v w < 0 := by
  show (if cmpi x y = 0 then cmpL v w else cmpi x y) < 0 ↔ _
  by_cases h : cmpi x y = 0
  · rw [if_pos h]
    have := cmpi_eq.1 h
    constructor
    · exact fun h2 => .inr ⟨this, h2⟩
    · rintro (h2 | h2)
      · omega
      · exact h2.2
  · rw [if_neg h, cmpi_lt]
    have : ¬ x = y := fun e => h (cmpi_eq.2 e)
    constructor
    · exact fun h2 => .inl h2
    · rintro (h2 | h2)
      · exact h2
      · exact absurd h2.1 this
theorem cmpL_tot : ∀ v w : List Int, ¬ cmpL v w < 0 → ¬ cmpL w v < 0 → v = w
  | [], [], _, _ => rfl
  | [], _ :: _, h, _ => absurd (show (-1 : Int) < 0 by omega) h
  | _ :: _, [], _, h => absurd (show (-1 : Int) < 0 by omega) h
  | x :: v, y :: w, h1, h2 => by
    rw [cmpL_cons_lt] at h1 h2
    have hxy : x = y := by omega
    subst hxy
    rw [cmpL_tot v w (fun h => h1 (.inr ⟨rfl, h⟩)) (fun h => h2 (.inr ⟨rfl, h⟩))]
theorem cmpL_trans : ∀ u v w : List Int, cmpL u v < 0 → cmpL v w < 0 → cmpL u w < 0
  | [], [], _, h, _ => absurd h (by simp [cmpL])
  | [], _ :: _, [], _, h => absurd h (by simp [cmpL])
  | [], _ :: _, _ :: _, _, _ => by simp [cmpL]
  | _ :: _, [], _, h, _ => absurd h (by simp [cmpL])
  | _ :: _, _ :: _, [], _, h => absurd h (by simp [cmpL])
  | x :: u, y :: v, z :: w, h1, h2 => by
    rw [cmpL_cons_lt] at h1 h2 ⊢
    rcases h1 with h1 | ⟨rfl, h1⟩
    · rcases h2 with h2 | ⟨rfl, h2⟩
      · exact .inl (by omega)
      · exact .inl h1
    · rcases h2 with h2 | ⟨rfl, h2⟩
      · exact .inl h2
      · exact .inr ⟨rfl, cmpL_trans u v w h1 h2⟩
theorem cmpL_ntrans (u v w : List Int) (h1 : ¬ cmpL u v < 0) (h2 : ¬ cmpL v w < 0) : ¬ cmpL u w < 0 := fun h => by
  by_cases h3 : cmpL v u < 0
  · exact h2 (cmpL_trans _ _ _ h3 h)
  · rw [cmpL_tot _ _ h1 h3] at h; exact h2 h

/-- Sets: by how many, then by lists. -/
def cmpS (a b : List Int) : Int := if (a.length : Int) - (b.length : Int) = 0 then cmpL a b else (a.length : Int) - (b.length : Int)
theorem cmpS_lt {a b : List Int} : cmpS a b < 0 ↔ a.length < b.length ∨ a.length = b.length ∧ cmpL a b < 0 := by
  unfold cmpS
  by_cases h : (a.length : Int) - (b.length : Int) = 0
  · rw [if_pos h]; constructor
    · exact fun h2 => .inr ⟨by omega, h2⟩
    · rintro (h2 | h2)
      · omega
      · exact h2.2
  · rw [if_neg h]; omega
theorem cmpS_self (v : List Int) : ¬ cmpS v v < 0 := by
  rw [cmpS_lt, cmpL_self]; omega
end Go.Proofs.YtjikchbmkodgfaaDoor

/-
  Tables by a rule. Conditions: none.
-/
set_option linter.all false
namespace Go.Proofs.YtjikchbmkodgfaaDoor
open Go.Pv

theorem Grp.cong' {n : Nat} {f f' : Nat → Nat → Nat} {e : Nat} (G : Grp n f e) (h : ∀ a b, a < n → b < n → f' a b = f a b) : Grp n f' e := by
  refine ⟨G.pos, fun a b ha hb => by rw [h a b ha hb]; exact G.cl a b ha hb, G.el, fun a ha => by rw [h e a G.el ha]; exact G.one_l a ha, fun a ha => by rw [h a e ha G.el]; exact G.one_r a ha, fun a b c ha hb hc => ?_, fun a ha => ?_⟩
  · rw [h a b ha hb, h _ c (G.cl a b ha hb) hc, h b c hb hc, h a _ ha (G.cl b c hb hc)]
    exact G.assoc a b c ha hb hc
  · obtain ⟨b, hb, h1, h2⟩ := G.inv a ha
    exact ⟨b, hb, by rw [h a b ha hb]; exact h1, by rw [h b a hb ha]; exact h2⟩
theorem tbl_op' (g : Nat → Nat → Nat) {n a b : Nat} (ha : a < n) (hb : b < n) : op (tbl (fun a b => (g a b : Nat)) n) n a b = g a b := by
  unfold op
  rw [tbl_get _ ha hb]; rfl
theorem tbl_Tab {n : Nat} {g : Nat → Nat → Nat} (h1 : 1 ≤ n) (hn : n ≤ 60) (hg : ∀ a b, a < n → b < n → g a b < n) : Tab n (tbl (fun a b => (g a b : Nat)) n) := by
  refine ⟨h1, hn, tbl_len _ _, fun i hi => ?_⟩
  have h1 : i / n < n := Nat.div_lt_of_lt_mul hi
  have h2 : i % n < n := Nat.mod_lt _ (by omega)
  have h3 : i / n * n + i % n = i := by rw [Nat.mul_comm]; exact Nat.div_add_mod i n
  have := tbl_get (fun a b => ((g a b : Nat) : Int)) h1 h2
  rw [h3] at this
  rw [this]
  have := hg _ _ h1 h2
  omega
theorem tbl_GT' {n e : Nat} {g : Nat → Nat → Nat} (hn : n ≤ 60) (G : Grp n g e) : GT n (tbl (fun a b => (g a b : Nat)) n) n e :=
  ⟨rfl, tbl_Tab G.pos hn G.cl, G.cong' fun a b ha hb => tbl_op' g ha hb⟩

end Go.Proofs.YtjikchbmkodgfaaDoor

/-
  Operations that are the same on a group's things: inverses, conjugates, what is made. Conditions: none.
-/
set_option linter.all false
namespace Go.Proofs.YtjikchbmkodgfaaDoor
open Go.Pv

section
variable {n e : Nat} {f g : Nat → Nat → Nat} {p : Nat → Bool}

theorem iv_cong (G : Grp n f e) (h : ∀ a b, a < n → b < n → g a b = f a b) {a : Nat} (ha : a < n) : iv n g e a = iv n f e a := by
  have G' := G.cong' h
  refine (G'.iv_unique ha (G.iv_lt ha) (.inl ?_)).symm
  rw [h _ _ ha (G.iv_lt ha), G.mul_iv ha]
theorem cjr_cong (G : Grp n f e) (h : ∀ a b, a < n → b < n → g a b = f a b) {x a : Nat} (hx : x < n) (ha : a < n) : cjr n g e x a = cjr n f e x a := by
  unfold cjr
  rw [iv_cong G h ha, h _ _ (G.iv_lt ha) hx, h _ _ (G.cl _ _ (G.iv_lt ha) hx) ha]
theorem Gen.cong_op (G : Grp n f e) (h : ∀ a b, a < n → b < n → g a b = f a b) {a : Nat} (hg : Gen n g e p a) : Gen n f e p a := by
  have G' := G.cong' h
  induction hg with
  | one => exact .one
  | step a b ha hb hp ih => rw [h a b (ih.lt G) hb]; exact .step a b ih hb hp
theorem Sub.cong_op (G : Grp n f e) (h : ∀ a b, a < n → b < n → g a b = f a b) (hs : Sub n g e p) : Sub n f e p :=
  sub_of G hs.one fun a b ha hb h1 h2 => by rw [← h a b ha hb]; exact hs.mul a b ha hb h1 h2
theorem Nml.cong_op (G : Grp n f e) (h : ∀ a b, a < n → b < n → g a b = f a b) (hs : Nml n g e p) : Nml n f e p := fun a ha x hx hp => by
  rw [← cjr_cong G h hx ha]; exact hs a ha x hx hp
end
end Go.Proofs.YtjikchbmkodgfaaDoor

/-
  All subgroups of a group, in their order. Conditions: none.
-/
set_option linter.all false
namespace Go.Proofs.YtjikchbmkodgfaaDoor
open Go.Pv

def wta (p : Nat → Bool) (a x : Nat) : Bool := p x || decide (x = a)
theorem bo_wta {n a : Nat} (p : Nat → Bool) (ha : a < n) : bo n p ||| 2 ^ a = bo n (wta p a) := by
  refine Nat.eq_of_testBit_eq fun i => ?_
  rw [Nat.testBit_or, bo_bit, bo_bit, Nat.testBit_two_pow]
  unfold wta
  by_cases hi : i < n
  · simp [hi, eq_comm]
  · have : ¬ a = i := by omega
    simp [hi, this]
theorem onp_gen {n e : Nat} {f : Nat → Nat → Nat} : ∀ a, a < n → (onp e a = true ↔ Gen n f e (Nat.testBit 0) a) := fun a ha => by
  rw [onp_iff]
  constructor
  · rintro rfl; exact .one
  · intro hg
    exact Gen.least (H := fun a => a = e) rfl (fun a b _ _ hb _ => by simp at hb) hg

section
variable {n e : Nat} {f : Nat → Nat → Nat}

/-- With one thing more, what is made is there. -/
def Dn (n : Nat) (f : Nat → Nat → Nat) (e x a : Nat) (L : List Nat) : Prop := ∀ q : Nat → Bool, (∀ y, y < n → (q y = true ↔ Gen n f e (wta x.testBit a) y)) → bo n q ∈ L
theorem Dn.mono {x a : Nat} {L L' : List Nat} (h : Dn n f e x a L) (hs : ∀ y ∈ L, y ∈ L') : Dn n f e x a L' := fun q hq => hs _ (h q hq)

/-- All subgroups; each once. -/
structure AllI (n : Nat) (f : Nat → Nat → Nat) (e : Nat) (L : List Nat) : Prop where
  nodup : L.Nodup
  subs : ∀ x ∈ L, ∃ p, Sub n f e p ∧ x = bo n p
  one : bo n (onp e) ∈ L
theorem AllI.lt {L : List Nat} (h : AllI n f e L) : ∀ x ∈ L, x < 2 ^ n := fun x hx => by
  obtain ⟨p, _, rfl⟩ := h.subs x hx
  exact bo_lt n p
theorem AllI.len {L : List Nat} (h : AllI n f e L) : L.length ≤ 2 ^ n := nodup_lt h.nodup h.lt
theorem AllI.all {L : List Nat} (G : Grp n f e) (h : AllI n f e L) (hd : ∀ x ∈ L, ∀ a, a < n → Dn n f e x a L) : ∀ p, Sub n f e p → bo n p ∈ L := by
  intro q hq
  -- from what is there, inside q, up
  have go : ∀ c (p : Nat → Bool), Sub n f e p → bo n p ∈ L → (∀ y, y < n → p y = true → q y = true) → (mem n q).length - (mem n p).length ≤ c → bo n q ∈ L := by
    intro c
    induction c with
    | zero =>
      intro p hp hL hle hc
      have hall : ∀ y, y < n → q y = p y := by
        refine Classical.byContradiction fun hh => ?_
        have := mem_lt (p := q) (q := p) hle (fun h2 => hh fun y hy => (h2 y hy).symm)
        omega
      rw [bo_congr hall]; exact hL
    | succ c ih =>
      intro p hp hL hle hc
      by_cases hall : ∀ y, y < n → q y = p y
      · rw [bo_congr hall]; exact hL
      · have hex : ∃ a, a < n ∧ q a = true ∧ p a = false := by
          refine Classical.byContradiction fun hh => hall fun y hy => ?_
          cases hpy : p y with
          | true => exact hle y hy hpy
          | false =>
            cases hqy : q y with
            | false => rfl
            | true => exact absurd ⟨y, hy, hqy, hpy⟩ hh
        obtain ⟨a, ha, qa, pa⟩ := hex
        obtain ⟨r, hr⟩ := gen_ex n f e (wta (bo n p).testBit a)
        have hrL := hd _ hL a ha r hr
        have hin : ∀ b, b < n → wta (bo n p).testBit a b = true → q b = true := fun b hb hw => by
          unfold wta at hw
          rw [bo_bit, Bool.or_eq_true, Bool.and_eq_true, decide_eq_true_eq, decide_eq_true_eq] at hw
          rcases hw with hw | hw
          · exact hle b hb hw.2
          · rw [hw]; exact qa
        have hrq : ∀ y, y < n → r y = true → q y = true := fun y hy h1 => ((hr y hy).1 h1).sub G hq hin
        have hpr : ∀ y, y < n → p y = true → r y = true := fun y hy h1 => (hr y hy).2 (Gen.mem G hy (by unfold wta; rw [bo_bit]; simp [hy, h1]))
        have hra : r a = true := (hr a ha).2 (Gen.mem G ha (by unfold wta; simp))
        have hlt := mem_lt (p := r) (q := p) hpr (fun h2 => by have := h2 a ha; rw [pa, hra] at this; cases this)
        exact ih r (gen_sub G hr) hrL hrq (by omega)
  exact go _ (onp e) G.onp_sub h.one (fun y hy h1 => by rw [onp_iff] at h1; rw [h1]; exact hq.one) (Nat.le_refl _)

/-- .. in their order. -/
structure AllS (n : Nat) (f : Nat → Nat → Nat) (e : Nat) (L : List Nat) : Prop where
  subs : ∀ x ∈ L, ∃ p, Sub n f e p ∧ x = bo n p
  all : ∀ p, Sub n f e p → bo n p ∈ L
  rise : L.Pairwise fun x y => cmpS (stl x) (stl y) < 0
theorem AllS.nodup {L : List Nat} (h : AllS n f e L) : L.Nodup := h.rise.imp fun {x y} hxy he => by
  subst he; exact cmpS_self _ hxy
theorem stl_inj {x y : Nat} (hx : x < 2 ^ 64) (hy : y < 2 ^ 64) (h : stl x = stl y) : x = y := by
  refine Nat.eq_of_testBit_eq fun i => ?_
  by_cases hi : i < 64
  · exact thl_inj h hi
  · have h1 := Nat.testBit_lt_two_pow (Nat.lt_of_lt_of_le hx (Nat.pow_le_pow_right (by omega) (Nat.le_of_not_lt hi)))
    have h2 := Nat.testBit_lt_two_pow (Nat.lt_of_lt_of_le hy (Nat.pow_le_pow_right (by omega) (Nat.le_of_not_lt hi)))
    rw [h1, h2]
/-- Put into a list that rises. -/
def insS (x : Nat) : List Nat → List Nat
  | [] => [x]
  | y :: r => if cmpS (stl x) (stl y) < 0 then x :: y :: r else y :: insS x r
end
end Go.Proofs.YtjikchbmkodgfaaDoor

/-
  Sylow's subgroups, as the program has them: look, Cauchy, one. Conditions: none.
-/
set_option linter.all false
namespace Go.Proofs.YtjikchbmkodgfaaDoor
open Go.Pv

theorem isPrime_r (p : Nat) : FnC Tryd.prog 64 [.int .i64 p] (.bool (decide (isPr p))) := by
  refine fnc_of tab_ok Tryd.func64 rfl (by kernel_rfl) (by rw [Tryd.ntmps64]; exact Nat.le_add_left 1 _) ?_; rw [Tryd.ntmps64]
  refine qm ?_
  refine hk_region fun K hK => runs_eval tab_ok ?_
  simp only [ev0, evA, evB, evP, fl, gp, tab, simprocAttr, reduceCtorEq, reduceIte]
  refine fin_run trivial (hK _ ?_) <;> clear hK <;> clear K
  refine qa (qm (qm ?_))
  by_cases g1a : (p : Int) < 2
  · refine hk_region fun K hK => runs_eval tab_ok ?_
    simp only [ev0, evA, evB, evP, fl, gp, tab, simprocAttr, reduceCtorEq, reduceIte, decide_eq_true g1a]
    refine fin_run trivial (hK _ ?_) <;> clear hK <;> clear K
    refine qa ?_
    refine hk_cond rfl (fun hC1 => ?_) (fun hC1 => ?_)
    · refine qm ?_
      refine hk_region fun K hK => runs_eval tab_ok ?_
      simp only [ev0, evA, evB, evP, fl, gp, tab, simprocAttr, reduceCtorEq, reduceIte]
      refine fin_run trivial (hK _ ?_) <;> clear hK <;> clear K
      refine qa (qk (qb ?_))
      simp only [Tryd.results64, enA, ev0, evA, evB, evP, fl, gp, tab, simprocAttr, reduceCtorEq, reduceIte]
      all_goals (rw [eq_comm]; exact decide_eq_false fun h => by have := h.1; omega)
    · cases hC1
  · refine hk_region fun K hK => runs_eval tab_ok ?_
    simp only [ev0, evA, evB, evP, fl, gp, tab, simprocAttr, reduceCtorEq, reduceIte, decide_eq_false g1a]
    refine fin_run trivial (hK _ ?_) <;> clear hK <;> clear K
    refine qa ?_
    refine hk_cond rfl (fun hC1 => ?_) (fun hC1 => ?_)
    · (try simp only [nhs] at hC1)
      refine qm ?_
      refine hk_region fun K hK => runs_eval tab_ok ?_
      simp only [ev0, evA, evB, evP, fl, gp, tab, simprocAttr, reduceCtorEq, reduceIte]
      refine fin_run trivial (hK _ ?_) <;> clear hK <;> clear K
      refine qa (qk (qb ?_))
      simp only [Tryd.results64, enA, ev0, evA, evB, evP, fl, gp, tab, simprocAttr, reduceCtorEq, reduceIte]
      all_goals (rw [eq_comm]; exact decide_eq_false fun h => by have := h.2.1; omega)
    · (try simp only [nhs] at hC1)
      refine qh (qa (qm (qm ?_)))
      refine hk_region fun K hK => runs_eval tab_ok ?_
      simp only [ev0, evA, evB, evP, fl, gp, tab, simprocAttr, reduceCtorEq, reduceIte]
      refine fin_run trivial (hK _ ?_) <;> clear hK <;> clear K
      refine qa (ql ?_)
      refine hk_loop (ι := Nat) (fun d => ⟨19, [(0, .p (.int .i64 p)), (3, .p (.int .i64 d))], []⟩) (fun d => 2 ≤ d ∧ d ≤ p ∧ ∀ c, c < d → 2 ≤ c → ¬ p % c = 0) (fun d => p - d) 2 ⟨Nat.le_refl _, by omega, fun c hc h => by omega⟩ [] (by simp only [leq, leA, ev0, evA, evB, evP, fl, gp, tab, simprocAttr, reduceCtorEq, reduceIte] <;> trivial) fun d hd => ?_
      obtain ⟨hd1, hd2, hd3⟩ := hd
      refine qm (qm ?_)
      refine hk_region fun K hK => runs_eval tab_ok ?_
      simp only [ev0, evA, evB, evP, fl, gp, tab, simprocAttr, reduceCtorEq, reduceIte]
      refine fin_run trivial (hK _ ?_) <;> clear hK <;> clear K
      refine qa ?_
      refine hk_cond rfl (fun hC2 => ?_) (fun hC2 => ?_)
      · (try simp only [nhs] at hC2)
        refine qh (qa (qm (ql (qm ?_))))
        refine hk_region fun K hK => runs_eval tab_ok ?_
        simp only [ev0, evA, evB, evP, fl, gp, tab, simprocAttr, reduceCtorEq, reduceIte, tm_nat]
        refine fin_run ?_ (hK _ ?_) <;> clear hK <;> clear K
        · (first | exact trivial | omega | (simp only [In64] at *; omega) | (simp [In64] at *; omega) | (simp_all; done) | skip)
        refine qa ?_
        refine hk_cond rfl (fun hC3 => ?_) (fun hC3 => ?_)
        · (try simp only [nhs] at hC3)
          refine qm ?_
          refine hk_region fun K hK => runs_eval tab_ok ?_
          simp only [ev0, evA, evB, evP, fl, gp, tab, simprocAttr, reduceCtorEq, reduceIte]
          refine fin_run trivial (hK _ ?_) <;> clear hK <;> clear K
          refine qa (qk (qe (qb (qb (qe (qb ?_))))))
          simp only [Tryd.results64, enA, ev0, evA, evB, evP, fl, gp, tab, simprocAttr, reduceCtorEq, reduceIte]
          all_goals (rw [eq_comm]; exact decide_eq_false fun h => h.2.2 d (by omega) hd1 (by omega))
        · (try simp only [nhs] at hC3)
          refine qh (qd (qa ?_))
          refine hk_region fun K hK => runs_eval tab_ok ?_
          simp only [ev0, evA, evB, evP, fl, gp, tab, simprocAttr, reduceCtorEq, reduceIte]
          refine fin_run ?_ (hK _ ?_) <;> clear hK <;> clear K
          · (first | exact trivial | omega | (simp only [In64] at *; omega) | (simp [In64] at *; omega) | (simp_all; done) | skip)
          refine qa ?_
          refine ⟨d + 1, [], ⟨by omega, by omega, fun c hc h2 => ?_⟩, by omega, ?_⟩
          · by_cases hcd : c = d
            · subst hcd; omega
            · exact hd3 c (by omega) h2
          · simp only [leq, leA, ev0, evA, evB, evP, fl, gp, tab, simprocAttr, reduceCtorEq, reduceIte] <;> omega
      · (try simp only [nhs] at hC2)
        refine qj (qc (qc (qf (qa (qm ?_)))))
        refine hk_region fun K hK => runs_eval tab_ok ?_
        simp only [ev0, evA, evB, evP, fl, gp, tab, simprocAttr, reduceCtorEq, reduceIte]
        refine fin_run trivial (hK _ ?_) <;> clear hK <;> clear K
        refine qa (qk ?_)
        simp only [Tryd.results64, enA, ev0, evA, evB, evP, fl, gp, tab, simprocAttr, reduceCtorEq, reduceIte]
        all_goals (rw [eq_comm]; exact decide_eq_true ⟨by omega, by omega, fun c hc h2 => hd3 c (by omega) h2⟩)

theorem isPrime_neg (p : Int) (hp : p < 2) : FnC Tryd.prog 64 [.int .i64 p] (.bool false) := by
  refine fnc_of tab_ok Tryd.func64 rfl (by kernel_rfl) (by rw [Tryd.ntmps64]; exact Nat.le_add_left 1 _) ?_; rw [Tryd.ntmps64]
  refine qm ?_
  refine hk_region fun K hK => runs_eval tab_ok ?_
  simp only [ev0, evA, evB, evP, fl, gp, tab, simprocAttr, reduceCtorEq, reduceIte]
  refine fin_run trivial (hK _ ?_) <;> clear hK <;> clear K
  refine qa (qm (qm ?_))
  refine hk_region fun K hK => runs_eval tab_ok ?_
  simp only [ev0, evA, evB, evP, fl, gp, tab, simprocAttr, reduceCtorEq, reduceIte, decide_eq_true hp]
  refine fin_run trivial (hK _ ?_) <;> clear hK <;> clear K
  refine qa ?_
  refine hk_cond rfl (fun hC1 => ?_) (fun hC1 => ?_)
  · (try simp only [nhs] at hC1)
    refine qm ?_
    refine hk_region fun K hK => runs_eval tab_ok ?_
    simp only [ev0, evA, evB, evP, fl, gp, tab, simprocAttr, reduceCtorEq, reduceIte]
    refine fin_run trivial (hK _ ?_) <;> clear hK <;> clear K
    refine qa (qk (qb ?_))
    simp only [Tryd.results64, enA, ev0, evA, evB, evP, fl, gp, tab, simprocAttr, reduceCtorEq, reduceIte]
    all_goals ((first | exact rfl | exact ⟨rfl, rfl⟩ | exact ⟨rfl, rfl, rfl⟩ | exact ⟨trivial, rfl⟩ | exact ⟨Nat.le_refl _, rfl⟩ | trivial | (simp; done)))
  · cases hC1
theorem isPrime_i (p : Int) : FnC Tryd.prog 64 [.int .i64 p] (.bool (decide (isPr p.toNat))) := by
  by_cases hp : 0 ≤ p
  · obtain ⟨k, rfl⟩ := Int.eq_ofNat_of_zero_le hp
    exact isPrime_r k
  · have e : decide (isPr p.toNat) = false := decide_eq_false fun h => by have := h.1; omega
    rw [e]
    exact isPrime_neg p (by omega)

theorem sprime_c (p : Nat) (h2 : 2 ≤ p) (h100 : p ≤ 100) : FnC Tryd.prog 119 [.int .i64 p] (.bool (decide (isPr p))) := by
  refine fnc_of tab_ok Tryd.func119 rfl (by kernel_rfl) (by rw [Tryd.ntmps119]; exact Nat.le_add_left 1 _) ?_; rw [Tryd.ntmps119]
  refine qm ?_
  refine hk_region fun K hK => runs_eval tab_ok ?_
  simp only [ev0, evA, evB, evP, fl, gp, tab, simprocAttr, reduceCtorEq, reduceIte]
  refine fin_run trivial (hK _ ?_) <;> clear hK <;> clear K
  refine qa (qm (qm ?_))
  refine hk_region fun K hK => runs_eval tab_ok ?_
  simp only [ev0, evA, evB, evP, fl, gp, tab, simprocAttr, reduceCtorEq, reduceIte]
  refine fin_run trivial (hK _ ?_) <;> clear hK <;> clear K
  refine qa (ql ?_)
  refine hk_loop (ι := Nat) (fun d => ⟨17, [(0, .p (.int .i64 p)), (3, .p (.int .i64 d))], []⟩) (fun d => 2 ≤ d ∧ d ≤ p ∧ ∀ c, c < d → 2 ≤ c → ¬ p % c = 0) (fun d => p - d) 2 ⟨Nat.le_refl _, h2, fun c hc h => by omega⟩ [] (by simp only [leq, leA, ev0, evA, evB, evP, fl, gp, tab, simprocAttr, reduceCtorEq, reduceIte] <;> trivial) fun d hd => ?_
  obtain ⟨hd1, hd2, hd3⟩ := hd
  have hdd : d * d ≤ 10000 := Nat.mul_le_mul (show d ≤ 100 by omega) (show d ≤ 100 by omega)
  have hci : (d : Int) * (d : Int) = ((d * d : Nat) : Int) := by rw [Int.natCast_mul]
  refine qm (qm ?_)
  refine hk_region fun K hK => runs_eval tab_ok ?_
  simp only [ev0, evA, evB, evP, fl, gp, tab, simprocAttr, reduceCtorEq, reduceIte, hci]
  refine fin_run ?_ (hK _ ?_) <;> clear hK <;> clear K
  · simp only [In64]; omega
  refine qa ?_
  refine hk_cond rfl (fun hC1 => ?_) (fun hC1 => ?_)
  · (try simp only [nhs] at hC1)
    have h3 : d * d ≤ p := by omega
    have h4 : 2 * d ≤ d * d := Nat.mul_le_mul_right _ hd1
    refine qh (qa (qm (ql (qm ?_))))
    refine hk_region fun K hK => runs_eval tab_ok ?_
    simp only [ev0, evA, evB, evP, fl, gp, tab, simprocAttr, reduceCtorEq, reduceIte, tm_nat]
    refine fin_run ?_ (hK _ ?_) <;> clear hK <;> clear K
    · (first | exact trivial | omega | (simp only [In64] at *; omega) | (simp [In64] at *; omega) | (simp_all; done) | skip)
    refine qa ?_
    refine hk_cond rfl (fun hC2 => ?_) (fun hC2 => ?_)
    · (try simp only [nhs] at hC2)
      refine qm ?_
      refine hk_region fun K hK => runs_eval tab_ok ?_
      simp only [ev0, evA, evB, evP, fl, gp, tab, simprocAttr, reduceCtorEq, reduceIte]
      refine fin_run trivial (hK _ ?_) <;> clear hK <;> clear K
      refine qa (qk (qe (qb (qb (qe (qb ?_))))))
      simp only [Tryd.results119, enA, ev0, evA, evB, evP, fl, gp, tab, simprocAttr, reduceCtorEq, reduceIte]
      all_goals (rw [eq_comm]; exact decide_eq_false fun h => h.2.2 d (by omega) hd1 (by omega))
    · (try simp only [nhs] at hC2)
      refine qh (qd (qa ?_))
      refine hk_region fun K hK => runs_eval tab_ok ?_
      simp only [ev0, evA, evB, evP, fl, gp, tab, simprocAttr, reduceCtorEq, reduceIte]
      refine fin_run ?_ (hK _ ?_) <;> clear hK <;> clear K
      · (first | exact trivial | omega | (simp only [In64] at *; omega) | (simp [In64] at *; omega) | (simp_all; done) | skip)
      refine qa ?_
      refine ⟨d + 1, [], ⟨by omega, by omega, fun c hc h2 => ?_⟩, by omega, ?_⟩
      · by_cases hcd : c = d
        · subst hcd; omega
        · exact hd3 c (by omega) h2
      · simp only [leq, leA, ev0, evA, evB, evP, fl, gp, tab, simprocAttr, reduceCtorEq, reduceIte] <;> omega
  · (try simp only [nhs] at hC1)
    refine qj (qc (qc (qf (qa (qm ?_)))))
    refine hk_region fun K hK => runs_eval tab_ok ?_
    simp only [ev0, evA, evB, evP, fl, gp, tab, simprocAttr, reduceCtorEq, reduceIte]
    refine fin_run trivial (hK _ ?_) <;> clear hK <;> clear K
    refine qa (qk ?_)
    simp only [Tryd.results119, enA, ev0, evA, evB, evP, fl, gp, tab, simprocAttr, reduceCtorEq, reduceIte]
    rw [decide_eq_true (show (p : Int) > 1 by omega), eq_comm]
    refine decide_eq_true ⟨h2, h100, fun c hc hc2 hcp => ?_⟩
    have h3 : ¬ d * d ≤ p := by omega
    rcases Nat.lt_or_ge c d with h4 | h4
    · exact hd3 c h4 hc2 hcp
    · obtain ⟨q, hq⟩ := Nat.dvd_of_mod_eq_zero hcp
      have h5 : q < d := by
        refine Nat.lt_of_not_le fun h5 => ?_
        have : d * d ≤ c * q := Nat.mul_le_mul h4 h5
        omega
      have h6 : 2 ≤ q := by
        refine Nat.le_of_not_lt fun h6 => ?_
        have : c * q ≤ c * 1 := Nat.mul_le_mul_left _ (by omega)
        omega
      exact hd3 q h5 h6 (by rw [hq]; exact Nat.mul_mod_left c q)

/-- The fault of a group and a prime. -/
def syf (N : Int) (m : List Int) (p : Int) : Int × Int := bif decide ((gf N m).1 = 0) then (bif decide (isPr p.toNat) then (0, 0) else (3, 1)) else gf N m
theorem syf_no {N : Int} {m : List Int} {p : Int} (h : ¬ (gf N m).1 = 0) : syf N m p = gf N m := by unfold syf; rw [decide_eq_false h]; rfl
theorem syf_at {N : Int} {m : List Int} {p : Int} (h : (gf N m).1 = 0) : syf N m p = bif decide (isPr p.toNat) then (0, 0) else (3, 1) := by unfold syf; rw [decide_eq_true h]; rfl
theorem syf_ok {N : Int} {m : List Int} {p : Int} (h : (syf N m p).1 = 0) : ∃ n e P : Nat, GT N m n e ∧ isPr P ∧ p = (P : Int) := by
  by_cases hg : (gf N m).1 = 0
  · obtain ⟨n, e, h1, _⟩ := gf_ok hg
    rw [syf_at hg] at h
    by_cases hp : isPr p.toNat
    · exact ⟨n, e, p.toNat, h1, hp, by have := hp.1; omega⟩
    · rw [decide_eq_false hp] at h; simp at h
  · rw [syf_no hg] at h; exact absurd h hg
theorem syf_of {n e P : Nat} {m : List Int} (h : GT n m n e) (hP : isPr P) : syf n m P = (0, 0) := by
  have hg := gf_of h
  rw [syf_at (by rw [hg])]
  rw [decide_eq_true (show isPr ((P : Int)).toNat by rw [Int.toNat_natCast]; exact hP)]; rfl

theorem syfault_c (c a : Int) : FnC Tryd.prog 120 [.int .i64 c, .int .i64 a] (fl (c, a)) := by
  refine fnc_of tab_ok Tryd.func120 rfl (by kernel_rfl) (by rw [Tryd.ntmps120]; exact Nat.le_add_left 2 _) ?_; rw [Tryd.ntmps120]
  refine qm ?_
  refine hk_region fun K hK => runs_eval tab_ok ?_
  simp only [ev0, evA, evB, evP, fl, gp, tab, simprocAttr, reduceCtorEq, reduceIte]
  refine fin_run ?_ (hK _ ?_) <;> clear hK <;> clear K
  · (first | exact trivial | omega | (simp only [In64] at *; omega) | (simp [In64] at *; omega) | (simp_all; done) | skip)
  refine qa (qm ?_)
  refine hk_region fun K hK => runs_eval tab_ok ?_
  simp only [ev0, evA, evB, evP, fl, gp, tab, simprocAttr, reduceCtorEq, reduceIte]
  refine fin_run ?_ (hK _ ?_) <;> clear hK <;> clear K
  · (first | exact trivial | omega | (simp only [In64] at *; omega) | (simp [In64] at *; omega) | (simp_all; done) | skip)
  refine qa (qk ?_)
  simp only [Tryd.results120, enA, ev0, evA, evB, evP, fl, gp, tab, simprocAttr, reduceCtorEq, reduceIte]
  all_goals ((first | exact rfl | exact ⟨rfl, rfl⟩ | exact ⟨rfl, rfl, rfl⟩ | exact ⟨trivial, rfl⟩ | exact ⟨Nat.le_refl _, rfl⟩ | trivial | (simp; done)))

theorem slook_c (N : Int) (m : List Int) (p : Int) (hm : m.length ≤ 1000000000000000) : FnC Tryd.prog 87 [gp N m, .int .i64 p] (fl (syf N m p)) := by
  refine fnc_of tab_ok Tryd.func87 rfl (by kernel_rfl) (by rw [Tryd.ntmps87]; exact Nat.le_add_left 2 _) ?_; rw [Tryd.ntmps87]
  refine qm ?_
  refine hk_region fun K hK => runs_eval tab_ok ?_
  simp only [ev0, evA, evB, evP, fl, gp, tab, simprocAttr, reduceCtorEq, reduceIte]
  refine fin_run ?_ (hK _ ?_) <;> clear hK <;> clear K
  · (first | exact trivial | omega | (simp only [In64] at *; omega) | (simp [In64] at *; omega) | (simp_all; done) | skip)
  refine qa (qm (qm ?_))
  refine hk_region fun K hK => runs_eval tab_ok ?_
  simp only [ev0, evA, evB, evP, fl, gp, tab, simprocAttr, reduceCtorEq, reduceIte]
  refine fin_stop trivial (runs_call (check_c N m hm) rfl rfl rfl (by simp only [dstOk, Nat.reduceLT]) (by repeat (first | exact trivial | constructor)) (runs_eval tab_ok ?_))
  simp only [ev0, evA, evB, evP, fl, gp, tab, simprocAttr, reduceCtorEq, reduceIte]
  refine fin_run ?_ (hK _ ?_) <;> clear hK <;> clear K
  · (first | exact trivial | omega | (simp only [In64] at *; omega) | (simp [In64] at *; omega) | (simp_all; done) | skip)
  refine qa (qm ?_)
  refine hk_region fun K hK => runs_eval tab_ok ?_
  simp only [ev0, evA, evB, evP, fl, gp, tab, simprocAttr, reduceCtorEq, reduceIte]
  refine fin_run ?_ (hK _ ?_) <;> clear hK <;> clear K
  · (first | exact trivial | omega | (simp only [In64] at *; omega) | (simp [In64] at *; omega) | (simp_all; done) | skip)
  refine qa ?_
  refine hk_cond rfl (fun hC1 => ?_) (fun hC1 => ?_)
  · (try simp only [nhs] at hC1)
    refine qm ?_
    refine hk_region fun K hK => runs_eval tab_ok ?_
    simp only [ev0, evA, evB, evP, fl, gp, tab, simprocAttr, reduceCtorEq, reduceIte]
    refine fin_run ?_ (hK _ ?_) <;> clear hK <;> clear K
    · (first | exact trivial | omega | (simp only [In64] at *; omega) | (simp [In64] at *; omega) | (simp_all; done) | skip)
    refine qa (qk (qb ?_))
    simp only [Tryd.results87, enA, ev0, evA, evB, evP, fl, gp, tab, simprocAttr, reduceCtorEq, reduceIte]
    all_goals (rw [syf_no hC1]; exact ⟨rfl, rfl⟩)
  · (try simp only [nhs] at hC1)
    refine qh (qa (qm (qm ?_)))
    by_cases g4a : p < 2
    · refine hk_region fun K hK => runs_eval tab_ok ?_
      simp only [ev0, evA, evB, evP, fl, gp, tab, simprocAttr, reduceCtorEq, reduceIte, decide_eq_true g4a]
      refine fin_run trivial (hK _ ?_) <;> clear hK <;> clear K
      refine qa ?_
      refine hk_cond rfl (fun hC2 => ?_) (fun hC2 => ?_)
      · refine qm ?_
        refine hk_region fun K hK => runs_eval tab_ok ?_
        simp only [ev0, evA, evB, evP, fl, gp, tab, simprocAttr, reduceCtorEq, reduceIte]
        refine fin_stop trivial (runs_call (syfault_c 3 1) rfl rfl rfl (by simp only [dstOk, Nat.reduceLT]) (by repeat (first | exact trivial | constructor)) (runs_eval tab_ok ?_))
        simp only [ev0, evA, evB, evP, fl, gp, tab, simprocAttr, reduceCtorEq, reduceIte]
        refine fin_run ?_ (hK _ ?_) <;> clear hK <;> clear K
        · (first | exact trivial | omega | (simp only [In64] at *; omega) | (simp [In64] at *; omega) | (simp_all; done) | skip)
        refine qa (qk (qb ?_))
        simp only [Tryd.results87, enA, ev0, evA, evB, evP, fl, gp, tab, simprocAttr, reduceCtorEq, reduceIte]
        all_goals (rw [syf_at hC1, decide_eq_false (show ¬ isPr p.toNat from fun h => by have := h.1; omega)]; exact ⟨rfl, rfl⟩)
      · cases hC2
    · by_cases g4b : p > 100
      · refine hk_region fun K hK => runs_eval tab_ok ?_
        simp only [ev0, evA, evB, evP, fl, gp, tab, simprocAttr, reduceCtorEq, reduceIte, decide_eq_false g4a, decide_eq_true g4b]
        refine fin_run trivial (hK _ ?_) <;> clear hK <;> clear K
        refine qa ?_
        refine hk_cond rfl (fun hC2 => ?_) (fun hC2 => ?_)
        · refine qm ?_
          refine hk_region fun K hK => runs_eval tab_ok ?_
          simp only [ev0, evA, evB, evP, fl, gp, tab, simprocAttr, reduceCtorEq, reduceIte]
          refine fin_stop trivial (runs_call (syfault_c 3 1) rfl rfl rfl (by simp only [dstOk, Nat.reduceLT]) (by repeat (first | exact trivial | constructor)) (runs_eval tab_ok ?_))
          simp only [ev0, evA, evB, evP, fl, gp, tab, simprocAttr, reduceCtorEq, reduceIte]
          refine fin_run ?_ (hK _ ?_) <;> clear hK <;> clear K
          · (first | exact trivial | omega | (simp only [In64] at *; omega) | (simp [In64] at *; omega) | (simp_all; done) | skip)
          refine qa (qk (qb ?_))
          simp only [Tryd.results87, enA, ev0, evA, evB, evP, fl, gp, tab, simprocAttr, reduceCtorEq, reduceIte]
          all_goals (rw [syf_at hC1, decide_eq_false (show ¬ isPr p.toNat from fun h => by have := h.2.1; omega)]; exact ⟨rfl, rfl⟩)
        · cases hC2
      · obtain ⟨k, rfl⟩ := Int.eq_ofNat_of_zero_le (show 0 ≤ p by omega)
        refine hk_region fun K hK => runs_eval tab_ok ?_
        simp only [ev0, evA, evB, evP, fl, gp, tab, simprocAttr, reduceCtorEq, reduceIte, decide_eq_false g4a, decide_eq_false g4b]
        refine fin_stop trivial (runs_call (sprime_c k (by omega) (by omega)) rfl rfl rfl (by simp only [dstOk, Nat.reduceLT]) (by repeat (first | exact trivial | constructor)) (runs_eval tab_ok ?_))
        simp only [ev0, evA, evB, evP, fl, gp, tab, simprocAttr, reduceCtorEq, reduceIte, decide_eq_false g4a, decide_eq_false g4b]
        refine fin_run trivial (hK _ ?_) <;> clear hK <;> clear K
        refine qa ?_
        refine hk_cond rfl (fun hC2 => ?_) (fun hC2 => ?_)
        · (try simp only [nhs] at hC2)
          refine qm ?_
          refine hk_region fun K hK => runs_eval tab_ok ?_
          simp only [ev0, evA, evB, evP, fl, gp, tab, simprocAttr, reduceCtorEq, reduceIte]
          refine fin_stop trivial (runs_call (syfault_c 3 1) rfl rfl rfl (by simp only [dstOk, Nat.reduceLT]) (by repeat (first | exact trivial | constructor)) (runs_eval tab_ok ?_))
          simp only [ev0, evA, evB, evP, fl, gp, tab, simprocAttr, reduceCtorEq, reduceIte]
          refine fin_run ?_ (hK _ ?_) <;> clear hK <;> clear K
          · (first | exact trivial | omega | (simp only [In64] at *; omega) | (simp [In64] at *; omega) | (simp_all; done) | skip)
          refine qa (qk (qb ?_))
          simp only [Tryd.results87, enA, ev0, evA, evB, evP, fl, gp, tab, simprocAttr, reduceCtorEq, reduceIte]
          all_goals (rw [syf_at hC1, decide_eq_false (show ¬ isPr ((k : Int)).toNat by rw [Int.toNat_natCast]; exact hC2)]; exact ⟨rfl, rfl⟩)
        · (try simp only [nhs] at hC2)
          refine qh (qa (qm ?_))
          refine hk_region fun K hK => runs_eval tab_ok ?_
          simp only [ev0, evA, evB, evP, fl, gp, tab, simprocAttr, reduceCtorEq, reduceIte]
          refine fin_run ?_ (hK _ ?_) <;> clear hK <;> clear K
          · (first | exact trivial | omega | (simp only [In64] at *; omega) | (simp [In64] at *; omega) | (simp_all; done) | skip)
          refine qa (qk ?_)
          simp only [Tryd.results87, enA, ev0, evA, evB, evP, fl, gp, tab, simprocAttr, reduceCtorEq, reduceIte]
          all_goals (rw [syf_at hC1, decide_eq_true (show isPr ((k : Int)).toNat by rw [Int.toNat_natCast]; exact hC2)]; exact ⟨rfl, rfl⟩)

theorem primeFault_c (N : Int) (m : List Int) (p : Int) (hm : m.length ≤ 1000000000000000) : FnC Tryd.prog 39 [gp N m, .int .i64 p] (fl (syf N m p)) := by
  refine fnc_of tab_ok Tryd.func39 rfl (by kernel_rfl) (by rw [Tryd.ntmps39]; exact Nat.le_add_left 2 _) ?_; rw [Tryd.ntmps39]
  refine qm ?_
  refine hk_region fun K hK => runs_eval tab_ok ?_
  simp only [ev0, evA, evB, evP, fl, gp, tab, simprocAttr, reduceCtorEq, reduceIte]
  refine fin_run ?_ (hK _ ?_) <;> clear hK <;> clear K
  · (first | exact trivial | omega | (simp only [In64] at *; omega) | (simp [In64] at *; omega) | (simp_all; done) | skip)
  refine qa (qm ?_)
  refine hk_region fun K hK => runs_eval tab_ok ?_
  simp only [ev0, evA, evB, evP, fl, gp, tab, simprocAttr, reduceCtorEq, reduceIte]
  refine fin_stop trivial (runs_call (gf_c N m hm) rfl rfl rfl (by simp only [dstOk, Nat.reduceLT]) (by repeat (first | exact trivial | constructor)) (runs_eval tab_ok ?_))
  simp only [ev0, evA, evB, evP, fl, gp, tab, simprocAttr, reduceCtorEq, reduceIte]
  refine fin_run ?_ (hK _ ?_) <;> clear hK <;> clear K
  · (first | exact trivial | omega | (simp only [In64] at *; omega) | (simp [In64] at *; omega) | (simp_all; done) | skip)
  refine qa (qm (qm ?_))
  by_cases g2a : (gf N m).1 = 0
  · refine hk_region fun K hK => runs_eval tab_ok ?_
    simp only [ev0, evA, evB, evP, fl, gp, tab, simprocAttr, reduceCtorEq, reduceIte, decide_eq_true g2a]
    refine fin_stop trivial (runs_call (isPrime_i p) rfl rfl rfl (by simp only [dstOk, Nat.reduceLT]) (by repeat (first | exact trivial | constructor)) (runs_eval tab_ok ?_))
    simp only [ev0, evA, evB, evP, fl, gp, tab, simprocAttr, reduceCtorEq, reduceIte, decide_eq_true g2a]
    refine fin_run ?_ (hK _ ?_) <;> clear hK <;> clear K
    · (first | exact trivial | omega | (simp only [In64] at *; omega) | (simp [In64] at *; omega) | (simp_all; done) | skip)
    refine qa ?_
    refine hk_cond rfl (fun hC1 => ?_) (fun hC1 => ?_)
    · (try simp only [nhs] at hC1)
      refine hk_region fun K hK => runs_eval tab_ok ?_
      simp only [ev0, evA, evB, evP, fl, gp, tab, simprocAttr, reduceCtorEq, reduceIte]
      refine fin_stop trivial (runs_call (f_c 3 1) rfl rfl rfl (by simp only [dstOk, Nat.reduceLT]) (by repeat (first | exact trivial | constructor)) (runs_eval tab_ok ?_))
      simp only [ev0, evA, evB, evP, fl, gp, tab, simprocAttr, reduceCtorEq, reduceIte]
      refine fin_run ?_ (hK _ ?_) <;> clear hK <;> clear K
      · (first | exact trivial | omega | (simp only [In64] at *; omega) | (simp [In64] at *; omega) | (simp_all; done) | skip)
      refine qa (qm ?_)
      refine hk_region fun K hK => runs_eval tab_ok ?_
      simp only [ev0, evA, evB, evP, fl, gp, tab, simprocAttr, reduceCtorEq, reduceIte]
      refine fin_run ?_ (hK _ ?_) <;> clear hK <;> clear K
      · (first | exact trivial | omega | (simp only [In64] at *; omega) | (simp [In64] at *; omega) | (simp_all; done) | skip)
      refine qa (qk ?_)
      simp only [Tryd.results39, enA, ev0, evA, evB, evP, fl, gp, tab, simprocAttr, reduceCtorEq, reduceIte]
      all_goals (rw [syf_at g2a, decide_eq_false hC1]; exact ⟨rfl, rfl⟩)
    · (try simp only [nhs] at hC1)
      refine qh (qa (qm ?_))
      refine hk_region fun K hK => runs_eval tab_ok ?_
      simp only [ev0, evA, evB, evP, fl, gp, tab, simprocAttr, reduceCtorEq, reduceIte]
      refine fin_run ?_ (hK _ ?_) <;> clear hK <;> clear K
      · (first | exact trivial | omega | (simp only [In64] at *; omega) | (simp [In64] at *; omega) | (simp_all; done) | skip)
      refine qa (qk ?_)
      simp only [Tryd.results39, enA, ev0, evA, evB, evP, fl, gp, tab, simprocAttr, reduceCtorEq, reduceIte]
      all_goals (rw [syf_at g2a, decide_eq_true hC1]; rw [gf_zero g2a]; exact ⟨rfl, rfl⟩)
  · refine hk_region fun K hK => runs_eval tab_ok ?_
    simp only [ev0, evA, evB, evP, fl, gp, tab, simprocAttr, reduceCtorEq, reduceIte, decide_eq_false g2a]
    refine fin_run ?_ (hK _ ?_) <;> clear hK <;> clear K
    · (first | exact trivial | omega | (simp only [In64] at *; omega) | (simp [In64] at *; omega) | (simp_all; done) | skip)
    refine qa ?_
    refine hk_cond rfl (fun hC1 => ?_) (fun hC1 => ?_)
    · cases hC1
    · refine qh (qa (qm ?_))
      refine hk_region fun K hK => runs_eval tab_ok ?_
      simp only [ev0, evA, evB, evP, fl, gp, tab, simprocAttr, reduceCtorEq, reduceIte]
      refine fin_run ?_ (hK _ ?_) <;> clear hK <;> clear K
      · (first | exact trivial | omega | (simp only [In64] at *; omega) | (simp [In64] at *; omega) | (simp_all; done) | skip)
      refine qa (qk ?_)
      simp only [Tryd.results39, enA, ev0, evA, evB, evP, fl, gp, tab, simprocAttr, reduceCtorEq, reduceIte]
      all_goals (rw [syf_no g2a]; exact ⟨rfl, rfl⟩)

def orp (n : Nat) (f : Nat → Nat → Nat) (e P a : Nat) : Bool := decide (ord n f e a = P)
section
variable {n e P : Nat} {m : List Int}
end
end Go.Proofs.YtjikchbmkodgfaaDoor

/-
  Sylow's subgroups, as the program grows one. Conditions: none.
-/
set_option linter.all false
namespace Go.Proofs.YtjikchbmkodgfaaDoor
open Go.Pv

section
variable {n e P : Nat} {m : List Int}
set_option maxHeartbeats 4000000 in
set_option maxRecDepth 100000 in
theorem syOne_c (h : GT n m n e) (hP : isPr P) {K : Nat} (hK1 : fst' (swc n (op m n) e P (swq n (op m n) e P K)) n = none) (hK2 : ∀ k, k < K → ¬ fst' (swc n (op m n) e P (swq n (op m n) e P k)) n = none) : FnC Tryd.prog 89 [gp n m, .int .i64 P] (.int .u64 (bo n (swq n (op m n) e P K))) := by
  have G := h.2.2
  have hb := h.2.1.big
  have hbt : ∀ p, bo n p < 2 ^ 64 := fun p => bo_lt64 hb p
  have hP2 := hP.1
  have hP100 := hP.2.1
  refine fnc_of tab_ok Tryd.func89 rfl (by kernel_rfl) (by rw [Tryd.ntmps89]; exact Nat.le_add_left 2 _) ?_; rw [Tryd.ntmps89]
  refine qm ?_
  refine hk_region fun K hK => runs_eval tab_ok ?_
  simp only [ev0, evA, evB, evP, fl, gp, tab, simprocAttr, reduceCtorEq, reduceIte]
  refine fin_run ?_ (hK _ ?_) <;> clear hK <;> clear K
  · (first | exact trivial | omega | (simp only [In64] at *; omega) | (simp [In64] at *; omega) | (simp_all; done) | skip)
  refine qa (qs (fun _ _ h => h) (qm ?_))
  refine hk_region fun K hK => runs_eval tab_ok ?_
  simp only [ev0, evA, evB, evP, fl, gp, tab, simprocAttr, reduceCtorEq, reduceIte]
  refine fin_stop trivial (runs_call (grow_c h 0 (Nat.pow_pos (by omega)) (onp e) onp_gen) rfl rfl rfl (by simp only [dstOk, Nat.reduceLT]) (by repeat (first | exact trivial | constructor)) (runs_eval tab_ok ?_))
  simp only [ev0, evA, evB, evP, fl, gp, tab, simprocAttr, reduceCtorEq, reduceIte]
  refine fin_run ?_ (hK _ ?_) <;> clear hK <;> clear K
  · (first | exact trivial | omega | (simp only [In64] at *; omega) | (simp [In64] at *; omega) | (simp_all; done) | skip)
  refine qa (qm (qi (qa (ql ?_))))
  refine hk_loop (ι := Nat) (fun k => ⟨53, [(1, .p (.int .i64 P)), (2, .ptr 0 0), (5, .p (.int .u64 (bo n (swq n (op m n) e P k))))], [.own [.p (.int .i64 n), .p (.list (il m))]]⟩) (fun k => k ≤ K) (fun k => K - k) 0 (Nat.zero_le _) [0] (by simp only [leq, leA, ev0, evA, evB, evP, fl, gp, tab, simprocAttr, reduceCtorEq, reduceIte] <;> trivial) fun k hk => ?_
  obtain ⟨hQ, jQ, hjQ⟩ := G.swq_ok hP k
  have hQe : swq n (op m n) e P (k + 1) = sws n (op m n) e P (swq n (op m n) e P k) := rfl
  generalize hQg : swq n (op m n) e P k = Q at hQ hjQ hQe ⊢
  refine ql (qm (qm ?_))
  refine hk_region fun K hK => runs_eval tab_ok ?_
  simp only [ev0, evA, evB, evP, fl, gp, tab, simprocAttr, reduceCtorEq, reduceIte]
  refine fin_run ?_ (hK _ ?_) <;> clear hK <;> clear K
  · (first | exact trivial | omega | (simp only [In64] at *; omega) | (simp [In64] at *; omega) | (simp_all; done) | skip)
  refine qa (ql ?_)
  refine hk_loop (ι := Nat) (fun a => ⟨53, [(1, .p (.int .i64 P)), (2, .ptr 0 0), (5, .p (.int .u64 (bo n Q))), (12, .p (.int .i64 n)), (13, .p (.int .i64 a))], [.own [.p (.int .i64 n), .p (.list (il m))]]⟩) (fun a => a ≤ n ∧ ∀ b, b < a → swc n (op m n) e P Q b = false) (fun a => n - a) 0 ⟨Nat.zero_le _, fun b hb => by omega⟩ [0] (by simp only [leq, leA, ev0, evA, evB, evP, fl, gp, tab, simprocAttr, reduceCtorEq, reduceIte] <;> trivial) fun a ha => ?_
  obtain ⟨ha1, ha2⟩ := ha
  refine qm ?_
  refine hk_region fun K hK => runs_eval tab_ok ?_
  simp only [ev0, evA, evB, evP, fl, gp, tab, simprocAttr, reduceCtorEq, reduceIte]
  refine fin_run trivial (hK _ ?_) <;> clear hK <;> clear K
  refine qa (qm ?_)
  refine hk_cond rfl (fun hC1 => ?_) (fun hC1 => ?_)
  · (try simp only [nhs] at hC1)
    have hal : a < n := by omega
    have hbit : (bo n Q).testBit a = Q a := by rw [bo_bit]; simp [hal]
    have hz : decide ((bo n (shf n (op m n) e Q a) : Int) = (bo n Q : Int)) = nzr n (op m n) e Q a := by
      rw [Bool.eq_iff_iff, decide_eq_true_eq, nzr_iff]
      exact ⟨fun he y hy => bo_inj (by omega) hy, fun he => by rw [bo_congr he]⟩
    have hnext : swc n (op m n) e P Q a = false → ∀ b, b < a + 1 → swc n (op m n) e P Q b = false := fun h1 b hb2 => by
      by_cases hba : b = a
      · rw [hba]; exact h1
      · exact ha2 b (by omega)
    refine qh (qa (qm (ql (qm ?_))))
    refine hk_region fun K hK => runs_eval tab_ok ?_
    simp only [ev0, evA, evB, evP, fl, gp, tab, simprocAttr, reduceCtorEq, reduceIte]
    refine fin_run trivial (hK _ ?_) <;> clear hK <;> clear K
    refine qa (qm (qm ?_))
    by_cases hsa : Q a = true
    · refine hk_region fun K hK => runs_eval tab_ok ?_
      simp only [ev0, evA, evB, evP, fl, gp, tab, simprocAttr, reduceCtorEq, reduceIte, hbit, hsa]
      refine fin_stop ?_ (runs_call (has_s (bo n Q) a (hbt _) (by omega)) rfl rfl rfl (by simp only [dstOk, Nat.reduceLT]) (by repeat (first | exact trivial | constructor)) (runs_eval tab_ok ?_))
      · (first | exact trivial | omega | (simp only [In64] at *; omega) | (simp [In64] at *; omega) | (simp_all; done) | skip)
      simp only [ev0, evA, evB, evP, fl, gp, tab, simprocAttr, reduceCtorEq, reduceIte, hbit, hsa]
      refine fin_run trivial (hK _ ?_) <;> clear hK <;> clear K
      refine qa ?_
      refine hk_cond rfl (fun hC2 => ?_) (fun hC2 => ?_)
      · refine qj (qc (qf (qa ?_)))
        refine hk_region fun K hK => runs_eval tab_ok ?_
        simp only [ev0, evA, evB, evP, fl, gp, tab, simprocAttr, reduceCtorEq, reduceIte]
        refine fin_run ?_ (hK _ ?_) <;> clear hK <;> clear K
        · (first | exact trivial | omega | (simp only [In64] at *; omega) | (simp [In64] at *; omega) | (simp_all; done) | skip)
        refine qa ?_
        refine ⟨a + 1, [0], ⟨by omega, hnext (by unfold swc; rw [hsa]; rfl)⟩, by omega, ?_⟩
        simp only [leq, leA, ev0, evA, evB, evP, fl, gp, tab, simprocAttr, reduceCtorEq, reduceIte] <;> first | trivial | omega
      · cases hC2
    · refine hk_region fun K hK => runs_eval tab_ok ?_
      simp only [ev0, evA, evB, evP, fl, gp, tab, simprocAttr, reduceCtorEq, reduceIte, hbit, hsa]
      refine fin_stop ?_ (runs_call (has_s (bo n Q) a (hbt _) (by omega)) rfl rfl rfl (by simp only [dstOk, Nat.reduceLT]) (by repeat (first | exact trivial | constructor)) (runs_eval tab_ok ?_))
      · (first | exact trivial | omega | (simp only [In64] at *; omega) | (simp [In64] at *; omega) | (simp_all; done) | skip)
      simp only [ev0, evA, evB, evP, fl, gp, tab, simprocAttr, reduceCtorEq, reduceIte, hbit, hsa]
      refine fin_stop trivial (runs_call (moved_s h Q hal) rfl rfl rfl (by simp only [dstOk, Nat.reduceLT]) (by repeat (first | exact trivial | constructor)) (runs_eval tab_ok ?_))
      simp only [ev0, evA, evB, evP, fl, gp, tab, simprocAttr, reduceCtorEq, reduceIte, hbit, hsa]
      refine fin_run ?_ (hK _ ?_) <;> clear hK <;> clear K
      · (first | exact trivial | omega | (simp only [In64] at *; omega) | (simp [In64] at *; omega) | (simp_all; done) | skip)
      refine qa ?_
      refine hk_cond rfl (fun hC2 => ?_) (fun hC2 => ?_)
      · (try simp only [nhs] at hC2)
        have hnz : nzr n (op m n) e Q a = false := by rw [← hz]; exact decide_eq_false hC2
        refine qj (qc (qf (qa ?_)))
        refine hk_region fun K hK => runs_eval tab_ok ?_
        simp only [ev0, evA, evB, evP, fl, gp, tab, simprocAttr, reduceCtorEq, reduceIte]
        refine fin_run ?_ (hK _ ?_) <;> clear hK <;> clear K
        · (first | exact trivial | omega | (simp only [In64] at *; omega) | (simp [In64] at *; omega) | (simp_all; done) | skip)
        refine qa ?_
        refine ⟨a + 1, [0], ⟨by omega, hnext (by unfold swc; rw [hnz]; simp)⟩, by omega, ?_⟩
        simp only [leq, leA, ev0, evA, evB, evP, fl, gp, tab, simprocAttr, reduceCtorEq, reduceIte] <;> first | trivial | omega
      · (try simp only [nhs] at hC2)
        have hnz : nzr n (op m n) e Q a = true := by rw [← hz]; exact decide_eq_true (by omega)
        obtain ⟨jo, ho1, ho2⟩ := npt_ex hP.1 (G.ord_pos hal)
        have hol := (G.ord_spec hal).2.1
        obtain ⟨so, hso⟩ : ∃ so, so = npt P (ord n (op m n) e a) := ⟨_, rfl⟩
        rw [← hso] at ho1 ho2
        have hpp : ∀ i, 0 < P ^ i := fun i => Nat.pow_pos (by omega)
        have hso0 : 0 < so := by
          rcases Nat.eq_zero_or_pos so with h0 | h0
          · exact absurd (h0 ▸ Nat.dvd_zero P) ho2
          · exact h0
        have hsol : so ≤ 60 := by
          have : so ≤ P ^ jo * so := Nat.le_mul_of_pos_left _ (hpp jo)
          omega
        have hjl : ∀ i, P ^ (jo - i) * so ≤ 60 := fun i => by
          have : P ^ (jo - i) * so ≤ P ^ jo * so := Nat.mul_le_mul_right _ (Nat.pow_le_pow_right (by omega) (by omega))
          omega
        refine qh (qa (qm ?_))
        refine hk_region fun K hK => runs_eval tab_ok ?_
        simp only [ev0, evA, evB, evP, fl, gp, tab, simprocAttr, reduceCtorEq, reduceIte]
        refine fin_stop trivial (runs_call (orderOf_c h hal) rfl rfl rfl (by simp only [dstOk, Nat.reduceLT]) (by repeat (first | exact trivial | constructor)) (runs_eval tab_ok ?_))
        simp only [ev0, evA, evB, evP, fl, gp, tab, simprocAttr, reduceCtorEq, reduceIte, ho1]
        refine fin_run ?_ (hK _ ?_) <;> clear hK <;> clear K
        · (first | exact trivial | omega | (simp only [In64] at *; omega) | (simp [In64] at *; omega) | (simp_all; done) | skip)
        refine qa (qm (ql ?_))
        refine hk_loop (ι := Nat) (fun i => ⟨53, [(1, .p (.int .i64 P)), (2, .ptr 0 0), (5, .p (.int .u64 (bo n Q))), (6, .p (.int .i64 a)), (7, .p (.int .i64 (P ^ (jo - i) * so : Nat))), (12, .p (.int .i64 n)), (13, .p (.int .i64 a))], [.own [.p (.int .i64 n), .p (.list (il m))]]⟩) (fun i => i ≤ jo) (fun i => jo - i) 0 (Nat.zero_le _) [0] (by simp only [leq, leA, ev0, evA, evB, evP, fl, gp, tab, simprocAttr, reduceCtorEq, reduceIte] <;> first | trivial | simp) fun i hi => ?_
        have hji := hjl i
        refine qm (qm ?_)
        refine hk_region fun K hK => runs_eval tab_ok ?_
        simp only [ev0, evA, evB, evP, fl, gp, tab, simprocAttr, reduceCtorEq, reduceIte, tm_nat]
        refine fin_run ?_ (hK _ ?_) <;> clear hK <;> clear K
        · omega
        refine qa ?_
        refine hk_cond rfl (fun hC3 => ?_) (fun hC3 => ?_)
        · (try simp only [nhs] at hC3)
          have hij : i < jo := by
            rcases Nat.lt_or_ge i jo with h1 | h1
            · exact h1
            · exfalso
              have e1 : jo - i = 0 := by omega
              rw [e1, Nat.pow_zero, Nat.one_mul] at hC3
              exact ho2 (Nat.dvd_of_mod_eq_zero (by omega))
          have e2 : P ^ (jo - i) * so / P = P ^ (jo - (i + 1)) * so := by
            rw [show jo - i = (jo - (i + 1)) + 1 by omega, Nat.pow_succ, Nat.mul_right_comm, Nat.mul_div_cancel _ (by omega)]
          have hji1 := hjl (i + 1)
          refine qh (qa (ql ?_))
          refine hk_region fun K hK => runs_eval tab_ok ?_
          simp only [ev0, evA, evB, evP, fl, gp, tab, simprocAttr, reduceCtorEq, reduceIte, td_nat, e2]
          refine fin_run ?_ (hK _ ?_) <;> clear hK <;> clear K
          · (try simp only [In64]); omega
          refine qd (qa ?_)
          refine ⟨i + 1, [0], by omega, by omega, ?_⟩
          simp only [leq, leA, ev0, evA, evB, evP, fl, gp, tab, simprocAttr, reduceCtorEq, reduceIte] <;> first | trivial | omega
        · (try simp only [nhs] at hC3)
          have hij : i = jo := by
            rcases Nat.lt_or_ge i jo with h1 | h1
            · exfalso
              have : P ^ (jo - i) * so % P = 0 := by
                rw [show jo - i = (jo - (i + 1)) + 1 by omega, Nat.pow_succ, Nat.mul_right_comm, Nat.mul_mod_left]
              omega
            · omega
          rw [hij, Nat.sub_self, Nat.pow_zero, Nat.one_mul]
          have hswb : pw (op m n) e a so = swb n (op m n) e P a := by unfold swb; rw [hso]
          have hbl := G.swb_lt (P := P) hal
          have hbitb : (bo n Q).testBit (swb n (op m n) e P a) = Q (swb n (op m n) e P a) := by rw [bo_bit]; simp [hbl]
          refine qj (qc (qc (qf (qa (qm ?_)))))
          refine hk_region fun K hK => runs_eval tab_ok ?_
          simp only [ev0, evA, evB, evP, fl, gp, tab, simprocAttr, reduceCtorEq, reduceIte]
          refine fin_stop trivial (runs_call (powOf_c h hal so (by omega)) rfl rfl rfl (by simp only [dstOk, Nat.reduceLT]) (by repeat (first | exact trivial | constructor)) (runs_eval tab_ok ?_))
          simp only [ev0, evA, evB, evP, fl, gp, tab, simprocAttr, reduceCtorEq, reduceIte, hswb]
          refine fin_run ?_ (hK _ ?_) <;> clear hK <;> clear K
          · (first | exact trivial | omega | (simp only [In64] at *; omega) | (simp [In64] at *; omega) | (simp_all; done) | skip)
          refine qa (qm ?_)
          refine hk_region fun K hK => runs_eval tab_ok ?_
          simp only [ev0, evA, evB, evP, fl, gp, tab, simprocAttr, reduceCtorEq, reduceIte]
          refine fin_stop ?_ (runs_call (has_s (bo n Q) (swb n (op m n) e P a) (hbt _) (by omega)) rfl rfl rfl (by simp only [dstOk, Nat.reduceLT]) (by repeat (first | exact trivial | constructor)) (runs_eval tab_ok ?_))
          · (first | exact trivial | omega | (simp only [In64] at *; omega) | (simp [In64] at *; omega) | (simp_all; done) | skip)
          simp only [ev0, evA, evB, evP, fl, gp, tab, simprocAttr, reduceCtorEq, reduceIte, hbitb]
          refine fin_run trivial (hK _ ?_) <;> clear hK <;> clear K
          refine qa ?_
          refine hk_cond rfl (fun hC4 => ?_) (fun hC4 => ?_)
          · (try simp only [nhs] at hC4)
            have hqb : Q (swb n (op m n) e P a) = false := by simpa using hC4
            have hcc : swc n (op m n) e P Q a = true := by unfold swc; rw [hnz, hqb]; simp [hsa]
            have hfs := fst_some hal hcc ha2
            have hkK : k < K := by
              rcases Nat.lt_or_ge k K with h1 | h1
              · exact h1
              · exfalso
                have : k = K := by omega
                rw [← this, hQg, hfs] at hK1
                cases hK1
            have hpw := pow_lt64 (b := swb n (op m n) e P a) (by omega)
            have hw := bo_wta Q hbl
            have hq1 : ∀ y, y < n → (swq n (op m n) e P (k + 1) y = true ↔ Gen n (op m n) e (wta Q (swb n (op m n) e P a)) y) := fun y hy => by
              rw [hQe]
              unfold sws
              rw [hfs]
              exact gn_iff _ y hy
            refine qm ?_
            refine hk_draw mixed (by kernel_rfl) fun K hK => runs_eval tab_ok ?_
            simp only [ev0, evA, evB, evP, fl, gp, tab, simprocAttr, reduceCtorEq, reduceIte, shl_one (show swb n (op m n) e P a < 64 by omega), bv_or (hbt Q) hpw, hw]
            refine fin_stop ?_ (runs_call (grow_c h (bo n (wta Q (swb n (op m n) e P a))) (bo_lt n _) (swq n (op m n) e P (k + 1)) (fun y hy => by rw [gen_bo]; exact hq1 y hy)) rfl rfl rfl (by simp only [dstOk, Nat.reduceLT]) (by repeat (first | exact trivial | constructor)) (runs_eval tab_ok ?_))
            · (first | exact trivial | omega | (simp only [In64] at *; omega) | (simp [In64] at *; omega) | (simp_all; done) | skip)
            simp only [ev0, evA, evB, evP, fl, gp, tab, simprocAttr, reduceCtorEq, reduceIte, shl_one (show swb n (op m n) e P a < 64 by omega), bv_or (hbt Q) hpw, hw]
            refine fin_run ?_ (hK _ ?_) <;> clear hK <;> clear K
            · (first | exact trivial | omega | (simp only [In64] at *; omega) | (simp [In64] at *; omega) | (simp_all; done) | skip)
            refine qa (qj (qg rfl (qc (qc (qg rfl (qc (qf (qa ?_))))))))
            refine ⟨k + 1, [0], by omega, by omega, ?_⟩
            simp only [leq, leA, ev0, evA, evB, evP, fl, gp, tab, simprocAttr, reduceCtorEq, reduceIte] <;> first | trivial | omega
          · (try simp only [nhs] at hC4)
            have hqb : Q (swb n (op m n) e P a) = true := by simpa using hC4
            refine qh (qd (qa ?_))
            refine hk_region fun K hK => runs_eval tab_ok ?_
            simp only [ev0, evA, evB, evP, fl, gp, tab, simprocAttr, reduceCtorEq, reduceIte]
            refine fin_run ?_ (hK _ ?_) <;> clear hK <;> clear K
            · (first | exact trivial | omega | (simp only [In64] at *; omega) | (simp [In64] at *; omega) | (simp_all; done) | skip)
            refine qa ?_
            refine ⟨a + 1, [0], ⟨by omega, hnext (by unfold swc; rw [hqb]; simp)⟩, by omega, ?_⟩
            simp only [leq, leA, ev0, evA, evB, evP, fl, gp, tab, simprocAttr, reduceCtorEq, reduceIte] <;> first | trivial | omega
  · (try simp only [nhs] at hC1)
    have hkK : k = K := by
      rcases Nat.lt_or_ge k K with h1 | h1
      · exfalso
        refine hK2 k h1 ?_
        rw [hQg]
        exact fst_none fun b hb2 => ha2 b (by omega)
      · omega
    refine qj (qc (qc (qf (qa (qm ?_)))))
    refine hk_region fun K hK => runs_eval tab_ok ?_
    simp only [ev0, evA, evB, evP, fl, gp, tab, simprocAttr, reduceCtorEq, reduceIte]
    refine fin_run trivial (hK _ ?_) <;> clear hK <;> clear K
    refine qa (qk (qe (qb (qe ?_))))
    simp only [Tryd.results89, enA, ev0, evA, evB, evP, fl, gp, tab, simprocAttr, reduceCtorEq, reduceIte]
    all_goals (rw [← hkK, hQg])
end
end Go.Proofs.YtjikchbmkodgfaaDoor

/-
  Plain law: conjugated sets in a list that rises. Conditions: none.
-/
set_option linter.all false
namespace Go.Proofs.YtjikchbmkodgfaaDoor
open Go.Pv

/-- Put into a list that rises, letter by letter. -/
def insL (x : Nat) : List Nat → List Nat
  | [] => [x]
  | y :: r => if cmpL (stl x) (stl y) < 0 then x :: y :: r else y :: insL x r
theorem mem_insL {x z : Nat} : ∀ {L : List Nat}, z ∈ insL x L ↔ z = x ∨ z ∈ L
  | [] => by simp [insL]
  | y :: r => by
    unfold insL
    by_cases h : cmpL (stl x) (stl y) < 0
    · rw [if_pos h]; simp
    · rw [if_neg h, List.mem_cons, mem_insL, List.mem_cons]
      constructor
      · rintro (h | h | h)
        · exact .inr (.inl h)
        · exact .inl h
        · exact .inr (.inr h)
      · rintro (h | h | h)
        · exact .inr (.inl h)
        · exact .inl h
        · exact .inr (.inr h)
theorem rise_insL {x : Nat} : ∀ {L : List Nat}, L.Pairwise (fun x y => cmpL (stl x) (stl y) < 0) → (∀ y ∈ L, stl x ≠ stl y) → (insL x L).Pairwise fun x y => cmpL (stl x) (stl y) < 0
  | [], _, _ => by simp [insL]
  | y :: r, h, hne => by
    obtain ⟨h1, h2⟩ := List.pairwise_cons.1 h
    unfold insL
    by_cases hc : cmpL (stl x) (stl y) < 0
    · rw [if_pos hc]
      refine List.pairwise_cons.2 ⟨fun z hz => ?_, h⟩
      rcases List.mem_cons.1 hz with rfl | hz
      · exact hc
      · exact cmpL_trans _ _ _ hc (h1 z hz)
    · rw [if_neg hc]
      refine List.pairwise_cons.2 ⟨fun z hz => ?_, rise_insL h2 fun z hz => hne z (by simp [hz])⟩
      rcases mem_insL.1 hz with rfl | hz
      · refine Classical.byContradiction fun hh => ?_
        exact hne y (by simp) (cmpL_tot _ _ hc hh)
      · exact h1 z hz
theorem riseL_ex : ∀ M : List Nat, (∀ x ∈ M, x < 2 ^ 64) → ∃ L : List Nat, (∀ x, x ∈ L ↔ x ∈ M) ∧ L.Pairwise fun x y => cmpL (stl x) (stl y) < 0
  | [], _ => ⟨[], by simp, by simp⟩
  | x :: r, hlt => by
    obtain ⟨L, l1, l2⟩ := riseL_ex r fun y hy => hlt y (by simp [hy])
    by_cases hx : x ∈ r
    · exact ⟨L, fun z => by rw [l1, List.mem_cons]; exact ⟨.inr, fun h => h.elim (fun h => h ▸ hx) id⟩, l2⟩
    · refine ⟨insL x L, fun z => by rw [mem_insL, l1]; simp, rise_insL l2 fun y hy hxy => ?_⟩
      have hyr := (l1 y).1 hy
      have := stl_inj (hlt x (by simp)) (hlt y (by simp [hyr])) hxy
      rw [this] at hx; exact hx hyr

/-- All sets that a set is conjugated to, in their order. -/
structure SyS (n : Nat) (f : Nat → Nat → Nat) (e : Nat) (s : Nat → Bool) (SL : List Nat) : Prop where
  all : ∀ x, x ∈ SL ↔ ∃ a, a < n ∧ x = bo n (shf n f e s a)
  rise : SL.Pairwise fun x y => cmpL (stl x) (stl y) < 0
section
variable {n e : Nat} {f : Nat → Nat → Nat} {s : Nat → Bool} {SL : List Nat}
theorem sys_ex (n : Nat) (f : Nat → Nat → Nat) (e : Nat) (s : Nat → Bool) (hn : n ≤ 60) : ∃ SL, SyS n f e s SL := by
  obtain ⟨L, l1, l2⟩ := riseL_ex ((List.range n).map fun a => bo n (shf n f e s a)) fun x hx => by
    obtain ⟨a, _, rfl⟩ := List.mem_map.1 hx
    exact bo_lt64 hn _
  refine ⟨L, fun x => ?_, l2⟩
  rw [l1, List.mem_map]
  exact ⟨fun ⟨a, h1, h2⟩ => ⟨a, List.mem_range.1 h1, h2.symm⟩, fun ⟨a, h1, h2⟩ => ⟨a, List.mem_range.2 h1, h2.symm⟩⟩
theorem SyS.nodup (h : SyS n f e s SL) : SL.Nodup := h.rise.imp fun {x y} hxy he => by
  subst he; rw [cmpL_self] at hxy; exact absurd hxy (by decide)
theorem SyS.pos (h : SyS n f e s SL) (G : Grp n f e) : 0 < SL.length := List.length_pos_of_mem ((h.all _).2 ⟨e, G.el, rfl⟩)
theorem SyS.len (h : SyS n f e s SL) : SL.length ≤ n := by
  have h1 := List.Nodup.length_le_of_subset h.nodup (l₂ := (List.range n).map fun a => bo n (shf n f e s a)) fun x hx => by
    obtain ⟨a, h1, h2⟩ := (h.all x).1 hx
    exact List.mem_map.2 ⟨a, List.mem_range.2 h1, h2.symm⟩
  simpa using h1
theorem SyS.num (h : SyS n f e s SL) (G : Grp n f e) (hs : Sub n f e s) : SL.length * (mem n (nzr n f e s)).length = n :=
  G.conj_num hs (code := bo n) (fun p q => ⟨fun he y hy => by
    have := congrArg (fun x => Nat.testBit x y) he
    simpa [bo_bit, hy] using this, fun he => bo_congr he⟩) h.nodup h.all
end
end Go.Proofs.YtjikchbmkodgfaaDoor

/-
  Maps by lists of keys. Conditions: none.
-/
set_option linter.all false
namespace Go.Proofs.YtjikchbmkodgfaaDoor
open Go.Pv

/-! ### Maps by lists of keys -/
def mpd (l : List Int) : Int → Bool := fun u => decide (u ∈ l)
def mpv (l : List Int) (g : Int → PV) : Int → PV := fun u => bif decide (u ∈ l) then g u else default
theorem mpd_nil : (fun _ : Int => false) = mpd [] := funext fun u => by simp [mpd]
theorem mpv_nil (g : Int → PV) : (fun _ : Int => (default : PV)) = mpv [] g := funext fun u => by simp [mpv]
theorem mpd_set (l : List Int) (x : Int) : (fun u => decide (u = x) || mpd l u) = mpd (l ++ [x]) := funext fun u => by
  unfold mpd
  rw [Bool.eq_iff_iff]
  simp only [Bool.or_eq_true, decide_eq_true_eq, List.mem_append, List.mem_singleton]
  exact Or.comm
theorem mpv_set (l : List Int) (x : Int) (g : Int → PV) : (fun u => bif decide (u = x) then g x else mpv l g u) = mpv (l ++ [x]) g := funext fun u => by
  unfold mpv
  by_cases hu : u = x
  · subst hu; simp
  · simp [hu]
theorem mpd_in {l : List Int} {x : Int} (h : x ∈ l) : mpd l x = true := decide_eq_true h
theorem mpv_in {l : List Int} {x : Int} (g : Int → PV) (h : x ∈ l) : mpv l g x = g x := by
  unfold mpv
  rw [decide_eq_true h]; rfl
theorem ll_takeL (ls : List (List Int)) : (ll ls).take ls.length = ll ls := List.take_of_length_le (by rw [ll_length]; exact Nat.le_refl _)
theorem ll_takeS (ls : List (List Int)) (x : List Int) : (ll (ls ++ [x])).take (ls.length + 1) = ll (ls ++ [x]) := List.take_of_length_le (by rw [ll_length]; simp)
def tru : Int → PV := fun _ => .bool true
end Go.Proofs.YtjikchbmkodgfaaDoor

/-
  Calls that write what is the caller's own: contracts over blocks. Conditions: none; a library text.
-/
set_option linter.all false
namespace Go.Pv
open Go.RowKit

def ancs : Nat → Nat → Heap
  | _, 0 => []
  | k, n + 1 => .anc k k :: ancs (k + 1) n

theorem ancs_get : ∀ (n k j : Nat) (b : Blk), (ancs k n)[j]? = some b → j < n ∧ b = .anc (k + j) (k + j)
  | 0, k, j, b, h => by simp [ancs] at h
  | n + 1, k, 0, b, h => by simp [ancs] at h; exact ⟨by omega, h.symm⟩
  | n + 1, k, j + 1, b, h => by
    have := ancs_get n (k + 1) j b (by simpa [ancs] using h)
    refine ⟨by omega, ?_⟩
    rw [this.2, show k + 1 + j = k + (j + 1) by omega]

theorem ancs_at : ∀ (n k j : Nat), j < n → (ancs k n)[j]? = some (.anc (k + j) (k + j))
  | n + 1, k, 0, _ => rfl
  | n + 1, k, j + 1, h => by
    rw [show ancs k (n + 1) = .anc k k :: ancs (k + 1) n from rfl, List.getElem?_cons_succ, ancs_at n (k + 1) j (by omega), show k + 1 + j = k + (j + 1) by omega]

def entA : Nat → List AV → List (Nat × AV)
  | _, [] => []
  | k, a :: r => (k, a) :: entA (k + 1) r

theorem entA_lk : ∀ (l : List AV) (k t : Nat), lk (entA k l) t = if k ≤ t then l.getD (t - k) .dead else .dead
  | [], k, t => by simp [entA, lk]
  | a :: r, k, t => by
    simp only [entA, lk]
    by_cases h : k = t
    · subst h; simp
    · rw [show (k == t) = false by simpa using h]
      simp only [cond_false]
      rw [entA_lk r (k + 1) t]
      by_cases hk : k ≤ t
      · rw [if_pos (by omega), if_pos hk, show t - k = (t - (k + 1)) + 1 by omega]; rfl
      · rw [if_neg (by omega), if_neg hk]

theorem app_get {H X : Heap} {k : Nat} {b : Blk} (h : (H ++ X)[k]? = some b) : (k < H.length ∧ H[k]? = some b) ∨ X[k - H.length]? = some b := by
  by_cases hk : k < H.length
  · exact .inl ⟨hk, by rwa [List.getElem?_append_left hk] at h⟩
  · exact .inr (by rwa [List.getElem?_append_right (by omega)] at h)

section
variable {P : Program} {T : TypeId → Option TI} {C : Ctx} {m : Map} {s : St} {tmps : Array Value} {w : World}

theorem Rel.addAnc (R : Rel C m s tmps w) {n : Nat} (hn : n ≤ s.H.length) (ha : ∀ i, i < n → m i = C.anc i) : Rel C m { s with H := s.H ++ ancs 0 n } tmps w := by
  have gen : ∀ (k : Nat) (b : Blk), (∀ i j, b ≠ .anc i j) → (s.H ++ ancs 0 n)[k]? = some b → k < s.H.length ∧ s.H[k]? = some b := by
    intro k b hb h
    rcases app_get h with h | h
    · exact h
    · exact absurd (ancs_get _ _ _ _ h).2 (hb _ _)
  have own : ∀ (k : Nat) (c : List AV), (s.H ++ ancs 0 n)[k]? = some (.own c) → k < s.H.length ∧ s.H[k]? = some (.own c) := fun k c h => gen k _ (fun _ _ h => by cases h) h
  have mps : ∀ (k : Nat) (kk : IntKind) (d : Int → Bool) (v : Int → PV), (s.H ++ ancs 0 n)[k]? = some (Blk.mp kk d v) → k < s.H.length ∧ s.H[k]? = some (Blk.mp kk d v) := fun k _ _ _ h => gen k _ (fun _ _ h => by cases h) h
  have ho : ∀ b, OK C m s.H w b → OK C m (s.H ++ ancs 0 n) w b := fun b h => ⟨h.1, h.2.1, fun k c l hk hl => h.2.2 k c l (own k c hk).2 hl⟩
  have hlen : s.H.length ≤ (s.H ++ ancs 0 n).length := by simp
  have rd : ∀ p v, Reads (OK C m s.H w) w p v → Reads (OK C m (s.H ++ ancs 0 n) w) w p v := fun p v h => h.mono ho
  refine ⟨R.laid.ext rd, R.below, R.base, R.size, fun k k' c c' l l' h1 h2 => R.inj k k' c c' l l' (own k c h1).2 (own k' c' h2).2, fun k c h => (R.blk k c (own k c h).2).ext rd hlen (fun _ _ => rfl) rfl fun _ _ => rfl,
    fun k c h => (R.fro k c (gen k _ (fun _ _ h => by cases h) h).2).ext ho (fun _ _ => rfl) rfl, fun t => (R.slot t).ext rd hlen fun _ _ => rfl, fun k kk d v h => (R.mp.1 k kk d v (mps k kk d v h).2).ext ho (fun _ _ => rfl) rfl fun _ _ => rfl,
    fun k k' kk d v kk' d' v' l l' h1 h2 => R.mp.2.1 k k' kk d v kk' d' v' l l' (mps _ _ _ _ h1).2 (mps _ _ _ _ h2).2, fun k i j h => ?_⟩
  rcases app_get h with h | h
  · obtain ⟨a1, a2⟩ := R.mp.2.2 k i j h.2
    exact ⟨by simp; omega, a2⟩
  · obtain ⟨a1, a2⟩ := ancs_get _ _ _ _ h
    cases a2
    refine ⟨by simp; omega, ?_⟩
    rw [ha _ (by omega)]

/-! ### The contract -/

/-- A CONTRACT OVER BLOCKS: called with values that are so over such blocks of the caller's own, the function returns so, over those blocks as they are then, and new ones. -/
def FnM (P : Program) (f : FuncId) (args : List AV) (H0 : Heap) (r : AV) (H1 : Heap) : Prop :=
  Fun P f ∧ ∀ (C : Ctx) (m : Map) (w : World) (vals : Array Value), Rel C m ⟨args.length, entA 0 args, H0 ++ ancs 0 H0.length⟩ vals w →
    Calls P f vals w fun e w' => ∃ v m', e = .returned v ∧ Rel C m' ⟨1, [(0, r)], H1 ++ ancs 0 H0.length⟩ #[v] w'

/-! ### Who calls it -/

theorem AVal.sig {rd rd' : PV → Value → Prop} {m m2 : Map} {H H2 : Heap} {σ : List Nat} (h1 : ∀ p v, rd p v → rd' p v) (hs : ∀ k, k < σ.length → σ.getD k 0 < H2.length ∧ m2 (σ.getD k 0) = m k) {x : AV} {v : Value} (h : AVal rd m H x v)
    (hx : scA σ.length x = true) : AVal rd' m2 H2 (Go.Pv.ren σ x) v := by
  have one : ∀ {x : AV} {v : Value}, AVal rd m H x v → sc1 σ.length x = true → AVal rd' m2 H2 (ren1 σ x) v := by
    intro x v h hsc
    cases h with
    | dead v => exact .dead v
    | p pv v h => exact .p pv v (h1 _ _ h)
    | sl k lo len v hk h =>
      obtain ⟨g1, g2⟩ := hs k (by simpa [sc1] using hsc)
      refine .sl _ lo len v g1 ?_
      unfold SlOk at *
      rw [g2]; exact h
    | ptr k i v hk h =>
      obtain ⟨g1, g2⟩ := hs k (by simpa [sc1] using hsc)
      refine .ptr _ i v g1 ?_
      unfold PtrOk at *
      rw [g2]; exact h
    | agg l vs hl hr => simp [sc1] at hsc
    | tup l vs hl hr => simp [sc1] at hsc
    | cl f l vs hl hr => simp [sc1] at hsc
    | itv r => exact .itv r
    | mptr k v hk h =>
      obtain ⟨g1, g2⟩ := hs k (by simpa [sc1] using hsc)
      refine .mptr _ v g1 ?_
      unfold MptrOk at *
      rw [g2]; exact h
  cases x with
  | agg l =>
    cases h with
    | agg _ vs hl hr =>
      refine .agg _ vs (by simpa using hl) fun c hc => ?_
      rw [List.length_map] at hc
      rw [List.getElem_map]
      exact one (hr c hc) ((List.all_eq_true.1 hx) _ (List.getElem_mem hc))
  | tup l =>
    cases h with
    | tup _ vs hl hr =>
      refine .tup _ vs (by simpa using hl) fun c hc => ?_
      rw [List.length_map] at hc
      rw [List.getElem_map]
      exact one (hr c hc) ((List.all_eq_true.1 hx) _ (List.getElem_mem hc))
  | cl f l =>
    cases h with
    | cl _ _ vs hl hr =>
      refine .cl _ _ vs (by simpa using hl) fun c hc => ?_
      rw [List.length_map] at hc
      rw [List.getElem_map]
      exact one (hr c hc) ((List.all_eq_true.1 hx) _ (List.getElem_mem hc))
  | dead => exact one h hx
  | p pv => exact one h hx
  | sl k lo len => exact one h hx
  | ptr k i => exact one h hx
  | mptr k => exact one h hx
  | itv r => exact one h hx

/-- Blocks put back: those that were lent, in their places; new ones behind. -/
def putM : Heap → List Nat → Heap → Heap
  | H, [], bs => H ++ bs
  | H, _ :: _, [] => H
  | H, k :: ks, b :: bs => putM (hset H k b) ks bs

theorem putM_get : ∀ (ks : List Nat) (bs H : Heap) (k : Nat) (b : Blk), (∀ k ∈ ks, k < H.length) → ks.length ≤ bs.length → (putM H ks bs)[k]? = some b →
    (∃ j : Nat, bs[j]? = some b ∧ (ks ++ List.range' H.length (bs.length - ks.length))[j]? = some k) ∨ (k < H.length ∧ k ∉ ks ∧ H[k]? = some b)
  | [], bs, H, k, b, _, _, h => by
    simp only [putM] at h
    by_cases hk : k < H.length
    · exact .inr ⟨hk, by simp, by rwa [List.getElem?_append_left hk] at h⟩
    · rw [List.getElem?_append_right (by omega)] at h
      · refine .inl ⟨k - H.length, h, ?_⟩
        have := (List.getElem?_eq_some_iff.1 h).1
        simp only [List.nil_append, List.length_nil, Nat.sub_zero]
        rw [List.getElem?_range' this]
        simp; omega
  | k0 :: ks, [], H, k, b, _, hl, _ => by simp at hl
  | k0 :: ks, b0 :: bs, H, k, b, hk, hl, h => by
    simp only [putM] at h
    have h0 := hk k0 (by simp)
    rcases putM_get ks bs (hset H k0 b0) k b (fun k hk' => by rw [hset_length]; exact hk k (by simp [hk'])) (by simpa using hl) h with ⟨j, h1, h2⟩ | ⟨h1, h2, h3⟩
    · rw [hset_length] at h2
      exact .inl ⟨j + 1, by simpa using h1, by simpa using h2⟩
    · rw [hset_get] at h3
      rw [hset_length] at h1
      by_cases e : k = k0
      · subst e
        rw [if_pos ⟨rfl, h0⟩] at h3
        exact .inl ⟨0, by simpa using h3, by simp⟩
      · rw [if_neg (by simp [e])] at h3
        exact .inr ⟨h1, by simp [e, h2], h3⟩

theorem putM_length : ∀ (ks : List Nat) (bs H : Heap), ks.length ≤ bs.length → (putM H ks bs).length = H.length + (bs.length - ks.length)
  | [], bs, H, _ => by simp [putM]
  | k0 :: ks, [], H, hl => by simp at hl
  | k0 :: ks, b0 :: bs, H, hl => by
    simp only [putM]
    rw [putM_length ks bs _ (by simpa using hl), hset_length]; simp

/-- Maps stay maps. -/
def mpKeep : Heap → Heap → Bool
  | .mp _ _ _ :: r, .mp _ _ _ :: t => mpKeep r t
  | .mp _ _ _ :: _, _ => false
  | _ :: r, _ :: t => mpKeep r t
  | [], _ => true
  | _ :: _, [] => false

theorem mpKeep_get : ∀ {H0 H1 : Heap}, mpKeep H0 H1 = true → ∀ (j : Nat) (kk : IntKind) (d : Int → Bool) (v : Int → PV), H0[j]? = some (.mp kk d v) → ∃ kk' d' v', H1[j]? = some (.mp kk' d' v')
  | [], _, _, j, _, _, _, h => by simp at h
  | b :: r, [], hm, _, _, _, _, _ => by cases b <;> simp [mpKeep] at hm
  | b :: r, b' :: t, hm, 0, kk, d, v, h => by
    simp at h; subst h
    cases b' <;> simp [mpKeep] at hm
    exact ⟨_, _, _, rfl⟩
  | b :: r, b' :: t, hm, j + 1, kk, d, v, h => by
    have hm2 : mpKeep r t = true := by cases b <;> cases b' <;> simp [mpKeep] at hm <;> exact hm
    simpa using mpKeep_get hm2 j kk d v (by simpa using h)

def scM (av : AV) (H0 H1 : Heap) : Bool :=
  scA H1.length av && H1.all (fun | .own c => c.all (scA H1.length) | .anc _ _ => false | _ => true) && decide (H0.length ≤ H1.length) && mpKeep H0 H1 && H0.all notAnc

/-- The frame of who is called with blocks that are lent. -/
def subC (C : Ctx) (m : Map) (H : Heap) (ks : List Nat) (H0 : Heap) (w : World) : Ctx :=
  ⟨fun b => OK C m H w b, fun b => w.heap.size ≤ b ∨ ∃ (j : Nat) (b0 : Blk) (l : Loc), H0[j]? = some b0 ∧ b0.wr = true ∧ mren m ks j = some l ∧ l.g = b, w, mren m ks⟩

theorem Rel.wrLt (R : Rel C m s tmps w) {k : Nat} {b : Blk} (hb : s.H[k]? = some b) (hw : b.wr = true) {l : Loc} (hl : m k = some l) : C.B l.g ∧ l.g < w.heap.size := by
  cases b with
  | own c =>
    rcases R.blk k c hb with ⟨_, hn⟩ | ⟨l', cur, e, a1, a2, a3, _⟩
    · rw [hl] at hn; cases hn
    · rw [hl] at a1; cases a1
      exact ⟨a2, (Array.getElem?_eq_some_iff.1 a3).1⟩
  | mp kk d v =>
    obtain ⟨l', ar, clk, vs, a1, a2, a3, _⟩ := R.mp.1 k kk d v hb
    rw [hl] at a1; cases a1
    exact ⟨a2, (Array.getElem?_eq_some_iff.1 a3).1⟩
  | _ => cases hw

theorem Rel.inj2 (R : Rel C m s tmps w) {k k' : Nat} {b b' : Blk} (hb : s.H[k]? = some b) (hw : b.wr = true) (hb' : s.H[k']? = some b') (hw' : b'.wr = true) {l l' : Loc} (hl : m k = some l) (hl' : m k' = some l') (e : l.g = l'.g) : k = k' := by
  cases b with
  | own c =>
    cases b' with
    | own c' => exact R.inj k k' c c' l l' hb hb' hl hl' e
    | mp kk d v => exact absurd e ((R.mpOK hb' hl').2.2 k c l hb hl)
    | _ => cases hw'
  | mp kk d v =>
    cases b' with
    | own c' => exact absurd e.symm ((R.mpOK hb hl).2.2 k' c' l' hb' hl')
    | mp kk' d' v' => exact R.mp.2.1 _ _ _ _ _ _ _ _ _ _ hb hb' hl hl' e
    | _ => cases hw'
  | _ => cases hw

theorem LeH.wr {π : List Nat} {H H1 : Heap} (h3 : LeH π H π H1) {j : Nat} {b0 : Blk} (h : H1[j]? = some b0) (hw : b0.wr = true) : ∃ k' b, π[j]? = some k' ∧ H[k']? = some b ∧ b.wr = true ∧ ((∃ c, b0 = .own c) → ∃ c, b = .own c) ∧ ((∃ kk d v, b0 = .mp kk d v) → ∃ kk d v, b = .mp kk d v) := by
  obtain ⟨g1, g2⟩ := h3.get
  cases b0 with
  | own c =>
    obtain ⟨k', d, a1, a2, _⟩ := LeH.own g2 j c h
    exact ⟨k', _, a1, a2, rfl, (fun _ => ⟨_, rfl⟩), fun ⟨_, _, _, h⟩ => by cases h⟩
  | mp kk d v =>
    obtain ⟨k', a, b⟩ := g2 j _ h
    exact ⟨k', _, a, hget_some b (by simp), rfl, (fun ⟨_, h⟩ => by cases h), fun _ => ⟨_, _, _, rfl⟩⟩
  | _ => cases hw

theorem Rel.joinM (R : Rel C m s tmps w) {ks : List Nat} {H0 H1 : Heap} {r : AV} {w' : World} {v : Value} {m' : Map} (hle : LeH ks s.H ks H0) (hks : ∀ k ∈ ks, k < s.H.length) (R1 : Rel (subC C m s.H ks H0 w) m' ⟨1, [(0, r)], H1 ++ ancs 0 H0.length⟩ #[v] w') (hsc : scM r H0 H1 = true) :
    ∃ m2, Rel C m2 { s with H := putM s.H ks (H1.map (Blk.ren (ks ++ List.range' s.H.length (H1.length - ks.length)))) } tmps w' ∧
      AVal (Reads (OK C m2 (putM s.H ks (H1.map (Blk.ren (ks ++ List.range' s.H.length (H1.length - ks.length))))) w') w') m2 (putM s.H ks (H1.map (Blk.ren (ks ++ List.range' s.H.length (H1.length - ks.length))))) (Go.Pv.ren (ks ++ List.range' s.H.length (H1.length - ks.length)) r) v := by
  obtain ⟨g1, g2⟩ := hle.get
  unfold scM at hsc
  rw [Bool.and_eq_true, Bool.and_eq_true, Bool.and_eq_true, Bool.and_eq_true, decide_eq_true_eq] at hsc
  obtain ⟨⟨⟨⟨s1, s2⟩, s3⟩, s4⟩, s5⟩ := hsc
  have hn : ks.length ≤ H1.length := by omega
  generalize hσe : ks ++ List.range' s.H.length (H1.length - ks.length) = σ
  have hσlen : σ.length = H1.length := by rw [← hσe]; simp; omega
  generalize hH2 : putM s.H ks (H1.map (Blk.ren σ)) = H2
  have hlen2 : H2.length = s.H.length + (H1.length - ks.length) := by rw [← hH2, putM_length _ _ _ (by simpa using hn)]; simp
  -- where the callee's blocks lie
  have hm1 : ∀ j, j < H0.length → m' j = mren m ks j := fun j hj => by
    have h : (H1 ++ ancs 0 H0.length)[H1.length + j]? = some (.anc j j) := by
      rw [List.getElem?_append_right (by omega), Nat.add_sub_cancel_left, ancs_at _ _ _ hj, Nat.zero_add]
    exact (R1.mp.2.2 _ _ _ h).2
  obtain ⟨m2, hm2⟩ : ∃ m2 : Map, m2 = fun k => if k < s.H.length then m k else m' (ks.length + (k - s.H.length)) := ⟨_, rfl⟩
  have hmo : ∀ k, k < s.H.length → m2 k = m k := fun k h => by rw [hm2]; simp [h]
  have hσ : ∀ (j k : Nat), σ[j]? = some k → k < H2.length ∧ m2 k = m' j := by
    intro j k h
    rw [← hσe] at h
    by_cases hj : j < ks.length
    · rw [List.getElem?_append_left hj] at h
      have hk := hks k (List.mem_of_getElem? h)
      refine ⟨by omega, ?_⟩
      rw [hmo k hk, hm1 j (by omega)]
      simp only [mren, h, Option.bind_some]
    · rw [List.getElem?_append_right (by omega)] at h
      have hj2 : j - ks.length < H1.length - ks.length := by
        have := (List.getElem?_eq_some_iff.1 h).1
        simpa using this
      rw [List.getElem?_range' hj2] at h
      simp only [Option.some.injEq, Nat.one_mul] at h
      subst h
      refine ⟨by omega, ?_⟩
      rw [hm2]
      simp only
      rw [if_neg (by omega)]
      congr 1
      omega
  have hσ2 : ∀ k, k < σ.length → σ.getD k 0 < H2.length ∧ m2 (σ.getD k 0) = m' k := fun k hk => by
    have : σ[k]? = some (σ.getD k 0) := by simp [List.getD, List.getElem?_eq_getElem hk]
    exact hσ k _ this
  have hget : ∀ (k : Nat) (b : Blk), H2[k]? = some b → (∃ (j : Nat) (b' : Blk), H1[j]? = some b' ∧ b = b'.ren σ ∧ σ[j]? = some k) ∨ (k < s.H.length ∧ k ∉ ks ∧ s.H[k]? = some b) := by
    intro k b h
    rw [← hH2] at h
    rcases putM_get ks _ s.H k b hks (by simpa using hn) h with ⟨j, h1, h2⟩ | h
    · rw [List.length_map, hσe] at h2
      rw [List.getElem?_map] at h1
      cases e : H1[j]? with
      | none => rw [e] at h1; cases h1
      | some b' => rw [e] at h1; exact .inl ⟨j, b', e, (Option.some.inj h1).symm, h2⟩
    · exact .inr h
  have hHc : ∀ (j : Nat) (b : Blk), H1[j]? = some b → (H1 ++ ancs 0 H0.length)[j]? = some b := fun j b h => by
    rw [List.getElem?_append_left (List.getElem?_eq_some_iff.1 h).1]; exact h
  have hown : ∀ (k : Nat) (c : List AV), H2[k]? = some (.own c) → (∃ (j : Nat) (c' : List AV), H1[j]? = some (.own c') ∧ c = c'.map (Go.Pv.ren σ) ∧ σ[j]? = some k) ∨ (k < s.H.length ∧ k ∉ ks ∧ s.H[k]? = some (.own c)) := by
    intro k c h
    rcases hget k _ h with ⟨j, b', h1, h2, h3⟩ | h
    · cases b' with
      | own c' => simp only [Blk.ren, Blk.own.injEq] at h2; exact .inl ⟨j, c', h1, h2, h3⟩
      | _ => cases h2
    · exact .inr h
  have hmps : ∀ (k : Nat) (kk : IntKind) (d : Int → Bool) (vv : Int → PV), H2[k]? = some (.mp kk d vv) → (∃ j : Nat, H1[j]? = some (.mp kk d vv) ∧ σ[j]? = some k) ∨ (k < s.H.length ∧ k ∉ ks ∧ s.H[k]? = some (.mp kk d vv)) := by
    intro k kk d vv h
    rcases hget k _ h with ⟨j, b', h1, h2, h3⟩ | h
    · cases b' with
      | mp kk' d' v' => simp only [Blk.ren, Blk.mp.injEq] at h2; obtain ⟨rfl, rfl, rfl⟩ := h2; exact .inl ⟨j, h1, h3⟩
      | _ => cases h2
    · exact .inr h
  have hfro : ∀ (k : Nat) (c : List PV), H2[k]? = some (.fro c) → (∃ j : Nat, H1[j]? = some (.fro c) ∧ σ[j]? = some k) ∨ (k < s.H.length ∧ k ∉ ks ∧ s.H[k]? = some (.fro c)) := by
    intro k c h
    rcases hget k _ h with ⟨j, b', h1, h2, h3⟩ | h
    · cases b' with
      | fro c' => simp only [Blk.ren, Blk.fro.injEq] at h2; subst h2; exact .inl ⟨j, h1, h3⟩
      | _ => cases h2
    · exact .inr h
  have lent : ∀ (j : Nat) (b0 : Blk) (l : Loc), H0[j]? = some b0 → b0.wr = true → mren m ks j = some l → ∃ k' b, k' ∈ ks ∧ s.H[k']? = some b ∧ b.wr = true ∧ m k' = some l ∧ ((∃ c, b0 = .own c) → ∃ c, b = .own c) ∧ ((∃ kk d v, b0 = .mp kk d v) → ∃ kk d v, b = .mp kk d v) := by
    intro j b0 l h hw hl
    obtain ⟨k', b, a1, a2, a3, a4, a5⟩ := hle.wr h hw
    simp only [mren, a1, Option.bind_some] at hl
    exact ⟨k', b, List.mem_of_getElem? a1, a2, a3, hl, a4, a5⟩
  have hB1 : ∀ b, (subC C m s.H ks H0 w).B b → C.B b := by
    intro b hb
    rcases hb with hb | ⟨j, b0, l, h1, h2, h3, rfl⟩
    · exact R.base b hb
    · obtain ⟨k', b, _, a2, a3, a4, _⟩ := lent j b0 l h1 h2 h3
      exact (R.wrLt a2 a3 a4).1
  have hBx : ∀ (k : Nat) (b : Blk) (l : Loc), k ∉ ks → s.H[k]? = some b → b.wr = true → m k = some l → ¬ (subC C m s.H ks H0 w).B l.g := by
    intro k b l hk hb hw hl hB
    rcases hB with hB | ⟨j, b0, l0, h1, h2, h3, h4⟩
    · have := (R.wrLt hb hw hl).2
      omega
    · obtain ⟨k', b', a1, a2, a3, a4, _⟩ := lent j b0 l0 h1 h2 h3
      have := R.inj2 hb hw a2 a3 hl a4 h4.symm
      subst this
      exact hk a1
  have hcell : ∀ b o x, OK C m s.H w b → w.cell? ⟨b, o, none⟩ = some x → w'.cell? ⟨b, o, none⟩ = some x := by
    intro b o x hb hc
    by_cases hB : (subC C m s.H ks H0 w).B b
    · exfalso
      rcases hB with hB | ⟨j, b0, l0, h1, h2, h3, h4⟩
      · have := hb.2.1; omega
      · obtain ⟨k', b', a1, a2, a3, a4, _⟩ := lent j b0 l0 h1 h2 h3
        cases b' with
        | own c => exact hb.2.2 k' c l0 a2 a4 h4
        | mp kk d vv =>
          obtain ⟨l', ar, clk, vs, c1, c2, c3, _⟩ := R.mp.1 k' kk d vv a2
          rw [a4] at c1; cases c1
          rw [h4] at c3
          unfold World.cell? at hc
          simp only [c3] at hc
          first | cases hc | simp at hc
        | _ => cases a3
    · rw [World.cell?_of_block (w := w) (R1.below.block b hB)]; exact hc
  have hOK : ∀ b, OK (subC C m s.H ks H0 w) m' (H1 ++ ancs 0 H0.length) w' b → OK C m2 H2 w' b := by
    intro b hb
    refine ⟨?_, hb.2.1, fun k c l h hl => ?_⟩
    · rcases hb.1 with h | h
      · exact h.1
      · exact .inr (hB1 b h)
    · rcases hown k c h with ⟨j, c', h1, _, h3⟩ | ⟨h1, h2, h3⟩
      · rw [(hσ j k h3).2] at hl
        exact hb.2.2 j c' l (hHc _ _ h1) hl
      · rw [hmo k h1] at hl
        rcases hb.1 with h' | h'
        · exact h'.2.2 k c l h3 hl
        · intro e
          exact hBx k _ l h2 h3 rfl hl (by rw [e]; exact h')
  have ho1 : ∀ b, OK C m s.H w b → OK C m2 H2 w' b := by
    intro b hb
    refine ⟨hb.1, Nat.lt_of_lt_of_le hb.2.1 R1.below.size, fun k c l h hl e => ?_⟩
    rcases hown k c h with ⟨j, c', h1, _, h3⟩ | ⟨h1, h2, h3⟩
    · rw [(hσ j k h3).2] at hl
      rcases (R1.wrLt (hHc _ _ h1) rfl hl).1 with hB | ⟨j0, b0, l0, a1, a2, a3, a4⟩
      · have := hb.2.1; omega
      · obtain ⟨k', b', d1, d2, d3, d4, d5, d6⟩ := lent j0 b0 l0 a1 a2 a3
        cases b0 with
        | own c0 =>
          obtain ⟨c1, rfl⟩ := d5 ⟨_, rfl⟩
          exact hb.2.2 k' c1 l0 d2 d4 (by rw [a4, e])
        | mp kk d vv =>
          obtain ⟨kk', d', v', f1⟩ := mpKeep_get s4 j0 kk d vv a1
          have hj0 : j0 < H0.length := (List.getElem?_eq_some_iff.1 a1).1
          have f2 : m' j0 = some l0 := by rw [hm1 j0 hj0]; exact a3
          exact (R1.mpOK (hHc _ _ f1) f2).2.2 j c' l (hHc _ _ h1) hl a4.symm
        | _ => cases a2
    · rw [hmo k h1] at hl
      exact hb.2.2 k c l h3 hl e
  have rd1 : ∀ p x, Reads (OK C m s.H w) w p x → Reads (OK C m2 H2 w') w' p x := fun p x h => h.extc ho1 hcell
  have rd2 : ∀ p x, Reads (OK (subC C m s.H ks H0 w) m' (H1 ++ ancs 0 H0.length) w') w' p x → Reads (OK C m2 H2 w') w' p x := fun p x h => h.mono hOK
  have hlen3 : s.H.length ≤ H2.length := by omega
  have sall : ∀ (j : Nat) (b : Blk), H1[j]? = some b → (match b with | .own c => c.all (scA H1.length) | .anc _ _ => false | _ => true) = true := fun j b h => by
    have := (List.all_eq_true.1 s2) _ (List.mem_of_getElem? h)
    cases b <;> exact this
  refine ⟨m2, ⟨R.laid.ext rd1, R.below.trans ⟨R1.below.os, R1.below.tape, R1.below.output, R1.below.size, fun k hk => R1.below.block k fun h => hk (hB1 k h), R1.below.dr⟩, fun b h => R.base b (Nat.le_trans R1.below.size h), R.size, ?_, ?_, ?_, fun t => ?_, ?_, ?_, ?_⟩, ?_⟩
  · intro k k' c c' l l' h1 h2 h3 h4 h5
    rcases hown k c h1 with ⟨j, d, a1, _, a3⟩ | ⟨a1, a2, a3⟩ <;> rcases hown k' c' h2 with ⟨j', d', b1, _, b3⟩ | ⟨b1, b2, b3⟩
    · rw [(hσ _ _ a3).2] at h3; rw [(hσ _ _ b3).2] at h4
      have := R1.inj j j' d d' l l' (hHc _ _ a1) (hHc _ _ b1) h3 h4 h5
      subst this
      rw [a3] at b3
      exact Option.some.inj b3
    · rw [(hσ _ _ a3).2] at h3; rw [hmo _ b1] at h4
      exact absurd (by rw [← h5]; exact (R1.wrLt (hHc _ _ a1) rfl h3).1) (hBx k' _ l' b2 b3 rfl h4)
    · rw [hmo _ a1] at h3; rw [(hσ _ _ b3).2] at h4
      exact absurd (by rw [h5]; exact (R1.wrLt (hHc _ _ b1) rfl h4).1) (hBx k _ l a2 a3 rfl h3)
    · rw [hmo _ a1] at h3; rw [hmo _ b1] at h4
      exact R.inj k k' c c' l l' a3 b3 h3 h4 h5
  · intro k c h
    rcases hown k c h with ⟨j, c', a1, rfl, a3⟩ | ⟨a1, a2, a3⟩
    · rcases R1.blk j c' (hHc _ _ a1) with ⟨e, hn⟩ | ⟨l, cur, e, b1, b2, b3, b4, b5, b6, b7⟩
      · exact .inl ⟨by rw [e]; rfl, by rw [(hσ _ _ a3).2]; exact hn⟩
      · refine .inr ⟨l, cur, e, by rw [(hσ _ _ a3).2]; exact b1, hB1 _ b2, b3, b4, b5, by simpa using b6, fun i hi => ?_⟩
        rw [List.length_map] at hi
        rw [List.getElem_map]
        have hs : scA σ.length c'[i] = true := by
          rw [hσlen]
          exact (List.all_eq_true.1 (sall j _ a1)) _ (List.getElem_mem hi)
        exact (b7 i hi).sig rd2 hσ2 hs
    · refine (R.blk k c a3).ext rd1 hlen3 hmo (hmo k a1) fun l hl => R1.below.block _ (hBx k _ l a2 a3 rfl hl)
  · intro k c h
    rcases hfro k c h with ⟨j, a1, a3⟩ | ⟨a1, a2, a3⟩
    · rcases R1.fro j c (hHc _ _ a1) with ⟨e1, e2⟩ | ⟨l, vs, e1, e2, e3, e4⟩
      · exact .inl ⟨e1, by rw [(hσ _ _ a3).2]; exact e2⟩
      · exact .inr ⟨l, vs, by rw [(hσ _ _ a3).2]; exact e1, hOK _ e2, e3, fun i hi => ⟨(e4 i hi).1, rd2 _ _ (e4 i hi).2⟩⟩
    · rcases R.fro k c a3 with ⟨e1, e2⟩ | ⟨l, vs, e1, e2, e3, e4⟩
      · exact .inl ⟨e1, by rw [hmo k a1]; exact e2⟩
      · exact .inr ⟨l, vs, by rw [hmo k a1]; exact e1, ho1 _ e2, e3, fun i hi => ⟨hcell _ _ _ e2 (e4 i hi).1, rd1 _ _ (e4 i hi).2⟩⟩
  · exact (R.slot t).ext rd1 hlen3 hmo
  · intro k kk d vv h
    rcases hmps k kk d vv h with ⟨j, a1, a3⟩ | ⟨a1, a2, a3⟩
    · obtain ⟨l, ar, clk, vs, b1, b2, b3, b4, b5, b6, b7⟩ := R1.mp.1 j kk d vv (hHc _ _ a1)
      exact ⟨l, ar, clk, vs, by rw [(hσ _ _ a3).2]; exact b1, hB1 _ b2, b3, b4, b5, b6, fun z hz => rd2 _ _ (b7 z hz)⟩
    · obtain ⟨l, ar, clk, vs, b1, b2, b3, b4, b5, b6, b7⟩ := R.mp.1 k kk d vv a3
      exact ⟨l, ar, clk, vs, by rw [hmo k a1]; exact b1, b2, by rw [R1.below.block _ (hBx k _ l a2 a3 rfl b1)]; exact b3, b4, b5, b6, fun z hz => rd1 _ _ (b7 z hz)⟩
  · intro k k' kk d vv kk' d' v' l l' h1 h2 h3 h4 h5
    rcases hmps k kk d vv h1 with ⟨j, a1, a3⟩ | ⟨a1, a2, a3⟩ <;> rcases hmps k' kk' d' v' h2 with ⟨j', b1, b3⟩ | ⟨b1, b2, b3⟩
    · rw [(hσ _ _ a3).2] at h3; rw [(hσ _ _ b3).2] at h4
      have := R1.mp.2.1 _ _ _ _ _ _ _ _ _ _ (hHc _ _ a1) (hHc _ _ b1) h3 h4 h5
      subst this
      rw [a3] at b3
      exact Option.some.inj b3
    · rw [(hσ _ _ a3).2] at h3; rw [hmo _ b1] at h4
      exact absurd (by rw [← h5]; exact (R1.wrLt (hHc _ _ a1) rfl h3).1) (hBx k' _ l' b2 b3 rfl h4)
    · rw [hmo _ a1] at h3; rw [(hσ _ _ b3).2] at h4
      exact absurd (by rw [h5]; exact (R1.wrLt (hHc _ _ b1) rfl h4).1) (hBx k _ l a2 a3 rfl h3)
    · rw [hmo _ a1] at h3; rw [hmo _ b1] at h4
      exact R.mp.2.1 _ _ _ _ _ _ _ _ _ _ a3 b3 h3 h4 h5
  · intro k i j h
    rcases hget k _ h with ⟨j', b', h1, h2, _⟩ | ⟨a1, a2, a3⟩
    · have := sall j' b' h1
      cases b' with
      | anc _ _ => cases this
      | _ => cases h2
    · obtain ⟨c1, c2⟩ := R.mp.2.2 k i j a3
      exact ⟨by simp only; omega, by rw [hmo j c1]; exact c2⟩
  · have := R1.slot 0
    exact AVal.sig rd2 hσ2 this (by rw [hσlen]; exact s1)

/-! ### The call -/

def argM1 (H : Heap) (ks : List Nat) (x a : AV) : Prop :=
  match a with
  | .p pv => (match peekG H x with | some (p, pv', true) => p ∧ pv' = pv | _ => False)
  | a => x = Go.Pv.ren ks a ∧ scA ks.length a = true

def argsM (H : Heap) (ks : List Nat) : List AV → List AV → Prop
  | x :: xs, a :: avs => argM1 H ks x a ∧ argsM H ks xs avs
  | [], [] => True
  | _, _ => False

theorem argsM_val (R : Rel C m s tmps w) {rd' : PV → Value → Prop} {ks : List Nat} {H0 : Heap} (h1 : ∀ p v, Reads (OK C m s.H w) w p v → rd' p v) (hl : H0.length = ks.length) : ∀ (X avs : List AV) (f : Nat → Value), argsM s.H ks X avs → (∀ i (h : i < X.length), AVal (Reads (OK C m s.H w) w) m s.H X[i] (f i)) →
    avs.length = X.length ∧ ∀ i (h : i < avs.length), AVal rd' (mren m ks) H0 avs[i] (f i)
  | [], [], f, _, _ => ⟨rfl, fun i h => by simp at h⟩
  | x :: xs, a :: avs, f, h, hv => by
    obtain ⟨k1, k2⟩ := argsM_val R h1 hl xs avs (fun i => f (i + 1)) h.2 fun i hi => by have := hv (i + 1) (by simp; omega); rwa [List.getElem_cons_succ] at this
    refine ⟨by simp [k1], fun i hi => ?_⟩
    cases i with
    | succ i => simpa using k2 i (by simpa using hi)
    | zero =>
      have hx := hv 0 (by simp)
      simp only [List.getElem_cons_zero] at hx ⊢
      have h0 := h.1
      unfold argM1 at h0
      split at h0
      · rename_i pv
        split at h0
        · rename_i p pv' hp
          obtain ⟨g1, rfl⟩ := h0
          exact .p _ _ (h1 _ _ ((peekG_val R hx hp g1).2 rfl))
        · exact h0.elim
      · obtain ⟨rfl, hsc⟩ := h0
        exact hx.unren h1 hl hsc
  | [], _ :: _, _, h, _ => h.elim
  | _ :: _, [], _, h, _ => h.elim

theorem call_doesM {o : Oper} {fo : Operand} {args : Array Operand} {ts : Array TypeId} (ho : o.op = .call { callee := .value fo, args := args, argTypes := ts }) {g : FuncId} {cap : List PV} (hfo : s.ev fo = .p (.fn g cap)) {ks : List Nat} {avs : List AV} {H0 H1 : Heap} {r : AV}
    (hc : FnM P g avs H0 r H1) (hargs : argsM s.H ks (args.toList.map s.ev ++ cap.map .p) avs) (hle : LeH ks s.H ks H0) (hnd : ks.Nodup) (hks : ks.all (fun k => decide (k < s.H.length)) = true) (hsc : scM r H0 H1 = true) :
    DoesW P o s (Go.Pv.ren (ks ++ List.range' s.H.length (H1.length - ks.length)) r) (putM s.H ks (H1.map (Blk.ren (ks ++ List.range' s.H.length (H1.length - ks.length))))) := by
  intro C m a w K Q R hK
  have hks' : ∀ k ∈ ks, k < s.H.length := fun k hk => by simpa using (List.all_eq_true.1 hks) k hk
  have hfv := R.ev fo
  rw [hfo] at hfv
  generalize hfe : a.eval fo = fv at hfv
  have hfv := hfv.p_inv
  cases hfv with
  | fn _ _ vs hcl hcr =>
    obtain ⟨⟨fn, hfn, hnm, hbd⟩, hcalls⟩ := hc
    have hrun : (execOp a.eval o).run P w = .ok (.enter g (args.map a.eval ++ vs)) w := by
      have hnm' : ¬ fn.name = "runtime.NumGoroutine" := by simpa using hnm
      have hbd' : ¬ fn.body = none := by intro e; rw [e] at hbd; simp at hbd
      simp [execOp, ho, resolve, hfe, Deferred.ofValue, invoke, callFunc, hfn, hnm', hbd']
    unfold Oper.wp
    rw [hrun]
    simp only [Oper.upon]
    obtain ⟨g1, g2⟩ := hle.get
    have ho1 : ∀ b, OK C m s.H w b → OK (subC C m s.H ks H0 w) (mren m ks) H0 w b := by
      refine fun b h => ⟨.inl h, h.2.1, fun k c l hk hl => ?_⟩
      obtain ⟨k', d, a1, a2, _⟩ := LeH.own g2 k c hk
      simp only [mren, a1, Option.bind_some] at hl
      exact h.2.2 k' _ l a2 hl
    obtain ⟨e1, e2⟩ := argsM_val R (rd' := Reads (OK (subC C m s.H ks H0 w) (mren m ks) H0 w) w) (H0 := H0) (fun p v h => h.mono ho1) g1.symm _ avs (fun i => (args.map a.eval ++ vs).getD i undef) hargs fun i hi => by
      simp only [List.length_append, List.length_map, Array.length_toList] at hi
      by_cases hip : i < args.size
      · rw [List.getElem_append_left (by simpa using hip)]
        simp only [Array.getD_eq_getD_getElem?]
        rw [Array.getElem?_append_left (by simpa using hip)]
        have := R.ev args[i]
        simpa [Array.getElem?_eq_getElem hip] using this
      · rw [List.getElem_append_right (by simp; omega)]
        simp only [Array.getD_eq_getD_getElem?]
        rw [Array.getElem?_append_right (by simp; omega)]
        simp only [List.getElem_map, List.length_map, Array.length_toList, Array.size_map]
        have := hcr (i - args.size) (by omega)
        rw [Array.getD_eq_getD_getElem?] at this
        exact .p _ _ this
    have hsz : (args.map a.eval ++ vs).size = avs.length := by
      rw [e1]; simp; omega
    have s5 : H0.all notAnc = true := by
      unfold scM at hsc
      rw [Bool.and_eq_true] at hsc
      exact hsc.2
    have R0 : Rel (subC C m s.H ks H0 w) (mren m ks) ⟨avs.length, entA 0 avs, H0⟩ (args.map a.eval ++ vs) w := by
      refine R.weakenC (s1 := ⟨avs.length, entA 0 avs, H0⟩) hsz hnd hle ho1 (BelowP.refl _ _) (fun b h => .inl h) (fun k b l h hw hl _ => .inr ⟨k, b, l, h, hw, hl, rfl⟩) (fun k i j h => ?_) fun t => ?_
      · exact absurd rfl (notAnc_spec ((List.all_eq_true.1 s5) _ (List.mem_of_getElem? h)) i j)
      · unfold St.get
        simp only
        rw [entA_lk, if_pos (Nat.zero_le _), Nat.sub_zero]
        by_cases ht : t < avs.length
        · have := e2 t ht
          simpa [List.getD, List.getElem?_eq_getElem ht] using this
        · rw [List.getD_eq_getElem?_getD, List.getElem?_eq_none (by omega)]
          exact .dead _
    have R0' := R0.addAnc (n := H0.length) (Nat.le_refl _) fun i _ => rfl
    refine (hcalls _ _ w _ R0').mono fun e w' ⟨v, m', he, R1⟩ => ?_
    subst he
    obtain ⟨m2, R2, hv⟩ := R.joinM hle hks' R1 hsc
    exact hK v m2 w' R2 hv

/-- THE WORD OF THE WALK: a call that is lent blocks. -/
theorem runs_callM {all : Array Oper} {rest : List Oper} {K : St → Prop} {dst : Option Tmp} {ty : TypeId} {pos : String} {aft : Array Edge} {gd : Option (Nat × Bool)} {fo : Operand} {args : Array Operand} {ts : Array TypeId} {g : FuncId} {avs : List AV} {H0 H1 : Heap} {r : AV} (ks : List Nat)
    (hc : FnM P g avs H0 r H1) {cap : List PV} (hfo : s.ev fo = .p (.fn g cap)) (hg : guardA all s { dst := dst, op := .call { callee := .value fo, args := args, argTypes := ts }, type := ty, pos := pos, after := aft, guard := gd } = some true)
    (hargs : argsM s.H ks (args.toList.map s.ev ++ cap.map .p) avs) (hle : LeH ks s.H ks H0) (hnd : ks.Nodup) (hks : ks.all (fun k => decide (k < s.H.length)) = true) (hsc : scM r H0 H1 = true) (hd : dstOk s dst)
    (h : Runs P false all rest K (({ s with H := putM s.H ks (H1.map (Blk.ren (ks ++ List.range' s.H.length (H1.length - ks.length)))) } : St).put dst (Go.Pv.ren (ks ++ List.range' s.H.length (H1.length - ks.length)) r))) :
    Runs P false all ({ dst := dst, op := .call { callee := .value fo, args := args, argTypes := ts }, type := ty, pos := pos, after := aft, guard := gd } :: rest) K s := by
  obtain ⟨s', hr, hK⟩ := h
  exact ⟨s', .cons (.op s _ _ hg (dstOk_spec hd) (call_doesM rfl hfo hc hargs hle hnd hks hsc) fun h => by cases h) hr, hK⟩

/-! ### How much stands in a map -/

open Classical in
noncomputable def mpLen (d : Int → Bool) : Nat := if h : ∃ l : List Int, l.Nodup ∧ ∀ z, z ∈ l ↔ d z = true then h.choose.length else 0

theorem mlk_some {kk : IntKind} {z : Int} : ∀ {es : List MapEntry} {x : Value}, mlk kk z es = some x → ∃ e ∈ es, e.key = .int kk z
  | [], _, h => by cases h
  | e :: es, x, h => by
    by_cases hk : e.key = .int kk z
    · exact ⟨e, by simp, hk⟩
    · rw [mlk_neg _ hk] at h
      obtain ⟨e', h1, h2⟩ := mlk_some h
      exact ⟨e', by simp [h1], h2⟩

theorem mlk_ne {kk : IntKind} {z : Int} : ∀ {es : List MapEntry}, (∃ e ∈ es, e.key = .int kk z) → mlk kk z es ≠ none
  | [], h => by obtain ⟨e, h1, _⟩ := h; cases h1
  | e :: es, h => by
    by_cases hk : e.key = .int kk z
    · rw [mlk_pos _ hk]; simp
    · rw [mlk_neg _ hk]
      obtain ⟨e', h1, h2⟩ := h
      rcases List.mem_cons.1 h1 with rfl | h1
      · exact absurd h2 hk
      · exact mlk_ne ⟨e', h1, h2⟩

def keyInt : Value → Int
  | .int _ z => z
  | _ => 0

end

end Go.Pv

/-
  Steps of a region beside those that are evaluated: literal rows as one's own, entries of literal maps. Conditions: none; a library text.
-/
set_option linter.all false

namespace Go.Pv
open Go.RowKit
section
variable {P : Program} {T : TypeId → Option TI} {s : St}
section
variable {C : Ctx} {m : Map} {tmps : Array Value} {w : World}
end
end
end Go.Pv

/-
  The library's sort by a comparison, over a row of the caller's own: what it leaves. Conditions: none; a library text.
-/
set_option linter.all false
namespace Go.Pv
open Go.RowKit

theorem below_grow {w w' : World} (h : Below w.heap.size w w') : ∃ q os, w' = Go.Sort.grow (w.drewN q) os := by
  refine ⟨w'.drawn - w.drawn, w'.heap.extract w.heap.size w'.heap.size, ?_⟩
  obtain ⟨h1, h2, h3, h4, h5, h6⟩ := h
  cases w with
  | mk heap tape drawn os output =>
    cases w' with
    | mk heap' tape' drawn' os' output' =>
      simp only at h1 h2 h3 h4 h5 h6
      subst h1 h2 h3
      have hh : heap' = heap ++ heap'.extract heap.size heap'.size := by
        apply Array.ext_getElem?
        intro k
        by_cases hk : k < heap.size
        · rw [Array.getElem?_append_left hk]; exact h5 k hk
        · rw [Array.getElem?_append_right (by omega), Array.getElem?_extract]
          by_cases hk2 : k < heap'.size
          · rw [if_pos (by simp; omega), show heap.size + (k - heap.size) = k by omega]
          · rw [if_neg (by simp; omega), Array.getElem?_eq_none (by omega)]
      have hd : drawn' = drawn + (drawn' - drawn) := by omega
      show World.mk heap' tape' drawn' os' output' = World.mk (heap ++ heap'.extract heap.size heap'.size) tape' (drawn + (drawn' - drawn)) os' output'
      rw [← hh, ← hd]

theorem below_sortWorld {α : Type} [Inhabited α] (enc : α → Value) (w : World) (blk off m : Nat) (dk : Array α) (os : Array Obj) : ∀ b, b ≠ blk → b < w.heap.size → (Go.Proofs.sortWorld enc w blk off m dk os).heap[b]? = w.heap[b]? := by
  intro b hb hs
  unfold Go.Proofs.sortWorld
  rw [Go.Sort.heap_grow_old _ _ (by simpa using hs)]
  simp only [Go.Sort.putRow, Go.Sort.mapBlock, Array.getElem?_modify]
  rw [if_neg (Ne.symm hb)]
  rfl

theorem perm_sorted_unique {lt : PV → PV → Prop} : ∀ (xs ys : List PV), xs.Perm ys → (∀ x ∈ xs, ∀ y ∈ xs, ¬ lt x y → ¬ lt y x → x = y) → xs.Pairwise (fun x y => ¬ lt y x) → ys.Pairwise (fun x y => ¬ lt y x) → xs = ys
  | [], ys, h, _, _, _ => by simpa using h.symm.eq_nil.symm
  | x :: r, [], h, _, _, _ => by simpa using h.eq_nil
  | x :: r, y :: s, h, ha, h1, h2 => by
    have hxy : x = y := by
      have hx : x ∈ y :: s := h.mem_iff.1 (by simp)
      have hy : y ∈ x :: r := h.mem_iff.2 (by simp)
      rcases List.mem_cons.1 hx with hx | hx
      · exact hx
      · rcases List.mem_cons.1 hy with hy' | hy'
        · exact hy'.symm
        · have a1 := (List.pairwise_cons.1 h1).1 y hy'
          have a2 := (List.pairwise_cons.1 h2).1 x hx
          exact ha x (by simp) y hy a2 a1
    subst hxy
    rw [perm_sorted_unique r s (List.Perm.cons_inv h) (fun a ha' b hb' => ha a (by simp [ha']) b (by simp [hb'])) (List.pairwise_cons.1 h1).2 (List.pairwise_cons.1 h2).2]

section
variable {P : Program} {ρ : Go.Shelf.Ren}

/-- slices.SortFunc: a row of the caller's own; a pure comparison that parts whatever two things; behind it the row holds the one list that rises. -/
theorem sort_m (L : Go.Proofs.SlLaysF.n6 P ρ) {g : FuncId} {cap : List PV} (xs ys : List PV) (cf : PV → PV → Int) (hne : xs ≠ []) (hone : ∀ x ∈ xs, x.one = true)
    (irr : ∀ x ∈ xs, ¬ cf x x < 0) (tr : ∀ x ∈ xs, ∀ y ∈ xs, ∀ z ∈ xs, cf x y < 0 → cf y z < 0 → cf x z < 0) (ntr : ∀ x ∈ xs, ∀ y ∈ xs, ∀ z ∈ xs, ¬ cf x y < 0 → ¬ cf y z < 0 → ¬ cf x z < 0)
    (anti : ∀ x ∈ xs, ∀ y ∈ xs, ¬ cf x y < 0 → ¬ cf y x < 0 → x = y) (hc : ∀ x ∈ xs, ∀ y ∈ xs, FnC P g (x :: y :: cap) (.int .i64 (cf x y)))
    (hperm : xs.Perm ys) (hs : ys.Pairwise fun x y => ¬ cf y x < 0) (hlen : xs.length < 4611686018427387904) :
    FnM P (ρ.f 6) [.sl 0 0 xs.length, .p (.fn g cap)] [.own (opl xs)] (.p (.tup [])) [.own (opl ys)] := by
  have hpos : 0 < xs.length := List.length_pos_iff.2 hne
  refine ⟨?_, fun C m w vals R => ?_⟩
  · obtain ⟨nm, h1, h2⟩ := L.f6
    exact ⟨_, h2, h1, rfl⟩
  have hsz : vals.size = 2 := R.size
  have s0 := R.slot 0
  have s1 := R.slot 1
  simp only [St.get, entA, lk, BEq.rfl, cond_true, show ((0 : Nat) == 1) = false from rfl, cond_false] at s0 s1
  generalize hv0 : vals.getD 0 undef = v0 at s0
  generalize hv1 : vals.getD 1 undef = v1 at s1
  have hvals : vals = #[v0, v1] := by
    apply Array.ext
    · simpa using hsz
    · intro i h1 h2
      simp only [Array.getD_eq_getD_getElem?] at hv0 hv1
      match i, h2 with
      | 0, _ => rw [Array.getElem?_eq_getElem h1] at hv0; simpa using hv0
      | 1, _ => rw [Array.getElem?_eq_getElem h1] at hv1; simpa using hv1
  subst hvals
  have s1 := s1.p_inv
  cases s1 with
  | fn _ _ vs hcl hcr =>
  cases s0 with
  | sl _ _ _ _ hk0 h0 =>
  rcases h0 with ⟨h0, _⟩ | ⟨l, cp, hm, rfl, hle, hlo⟩
  · omega
  rcases R.blk 0 (opl xs) rfl with ⟨hx, _⟩ | ⟨l', cur, e, hm', hB, hg, hcs, hmx, hol, hcell⟩
  · exact absurd (show xs = [] by simpa [opl] using hx) hne
  rw [hm] at hm'; cases hm'
  rw [opl_length] at hol
  generalize hok : OK C m ([.own (opl xs)] ++ ancs 0 [Blk.own (opl xs)].length) w = ok at *
  have hokne : ∀ b, ok b → b ≠ l.g := fun b hb => by
    subst hok
    exact fun e => hb.2.2 0 _ l rfl hm e.symm
  have hoklt : ∀ b, ok b → b < w.heap.size := fun b hb => by subst hok; exact hb.2.1
  have hblk : l.g < w.heap.size := (Array.getElem?_eq_some_iff.1 hg).1
  have hrd : ∀ j (h : j < xs.length), Reads ok w xs[j] (cur.getD (l.o + j) undef) := fun j h => by
    have := hcell j (by rw [opl_length]; exact h)
    simp only [opl, List.getElem_map] at this
    subst hok
    exact this.p_inv
  let α := {p : PV × Value // p.1 ∈ xs ∧ Reads ok w p.1 p.2}
  have inh : α := ⟨(xs[0], cur.getD (l.o + 0) undef), List.getElem_mem hpos, hrd 0 hpos⟩
  letI : Inhabited α := ⟨inh⟩
  let enc : α → Value := fun x => x.1.2
  let cf' : α → α → Int := fun x y => cf x.1.1 y.1.1
  let d : Array α := Array.ofFn fun j : Fin xs.length => (⟨(xs[j], cur.getD (l.o + j) undef), List.getElem_mem j.2, hrd j j.2⟩ : α)
  have hd : d.size = xs.length := by simp [d]
  have hdj : ∀ j (h : j < xs.length), d[j]! = (⟨(xs[j], cur.getD (l.o + j) undef), List.getElem_mem h, hrd j h⟩ : α) := fun j h => by
    rw [getElem!_pos d j (by omega)]
    simp [d]
  have h1 : Go.Proofs.OneCell enc := fun x => (Reads.one x.2.2 (hone _ x.2.1)).1
  have hO : Go.Sort.SWO (Go.Proofs.ltOf cf') := by
    refine ⟨fun x => ?_, fun x y z h1 h2 => ?_, fun x y z h1 h2 => ?_⟩
    · exact decide_eq_false (irr _ x.2.1)
    · exact decide_eq_true (tr _ x.2.1 _ y.2.1 _ z.2.1 (of_decide_eq_true h1) (of_decide_eq_true h2))
    · exact decide_eq_false (ntr _ x.2.1 _ y.2.1 _ z.2.1 (of_decide_eq_false h1) (of_decide_eq_false h2))
  have hH : Go.Sort.Holds enc w l.g (l.o + 0) d := fun j hj => by
    rw [hd] at hj
    have hjc : l.o + j < cur.size := by omega
    refine ⟨?_, ?_⟩
    · rw [hdj j hj]
      show w.cell? ⟨l.g, l.o + 0 + j, none⟩ = some (cur.getD (l.o + j) undef)
      simp only [World.cell?, hg, Nat.add_zero]
      simp [Array.getD_eq_getD_getElem?, Array.getElem?_eq_getElem hjc]
    · simp [World.frozen?, hg]
  have eg : ∀ args w, (callFunc g args).run P w = .ok (.enter g args) w := by
    obtain ⟨fn, f1, f2, f3⟩ := (hc _ (List.getElem_mem hpos) _ (List.getElem_mem hpos)).1
    obtain ⟨c, hcb⟩ := Option.ne_none_iff_exists'.1 (show fn.body ≠ none by intro e; rw [e] at f3; simp at f3)
    exact Go.Proofs.enters_of f1 f2 hcb
  have hcmp : Go.Proofs.CmpLays1 P g vs enc cf' l.g (l.o + 0) d.size w := fun m1 os dk hs x y => by
    have hheap : ∀ b, ok b → (Go.Proofs.sortWorld enc w l.g (l.o + 0) m1 dk os).heap[b]? = w.heap[b]? := fun b hb => below_sortWorld enc w l.g _ m1 dk os b (hokne b hb) (hoklt b hb)
    have hsw : w.heap.size ≤ (Go.Proofs.sortWorld enc w l.g (l.o + 0) m1 dk os).heap.size := by simp [Go.Proofs.sortWorld]
    refine ((hc _ x.2.1 _ y.2.1).2 ok _ (#[enc x, enc y] ++ vs) ⟨fun b hb => Nat.lt_of_lt_of_le (hoklt b hb) hsw, fun gg ll hgg => ?_⟩ (by simp [hcl]; omega) fun i hi => ?_).mono fun e' w2 ⟨v, he, hbl, hv⟩ => ?_
    · have := R.laid gg ll hgg
      rw [hok] at this
      exact this.ext (fun _ h => h) hheap
    · match i, hi with
      | 0, _ =>
        have e0 : (#[enc x, enc y] ++ vs).getD 0 undef = enc x := by simp [Array.getD_eq_getD_getElem?, Array.getElem?_append]
        rw [e0]
        exact x.2.2.ext (fun _ h => h) hheap
      | 1, _ =>
        have e0 : (#[enc x, enc y] ++ vs).getD 1 undef = enc y := by simp [Array.getD_eq_getD_getElem?, Array.getElem?_append]
        rw [e0]
        exact y.2.2.ext (fun _ h => h) hheap
      | i + 2, hi =>
        have hi' : i < cap.length := by simpa using hi
        have e2 : (#[enc x, enc y] ++ vs).getD (i + 2) undef = vs.getD i undef := by
          simp only [Array.getD_eq_getD_getElem?]
          rw [Array.getElem?_append_right (by simp)]
          simp
        rw [e2]
        exact (hcr i hi').ext (fun _ h => h) hheap
    · subst he
      cases hv
      exact ⟨rfl, below_grow hbl⟩
  have hcall := Go.Proofs.Any.slices_SortFunc L enc h1 cf' hO g vs l.g (l.o + 0) cp d w eg hcmp hH hblk (by omega)
  rw [hd] at hcall
  refine hcall.mono fun e2 w2 ⟨he, d', n, os, hp, hso, hw⟩ => ?_
  subst he
  refine ⟨.tuple #[], m, rfl, ?_⟩
  have hs' : d'.size = xs.length := by rw [hp.1, hd]
  have hdl : d.toList.map (fun x => x.1.1) = xs := by
    apply List.ext_getElem
    · simp [d]
    · intro i h1 h2
      simp [d]
  have hperm2 : (d'.toList.map fun x => x.1.1).Perm xs := by
    have := hp.2.2
    rw [← hd, Array.extract_size] at this
    have h3 : d'.extract 0 d.size = d' := by rw [hd, ← hs', Array.extract_size]
    rw [h3] at this
    have h4 := this.map (fun x : α => x.1.1)
    rwa [hdl] at h4
  have hys : d'.toList.map (fun x => x.1.1) = ys := by
    refine perm_sorted_unique (lt := fun x y => cf x y < 0) _ _ (hperm2.trans hperm) (fun x hx y hy => anti x (hperm2.mem_iff.1 hx) y (hperm2.mem_iff.1 hy)) ?_ hs
    rw [List.pairwise_iff_getElem]
    intro i j hi hj hij
    simp only [List.length_map, Array.length_toList] at hi hj
    have := hso i j (Nat.zero_le _) hij (by omega)
    rw [getElem!_pos d' i hi, getElem!_pos d' j hj] at this
    simpa using of_decide_eq_false this
  have hyl : ys.length = xs.length := hperm.length_eq.symm
  -- the row as it stands behind the sort
  have R1 : Rel C m ⟨2, entA 0 [.sl 0 0 xs.length, .p (.fn g cap)], hset ([.own (opl xs)] ++ ancs 0 [Blk.own (opl xs)].length) 0 (.own (opl ys))⟩ #[.slice (some ⟨l.g, l.o + 0, none⟩) xs.length cp, .func (.func g) #[] vs] (Go.Sort.putRow enc (Go.Sort.ahead w n) l.g (l.o + 0) d') := by
    refine R.setBlk (a := { tmps := #[.slice (some ⟨l.g, l.o + 0, none⟩) xs.length cp, .func (.func g) #[] vs], defers := [] }) (c := opl xs) rfl hm ⟨rfl, rfl, rfl, by simp, fun k hk => ?_, by simp⟩ (fun b hb => ?_) (cur := Go.Sort.putCells enc (l.o + 0) d' cur) (e := e) ?_ (by simp [Go.Sort.putCells, hcs]) (by rw [opl_length]; omega) fun j hj => ?_
    · simp only [Go.Sort.putRow, Go.Sort.mapBlock, Array.getElem?_modify]
      rw [if_neg (fun e => hk (by rw [← e]; exact hB))]; rfl
    · simp only [Go.Sort.putRow, Go.Sort.mapBlock, Array.getElem?_modify]
      rw [if_neg (Ne.symm hb)]; rfl
    · simp only [Go.Sort.putRow, Go.Sort.mapBlock, Array.getElem?_modify]
      rw [if_pos trivial]
      show Option.map _ (w.heap[l.g]?) = _
      rw [hg]; rfl
    · rw [opl_length] at hj
      have hjd : j < d'.size := by omega
      have hjc : l.o + j < cur.size := by omega
      have e3 : (Go.Sort.putCells enc (l.o + 0) d' cur).getD (l.o + j) undef = enc d'[j] := by
        simp only [Go.Sort.putCells, Array.getD_eq_getD_getElem?, Array.getElem?_mapIdx, Array.getElem?_eq_getElem hjc, Option.map_some, Option.getD_some]
        rw [if_pos ⟨by omega, by omega⟩, show l.o + j - (l.o + 0) = j by omega, getElem!_pos d' j hjd]
      rw [e3]
      have e4 : ys[j] = d'[j].1.1 := by
        have := hys
        subst this
        simp
      have e5 : (opl ys)[j]'(by rw [opl_length]; exact hj) = .p ys[j] := by simp [opl]
      rw [e5, e4]
      have h6 := d'[j].2.2
      refine .p _ _ ?_
      show Reads (OK C m ([.own (opl xs)] ++ ancs 0 [Blk.own (opl xs)].length) w) w _ _
      rw [hok]
      exact h6
  have R2 := R1.later (w' := w2) (by
    rw [hw]
    refine ⟨rfl, rfl, rfl, by simp [Go.Proofs.sortWorld], fun k hk => ?_, Nat.le_refl _⟩
    unfold Go.Proofs.sortWorld
    exact Go.Sort.heap_grow_old _ _ hk)
  exact ⟨R2.laid, R2.below, R2.base, rfl, R2.inj, R2.blk, R2.fro, fun t => by
    cases t with
    | zero => exact .p _ _ (.tup [] #[] rfl fun c h => absurd h (by simp))
    | succ t => exact .dead _, R2.mp⟩

end
end Go.Pv
