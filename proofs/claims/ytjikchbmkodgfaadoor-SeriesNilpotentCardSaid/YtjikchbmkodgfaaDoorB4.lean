/-
  Texts of this proof, one behind the other: what each says stands at its head. Conditions: none.
-/
import Derived.Test.YtjikchbmkodgfaaDoorB3
import Derived.Test.YtjikchbmkodgfaaDoorB2
import Derived.Shelf.SlSortCmp.Whole1
import Derived.Test.YtjikchbmkodgfaaDoorProg
import Derived.Shelf.SlLaysF
import Derived.Maps.RangeRun

/-
  Sets of things as bits: plain laws of bits; the words of package sub that reckon with them. Conditions: none.
-/
set_option linter.all false
namespace Go.Proofs.YtjikchbmkodgfaaDoor
open Go.Pv

/-! ### Numbers of 64 bits -/

theorem wrap_u (z : Int) : IntKind.u64.wrap z = z % 18446744073709551616 := rfl
theorem wrap_n {a : Nat} (h : a < 2 ^ 64) : IntKind.u64.wrap (a : Int) = (a : Int) := by
  rw [wrap_u]; omega
theorem ofInt_n {a : Nat} (h : a < 2 ^ 64) : (BitVec.ofInt 64 (a : Int)).toNat = a := by
  rw [BitVec.toNat_ofInt]; omega

theorem bv_and {a b : Nat} (ha : a < 2 ^ 64) (hb : b < 2 ^ 64) : bitsV (fun _ x y => x &&& y) .u64 (a : Int) (b : Int) = .int .u64 ((a &&& b : Nat) : Int) := by
  show PV.int .u64 (IntKind.u64.wrap ((BitVec.ofInt 64 (a : Int) &&& BitVec.ofInt 64 (b : Int)).toNat : Int)) = _
  rw [BitVec.toNat_and, ofInt_n ha, ofInt_n hb, wrap_n (Nat.and_lt_two_pow a hb)]
theorem bv_or {a b : Nat} (ha : a < 2 ^ 64) (hb : b < 2 ^ 64) : bitsV (fun _ x y => x ||| y) .u64 (a : Int) (b : Int) = .int .u64 ((a ||| b : Nat) : Int) := by
  show PV.int .u64 (IntKind.u64.wrap ((BitVec.ofInt 64 (a : Int) ||| BitVec.ofInt 64 (b : Int)).toNat : Int)) = _
  rw [BitVec.toNat_or, ofInt_n ha, ofInt_n hb, wrap_n (Nat.or_lt_two_pow ha hb)]
theorem bits_u : IntKind.u64.bits = 64 := rfl
theorem shl_one {b : Nat} (hb : b < 64) : IntKind.u64.wrap (1 * 2 ^ (min b IntKind.u64.bits)) = ((2 ^ b : Nat) : Int) := by
  rw [bits_u, Nat.min_eq_left (by omega), Int.one_mul, show (2 : Int) ^ b = ((2 ^ b : Nat) : Int) by simp, wrap_n (Nat.pow_lt_pow_right (by omega) hb)]
theorem shr_n {a b : Nat} (hb : b < 64) : (a : Int).fdiv (2 ^ (min b IntKind.u64.bits)) = ((a / 2 ^ b : Nat) : Int) := by
  rw [bits_u, Nat.min_eq_left (by omega), show (2 : Int) ^ b = ((2 ^ b : Nat) : Int) by simp, Int.fdiv_eq_ediv_of_nonneg _ (Int.natCast_nonneg _), ← Int.natCast_ediv]

theorem bv_and1 {a : Nat} (ha : a < 2 ^ 64) : bitsV (fun _ x y => x &&& y) .u64 (a : Int) 1 = .int .u64 ((a % 2 : Nat) : Int) := by
  have := bv_and ha (show 1 < 2 ^ 64 by omega)
  rwa [Nat.and_one_is_mod] at this

/-! ### The lowest bit -/

/-- The lowest bit that is set. -/
def tz (s : Nat) : Nat := (fst' s.testBit 64).getD 64

theorem bit_lt {s i : Nat} (hs : s < 2 ^ 64) (h : s.testBit i = true) : i < 64 := by
  rcases Nat.lt_or_ge i 64 with h1 | h1
  · exact h1
  · have := Nat.testBit_lt_two_pow (Nat.lt_of_lt_of_le hs (Nat.pow_le_pow_right (by omega) h1))
    rw [h] at this; cases this
theorem tz_spec {s : Nat} (hs : s < 2 ^ 64) (h0 : s ≠ 0) : tz s < 64 ∧ s.testBit (tz s) = true ∧ ∀ j, j < tz s → s.testBit j = false := by
  cases h : fst' s.testBit 64 with
  | none =>
    obtain ⟨i, hi⟩ := Nat.exists_testBit_of_ne_zero h0
    have := fst_spec0 h i (bit_lt hs hi)
    rw [hi] at this; cases this
  | some a =>
    have e : tz s = a := by unfold tz; rw [h]; rfl
    rw [e]
    exact fst_spec h
theorem tz_split {s : Nat} (hs : s < 2 ^ 64) (h0 : s ≠ 0) : s = 2 ^ (tz s + 1) * (s / 2 ^ (tz s + 1)) + 2 ^ tz s := by
  obtain ⟨h1, h2, h3⟩ := tz_spec hs h0
  have e1 : s % 2 ^ (tz s + 1) = 2 ^ tz s := by
    refine Nat.eq_of_testBit_eq fun i => ?_
    rw [Nat.testBit_mod_two_pow, Nat.testBit_two_pow]
    rcases Nat.lt_trichotomy i (tz s) with h | h | h
    · rw [h3 i h]; simp; omega
    · subst h; rw [h2]; simp
    · have a1 : decide (i < tz s + 1) = false := by simp; omega
      have a2 : decide (tz s = i) = false := by simp; omega
      rw [a1, a2]; rfl
  have := Nat.div_add_mod s (2 ^ (tz s + 1))
  omega
theorem bit_pred {s : Nat} (hs : s < 2 ^ 64) (h0 : s ≠ 0) (i : Nat) : (s - 1).testBit i = if i < tz s then true else if i = tz s then false else s.testBit i := by
  have e := tz_split hs h0
  have hp : 0 < 2 ^ tz s := Nat.two_pow_pos _
  have e1 : s - 1 = 2 ^ (tz s + 1) * (s / 2 ^ (tz s + 1)) + (2 ^ tz s - 1) := by omega
  have hlt : 2 ^ tz s < 2 ^ (tz s + 1) := Nat.pow_lt_pow_right (by omega) (by omega)
  have b1 : s.testBit i = (2 ^ (tz s + 1) * (s / 2 ^ (tz s + 1)) + 2 ^ tz s).testBit i := by rw [← e]
  rw [e1, Nat.testBit_two_pow_mul_add _ (by omega), b1, Nat.testBit_two_pow_mul_add _ hlt, Nat.testBit_two_pow_sub_one]
  rcases Nat.lt_trichotomy i (tz s) with h | h | h
  · rw [if_pos (by omega), if_pos h]; simpa using h
  · rw [if_pos (by omega), if_neg (by omega), if_pos h]; simp; omega
  · rw [if_neg (by omega), if_neg (by omega), if_neg (by omega), if_neg (by omega)]
theorem low_bit {s : Nat} (hs : s < 2 ^ 64) (h0 : s ≠ 0) : s &&& (2 ^ 64 - s) = 2 ^ tz s := by
  obtain ⟨h1, h2, h3⟩ := tz_spec hs h0
  refine Nat.eq_of_testBit_eq fun i => ?_
  have e : 2 ^ 64 - s = 2 ^ 64 - ((s - 1) + 1) := by omega
  rw [Nat.testBit_and, e, Nat.testBit_two_pow_sub_succ (by omega), bit_pred hs h0, Nat.testBit_two_pow]
  rcases Nat.lt_trichotomy i (tz s) with h | h | h
  · rw [h3 i h]; simp; omega
  · subst h; rw [h2]; simp; omega
  · rw [if_neg (by omega), if_neg (by omega)]
    cases s.testBit i <;> simp <;> omega
/-- Without its lowest bit. -/
def cut (s : Nat) : Nat := s &&& (s - 1)
theorem cut_bit {s : Nat} (hs : s < 2 ^ 64) (h0 : s ≠ 0) (i : Nat) : (cut s).testBit i = (s.testBit i && !decide (i = tz s)) := by
  obtain ⟨h1, h2, h3⟩ := tz_spec hs h0
  unfold cut
  rw [Nat.testBit_and, bit_pred hs h0]
  rcases Nat.lt_trichotomy i (tz s) with h | h | h
  · rw [h3 i h]; simp
  · rw [if_neg (by omega), if_pos h]; simp [h]
  · rw [if_neg (by omega), if_neg (by omega)]
    have : decide (i = tz s) = false := by simp; omega
    rw [this]; simp
theorem cut_lt {s : Nat} (h0 : s ≠ 0) : cut s < s := by
  have : cut s ≤ s - 1 := Nat.and_le_right
  omega

/-! ### Lists of sets -/

/-- The things of which something holds, rising. -/
def thn' (n : Nat) (p : Nat → Bool) : List Nat := (List.range n).filter p
/-- As numbers of the program. -/
def thl (n : Nat) (p : Nat → Bool) : List Int := (thn' n p).map (fun (a : Nat) => (a : Int))

theorem thl_len (n : Nat) (p : Nat → Bool) : (thl n p).length = (thn' n p).length := by simp [thl]
theorem thn_congr {n : Nat} {p q : Nat → Bool} (h : ∀ a, a < n → p a = q a) : thn' n p = thn' n q := List.filter_congr fun a ha => h a (List.mem_range.1 ha)
theorem thl_congr {n : Nat} {p q : Nat → Bool} (h : ∀ a, a < n → p a = q a) : thl n p = thl n q := by unfold thl; rw [thn_congr h]
theorem thl_succ (n : Nat) (p : Nat → Bool) : thl (n + 1) p = thl n p ++ if p n = true then [(n : Int)] else [] := by
  unfold thl thn'
  rw [List.range_succ, List.filter_append, List.map_append]
  congr 1
  cases h : p n <;> simp [h]
theorem thl_ext {n m : Nat} {p : Nat → Bool} (h : n ≤ m) (hp : ∀ a, n ≤ a → a < m → p a = false) : thl m p = thl n p := by
  induction m with
  | zero => have : n = 0 := by omega
            subst this; rfl
  | succ m ih =>
    by_cases e : n = m + 1
    · subst e; rfl
    · rw [thl_succ, hp m (by omega) (by omega), ih (by omega) fun a h1 h2 => hp a h1 (by omega)]; simp
theorem mem_thn {n : Nat} {p : Nat → Bool} {a : Nat} : a ∈ thn' n p ↔ a < n ∧ p a = true := by simp [thn']
theorem thl_le (n : Nat) (p : Nat → Bool) : (thl n p).length ≤ n := by
  rw [thl_len]
  have := List.length_filter_le p (List.range n)
  rwa [List.length_range] at this
theorem thl_inj {n : Nat} {p q : Nat → Bool} (h : thl n p = thl n q) {a : Nat} (ha : a < n) : p a = q a := by
  have h1 : thn' n p = thn' n q := List.map_inj_right (f := fun (a : Nat) => (a : Int)) (fun x y h => by have h' : (x : Int) = (y : Int) := h; omega) |>.1 h
  have h2 : a ∈ thn' n p ↔ a ∈ thn' n q := by rw [h1]
  rw [mem_thn, mem_thn] at h2
  cases hp : p a <;> cases hq : q a <;> simp_all

/-- The list of a set of bits. -/
def stl (s : Nat) : List Int := thl 64 s.testBit

theorem stl_zero : stl 0 = [] := by
  unfold stl thl thn'
  simp
theorem thn_first {n k : Nat} {p : Nat → Bool} (hk : k < n) (h1 : p k = true) (h2 : ∀ j, j < k → p j = false) : thn' n p = k :: thn' n (fun i => p i && !decide (i = k)) := by
  unfold thn'
  have e : n = k + ((n - k - 1) + 1) := by omega
  rw [e, List.range_add, List.filter_append, List.filter_append]
  have z : ∀ q : Nat → Bool, (∀ j, j < k → q j = false) → (List.range k).filter q = [] := by
    intro q hq
    rw [List.filter_eq_nil_iff]
    intro a ha
    rw [hq a (List.mem_range.1 ha)]; simp
  rw [z p h2, z _ (fun j hj => by rw [h2 j hj]; rfl), List.nil_append, List.nil_append, List.range_succ_eq_map, List.map_cons, List.filter_cons, List.filter_cons]
  rw [if_pos (by simpa using h1), if_neg (by simp)]
  simp only [Nat.add_zero, List.cons.injEq, true_and]
  refine List.filter_congr fun a ha => ?_
  simp only [List.map_map, List.mem_map, List.mem_range, Function.comp] at ha
  obtain ⟨j, _, rfl⟩ := ha
  have : decide (k + (j + 1) = k) = false := by simp
  simp [this]
theorem stl_cons {s : Nat} (hs : s < 2 ^ 64) (h0 : s ≠ 0) : stl s = (tz s : Int) :: stl (cut s) := by
  obtain ⟨h1, h2, h3⟩ := tz_spec hs h0
  unfold stl thl
  rw [thn_first h1 h2 h3, List.map_cons, thn_congr fun a _ => (cut_bit hs h0 a).symm]
theorem stl_len (s : Nat) : (stl s).length ≤ 64 := thl_le _ _

/-- Bits below n alone: the list is that of n things. -/
theorem stl_n {s n : Nat} (hn : n ≤ 64) (hs : s < 2 ^ n) : stl s = thl n s.testBit := by
  unfold stl
  refine thl_ext hn fun a h1 _ => Nat.testBit_lt_two_pow (Nat.lt_of_lt_of_le hs (Nat.pow_le_pow_right (by omega) h1))

/-! ### The walks -/

theorem has_s (s a : Nat) (hs : s < 2 ^ 64) (ha : a < 64) : FnC Tryd.prog 104 [.int .u64 s, .int .i64 a] (.bool (s.testBit a)) := by
  have h1 : s / 2 ^ a < 2 ^ 64 := Nat.lt_of_le_of_lt (Nat.div_le_self _ _) hs
  refine fnc_of tab_ok Tryd.func104 rfl (by kernel_rfl) (by rw [Tryd.ntmps104]; exact Nat.le_add_left 2 _) ?_; rw [Tryd.ntmps104]
  refine qm ?_
  refine hk_region fun K hK => runs_eval tab_ok ?_
  simp only [ev0, evA, evB, evP, fl, gp, tab, simprocAttr, reduceCtorEq, reduceIte]
  refine fin_run trivial (hK _ ?_) <;> clear hK <;> clear K
  refine qa (qm ?_)
  refine hk_region fun K hK => runs_eval tab_ok ?_
  simp only [ev0, evA, evB, evP, fl, gp, tab, simprocAttr, reduceCtorEq, reduceIte, shr_n ha, bv_and1 h1]
  refine fin_run ?_ (hK _ ?_) <;> clear hK <;> clear K
  · (first | exact trivial | omega | (simp only [In64] at *; omega) | (simp [In64] at *; omega) | (simp_all; done) | skip)
  refine qa (qk ?_)
  simp only [Tryd.results104, enA, ev0, evA, evB, evP, fl, gp, tab, simprocAttr, reduceCtorEq, reduceIte]
  all_goals (rw [Nat.testBit_eq_decide_div_mod_eq]; exact decide_eq_decide.2 (by omega))

theorem gva_0 : gva 0 = .p (.ptr glob0) := rfl /- 111 -/
theorem glob0_len : glob0.length = 64 := rfl /- 111 -/

/-- Where the table is asked. -/
def dix (k : Nat) : Nat := 2 ^ k * 285870213051353865 % 18446744073709551616 / 2 ^ 58
theorem deb_ix (k : Nat) : (IntKind.u64.wrap (((2 ^ k : Nat) : Int) * 285870213051353865)).fdiv (2 ^ min 58 IntKind.u64.bits) = ((dix k : Nat) : Int) := by
  rw [wrap_u, bits_u, Int.fdiv_eq_ediv_of_nonneg _ (by decide)]
  show (((2 ^ k : Nat) : Int) * ((285870213051353865 : Nat) : Int)) % ((18446744073709551616 : Nat) : Int) / (((2 ^ 58 : Nat)) : Int) = _
  rw [← Int.natCast_mul, ← Int.natCast_emod, ← Int.natCast_ediv]
  rfl
def isU8 (k : Nat) : PV → Bool
  | .int .u8 i => decide (i = (k : Int))
  | _ => false
theorem isU8_eq {k : Nat} {p : PV} (h : isU8 k p = true) : p = .int .u8 (k : Nat) := by
  unfold isU8 at h
  split at h
  · rw [of_decide_eq_true h]
  · cases h
theorem deb_all : ((List.range 64).all fun k => isU8 k ((glob0.drop (dix k * 1)).headD default)) = true := by decide +kernel /- 111 -/
theorem deb_at {k : Nat} (hk : k < 64) : (glob0.drop (dix k * 1)).headD default = .int .u8 (k : Nat) :=
  isU8_eq (List.all_eq_true.1 deb_all k (List.mem_range.2 hk)) /- 111 -/
theorem dix_lt (k : Nat) : dix k < 64 := by unfold dix; omega
theorem wrap_i8 {k : Nat} (hk : k < 64) : IntKind.i64.wrap (k : Int) = (k : Int) := by
  show (if _ then _ else _) = _
  have h1 : (k : Int) % (2 ^ IntKind.i64.bits : Int) = (k : Int) := by
    show (k : Int) % 18446744073709551616 = _
    omega
  rw [h1, if_neg]
  show ¬ (_ && decide ((k : Int) ≥ 9223372036854775808)) = true
  simp; omega

theorem tz_c (s : Nat) (hs : s < 2 ^ 64) (h0 : s ≠ 0) : FnC Tryd.prog 111 [.int .u64 s] (.int .i64 (tz s : Nat)) := by
  obtain ⟨h1, h2, h3⟩ := tz_spec hs h0
  have hneg : IntKind.u64.wrap (-(s : Int)) = ((2 ^ 64 - s : Nat) : Int) := by
    rw [wrap_u]; omega
  have hd := dix_lt (tz s)
  refine fnc_of tab_ok Tryd.func111 rfl (by kernel_rfl) (by rw [Tryd.ntmps111]; exact Nat.le_add_left 1 _) ?_; rw [Tryd.ntmps111]
  refine qm ?_
  refine hk_region fun K hK => runs_eval tab_ok ?_
  simp only [ev0, evA, evB, evP, fl, gp, tab, simprocAttr, reduceCtorEq, reduceIte]
  refine fin_run trivial (hK _ ?_) <;> clear hK <;> clear K
  refine qa (qm (qm ?_))
  refine hk_region fun K hK => runs_eval tab_ok ?_
  simp only [ev0, evA, evB, evP, fl, gp, tab, simprocAttr, reduceCtorEq, reduceIte]
  refine fin_run trivial (hK _ ?_) <;> clear hK <;> clear K
  refine qa ?_
  refine hk_cond rfl (fun hC1 => ?_) (fun hC1 => ?_)
  · (try simp only [nhs] at hC1)
    omega
  · (try simp only [nhs] at hC1)
    refine qh (qa (qm ?_))
    refine hk_region fun K hK => runs_eval tab_ok ?_
    simp only [ev0, evA, evB, evP, fl, gp, tab, simprocAttr, reduceCtorEq, reduceIte, hneg, bv_and hs (show 2 ^ 64 - s < 2 ^ 64 by omega), low_bit hs h0, gva_0, deb_ix, deb_at h1, wrap_i8 h1, glob0_len, List.length_drop]
    refine fin_run ?_ (hK _ ?_) <;> clear hK <;> clear K
    · (first | exact trivial | omega | (simp only [In64] at *; omega) | (simp [In64] at *; omega) | (simp_all; done) | skip)
    refine qa (qk ?_)
    simp only [Tryd.results111, enA, ev0, evA, evB, evP, fl, gp, tab, simprocAttr, reduceCtorEq, reduceIte]
    all_goals (rfl)
end Go.Proofs.YtjikchbmkodgfaaDoor

/-
  Sets of things: lists and bits; what is looked at first; what is chosen. Conditions: none.
-/
set_option linter.all false
namespace Go.Proofs.YtjikchbmkodgfaaDoor
open Go.Pv

/-- A row of its own that is handed out reads as a row. -/
theorem FnG_fnc {P : Program} {f : FuncId} {args l : List PV} (h : FnG P f args (.sl 0 0 l.length) [.own (opl l)]) (hone : l.all PV.one = true) : FnC P f args (.list l) := by
  refine ⟨h.1, fun okA w vals h1 h2 h3 => (h.2 okA w vals h1 h2 h3).mono fun e w' ⟨v, m', he, hbl, ho⟩ => ⟨v, he, hbl, ?_⟩⟩
  cases ho.val with
  | sl _ _ _ _ hk hs =>
    rcases hs with ⟨h0, ad, rfl⟩ | ⟨lc, cap, hm, rfl, hc1, hc2⟩
    · have : l = [] := List.eq_nil_of_length_eq_zero h0
      subst this
      exact .list0 _ _ fun _ => rfl
    · rcases ho.blk 0 (opl l) rfl with ⟨hn, _⟩ | ⟨l', cur, e', hm2, hB, hh, hs1, hs3, hs2, hcells⟩
      · have : l = [] := List.map_eq_nil_iff.1 hn
        subst this
        exact .list0 _ _ fun h => by cases h
      · rw [hm] at hm2; cases hm2
        rw [opl_length] at hs2
        refine row_reads rfl hone ⟨.inr hB, (Array.getElem?_eq_some_iff.1 hh).1⟩ hc1 (fun j => cur.getD (lc.o + j) undef) (fun j hj => ?_) fun j hj => ?_
        · have : lc.o + 0 + j = lc.o + j := by omega
          rw [this]; exact cell_of hh (by omega)
        · have := hcells j (by rw [opl_length]; exact hj)
          have e2 : (opl l)[j]'(by rw [opl_length]; exact hj) = .p l[j] := by simp [opl]
          rw [e2] at this
          exact this.p_inv.mono fun b hb => ⟨hb.1, hb.2.1⟩

/-! ### Lists and bits -/

theorem list_g (s : Nat) (hs : s < 2 ^ 64) : FnG Tryd.prog 68 [.int .u64 s] (.sl 0 0 (stl s).length) [.own (opl (il (stl s)))] := by
  refine fng_of tab_ok Tryd.func68 rfl (by kernel_rfl) (by rw [Tryd.ntmps68]; exact Nat.le_add_left 1 _) ?_; rw [Tryd.ntmps68]
  refine qm ?_
  refine hk_region fun K hK => runs_eval tab_ok ?_
  simp only [ev0, evA, evB, evP, fl, gp, tab, simprocAttr, reduceCtorEq, reduceIte]
  refine fin_run trivial (hK _ ?_) <;> clear hK <;> clear K
  refine qa (qm ?_)
  refine hk_region fun K hK => runs_eval tab_ok ?_
  simp only [ev0, evA, evB, evP, fl, gp, tab, simprocAttr, reduceCtorEq, reduceIte]
  refine fin_run trivial (hK _ ?_) <;> clear hK <;> clear K
  refine qa (qm (ql ?_))
  refine hk_own0 3 rfl ?_
  refine hk_loop (ι := Nat × List Int) (fun p => ⟨16, [(0, .p (.int .u64 p.1)), (3, .sl 0 0 p.2.length)], [.own (ol p.2)]⟩) (fun p => p.1 < 2 ^ 64 ∧ p.2 ++ stl p.1 = stl s) (fun p => p.1) (s, []) ⟨hs, rfl⟩ [0] (by simp only [leq, leA, ev0, evA, evB, evP, fl, gp, tab, simprocAttr, reduceCtorEq, reduceIte] <;> simp [ol_nil]) fun p hp => ?_
  obtain ⟨t, out⟩ := p
  obtain ⟨ht, ho⟩ := hp
  simp only at ht ho
  refine qm (qm ?_)
  refine hk_region fun K hK => runs_eval tab_ok ?_
  simp only [ev0, evA, evB, evP, fl, gp, tab, simprocAttr, reduceCtorEq, reduceIte]
  refine fin_run trivial (hK _ ?_) <;> clear hK <;> clear K
  refine qa ?_
  refine hk_cond rfl (fun hC1 => ?_) (fun hC1 => ?_)
  · (try simp only [nhs] at hC1)
    have h0 : t ≠ 0 := by omega
    have ht1 : t - 1 < 2 ^ 64 := by omega
    have hsub : IntKind.u64.wrap ((t : Int) - 1) = ((t - 1 : Nat) : Int) := by rw [wrap_u]; omega
    have hcut : t &&& (t - 1) = cut t := rfl
    have hc := stl_cons ht h0
    have hlen : out.length + 1 ≤ 64 := by
      have h1 := stl_len s
      rw [← ho, hc] at h1
      simp at h1; omega
    refine qh (qa (qm (ql ?_)))
    refine hk_region fun K hK => runs_eval tab_ok ?_
    simp only [ev0, evA, evB, evP, fl, gp, tab, simprocAttr, reduceCtorEq, reduceIte]
    refine fin_stop trivial (runs_call (tz_c t ht h0) rfl rfl rfl (by simp only [dstOk, Nat.reduceLT]) (by repeat (first | exact trivial | constructor)) (runs_eval tab_ok ?_))
    simp only [ev0, evA, evB, evP, fl, gp, tab, simprocAttr, reduceCtorEq, reduceIte]
    refine fin_run ?_ (hK _ ?_) <;> clear hK <;> clear K
    · (first | exact trivial | omega | (simp only [In64] at *; omega) | (simp [In64] at *; omega) | (simp_all; done) | skip)
    refine qd (qa ?_)
    refine hk_region fun K hK => runs_eval tab_ok ?_
    simp only [ev0, evA, evB, evP, fl, gp, tab, simprocAttr, reduceCtorEq, reduceIte, hsub, bv_and ht ht1, hcut]
    refine fin_run ?_ (hK _ ?_) <;> clear hK <;> clear K
    · (first | exact trivial | omega | (simp only [In64] at *; omega) | (simp [In64] at *; omega) | (simp_all; done) | skip)
    refine qa ?_
    refine ⟨(cut t, out ++ [(tz t : Int)]), [1], ⟨?_, ?_⟩, cut_lt h0, ?_⟩
    · exact Nat.lt_trans (cut_lt h0) ht
    · show out ++ [(tz t : Int)] ++ stl (cut t) = stl s
      rw [← ho, hc]; simp
    · simp only [leq, leA, ev0, evA, evB, evP, fl, gp, tab, simprocAttr, reduceCtorEq, reduceIte] <;> first | trivial | omega
  · (try simp only [nhs] at hC1)
    have h0 : t = 0 := by omega
    rw [h0, stl_zero, List.append_nil] at ho
    refine qj (qc (qc (qf (qa (qm ?_)))))
    refine hk_region fun K hK => runs_eval tab_ok ?_
    simp only [ev0, evA, evB, evP, fl, gp, tab, simprocAttr, reduceCtorEq, reduceIte]
    refine fin_run trivial (hK _ ?_) <;> clear hK <;> clear K
    refine qa (qk ?_)
    simp only [Tryd.results68, PostG, endG, rvsA, rvA, mkTup, ev0, evA, evB, evP, fl, gp, tab, simprocAttr, reduceCtorEq, reduceIte]
    all_goals (rw [← ho]; exact ⟨[0], by simp only [leq, leA, ev0, evA, evB, evP, fl, gp, tab, simprocAttr, reduceCtorEq, reduceIte] <;> simp [ol, opl]⟩)
theorem list_s (s : Nat) (hs : s < 2 ^ 64) : FnC Tryd.prog 68 [.int .u64 s] (.list (il (stl s))) := by
  have h := list_g s hs
  rw [← il_length] at h
  exact FnG_fnc h (il_all _)

/-- The bits of a list of things. -/
def msk (l : List Int) : Nat := l.foldl (fun s a => s ||| 2 ^ a.toNat) 0
theorem msk_snoc (l : List Int) (a : Int) : msk (l ++ [a]) = msk l ||| 2 ^ a.toNat := by simp [msk, List.foldl_append]
theorem msk_bit (l : List Int) (i : Nat) : (msk l).testBit i = decide (∃ a ∈ l, a.toNat = i) := by
  have key : ∀ (l : List Int) (s : Nat), (l.foldl (fun s a => s ||| 2 ^ a.toNat) s).testBit i = (s.testBit i || decide (∃ a ∈ l, a.toNat = i)) := by
    intro l
    induction l with
    | nil => intro s; simp
    | cons a r ih =>
      intro s
      rw [List.foldl_cons, ih, Nat.testBit_or, Nat.testBit_two_pow]
      by_cases h : a.toNat = i
      · simp [h]
      · simp [h]
  rw [msk, key]; simp
theorem msk_lt {l : List Int} {n : Nat} (h : ∀ a ∈ l, a.toNat < n) : msk l < 2 ^ n := by
  refine Nat.lt_pow_two_of_testBit _ fun i hi => ?_
  rw [msk_bit, decide_eq_false_iff_not]
  rintro ⟨a, ha, rfl⟩
  have := h a ha; omega

theorem of_s (l : List Int) (hl : l.length ≤ 1000000) (h : ∀ a ∈ l, 0 ≤ a ∧ a < 64) : FnC Tryd.prog 80 [.list (il l)] (.int .u64 (msk l)) := by
  refine fnc_of tab_ok Tryd.func80 rfl (by kernel_rfl) (by rw [Tryd.ntmps80]; exact Nat.le_add_left 1 _) ?_; rw [Tryd.ntmps80]
  refine qm ?_
  refine hk_region fun K hK => runs_eval tab_ok ?_
  simp only [ev0, evA, evB, evP, fl, gp, tab, simprocAttr, reduceCtorEq, reduceIte]
  refine fin_run trivial (hK _ ?_) <;> clear hK <;> clear K
  refine qa (qm ?_)
  refine hk_region fun K hK => runs_eval tab_ok ?_
  simp only [ev0, evA, evB, evP, fl, gp, tab, simprocAttr, reduceCtorEq, reduceIte]
  refine fin_run trivial (hK _ ?_) <;> clear hK <;> clear K
  refine qa (qm (qm ?_))
  refine hk_region fun K hK => runs_eval tab_ok ?_
  simp only [ev0, evA, evB, evP, fl, gp, tab, simprocAttr, reduceCtorEq, reduceIte]
  refine fin_run trivial (hK _ ?_) <;> clear hK <;> clear K
  refine qa (ql ?_)
  refine hk_loop (ι := Nat) (fun i => ⟨18, [(3, .p (.int .u64 (msk (l.take i)))), (6, .p (.list (il l))), (7, .p (.int .i64 l.length)), (8, .p (.int .i64 i))], []⟩) (fun i => i ≤ l.length) (fun i => l.length - i) 0 (Nat.zero_le _) [] (by simp only [leq, leA, ev0, evA, evB, evP, fl, gp, tab, simprocAttr, reduceCtorEq, reduceIte] <;> simp [msk]) fun i hi => ?_
  refine qm ?_
  refine hk_region fun K hK => runs_eval tab_ok ?_
  simp only [ev0, evA, evB, evP, fl, gp, tab, simprocAttr, reduceCtorEq, reduceIte]
  refine fin_run trivial (hK _ ?_) <;> clear hK <;> clear K
  refine qa (qm ?_)
  refine hk_cond rfl (fun hC1 => ?_) (fun hC1 => ?_)
  · (try simp only [nhs] at hC1)
    have hlt : i < l.length := by omega
    have hmem : l.getD i 0 ∈ l := by simp [List.getD, List.getElem?_eq_getElem hlt]
    obtain ⟨a1, a2⟩ := h _ hmem
    obtain ⟨a, ha⟩ := Int.eq_ofNat_of_zero_le a1
    have ha64 : a < 64 := by omega
    have hm : msk (l.take i) < 2 ^ 64 := msk_lt fun x hx => by have := h x (List.mem_of_mem_take hx); omega
    have hp : 2 ^ a < 2 ^ 64 := Nat.pow_lt_pow_right (by omega) ha64
    have hs : msk (l.take (i + 1)) = msk (l.take i) ||| 2 ^ a := by
      rw [List.take_succ_eq_append_getElem hlt, msk_snoc]
      have : l[i] = (a : Int) := by rw [← ha]; simp [List.getD, List.getElem?_eq_getElem hlt]
      rw [this]; rfl
    refine qh (qa (qm (ql (qm ?_))))
    refine hk_region fun K hK => runs_eval tab_ok ?_
    simp only [ev0, evA, evB, evP, fl, gp, tab, simprocAttr, reduceCtorEq, reduceIte, il_get hlt, ha]
    refine fin_run ?_ (hK _ ?_) <;> clear hK <;> clear K
    · (first | exact trivial | omega | (simp only [In64] at *; omega) | (simp [In64] at *; omega) | (simp_all; done) | skip)
    refine qa ?_
    refine hk_region fun K hK => runs_eval tab_ok ?_
    simp only [ev0, evA, evB, evP, fl, gp, tab, simprocAttr, reduceCtorEq, reduceIte, shl_one ha64, bv_or hm hp]
    refine fin_run ?_ (hK _ ?_) <;> clear hK <;> clear K
    · (first | exact trivial | omega | (simp only [In64] at *; omega) | (simp [In64] at *; omega) | (simp_all; done) | skip)
    refine qd (qa ?_)
    refine hk_region fun K hK => runs_eval tab_ok ?_
    simp only [ev0, evA, evB, evP, fl, gp, tab, simprocAttr, reduceCtorEq, reduceIte]
    refine fin_run ?_ (hK _ ?_) <;> clear hK <;> clear K
    · (first | exact trivial | omega | (simp only [In64] at *; omega) | (simp [In64] at *; omega) | (simp_all; done) | skip)
    refine qa ?_
    refine ⟨i + 1, [], by omega, by omega, ?_⟩
    rw [hs]
    simp only [leq, leA, ev0, evA, evB, evP, fl, gp, tab, simprocAttr, reduceCtorEq, reduceIte] <;> first | trivial | omega
  · (try simp only [nhs] at hC1)
    have hin : i = l.length := by omega
    refine qj (qc (qc (qf (qa (qm ?_)))))
    refine hk_region fun K hK => runs_eval tab_ok ?_
    simp only [ev0, evA, evB, evP, fl, gp, tab, simprocAttr, reduceCtorEq, reduceIte]
    refine fin_run trivial (hK _ ?_) <;> clear hK <;> clear K
    refine qa (qk ?_)
    simp only [Tryd.results80, enA, ev0, evA, evB, evP, fl, gp, tab, simprocAttr, reduceCtorEq, reduceIte]
    all_goals (rw [hin, List.take_length])

/-! ### Lists that rise -/

theorem mem_thl {n : Nat} {p : Nat → Bool} {x : Int} : x ∈ thl n p ↔ ∃ a, a < n ∧ p a = true ∧ x = (a : Int) := by
  unfold thl
  rw [List.mem_map]
  constructor
  · rintro ⟨a, ha, rfl⟩
    obtain ⟨h1, h2⟩ := mem_thn.1 ha
    exact ⟨a, h1, h2, rfl⟩
  · rintro ⟨a, h1, h2, rfl⟩
    exact ⟨a, mem_thn.2 ⟨h1, h2⟩, rfl⟩
theorem thl_asc (n : Nat) (p : Nat → Bool) : (thl n p).Pairwise (· < ·) := by
  unfold thl thn'
  rw [List.pairwise_map]
  refine (List.Pairwise.filter p List.pairwise_lt_range).imp fun {a b} h => by omega

/-- The test of a list. -/
def tst (l : List Int) (a : Nat) : Bool := decide ((a : Int) ∈ l)
/-- What is at fault in a list, at i. -/
def lfb (N : Int) (l : List Int) (i : Nat) : Int × Int := if ¬ okT N l i then (3, (i : Int)) else if 0 < i ∧ l.getD i 0 ≤ l.getD (i - 1) 0 then (5, (i : Int)) else (0, 0)
/-- The fault of a list. -/
def lf (N : Int) (l : List Int) : Int × Int :=
  if (l.length : Int) > N then (2, 0)
  else match fst' (fun i => decide (¬ (lfb N l i).1 = 0)) l.length with
    | some i => lfb N l i
    | none => (0, 0)
/-- The fault of a group and a list. -/
def sf (N : Int) (m l : List Int) : Int × Int := if ¬ (gf N m).1 = 0 then gf N m else lf N l

/-! ### Choosing -/

end Go.Proofs.YtjikchbmkodgfaaDoor

/-
  Sets of things: what they make, as the program has it. Conditions: none.
-/
set_option linter.all false
namespace Go.Proofs.YtjikchbmkodgfaaDoor
open Go.Pv

/-- The bits of the things of which something holds. -/
def bo (n : Nat) (p : Nat → Bool) : Nat := msk (thl n p)
theorem bo_bit (n : Nat) (p : Nat → Bool) (i : Nat) : (bo n p).testBit i = (decide (i < n) && p i) := by
  unfold bo
  rw [msk_bit, Bool.eq_iff_iff, decide_eq_true_eq, Bool.and_eq_true, decide_eq_true_eq]
  constructor
  · rintro ⟨x, hx, rfl⟩
    obtain ⟨a, h1, h2, rfl⟩ := mem_thl.1 hx
    exact ⟨h1, h2⟩
  · rintro ⟨h1, h2⟩
    exact ⟨(i : Int), mem_thl.2 ⟨i, h1, h2, rfl⟩, rfl⟩
theorem bo_lt (n : Nat) (p : Nat → Bool) : bo n p < 2 ^ n := msk_lt fun x hx => by
  obtain ⟨a, h1, _, rfl⟩ := mem_thl.1 hx
  exact h1
theorem bo_lt64 {n : Nat} (hn : n ≤ 60) (p : Nat → Bool) : bo n p < 2 ^ 64 := Nat.lt_of_lt_of_le (bo_lt n p) (Nat.pow_le_pow_right (by omega) (by omega))
theorem bo_eq {n s : Nat} {p : Nat → Bool} (hs : s < 2 ^ n) (h : ∀ i, i < n → s.testBit i = p i) : s = bo n p := by
  refine Nat.eq_of_testBit_eq fun i => ?_
  rw [bo_bit]
  by_cases hi : i < n
  · rw [h i hi]; simp [hi]
  · rw [Nat.testBit_lt_two_pow (Nat.lt_of_lt_of_le hs (Nat.pow_le_pow_right (by omega) (by omega)))]; simp [hi]
theorem bo_congr {n : Nat} {p q : Nat → Bool} (h : ∀ a, a < n → p a = q a) : bo n p = bo n q := by unfold bo; rw [thl_congr h]
theorem bo_inj {n : Nat} {p q : Nat → Bool} (h : bo n p = bo n q) {a : Nat} (ha : a < n) : p a = q a := by
  have h1 := bo_bit n p a
  rw [h, bo_bit] at h1
  simpa [ha] using h1.symm
theorem stl_bo {n : Nat} (hn : n ≤ 60) (p : Nat → Bool) : stl (bo n p) = thl n p := by
  rw [stl_n (by omega) (bo_lt n p)]
  exact thl_congr fun a ha => by rw [bo_bit]; simp [ha]
theorem msk_thl (n : Nat) (p : Nat → Bool) : msk (thl n p) = bo n p := rfl
theorem thl_rng {n : Nat} (hn : n ≤ 60) (p : Nat → Bool) : ∀ x ∈ thl n p, 0 ≤ x ∧ x < 64 := by
  intro x hx
  obtain ⟨a, h1, _, rfl⟩ := mem_thl.1 hx
  omega
theorem pow_lt64 {b : Nat} (hb : b < 64) : 2 ^ b < 2 ^ 64 := Nat.pow_lt_pow_right (by omega) hb
theorem lt64 {n s : Nat} (hn : n ≤ 60) (hs : s < 2 ^ n) : s < 2 ^ 64 := Nat.lt_of_lt_of_le hs (Nat.pow_le_pow_right (by omega) (by omega))
theorem bit_ltn {n s i : Nat} (hs : s < 2 ^ n) (h : s.testBit i = true) : i < n := by
  rcases Nat.lt_or_ge i n with h1 | h1
  · exact h1
  · rw [Nat.testBit_lt_two_pow (Nat.lt_of_lt_of_le hs (Nat.pow_le_pow_right (by omega) h1))] at h; cases h

theorem app_at (pre w : List Int) (a : Int) (d : AV) : (ol (pre ++ a :: w)).getD pre.length d = .p (.int .i64 a) := by
  simp [ol, il, List.getD]

/-- What holds while a set grows. -/
structure GrowI (n : Nat) (f : Nat → Nat → Nat) (e s out : Nat) (w : List Int) : Prop where
  lt : out < 2 ^ n
  one : out.testBit e = true
  gen : ∀ a, out.testBit a = true → Gen n f e s.testBit a
  wait : ∀ x ∈ w, ∃ a, x = ((a : Nat) : Int) ∧ out.testBit a = true
  nd : w.Nodup

theorem or_bit (s b i : Nat) : (s ||| 2 ^ b).testBit i = (s.testBit i || decide (b = i)) := by rw [Nat.testBit_or, Nat.testBit_two_pow]
theorem GrowI.len {n e s out : Nat} {f : Nat → Nat → Nat} {w : List Int} (h : GrowI n f e s out w) : w.length ≤ n := by
  have h1 := List.Nodup.length_le_of_subset h.nd (l₂ := thl n fun _ => true) fun x hx => by
    obtain ⟨a, rfl, ha⟩ := h.wait x hx
    exact mem_thl.2 ⟨a, bit_ltn h.lt ha, rfl, rfl⟩
  exact Nat.le_trans h1 (thl_le _ _)
theorem GrowI.add {n e s out a z : Nat} {f : Nat → Nat → Nat} {w : List Int} (h : GrowI n f e s out w) (ha : out.testBit a = true) (hz : s.testBit z = true) (hzn : z < n) (hn : f a z < n) (hno : out.testBit (f a z) = false) :
    GrowI n f e s (out ||| 2 ^ f a z) (w ++ [((f a z : Nat) : Int)]) where
  lt := Nat.or_lt_two_pow h.lt (Nat.pow_lt_pow_right (by omega) hn)
  one := by rw [or_bit, h.one]; rfl
  gen y hy := by
    rw [or_bit, Bool.or_eq_true, decide_eq_true_eq] at hy
    rcases hy with hy | rfl
    · exact h.gen y hy
    · exact .step a z (h.gen a ha) hzn hz
  wait x hx := by
    rcases List.mem_append.1 hx with hx | hx
    · obtain ⟨y, e1, e2⟩ := h.wait x hx
      exact ⟨y, e1, by rw [or_bit, e2]; rfl⟩
    · exact ⟨_, List.mem_singleton.1 hx, by rw [or_bit]; simp⟩
  nd := by
    refine List.nodup_append.2 ⟨h.nd, by simp, fun x hx y hy e => ?_⟩
    rw [List.mem_singleton] at hy
    obtain ⟨y', e1, e2⟩ := h.wait x hx
    have : y' = f a z := by omega
    rw [this, hno] at e2; cases e2

theorem grow_c {n e : Nat} {m : List Int} (h : GT n m n e) (s : Nat) (hs : s < 2 ^ n) (q : Nat → Bool) (hq : ∀ a, a < n → (q a = true ↔ Gen n (op m n) e s.testBit a)) : FnC Tryd.prog 79 [gp n m, .int .u64 s] (.int .u64 (bo n q)) := by
  have G := h.2.2
  have T := h.2.1
  have hb := T.big
  have hel := G.el
  have hs64 := lt64 hb hs
  have hone := pow_lt64 (b := e) (by omega)
  have hbe : ∀ a, (2 ^ e).testBit a = true → a = e := fun a ha => by rw [Nat.testBit_two_pow] at ha; simp at ha; exact ha.symm
  have hstl : ∀ x ∈ stl (2 ^ e), x = (e : Int) := fun x hx => by
    obtain ⟨a, _, h2, rfl⟩ := mem_thl.1 hx
    rw [hbe a h2]
  have hstl2 : (e : Int) ∈ stl (2 ^ e) := mem_thl.2 ⟨e, by omega, by rw [Nat.testBit_two_pow]; simp, rfl⟩
  refine fnc_of tab_ok Tryd.func79 rfl (by kernel_rfl) (by rw [Tryd.ntmps79]; exact Nat.le_add_left 2 _) ?_; rw [Tryd.ntmps79]
  refine qm ?_
  refine hk_region fun K hK => runs_eval tab_ok ?_
  simp only [ev0, evA, evB, evP, fl, gp, tab, simprocAttr, reduceCtorEq, reduceIte]
  refine fin_run ?_ (hK _ ?_) <;> clear hK <;> clear K
  · (first | exact trivial | omega | (simp only [In64] at *; omega) | (simp [In64] at *; omega) | (simp_all; done) | skip)
  refine qa (qm ?_)
  refine hk_region fun K hK => runs_eval tab_ok ?_
  simp only [ev0, evA, evB, evP, fl, gp, tab, simprocAttr, reduceCtorEq, reduceIte]
  refine fin_stop trivial (runs_call (oneOf_c h) rfl rfl rfl (by simp only [dstOk, Nat.reduceLT]) (by repeat (first | exact trivial | constructor)) (runs_eval tab_ok ?_))
  simp only [ev0, evA, evB, evP, fl, gp, tab, simprocAttr, reduceCtorEq, reduceIte, shl_one (show e < 64 by omega)]
  refine fin_run ?_ (hK _ ?_) <;> clear hK <;> clear K
  · (first | exact trivial | omega | (simp only [In64] at *; omega) | (simp [In64] at *; omega) | (simp_all; done) | skip)
  refine qa (qm ?_)
  refine hk_region fun K hK => runs_eval tab_ok ?_
  simp only [ev0, evA, evB, evP, fl, gp, tab, simprocAttr, reduceCtorEq, reduceIte]
  refine fin_stop trivial (runs_callG (list_g (2 ^ e) hone) rfl rfl (by first | rfl | (simp [scG, scA, sc1, opl]; done) | (simp only [scG, List.all_cons, List.all_nil, ol_sc, Bool.and_true]; rfl)) (by simp only [dstOk, Nat.reduceLT]) (by repeat (first | exact trivial | constructor)) (runs_eval tab_ok ?_))
  simp only [shf, List.range', Blk.ren, opl_ren, ren, ren1, ev0, evA, evB, evP, fl, gp, tab, simprocAttr, reduceCtorEq, reduceIte]
  refine fin_run trivial (hK _ ?_) <;> clear hK <;> clear K
  refine qa (qm (ql ?_))
  refine hk_loop (ι := Nat × List Int × List Int) (fun p => ⟨48, [(1, .p (.int .u64 s)), (2, .ptr 0 0), (5, .p (.int .u64 p.1)), (6, .sl 1 p.2.1.length p.2.2.length)], [.own [.p (.int .i64 n), .p (.list (il m))], .own (ol (p.2.1 ++ p.2.2))]⟩) (fun p => GrowI n (op m n) e s p.1 p.2.2 ∧ ∀ a, p.1.testBit a = true → ((a : Nat) : Int) ∉ p.2.2 → ∀ b, s.testBit b = true → p.1.testBit (op m n a b) = true) (fun p => 2 * (2 ^ 64 - p.1) + p.2.2.length) (2 ^ e, [], stl (2 ^ e)) ⟨⟨Nat.pow_lt_pow_right (by omega) hel, by rw [Nat.testBit_two_pow]; simp, fun a ha => by rw [hbe a ha]; exact .one, fun x hx => ⟨e, hstl x hx, by rw [Nat.testBit_two_pow]; simp⟩, (thl_asc _ _).imp fun h => by omega⟩, fun a ha hn => absurd (by rw [hbe a ha]; exact hstl2) hn⟩ [0, 1] (by simp only [leq, leA, ev0, evA, evB, evP, fl, gp, tab, simprocAttr, reduceCtorEq, reduceIte] <;> first | trivial | simp [ol, opl]) fun p hp => ?_
  obtain ⟨out, pre, w⟩ := p
  obtain ⟨⟨i1, i2, i3, i4, i6⟩, i5⟩ := hp
  simp only at i1 i2 i3 i4 i5
  refine qm (qm ?_)
  refine hk_region fun K hK => runs_eval tab_ok ?_
  simp only [ev0, evA, evB, evP, fl, gp, tab, simprocAttr, reduceCtorEq, reduceIte]
  refine fin_run trivial (hK _ ?_) <;> clear hK <;> clear K
  refine qa ?_
  refine hk_cond rfl (fun hC1 => ?_) (fun hC1 => ?_)
  · (try simp only [nhs] at hC1)
    obtain ⟨x, w', rfl⟩ : ∃ x w', w = x :: w' := by
      cases w with
      | nil => simp at hC1
      | cons x w' => exact ⟨x, w', rfl⟩
    obtain ⟨a, rfl, hoa⟩ := i4 x (by simp)
    have hal := bit_ltn i1 hoa
    refine qh (qa (ql (qm ?_)))
    refine hk_region fun K hK => runs_eval tab_ok ?_
    simp only [ev0, evA, evB, evP, fl, gp, tab, simprocAttr, reduceCtorEq, reduceIte, app_at, Nat.add_zero]
    refine fin_run ?_ (hK _ ?_) <;> clear hK <;> clear K
    · (first | exact trivial | omega | (simp only [In64] at *; omega) | (simp [In64] at *; omega) | (simp_all; done) | skip)
    refine qa (qm ?_)
    refine hk_region fun K hK => runs_eval tab_ok ?_
    simp only [ev0, evA, evB, evP, fl, gp, tab, simprocAttr, reduceCtorEq, reduceIte]
    refine fin_run ?_ (hK _ ?_) <;> clear hK <;> clear K
    · (first | exact trivial | omega | (simp only [In64] at *; omega) | (simp [In64] at *; omega) | (simp_all; done) | skip)
    refine qa (qm ?_)
    refine hk_region fun K hK => runs_eval tab_ok ?_
    simp only [ev0, evA, evB, evP, fl, gp, tab, simprocAttr, reduceCtorEq, reduceIte]
    refine fin_run trivial (hK _ ?_) <;> clear hK <;> clear K
    refine qa (ql ?_)
    refine hk_loop (ι := Nat × Nat × List Int × List Int) (fun p => ⟨48, [(1, .p (.int .u64 s)), (2, .ptr 0 0), (5, .p (.int .u64 p.2.1)), (6, .sl 1 p.2.2.1.length p.2.2.2.length), (7, .p (.int .i64 a)), (8, .p (.int .u64 p.1))], [.own [.p (.int .i64 n), .p (.list (il m))], .own (ol (p.2.2.1 ++ p.2.2.2))]⟩) (fun p => GrowI n (op m n) e s p.2.1 p.2.2.2 ∧ (∀ i, p.1.testBit i = true → s.testBit i = true) ∧ p.1 < 2 ^ 64 ∧ (∀ y, p.2.1.testBit y = true → ((y : Nat) : Int) ∉ p.2.2.2 → y ≠ a → ∀ b, s.testBit b = true → p.2.1.testBit (op m n y b) = true) ∧ (∀ b, s.testBit b = true → p.1.testBit b = false → p.2.1.testBit (op m n a b) = true) ∧ p.2.1.testBit a = true ∧ 2 * (2 ^ 64 - p.2.1) + p.2.2.2.length ≤ 2 * (2 ^ 64 - out) + w'.length) (fun p => p.1) (s, out, pre ++ [(a : Int)], w') ⟨⟨i1, i2, i3, fun x hx => i4 x (by simp [hx]), (List.nodup_cons.1 i6).2⟩, fun i hi => hi, hs64, fun y hy hn hya b hbs => i5 y hy (by simp only [List.mem_cons, not_or]; exact ⟨by omega, hn⟩) b hbs, fun b hb1 hb2 => absurd (hb1.symm.trans hb2) (by simp), hoa, Nat.le_refl _⟩ [0, 1] (by simp only [leq, leA, ev0, evA, evB, evP, fl, gp, tab, simprocAttr, reduceCtorEq, reduceIte] <;> first | trivial | (simp; done) | (simp; rw [List.take_of_length_le (by simp; omega)])) fun p hp => ?_
    obtain ⟨t, out2, pre2, w2⟩ := p
    obtain ⟨jI, j5, j6, j7, j8, j9, j10⟩ := hp
    simp only at jI j5 j6 j7 j8 j9 j10
    have hw2 := jI.len
    have j1 := jI.lt
    refine qm (qm ?_)
    refine hk_region fun K hK => runs_eval tab_ok ?_
    simp only [ev0, evA, evB, evP, fl, gp, tab, simprocAttr, reduceCtorEq, reduceIte]
    refine fin_run trivial (hK _ ?_) <;> clear hK <;> clear K
    refine qa ?_
    refine hk_cond rfl (fun hC2 => ?_) (fun hC2 => ?_)
    · (try simp only [nhs] at hC2)
      have h0 : t ≠ 0 := by omega
      obtain ⟨z1, z2, z3⟩ := tz_spec j6 h0
      have hzs := j5 _ z2
      have hzn := bit_ltn hs hzs
      have hfn := G.cl a (tz t) hal hzn
      have ht1 : t - 1 < 2 ^ 64 := by omega
      have hsub : IntKind.u64.wrap ((t : Int) - 1) = ((t - 1 : Nat) : Int) := by rw [wrap_u]; omega
      have hcut : t &&& (t - 1) = cut t := rfl
      have ho64 := lt64 hb j1
      have hp64 := pow_lt64 (b := op m n a (tz t)) (by omega)
      refine qh (qa (qm (ql (qm ?_))))
      refine hk_draw mixed (by kernel_rfl) fun K hK => runs_eval tab_ok ?_
      simp only [ev0, evA, evB, evP, fl, gp, tab, simprocAttr, reduceCtorEq, reduceIte]
      refine fin_stop trivial (runs_call (tz_c t j6 h0) rfl rfl rfl (by simp only [dstOk, Nat.reduceLT]) (by repeat (first | exact trivial | constructor)) (runs_eval tab_ok ?_))
      simp only [ev0, evA, evB, evP, fl, gp, tab, simprocAttr, reduceCtorEq, reduceIte]
      refine fin_stop trivial (runs_call (of_c T hal hzn) rfl rfl rfl (by simp only [dstOk, Nat.reduceLT]) (by repeat (first | exact trivial | constructor)) (runs_eval tab_ok ?_))
      simp only [ev0, evA, evB, evP, fl, gp, tab, simprocAttr, reduceCtorEq, reduceIte]
      refine fin_run ?_ (hK _ ?_) <;> clear hK <;> clear K
      · (first | exact trivial | omega | (simp only [In64] at *; omega) | (simp [In64] at *; omega) | (simp_all; done) | skip)
      refine qa (qm ?_)
      refine hk_region fun K hK => runs_eval tab_ok ?_
      simp only [ev0, evA, evB, evP, fl, gp, tab, simprocAttr, reduceCtorEq, reduceIte]
      refine fin_stop trivial (runs_call (has_s out2 (op m n a (tz t)) ho64 (by omega)) rfl rfl rfl (by simp only [dstOk, Nat.reduceLT]) (by repeat (first | exact trivial | constructor)) (runs_eval tab_ok ?_))
      simp only [ev0, evA, evB, evP, fl, gp, tab, simprocAttr, reduceCtorEq, reduceIte]
      refine fin_run trivial (hK _ ?_) <;> clear hK <;> clear K
      refine qa ?_
      refine hk_cond rfl (fun hC3 => ?_) (fun hC3 => ?_)
      · (try simp only [nhs] at hC3)
        have hno : out2.testBit (op m n a (tz t)) = false := hC3
        have hlt2 : out2 < out2 ||| 2 ^ op m n a (tz t) := by
          rcases Nat.lt_or_eq_of_le (Nat.left_le_or (n := out2) (m := 2 ^ op m n a (tz t))) with h1 | h1
          · exact h1
          · exfalso
            have h2 := or_bit out2 (op m n a (tz t)) (op m n a (tz t))
            rw [← h1, hno] at h2
            simp at h2
        refine qm ?_
        refine hk_region fun K hK => runs_eval tab_ok ?_
        simp only [ev0, evA, evB, evP, fl, gp, tab, simprocAttr, reduceCtorEq, reduceIte, shl_one (show op m n a (tz t) < 64 by omega), bv_or ho64 hp64]
        refine fin_run ?_ (hK _ ?_) <;> clear hK <;> clear K
        · (first | exact trivial | omega | (simp only [In64] at *; omega) | (simp [In64] at *; omega) | (simp_all; done) | skip)
        refine qa ?_
        refine hk_region fun K hK => runs_eval tab_ok ?_
        simp only [ev0, evA, evB, evP, fl, gp, tab, simprocAttr, reduceCtorEq, reduceIte]
        refine fin_run ?_ (hK _ ?_) <;> clear hK <;> clear K
        · simp only [List.length_append]; omega
        refine qd (qa ?_)
        refine hk_region fun K hK => runs_eval tab_ok ?_
        simp only [ev0, evA, evB, evP, fl, gp, tab, simprocAttr, reduceCtorEq, reduceIte, hsub, bv_and j6 ht1, hcut]
        refine fin_run ?_ (hK _ ?_) <;> clear hK <;> clear K
        · (first | exact trivial | omega | (simp only [In64] at *; omega) | (simp [In64] at *; omega) | (simp_all; done) | skip)
        refine qa ?_
        have hI := jI.add j9 hzs hzn hfn hno
        have hI1 := lt64 hb hI.lt
        refine ⟨(cut t, out2 ||| 2 ^ op m n a (tz t), [], w2 ++ [((op m n a (tz t) : Nat) : Int)]), [0, 2], ⟨hI, fun i hi => ?_, ?_, fun y hy hn hya b hbs => ?_, fun b hb1 hb2 => ?_, ?_, ?_⟩, ?_, ?_⟩
        · simp only [cut_bit j6 h0, Bool.and_eq_true] at hi
          exact j5 i hi.1
        · exact Nat.lt_trans (cut_lt h0) j6
        · simp only [or_bit, Bool.or_eq_true, decide_eq_true_eq] at hy ⊢
          simp only [List.mem_append, List.mem_singleton, not_or] at hn
          rcases hy with hy | hy
          · exact .inl (j7 y hy hn.1 hya b hbs)
          · exact absurd (by rw [hy]) hn.2
        · simp only [cut_bit j6 h0] at hb2
          simp only [or_bit, Bool.or_eq_true, decide_eq_true_eq]
          by_cases hbz : b = tz t
          · right; rw [hbz]
          · left
            refine j8 b hb1 ?_
            cases htb : t.testBit b with
            | false => rfl
            | true => rw [htb] at hb2; simp at hb2; exact absurd hb2 hbz
        · simp only [or_bit, j9, Bool.true_or]
        · simp only [List.length_append, List.length_cons, List.length_nil]
          omega
        · exact cut_lt h0
        · simp only [leq, leA, ev0, evA, evB, evP, fl, gp, tab, simprocAttr, reduceCtorEq, reduceIte]
          rw [List.drop_left, List.take_length, List.take_of_length_le (by simp)]
      · (try simp only [nhs] at hC3)
        refine qh (qd (qa ?_))
        refine hk_region fun K hK => runs_eval tab_ok ?_
        simp only [ev0, evA, evB, evP, fl, gp, tab, simprocAttr, reduceCtorEq, reduceIte, hsub, bv_and j6 ht1, hcut]
        refine fin_run ?_ (hK _ ?_) <;> clear hK <;> clear K
        · (first | exact trivial | omega | (simp only [In64] at *; omega) | (simp [In64] at *; omega) | (simp_all; done) | skip)
        refine qa ?_
        refine ⟨(cut t, out2, pre2, w2), [0, 1], ⟨jI, fun i hi => ?_, ?_, j7, fun b hb1 hb2 => ?_, j9, j10⟩, cut_lt h0, ?_⟩
        · simp only [cut_bit j6 h0, Bool.and_eq_true] at hi
          exact j5 i hi.1
        · exact Nat.lt_trans (cut_lt h0) j6
        · simp only [cut_bit j6 h0] at hb2
          by_cases hbz : b = tz t
          · show out2.testBit (op m n a b) = true
            rw [hbz]; exact hC3
          · refine j8 b hb1 ?_
            cases htb : t.testBit b with
            | false => rfl
            | true => rw [htb] at hb2; simp at hb2; exact absurd hb2 hbz
        · simp only [leq, leA, ev0, evA, evB, evP, fl, gp, tab, simprocAttr, reduceCtorEq, reduceIte] <;> first | trivial | omega
    · (try simp only [nhs] at hC2)
      have ht0 : t = 0 := by omega
      subst ht0
      refine qj (qc (qc (qf (qd (qa ?_)))))
      refine ⟨(out2, pre2, w2), [0, 1], ⟨jI, fun y hy hn b hbs => ?_⟩, ?_, ?_⟩
      · by_cases hya : y = a
        · rw [hya]; exact j8 b hbs (by simp)
        · exact j7 y hy hn hya b hbs
      · have ho := lt64 hb j1
        have ho2 := lt64 hb i1
        simp only [List.length_cons]
        omega
      · simp only [leq, leA, ev0, evA, evB, evP, fl, gp, tab, simprocAttr, reduceCtorEq, reduceIte] <;> first | trivial | omega
  · (try simp only [nhs] at hC1)
    have hw0 : w = [] := by
      cases w with
      | nil => rfl
      | cons x r => simp at hC1
    subst hw0
    have hfin : out = bo n q := by
      refine bo_eq i1 fun i hi => ?_
      rw [Bool.eq_iff_iff, hq i hi]
      refine ⟨i3 i, fun hg => ?_⟩
      exact Gen.least i2 (fun a b _ _ hb hH => i5 a hH (by simp) b hb) hg
    refine qj (qc (qc (qf (qa (qm ?_)))))
    refine hk_region fun K hK => runs_eval tab_ok ?_
    simp only [ev0, evA, evB, evP, fl, gp, tab, simprocAttr, reduceCtorEq, reduceIte]
    refine fin_run trivial (hK _ ?_) <;> clear hK <;> clear K
    refine qa (qk ?_)
    simp only [Tryd.results79, enA, ev0, evA, evB, evP, fl, gp, tab, simprocAttr, reduceCtorEq, reduceIte]
    all_goals (rw [hfin])
end Go.Proofs.YtjikchbmkodgfaaDoor

/-
  Sets of things: what they make, as the document has it. Conditions: none.
-/
set_option linter.all false
namespace Go.Proofs.YtjikchbmkodgfaaDoor
open Go.Pv

/-! ### Looked at -/

theorem thl_get_asc {n : Nat} {p : Nat → Bool} {i j : Nat} (hij : i < j) (hj : j < (thl n p).length) : (thl n p).getD i 0 < (thl n p).getD j 0 := by
  have := List.pairwise_iff_getElem.1 (thl_asc n p) i j (by omega) hj hij
  simpa [List.getD, List.getElem?_eq_getElem hj, List.getElem?_eq_getElem (show i < (thl n p).length by omega)] using this
theorem thl_get {n : Nat} {p : Nat → Bool} {i : Nat} (hi : i < (thl n p).length) : ∃ a, a < n ∧ p a = true ∧ (thl n p).getD i 0 = ((a : Nat) : Int) := by
  have : (thl n p).getD i 0 ∈ thl n p := by simp [List.getD, List.getElem?_eq_getElem hi]
  exact mem_thl.1 this
theorem mem_thl_n {n : Nat} {p : Nat → Bool} {a : Nat} (ha : a < n) : ((a : Nat) : Int) ∈ thl n p ↔ p a = true := by
  rw [mem_thl]
  constructor
  · rintro ⟨b, _, h2, e⟩
    have : a = b := by omega
    subst this; exact h2
  · exact fun h => ⟨a, ha, h, rfl⟩
theorem gen_bo {n e : Nat} {f : Nat → Nat → Nat} {p : Nat → Bool} {a : Nat} : Gen n f e (bo n p).testBit a ↔ Gen n f e p a :=
  ⟨Gen.mono fun b hb h => by rw [bo_bit] at h; simpa [hb] using h, Gen.mono fun b hb h => by rw [bo_bit]; simpa [hb] using h⟩

/-! ### Rows of truths -/

def bl (n : Nat) (r : Nat → Bool) : List PV := (List.range n).map fun a => .bool (r a)
/-- With one more. -/
def upd (r : Nat → Bool) (a i : Nat) : Bool := r i || decide (i = a)
end Go.Proofs.YtjikchbmkodgfaaDoor

/-
  Walks: groups that are made of a product. Conditions: none.
-/
set_option linter.all false
namespace Go.Proofs.YtjikchbmkodgfaaDoor
open Go.Pv

/-- A table, by a rule. -/
def tbr (g : Nat → Nat → Int) (n : Nat) : Nat → List Int := rg fun i => g (i / n) (i % n)
def tbl (g : Nat → Nat → Int) (n : Nat) : List Int := tbr g n (n * n)

theorem tbr_succ (g : Nat → Nat → Int) {n a b : Nat} (hb : b < n) : tbr g n (a * n + (b + 1)) = tbr g n (a * n + b) ++ [g a b] := by
  unfold tbr
  rw [← Nat.add_assoc, rg_succ]
  have h1 : (a * n + b) / n = a := by
    rw [Nat.mul_comm, Nat.mul_add_div (by omega), Nat.div_eq_of_lt hb]; omega
  have h2 : (a * n + b) % n = b := by
    rw [Nat.mul_comm, Nat.mul_add_mod, Nat.mod_eq_of_lt hb]
  simp only [h1, h2]
theorem tbr_len (g : Nat → Nat → Int) (n k : Nat) : (tbr g n k).length = k := rg_len _ k
def cyc (n a b : Nat) : Nat := (a + b) % n
def dih (n a b : Nat) : Nat := (a % n + (if a / n = 1 then n - b % n else b % n)) % n + (a / n + b / n) % 2 * n
def dic (n a b : Nat) : Nat := (a % (2 * n) + (if a / (2 * n) + b / (2 * n) = 2 then n else 0) + (if a / (2 * n) = 1 then 2 * n - b % (2 * n) else b % (2 * n))) % (2 * n) + (a / (2 * n) + b / (2 * n)) % 2 * (2 * n)

theorem tm_lit (a : Nat) : Int.tmod (a : Int) 2 = ((a % 2 : Nat) : Int) := rfl

end Go.Proofs.YtjikchbmkodgfaaDoor

/-
  Sets of things: centres; the square's group; an example of the document. Conditions: none.
-/
set_option linter.all false
namespace Go.Proofs.YtjikchbmkodgfaaDoor
open Go.Pv

/-! ### What two lists have -/

def bth (a b : List Int) : List Int := a.filter fun x => decide (x ∈ b)
/-! ### Functions of the library -/

def ixf (p : Int → Bool) (l : List Int) : Int := match fst' (fun i => p (l.getD i 0)) l.length with | some i => (i : Int) | none => -1
/-! ### What commutes with a set -/

def cent (m : List Int) (n : Nat) (p : Nat → Bool) (a : Nat) : Bool := decide (∀ b, b < n → p b = true → op m n a b = op m n b a)

/-! ### The square's group -/

def sq8 : List Int := tbl (fun a b => (dih 4 a b : Nat)) 8
theorem sq8_gf : (gf 8 sq8).1 = 0 := by decide +kernel
theorem sq8_gt : ∃ e, GT (8 : Nat) sq8 8 e := by
  obtain ⟨n, e, h, _⟩ := gf_ok sq8_gf
  obtain rfl : n = 8 := by have := h.1; omega
  exact ⟨e, h⟩

theorem tm4 (a : Nat) : Int.tmod (a : Int) 4 = ((a % 4 : Nat) : Int) := rfl
theorem td4 (a : Nat) : Int.tdiv (a : Int) 4 = ((a / 4 : Nat) : Int) := rfl

theorem square_c : FnC Tryd.prog 75 [] (gp 8 sq8) := by
  have hlen := tbr_len (fun a b => (dih 4 a b : Nat)) 8
  refine fnc_of tab_ok Tryd.func75 rfl (by kernel_rfl) (by rw [Tryd.ntmps75]; exact Nat.le_add_left 0 _) ?_; rw [Tryd.ntmps75]
  refine qm ?_
  refine hk_region fun K hK => runs_eval tab_ok ?_
  simp only [ev0, evA, evB, evP, fl, gp, tab, simprocAttr, reduceCtorEq, reduceIte]
  refine fin_run ?_ (hK _ ?_) <;> clear hK <;> clear K
  · (first | exact trivial | omega | (simp only [In64] at *; omega) | (simp [In64] at *; omega) | (simp_all; done) | skip)
  refine qa (qm ?_)
  refine hk_region fun K hK => runs_eval tab_ok ?_
  simp only [ev0, evA, evB, evP, fl, gp, tab, simprocAttr, reduceCtorEq, reduceIte]
  refine fin_run ?_ (hK _ ?_) <;> clear hK <;> clear K
  · (first | exact trivial | omega | (simp only [In64] at *; omega) | (simp [In64] at *; omega) | (simp_all; done) | skip)
  refine qa (qm (qm ?_))
  refine hk_own0c 1 1 rfl rfl ?_
  simp only [hset, List.cons_append, List.nil_append, List.set, List.length_cons, List.length_nil]
  refine hk_region fun K hK => runs_eval tab_ok ?_
  simp only [ev0, evA, evB, evP, fl, gp, tab, simprocAttr, reduceCtorEq, reduceIte]
  refine fin_run trivial (hK _ ?_) <;> clear hK <;> clear K
  refine qa (ql ?_)
  refine hk_loop (ι := Nat) (fun a => ⟨39, [(0, .ptr 0 0), (1, .ptr 1 0), (2, .p (.int .i64 a))], [.own [.p (.int .i64 0), .p .nil], .own [.p (.int .i64 8), .sl 2 0 (tbr (fun a b => (dih 4 a b : Nat)) 8 (a * 8)).length], .own (ol (tbr (fun a b => (dih 4 a b : Nat)) 8 (a * 8)))]⟩) (fun a => a ≤ 8) (fun a => 8 - a) 0 (Nat.zero_le _) [0, 1, 2] (by simp only [leq, leA, ev0, evA, evB, evP, fl, gp, tab, simprocAttr, reduceCtorEq, reduceIte] <;> simp [tbr, rg, ol_nil]) fun a ha => ?_
  refine qm (qm ?_)
  refine hk_region fun K hK => runs_eval tab_ok ?_
  simp only [ev0, evA, evB, evP, fl, gp, tab, simprocAttr, reduceCtorEq, reduceIte]
  refine fin_run trivial (hK _ ?_) <;> clear hK <;> clear K
  refine qa ?_
  refine hk_cond rfl (fun hC1 => ?_) (fun hC1 => ?_)
  · (try simp only [nhs] at hC1)
    have hal : a < 8 := by omega
    refine qh (qa (qm (ql (qm ?_))))
    refine hk_region fun K hK => runs_eval tab_ok ?_
    simp only [ev0, evA, evB, evP, fl, gp, tab, simprocAttr, reduceCtorEq, reduceIte]
    refine fin_run trivial (hK _ ?_) <;> clear hK <;> clear K
    refine qa (ql ?_)
    refine hk_loop (ι := Nat) (fun b => ⟨39, [(0, .ptr 0 0), (1, .ptr 1 0), (2, .p (.int .i64 a)), (3, .p (.int .i64 b))], [.own [.p (.int .i64 0), .p .nil], .own [.p (.int .i64 8), .sl 2 0 (tbr (fun a b => (dih 4 a b : Nat)) 8 (a * 8 + b)).length], .own (ol (tbr (fun a b => (dih 4 a b : Nat)) 8 (a * 8 + b)))]⟩) (fun b => b ≤ 8) (fun b => 8 - b) 0 (Nat.zero_le _) [0, 1, 2] (by rw [Nat.add_zero]; simp only [leq, leA, ev0, evA, evB, evP, fl, gp, tab, simprocAttr, reduceCtorEq, reduceIte] <;> trivial) fun b hb => ?_
    refine qm (qm ?_)
    refine hk_region fun K hK => runs_eval tab_ok ?_
    simp only [ev0, evA, evB, evP, fl, gp, tab, simprocAttr, reduceCtorEq, reduceIte]
    refine fin_run trivial (hK _ ?_) <;> clear hK <;> clear K
    refine qa ?_
    refine hk_cond rfl (fun hC2 => ?_) (fun hC2 => ?_)
    · (try simp only [nhs] at hC2)
      have hbl : b < 8 := by omega
      have hl := hlen (a * 8 + b)
      have hs : (4 : Int) - ((b % 4 : Nat) : Int) = ((4 - b % 4 : Nat) : Int) := by omega
      have hm : (((a / 4 + b / 4) % 2 : Nat) : Int) * 4 = (((a / 4 + b / 4) % 2 * 4 : Nat) : Int) := by omega
      refine qh (qa (qm (ql (qm ?_))))
      refine hk_region fun K hK => runs_eval tab_ok ?_
      simp only [ev0, evA, evB, evP, fl, gp, tab, simprocAttr, reduceCtorEq, reduceIte, tm4]
      refine fin_run ?_ (hK _ ?_) <;> clear hK <;> clear K
      · (first | exact trivial | omega | (simp only [In64] at *; omega) | (simp [In64] at *; omega) | (simp_all; done) | skip)
      refine qa (qm (qm ?_))
      refine hk_region fun K hK => runs_eval tab_ok ?_
      simp only [ev0, evA, evB, evP, fl, gp, tab, simprocAttr, reduceCtorEq, reduceIte]
      refine fin_run trivial (hK _ ?_) <;> clear hK <;> clear K
      refine qa ?_
      refine hk_cond rfl (fun hC3 => ?_) (fun hC3 => ?_)
      · (try simp only [nhs] at hC3)
        have hd : dih 4 a b = (a % 4 + (4 - b % 4)) % 4 + (a / 4 + b / 4) % 2 * 4 := by rw [dih, if_pos (by omega)]
        refine hk_region fun K hK => runs_eval tab_ok ?_
        simp only [ev0, evA, evB, evP, fl, gp, tab, simprocAttr, reduceCtorEq, reduceIte, hs]
        refine fin_run ?_ (hK _ ?_) <;> clear hK <;> clear K
        · (first | exact trivial | omega | (simp only [In64] at *; omega) | (simp [In64] at *; omega) | (simp_all; done) | skip)
        refine qa ?_
        refine hk_region fun K hK => runs_eval tab_ok ?_
        simp only [ev0, evA, evB, evP, fl, gp, tab, simprocAttr, reduceCtorEq, reduceIte, tm4, td4, ← Int.natCast_add, tm_lit, hm]
        refine fin_run ?_ (hK _ ?_) <;> clear hK <;> clear K
        · simp only [In64]; omega
        refine qd (qa ?_)
        refine hk_region fun K hK => runs_eval tab_ok ?_
        simp only [ev0, evA, evB, evP, fl, gp, tab, simprocAttr, reduceCtorEq, reduceIte]
        refine fin_run ?_ (hK _ ?_) <;> clear hK <;> clear K
        · (first | exact trivial | omega | (simp only [In64] at *; omega) | (simp [In64] at *; omega) | (simp_all; done) | skip)
        refine qa ?_
        refine ⟨b + 1, [0, 1, 3], by omega, by omega, ?_⟩
        rw [tbr_succ (fun a b => (dih 4 a b : Nat)) hbl]
        simp only [hd]
        simp only [leq, leA, ev0, evA, evB, evP, fl, gp, tab, simprocAttr, reduceCtorEq, reduceIte] <;> first | trivial | omega
      · (try simp only [nhs] at hC3)
        have hd : dih 4 a b = (a % 4 + b % 4) % 4 + (a / 4 + b / 4) % 2 * 4 := by rw [dih, if_neg (by omega)]
        refine qh (qa ?_)
        refine hk_region fun K hK => runs_eval tab_ok ?_
        simp only [ev0, evA, evB, evP, fl, gp, tab, simprocAttr, reduceCtorEq, reduceIte, tm4, td4, ← Int.natCast_add, tm_lit, hm]
        refine fin_run ?_ (hK _ ?_) <;> clear hK <;> clear K
        · simp only [In64]; omega
        refine qd (qa ?_)
        refine hk_region fun K hK => runs_eval tab_ok ?_
        simp only [ev0, evA, evB, evP, fl, gp, tab, simprocAttr, reduceCtorEq, reduceIte]
        refine fin_run ?_ (hK _ ?_) <;> clear hK <;> clear K
        · (first | exact trivial | omega | (simp only [In64] at *; omega) | (simp [In64] at *; omega) | (simp_all; done) | skip)
        refine qa ?_
        refine ⟨b + 1, [0, 1, 3], by omega, by omega, ?_⟩
        rw [tbr_succ (fun a b => (dih 4 a b : Nat)) hbl]
        simp only [hd]
        simp only [leq, leA, ev0, evA, evB, evP, fl, gp, tab, simprocAttr, reduceCtorEq, reduceIte] <;> first | trivial | omega
    · (try simp only [nhs] at hC2)
      have hbn : b = 8 := by omega
      refine qj (qc (qc (qf (qd (qa ?_)))))
      refine hk_region fun K hK => runs_eval tab_ok ?_
      simp only [ev0, evA, evB, evP, fl, gp, tab, simprocAttr, reduceCtorEq, reduceIte]
      refine fin_run ?_ (hK _ ?_) <;> clear hK <;> clear K
      · (first | exact trivial | omega | (simp only [In64] at *; omega) | (simp [In64] at *; omega) | (simp_all; done) | skip)
      refine qa ?_
      refine ⟨a + 1, [0, 1, 2], by omega, by omega, ?_⟩
      rw [hbn, show (a + 1) * 8 = a * 8 + 8 by rw [Nat.add_mul, Nat.one_mul]]
      simp only [leq, leA, ev0, evA, evB, evP, fl, gp, tab, simprocAttr, reduceCtorEq, reduceIte] <;> first | trivial | omega
  · (try simp only [nhs] at hC1)
    have han : a = 8 := by omega
    refine qj (qc (qc (qf (qa (qm ?_)))))
    refine hk_region fun K hK => runs_eval tab_ok ?_
    simp only [ev0, evA, evB, evP, fl, gp, tab, simprocAttr, reduceCtorEq, reduceIte]
    refine fin_run ?_ (hK _ ?_) <;> clear hK <;> clear K
    · (first | exact trivial | omega | (simp only [In64] at *; omega) | (simp [In64] at *; omega) | (simp_all; done) | skip)
    refine qa (qk ?_)
    simp only [Tryd.results75, enA, ev0, evA, evB, evP, fl, gp, tab, simprocAttr, reduceCtorEq, reduceIte]
    all_goals (simp [han, sq8, tbl])

end Go.Proofs.YtjikchbmkodgfaaDoor

/-
  Sets of things: conjugated things, commutators, what they make. Conditions: none.
-/
set_option linter.all false
namespace Go.Proofs.YtjikchbmkodgfaaDoor
open Go.Pv

theorem thl_rng2 {n : Nat} {p : Nat → Bool} : ∀ x ∈ thl n p, ∃ a, a < n ∧ x = ((a : Nat) : Int) := fun x hx => by
  obtain ⟨a, h1, _, h3⟩ := mem_thl.1 hx
  exact ⟨a, h1, h3⟩
theorem conj_s {n e : Nat} {m : List Int} (h : GT n m n e) {x a : Nat} (hx : x < n) (ha : a < n) : FnC Tryd.prog 122 [gp n m, .int .i64 x, .int .i64 a] (.int .i64 (cjr n (op m n) e x a : Nat)) := by
  have G := h.2.2
  have ia := G.iv_lt ha
  refine fnc_of tab_ok Tryd.func122 rfl (by kernel_rfl) (by rw [Tryd.ntmps122]; exact Nat.le_add_left 3 _) ?_; rw [Tryd.ntmps122]
  refine qm ?_
  refine hk_region fun K hK => runs_eval tab_ok ?_
  simp only [ev0, evA, evB, evP, fl, gp, tab, simprocAttr, reduceCtorEq, reduceIte]
  refine fin_run ?_ (hK _ ?_) <;> clear hK <;> clear K
  · (first | exact trivial | omega | (simp only [In64] at *; omega) | (simp [In64] at *; omega) | (simp_all; done) | skip)
  refine qa (qm ?_)
  refine hk_draw mixed (by kernel_rfl) fun K hK => runs_eval tab_ok ?_
  simp only [ev0, evA, evB, evP, fl, gp, tab, simprocAttr, reduceCtorEq, reduceIte]
  refine fin_stop trivial (runs_call (invOf_c h ha) rfl rfl rfl (by simp only [dstOk, Nat.reduceLT]) (by repeat (first | exact trivial | constructor)) (runs_eval tab_ok ?_))
  simp only [ev0, evA, evB, evP, fl, gp, tab, simprocAttr, reduceCtorEq, reduceIte]
  refine fin_stop trivial (runs_call (of_c h.2.1 ia hx) rfl rfl rfl (by simp only [dstOk, Nat.reduceLT]) (by repeat (first | exact trivial | constructor)) (runs_eval tab_ok ?_))
  simp only [ev0, evA, evB, evP, fl, gp, tab, simprocAttr, reduceCtorEq, reduceIte]
  refine fin_stop trivial (runs_call (of_c h.2.1 (G.cl _ _ ia hx) ha) rfl rfl rfl (by simp only [dstOk, Nat.reduceLT]) (by repeat (first | exact trivial | constructor)) (runs_eval tab_ok ?_))
  simp only [ev0, evA, evB, evP, fl, gp, tab, simprocAttr, reduceCtorEq, reduceIte]
  refine fin_run ?_ (hK _ ?_) <;> clear hK <;> clear K
  · (first | exact trivial | omega | (simp only [In64] at *; omega) | (simp [In64] at *; omega) | (simp_all; done) | skip)
  refine qa (qk ?_)
  simp only [Tryd.results122, enA, ev0, evA, evB, evP, fl, gp, tab, simprocAttr, reduceCtorEq, reduceIte]
  all_goals (rfl)
theorem commOf_s {n e : Nat} {m : List Int} (h : GT n m n e) {a b : Nat} (ha : a < n) (hb : b < n) : FnC Tryd.prog 105 [gp n m, .int .i64 a, .int .i64 b] (.int .i64 (cmt n (op m n) e a b : Nat)) := by
  have G := h.2.2
  refine fnc_of tab_ok Tryd.func105 rfl (by kernel_rfl) (by rw [Tryd.ntmps105]; exact Nat.le_add_left 3 _) ?_; rw [Tryd.ntmps105]
  refine qm ?_
  refine hk_region fun K hK => runs_eval tab_ok ?_
  simp only [ev0, evA, evB, evP, fl, gp, tab, simprocAttr, reduceCtorEq, reduceIte]
  refine fin_run ?_ (hK _ ?_) <;> clear hK <;> clear K
  · (first | exact trivial | omega | (simp only [In64] at *; omega) | (simp [In64] at *; omega) | (simp_all; done) | skip)
  refine qa (qm ?_)
  refine hk_draw mixed (by kernel_rfl) fun K hK => runs_eval tab_ok ?_
  simp only [ev0, evA, evB, evP, fl, gp, tab, simprocAttr, reduceCtorEq, reduceIte]
  refine fin_stop trivial (runs_call (invOf_c h ha) rfl rfl rfl (by simp only [dstOk, Nat.reduceLT]) (by repeat (first | exact trivial | constructor)) (runs_eval tab_ok ?_))
  simp only [ev0, evA, evB, evP, fl, gp, tab, simprocAttr, reduceCtorEq, reduceIte]
  refine fin_stop trivial (runs_call (conj_s h ha hb) rfl rfl rfl (by simp only [dstOk, Nat.reduceLT]) (by repeat (first | exact trivial | constructor)) (runs_eval tab_ok ?_))
  simp only [ev0, evA, evB, evP, fl, gp, tab, simprocAttr, reduceCtorEq, reduceIte]
  refine fin_stop trivial (runs_call (of_c h.2.1 (G.iv_lt ha) (G.cjr_lt ha hb)) rfl rfl rfl (by simp only [dstOk, Nat.reduceLT]) (by repeat (first | exact trivial | constructor)) (runs_eval tab_ok ?_))
  simp only [ev0, evA, evB, evP, fl, gp, tab, simprocAttr, reduceCtorEq, reduceIte]
  refine fin_run ?_ (hK _ ?_) <;> clear hK <;> clear K
  · (first | exact trivial | omega | (simp only [In64] at *; omega) | (simp [In64] at *; omega) | (simp_all; done) | skip)
  refine qa (qk ?_)
  simp only [Tryd.results105, enA, ev0, evA, evB, evP, fl, gp, tab, simprocAttr, reduceCtorEq, reduceIte]
  all_goals (rw [G.cmt_alt ha hb])
/-! ### Commutators of two lists -/

def cmr (n : Nat) (f : Nat → Nat → Nat) (e : Nat) (a : Int) (lb : List Int) : List Int := lb.map fun b => ((cmt n f e a.toNat b.toNat : Nat) : Int)
def cml (n : Nat) (f : Nat → Nat → Nat) (e : Nat) (la lb : List Int) : List Int := la.flatMap fun a => cmr n f e a lb

theorem cml_succ (n : Nat) (f : Nat → Nat → Nat) (e : Nat) {la : List Int} (lb : List Int) {i : Nat} (hi : i < la.length) : cml n f e (la.take (i + 1)) lb = cml n f e (la.take i) lb ++ cmr n f e (la.getD i 0) lb := by
  unfold cml
  rw [List.take_succ_eq_append_getElem hi, List.flatMap_append]
  congr 1
  have : la[i] = la.getD i 0 := by simp [List.getD, List.getElem?_eq_getElem hi]
  rw [this]; simp
theorem cmr_succ (n : Nat) (f : Nat → Nat → Nat) (e : Nat) (a : Int) {lb : List Int} {j : Nat} (hj : j < lb.length) : cmr n f e a (lb.take (j + 1)) = cmr n f e a (lb.take j) ++ [((cmt n f e a.toNat (lb.getD j 0).toNat : Nat) : Int)] := by
  unfold cmr
  rw [List.take_succ_eq_append_getElem hj, List.map_append]
  have : lb[j] = lb.getD j 0 := by simp [List.getD, List.getElem?_eq_getElem hj]
  rw [this]; rfl
theorem mem_cml {n e : Nat} {f : Nat → Nat → Nat} {p r : Nat → Bool} {x : Int} : x ∈ cml n f e (thl n p) (thl n r) ↔ ∃ a b, a < n ∧ b < n ∧ p a = true ∧ r b = true ∧ x = ((cmt n f e a b : Nat) : Int) := by
  unfold cml cmr
  rw [List.mem_flatMap]
  constructor
  · rintro ⟨y, hy, hx⟩
    obtain ⟨z, hz, rfl⟩ := List.mem_map.1 hx
    obtain ⟨a, a1, a2, rfl⟩ := mem_thl.1 hy
    obtain ⟨b, b1, b2, rfl⟩ := mem_thl.1 hz
    exact ⟨a, b, a1, b1, a2, b2, by simp⟩
  · rintro ⟨a, b, a1, b1, a2, b2, rfl⟩
    exact ⟨(a : Int), (mem_thl_n a1).2 a2, List.mem_map.2 ⟨(b : Int), (mem_thl_n b1).2 b2, by simp⟩⟩
theorem cml_rng {n e : Nat} {f : Nat → Nat → Nat} (G : Grp n f e) {p r : Nat → Bool} : ∀ x ∈ cml n f e (thl n p) (thl n r), ∃ a, a < n ∧ x = ((a : Nat) : Int) := fun x hx => by
  obtain ⟨a, b, a1, b1, _, _, rfl⟩ := mem_cml.1 hx
  exact ⟨_, G.cmt_lt a1 b1, rfl⟩
/-- The bits of a list make what the list makes. -/
theorem gen_msk {n e : Nat} {f : Nat → Nat → Nat} {l : List Int} (hl : ∀ x ∈ l, ∃ a, a < n ∧ x = ((a : Nat) : Int)) {a : Nat} : Gen n f e (msk l).testBit a ↔ Gen n f e (tst l) a := by
  have key : ∀ b, (msk l).testBit b = tst l b := fun b => by
    rw [msk_bit]
    unfold tst
    refine decide_eq_decide.2 ⟨?_, fun h => ⟨_, h, by simp⟩⟩
    rintro ⟨x, hx, rfl⟩
    obtain ⟨c, _, rfl⟩ := hl x hx
    simpa using hx
  have : (msk l).testBit = tst l := funext key
  rw [this]

theorem derive_s {n e : Nat} {m : List Int} (h : GT n m n e) (p r q : Nat → Bool) (hq : ∀ a, a < n → (q a = true ↔ Gen n (op m n) e (tst (cml n (op m n) e (thl n p) (thl n r))) a)) :
    FnC Tryd.prog 102 [gp n m, .int .u64 (bo n p), .int .u64 (bo n r)] (.int .u64 (bo n q)) := by
  have G := h.2.2
  have hb := h.2.1.big
  have hlp := thl_le n p
  have hlr := thl_le n r
  refine fnc_of tab_ok Tryd.func102 rfl (by kernel_rfl) (by rw [Tryd.ntmps102]; exact Nat.le_add_left 3 _) ?_; rw [Tryd.ntmps102]
  refine qm ?_
  refine hk_region fun K hK => runs_eval tab_ok ?_
  simp only [ev0, evA, evB, evP, fl, gp, tab, simprocAttr, reduceCtorEq, reduceIte]
  refine fin_run ?_ (hK _ ?_) <;> clear hK <;> clear K
  · (first | exact trivial | omega | (simp only [In64] at *; omega) | (simp [In64] at *; omega) | (simp_all; done) | skip)
  refine qa (qm ?_)
  refine hk_region fun K hK => runs_eval tab_ok ?_
  simp only [ev0, evA, evB, evP, fl, gp, tab, simprocAttr, reduceCtorEq, reduceIte]
  refine fin_run trivial (hK _ ?_) <;> clear hK <;> clear K
  refine qa (qm (qm ?_))
  refine hk_region fun K hK => runs_eval tab_ok ?_
  simp only [ev0, evA, evB, evP, fl, gp, tab, simprocAttr, reduceCtorEq, reduceIte]
  refine fin_stop trivial (runs_call (list_s (bo n p) (bo_lt64 hb p)) rfl rfl rfl (by simp only [dstOk, Nat.reduceLT]) (by repeat (first | exact trivial | constructor)) (runs_eval tab_ok ?_))
  simp only [ev0, evA, evB, evP, fl, gp, tab, simprocAttr, reduceCtorEq, reduceIte, stl_bo hb, il_length]
  refine fin_run trivial (hK _ ?_) <;> clear hK <;> clear K
  refine qa (ql ?_)
  refine hk_loop (ι := Nat) (fun i => ⟨38, [(2, .p (.int .u64 (bo n r))), (3, .ptr 0 0), (7, .p (.int .u64 (msk (cml n (op m n) e ((thl n p).take i) (thl n r))))), (13, .p (.list (il (thl n p)))), (14, .p (.int .i64 (thl n p).length)), (15, .p (.int .i64 i))], [.own [.p (.int .i64 n), .p (.list (il m))]]⟩) (fun i => i ≤ (thl n p).length) (fun i => (thl n p).length - i) 0 (Nat.zero_le _) [0] (by simp only [leq, leA, ev0, evA, evB, evP, fl, gp, tab, simprocAttr, reduceCtorEq, reduceIte] <;> first | trivial | simp [cml, msk]) fun i hi => ?_
  refine qm ?_
  refine hk_region fun K hK => runs_eval tab_ok ?_
  simp only [ev0, evA, evB, evP, fl, gp, tab, simprocAttr, reduceCtorEq, reduceIte]
  refine fin_run trivial (hK _ ?_) <;> clear hK <;> clear K
  refine qa (qm ?_)
  refine hk_cond rfl (fun hC1 => ?_) (fun hC1 => ?_)
  · (try simp only [nhs] at hC1)
    have hlt : i < (thl n p).length := by omega
    obtain ⟨x, x1, x2, x3⟩ := thl_get hlt
    refine qh (qa (qm (ql (qm ?_))))
    refine hk_region fun K hK => runs_eval tab_ok ?_
    simp only [ev0, evA, evB, evP, fl, gp, tab, simprocAttr, reduceCtorEq, reduceIte, il_get hlt, x3]
    refine fin_run ?_ (hK _ ?_) <;> clear hK <;> clear K
    · (first | exact trivial | omega | (simp only [In64] at *; omega) | (simp [In64] at *; omega) | (simp_all; done) | skip)
    refine qa (qm ?_)
    refine hk_region fun K hK => runs_eval tab_ok ?_
    simp only [ev0, evA, evB, evP, fl, gp, tab, simprocAttr, reduceCtorEq, reduceIte]
    refine fin_stop trivial (runs_call (list_s (bo n r) (bo_lt64 hb r)) rfl rfl rfl (by simp only [dstOk, Nat.reduceLT]) (by repeat (first | exact trivial | constructor)) (runs_eval tab_ok ?_))
    simp only [ev0, evA, evB, evP, fl, gp, tab, simprocAttr, reduceCtorEq, reduceIte, stl_bo hb, il_length]
    refine fin_run trivial (hK _ ?_) <;> clear hK <;> clear K
    refine qa (ql ?_)
    refine hk_loop (ι := Nat) (fun j => ⟨38, [(2, .p (.int .u64 (bo n r))), (3, .ptr 0 0), (7, .p (.int .u64 (msk (cml n (op m n) e ((thl n p).take i) (thl n r) ++ cmr n (op m n) e x ((thl n r).take j))))), (9, .p (.int .i64 x)), (13, .p (.list (il (thl n p)))), (14, .p (.int .i64 (thl n p).length)), (15, .p (.int .i64 i)), (20, .p (.list (il (thl n r)))), (21, .p (.int .i64 (thl n r).length)), (22, .p (.int .i64 j))], [.own [.p (.int .i64 n), .p (.list (il m))]]⟩) (fun j => j ≤ (thl n r).length) (fun j => (thl n r).length - j) 0 (Nat.zero_le _) [0] (by simp only [leq, leA, ev0, evA, evB, evP, fl, gp, tab, simprocAttr, reduceCtorEq, reduceIte] <;> first | trivial | simp [cmr]) fun j hj => ?_
    refine qm ?_
    refine hk_region fun K hK => runs_eval tab_ok ?_
    simp only [ev0, evA, evB, evP, fl, gp, tab, simprocAttr, reduceCtorEq, reduceIte]
    refine fin_run trivial (hK _ ?_) <;> clear hK <;> clear K
    refine qa (qm ?_)
    refine hk_cond rfl (fun hC2 => ?_) (fun hC2 => ?_)
    · (try simp only [nhs] at hC2)
      have hjl : j < (thl n r).length := by omega
      obtain ⟨y, y1, y2, y3⟩ := thl_get hjl
      have hc := G.cmt_lt x1 y1
      have hp := pow_lt64 (b := cmt n (op m n) e x y) (by omega)
      have hall : ∀ z ∈ cml n (op m n) e ((thl n p).take i) (thl n r) ++ cmr n (op m n) e x ((thl n r).take j), z.toNat < n := fun z hz => by
        rcases List.mem_append.1 hz with hz | hz
        · obtain ⟨u, hu, hv⟩ := List.mem_flatMap.1 hz
          obtain ⟨w, hw, rfl⟩ := List.mem_map.1 hv
          obtain ⟨u', u1, u2⟩ := thl_rng2 u (List.mem_of_mem_take hu)
          obtain ⟨w', w1, w2⟩ := thl_rng2 w hw
          subst u2; subst w2
          exact G.cmt_lt u1 w1
        · obtain ⟨w, hw, rfl⟩ := List.mem_map.1 hz
          obtain ⟨w', w1, w2⟩ := thl_rng2 w (List.mem_of_mem_take hw)
          subst w2
          exact G.cmt_lt x1 w1
      have hm := lt64 hb (msk_lt hall)
      refine qh (qa (qm (ql (qm ?_))))
      refine hk_region fun K hK => runs_eval tab_ok ?_
      simp only [ev0, evA, evB, evP, fl, gp, tab, simprocAttr, reduceCtorEq, reduceIte, il_get hjl, y3]
      refine fin_run ?_ (hK _ ?_) <;> clear hK <;> clear K
      · (first | exact trivial | omega | (simp only [In64] at *; omega) | (simp [In64] at *; omega) | (simp_all; done) | skip)
      refine qa ?_
      refine hk_region fun K hK => runs_eval tab_ok ?_
      simp only [ev0, evA, evB, evP, fl, gp, tab, simprocAttr, reduceCtorEq, reduceIte]
      refine fin_stop trivial (runs_call (commOf_s h x1 y1) rfl rfl rfl (by simp only [dstOk, Nat.reduceLT]) (by repeat (first | exact trivial | constructor)) (runs_eval tab_ok ?_))
      simp only [ev0, evA, evB, evP, fl, gp, tab, simprocAttr, reduceCtorEq, reduceIte, shl_one (show cmt n (op m n) e x y < 64 by omega), bv_or hm hp]
      refine fin_run ?_ (hK _ ?_) <;> clear hK <;> clear K
      · (first | exact trivial | omega | (simp only [In64] at *; omega) | (simp [In64] at *; omega) | (simp_all; done) | skip)
      refine qd (qa ?_)
      refine hk_region fun K hK => runs_eval tab_ok ?_
      simp only [ev0, evA, evB, evP, fl, gp, tab, simprocAttr, reduceCtorEq, reduceIte]
      refine fin_run ?_ (hK _ ?_) <;> clear hK <;> clear K
      · (first | exact trivial | omega | (simp only [In64] at *; omega) | (simp [In64] at *; omega) | (simp_all; done) | skip)
      refine qa ?_
      refine ⟨j + 1, [0], by omega, by omega, ?_⟩
      rw [cmr_succ n (op m n) e x hjl, ← List.append_assoc, msk_snoc, y3]
      simp only [leq, leA, ev0, evA, evB, evP, fl, gp, tab, simprocAttr, reduceCtorEq, reduceIte] <;> first | trivial | omega
    · (try simp only [nhs] at hC2)
      have hjn : j = (thl n r).length := by omega
      rw [hjn, List.take_length]
      refine qj (qc (qc (qf (qd (qa ?_)))))
      refine hk_region fun K hK => runs_eval tab_ok ?_
      simp only [ev0, evA, evB, evP, fl, gp, tab, simprocAttr, reduceCtorEq, reduceIte]
      refine fin_run ?_ (hK _ ?_) <;> clear hK <;> clear K
      · (first | exact trivial | omega | (simp only [In64] at *; omega) | (simp [In64] at *; omega) | (simp_all; done) | skip)
      refine qa ?_
      refine ⟨i + 1, [0], by omega, by omega, ?_⟩
      rw [cml_succ n (op m n) e (thl n r) hlt, x3]
      simp only [leq, leA, ev0, evA, evB, evP, fl, gp, tab, simprocAttr, reduceCtorEq, reduceIte] <;> first | trivial | omega
  · (try simp only [nhs] at hC1)
    have hin : i = (thl n p).length := by omega
    rw [hin, List.take_length]
    refine qj (qc (qc (qf (qa (qm ?_)))))
    refine hk_region fun K hK => runs_eval tab_ok ?_
    simp only [ev0, evA, evB, evP, fl, gp, tab, simprocAttr, reduceCtorEq, reduceIte]
    refine fin_stop trivial (runs_call (grow_c h (msk (cml n (op m n) e (thl n p) (thl n r))) (msk_lt fun z hz => by obtain ⟨a, a1, rfl⟩ := cml_rng G z hz; simpa using a1) q (fun a ha => by rw [gen_msk (cml_rng G)]; exact hq a ha)) rfl rfl rfl (by simp only [dstOk, Nat.reduceLT]) (by repeat (first | exact trivial | constructor)) (runs_eval tab_ok ?_))
    simp only [ev0, evA, evB, evP, fl, gp, tab, simprocAttr, reduceCtorEq, reduceIte]
    refine fin_run ?_ (hK _ ?_) <;> clear hK <;> clear K
    · (first | exact trivial | omega | (simp only [In64] at *; omega) | (simp [In64] at *; omega) | (simp_all; done) | skip)
    refine qa (qk ?_)
    simp only [Tryd.results102, enA, ev0, evA, evB, evP, fl, gp, tab, simprocAttr, reduceCtorEq, reduceIte]
    all_goals (rfl)

/-! ### Small words -/

end Go.Proofs.YtjikchbmkodgfaaDoor

/-
  Subgroups, conjugated: Moved, Normaliser, Normal, Core, Closure, and what the document has. Conditions: none.
-/
set_option linter.all false
namespace Go.Proofs.YtjikchbmkodgfaaDoor
open Go.Pv

/-- The fault of a set that is, or is not, a subgroup. -/
def ufb (b : Bool) : Int × Int := bif b then (0, 0) else (7, 0)

/-! ### A set, conjugated -/

def cjl (n : Nat) (f : Nat → Nat → Nat) (e a : Nat) (l : List Int) : List Int := l.map fun x => ((cjr n f e x.toNat a : Nat) : Int)
theorem cjl_succ (n : Nat) (f : Nat → Nat → Nat) (e a : Nat) {l : List Int} {i : Nat} (hi : i < l.length) : cjl n f e a (l.take (i + 1)) = cjl n f e a (l.take i) ++ [((cjr n f e (l.getD i 0).toNat a : Nat) : Int)] := by
  unfold cjl
  rw [List.take_succ_eq_append_getElem hi, List.map_append]
  have : l[i] = l.getD i 0 := by simp [List.getD, List.getElem?_eq_getElem hi]
  rw [this]; rfl
theorem mem_cjl {n e a : Nat} {f : Nat → Nat → Nat} {p : Nat → Bool} {x : Int} : x ∈ cjl n f e a (thl n p) ↔ ∃ y, y < n ∧ p y = true ∧ x = ((cjr n f e y a : Nat) : Int) := by
  unfold cjl
  rw [List.mem_map]
  constructor
  · rintro ⟨z, hz, rfl⟩
    obtain ⟨y, y1, y2, rfl⟩ := mem_thl.1 hz
    exact ⟨y, y1, y2, by simp⟩
  · rintro ⟨y, y1, y2, rfl⟩
    exact ⟨_, (mem_thl_n y1).2 y2, by simp⟩
theorem msk_cjl {n e a : Nat} {f : Nat → Nat → Nat} (G : Grp n f e) (p : Nat → Bool) (ha : a < n) : msk (cjl n f e a (thl n p)) = bo n (shf n f e p a) := by
  refine Nat.eq_of_testBit_eq fun i => ?_
  rw [msk_bit, bo_bit, Bool.eq_iff_iff, decide_eq_true_eq, Bool.and_eq_true, decide_eq_true_eq, shf_iff]
  constructor
  · rintro ⟨x, hx, rfl⟩
    obtain ⟨y, y1, y2, rfl⟩ := mem_cjl.1 hx
    exact ⟨by simpa using G.cjr_lt y1 ha, y, y1, y2, by simp⟩
  · rintro ⟨_, y, y1, y2, rfl⟩
    exact ⟨_, mem_cjl.2 ⟨y, y1, y2, rfl⟩, by simp⟩

theorem moved_s {n e : Nat} {m : List Int} (h : GT n m n e) (p : Nat → Bool) {a : Nat} (ha : a < n) : FnC Tryd.prog 90 [gp n m, .int .u64 (bo n p), .int .i64 a] (.int .u64 (bo n (shf n (op m n) e p a))) := by
  have G := h.2.2
  have hb := h.2.1.big
  have hlp := thl_le n p
  refine fnc_of tab_ok Tryd.func90 rfl (by kernel_rfl) (by rw [Tryd.ntmps90]; exact Nat.le_add_left 3 _) ?_; rw [Tryd.ntmps90]
  refine qm ?_
  refine hk_region fun K hK => runs_eval tab_ok ?_
  simp only [ev0, evA, evB, evP, fl, gp, tab, simprocAttr, reduceCtorEq, reduceIte]
  refine fin_run ?_ (hK _ ?_) <;> clear hK <;> clear K
  · (first | exact trivial | omega | (simp only [In64] at *; omega) | (simp [In64] at *; omega) | (simp_all; done) | skip)
  refine qa (qm ?_)
  refine hk_region fun K hK => runs_eval tab_ok ?_
  simp only [ev0, evA, evB, evP, fl, gp, tab, simprocAttr, reduceCtorEq, reduceIte]
  refine fin_run trivial (hK _ ?_) <;> clear hK <;> clear K
  refine qa (qm (qm ?_))
  refine hk_region fun K hK => runs_eval tab_ok ?_
  simp only [ev0, evA, evB, evP, fl, gp, tab, simprocAttr, reduceCtorEq, reduceIte]
  refine fin_stop trivial (runs_call (list_s (bo n p) (bo_lt64 hb p)) rfl rfl rfl (by simp only [dstOk, Nat.reduceLT]) (by repeat (first | exact trivial | constructor)) (runs_eval tab_ok ?_))
  simp only [ev0, evA, evB, evP, fl, gp, tab, simprocAttr, reduceCtorEq, reduceIte, stl_bo hb, il_length]
  refine fin_run trivial (hK _ ?_) <;> clear hK <;> clear K
  refine qa (ql ?_)
  refine hk_loop (ι := Nat) (fun i => ⟨26, [(2, .p (.int .i64 a)), (3, .ptr 0 0), (7, .p (.int .u64 (msk (cjl n (op m n) e a ((thl n p).take i))))), (11, .p (.list (il (thl n p)))), (12, .p (.int .i64 (thl n p).length)), (13, .p (.int .i64 i))], [.own [.p (.int .i64 n), .p (.list (il m))]]⟩) (fun i => i ≤ (thl n p).length) (fun i => (thl n p).length - i) 0 (Nat.zero_le _) [0] (by simp only [leq, leA, ev0, evA, evB, evP, fl, gp, tab, simprocAttr, reduceCtorEq, reduceIte] <;> first | trivial | simp [cjl, msk]) fun i hi => ?_
  refine qm ?_
  refine hk_region fun K hK => runs_eval tab_ok ?_
  simp only [ev0, evA, evB, evP, fl, gp, tab, simprocAttr, reduceCtorEq, reduceIte]
  refine fin_run trivial (hK _ ?_) <;> clear hK <;> clear K
  refine qa (qm ?_)
  refine hk_cond rfl (fun hC1 => ?_) (fun hC1 => ?_)
  · (try simp only [nhs] at hC1)
    have hlt : i < (thl n p).length := by omega
    obtain ⟨x, x1, x2, x3⟩ := thl_get hlt
    have hc := G.cjr_lt x1 ha
    have hp := pow_lt64 (b := cjr n (op m n) e x a) (by omega)
    have hall : ∀ z ∈ cjl n (op m n) e a ((thl n p).take i), z.toNat < n := fun z hz => by
      obtain ⟨w, hw, rfl⟩ := List.mem_map.1 hz
      obtain ⟨w', w1, w2⟩ := thl_rng2 w (List.mem_of_mem_take hw)
      subst w2
      exact G.cjr_lt w1 ha
    have hm := lt64 hb (msk_lt hall)
    refine qh (qa (qm (ql (qm ?_))))
    refine hk_region fun K hK => runs_eval tab_ok ?_
    simp only [ev0, evA, evB, evP, fl, gp, tab, simprocAttr, reduceCtorEq, reduceIte, il_get hlt, x3]
    refine fin_run ?_ (hK _ ?_) <;> clear hK <;> clear K
    · (first | exact trivial | omega | (simp only [In64] at *; omega) | (simp [In64] at *; omega) | (simp_all; done) | skip)
    refine qa ?_
    refine hk_region fun K hK => runs_eval tab_ok ?_
    simp only [ev0, evA, evB, evP, fl, gp, tab, simprocAttr, reduceCtorEq, reduceIte]
    refine fin_stop trivial (runs_call (conj_s h x1 ha) rfl rfl rfl (by simp only [dstOk, Nat.reduceLT]) (by repeat (first | exact trivial | constructor)) (runs_eval tab_ok ?_))
    simp only [ev0, evA, evB, evP, fl, gp, tab, simprocAttr, reduceCtorEq, reduceIte, shl_one (show cjr n (op m n) e x a < 64 by omega), bv_or hm hp]
    refine fin_run ?_ (hK _ ?_) <;> clear hK <;> clear K
    · (first | exact trivial | omega | (simp only [In64] at *; omega) | (simp [In64] at *; omega) | (simp_all; done) | skip)
    refine qd (qa ?_)
    refine hk_region fun K hK => runs_eval tab_ok ?_
    simp only [ev0, evA, evB, evP, fl, gp, tab, simprocAttr, reduceCtorEq, reduceIte]
    refine fin_run ?_ (hK _ ?_) <;> clear hK <;> clear K
    · (first | exact trivial | omega | (simp only [In64] at *; omega) | (simp [In64] at *; omega) | (simp_all; done) | skip)
    refine qa ?_
    refine ⟨i + 1, [0], by omega, by omega, ?_⟩
    rw [cjl_succ n (op m n) e a hlt, msk_snoc, x3]
    simp only [leq, leA, ev0, evA, evB, evP, fl, gp, tab, simprocAttr, reduceCtorEq, reduceIte] <;> first | trivial | omega
  · (try simp only [nhs] at hC1)
    have hin : i = (thl n p).length := by omega
    rw [hin, List.take_length, msk_cjl G p ha]
    refine qj (qc (qc (qf (qa (qm ?_)))))
    refine hk_region fun K hK => runs_eval tab_ok ?_
    simp only [ev0, evA, evB, evP, fl, gp, tab, simprocAttr, reduceCtorEq, reduceIte]
    refine fin_run trivial (hK _ ?_) <;> clear hK <;> clear K
    refine qa (qk ?_)
    simp only [Tryd.results90, enA, ev0, evA, evB, evP, fl, gp, tab, simprocAttr, reduceCtorEq, reduceIte]
    all_goals (rfl)

/-- What is in a set, and in it conjugated by things below a. -/
def crs (n : Nat) (f : Nat → Nat → Nat) (e : Nat) (p : Nat → Bool) (a y : Nat) : Bool := p y && decide (∀ b, b < a → shf n f e p b y = true)
theorem bo_and (n : Nat) (p q : Nat → Bool) : bo n p &&& bo n q = bo n fun a => p a && q a := by
  refine Nat.eq_of_testBit_eq fun i => ?_
  rw [Nat.testBit_and, bo_bit, bo_bit, bo_bit]
  cases decide (i < n) <;> simp
/-- What is in a set conjugated by things below a. -/
def cus (n : Nat) (f : Nat → Nat → Nat) (e : Nat) (p : Nat → Bool) (a y : Nat) : Bool := decide (∃ b, b < a ∧ shf n f e p b y = true)
/-! ### As the document has them -/

end Go.Proofs.YtjikchbmkodgfaaDoor

/-
  How many bits are set: by sums of neighbours. Conditions: none.
-/
set_option linter.all false
namespace Go.Proofs.YtjikchbmkodgfaaDoor
open Go.Pv

def msk8 (c : Nat) : Nat → Nat
  | 0 => 0
  | k + 1 => c + 256 * msk8 c k
def p1 (M x : Nat) : Nat := (x / 2 &&& M) + (x &&& M)
def p2 (M x : Nat) : Nat := (x / 4 &&& M) + (x &&& M)
def p3 (M x : Nat) : Nat := (x / 16 + x) &&& M
def pT (k x : Nat) : Nat := p3 (msk8 15 k) (p2 (msk8 51 k) (p1 (msk8 85 k) x))
def pM (k x : Nat) : Nat := p2 (msk8 51 k) (p1 (msk8 85 k) x)
def cnt (k x : Nat) : Nat := ((List.range k).filter x.testBit).length
def pcf (x : Nat) : Nat :=
  let y := pT 8 x
  let y4 := y + y / 256
  let y5 := y4 + y4 / 65536
  let y6 := y5 + y5 / 4294967296
  y6 % 128
theorem dv {a B q : Nat} (h : a < B) : (a + B * q) / B = q := by
  rw [Nat.add_mul_div_left _ _ (Nat.lt_of_le_of_lt (Nat.zero_le _) h), Nat.div_eq_of_lt h, Nat.zero_add]
theorem l3 {E0 E1 E2 E3 : Nat} (h0 : E0 ≤ 5000) (h1 : E1 ≤ 5000) (h2 : E2 ≤ 5000) (h3 : E3 ≤ 5000) :
    let y4 := E0 + 65536 * (E1 + 65536 * (E2 + 65536 * E3))
    let y5 := y4 + y4 / 65536
    (y5 + y5 / 4294967296) % 128 = (E0 + E1 + E2 + E3) % 128 := by
  intro y4 y5
  have a1 : y4 / 65536 = E1 + 65536 * (E2 + 65536 * E3) := dv (by omega)
  have a2 : y5 = ((E0 + E1) + 65536 * (E1 + E2)) + 4294967296 * ((E2 + E3) + 65536 * E3) := by
    show y4 + y4 / 65536 = _
    rw [a1]; show E0 + 65536 * (E1 + 65536 * (E2 + 65536 * E3)) + _ = _
    omega
  have a3 : y5 / 4294967296 = (E2 + E3) + 65536 * E3 := by rw [a2]; exact dv (by omega)
  rw [a3, a2]
  omega
theorem l1 {d0 d1 d2 d3 d4 d5 d6 d7 : Nat} : d0 + 256 * (d1 + 256 * (d2 + 256 * (d3 + 256 * (d4 + 256 * (d5 + 256 * (d6 + 256 * d7)))))) + (d1 + 256 * (d2 + 256 * (d3 + 256 * (d4 + 256 * (d5 + 256 * (d6 + 256 * d7)))))) =
    (d0 + d1 + 256 * (d1 + d2)) + 65536 * ((d2 + d3 + 256 * (d3 + d4)) + 65536 * ((d4 + d5 + 256 * (d5 + d6)) + 65536 * (d6 + d7 + 256 * d7))) := by
  omega

end Go.Proofs.YtjikchbmkodgfaaDoor

/-
  How many bits are set; lists compared. Conditions: none.
-/
set_option linter.all false
namespace Go.Proofs.YtjikchbmkodgfaaDoor
open Go.Pv

/-! ### Lists, compared -/

def cmpi (x y : Int) : Int := if x < y then -1 else if y < x then 1 else 0
def cmpL : List Int → List Int → Int
  | [], [] => 0
  | [], _ :: _ => -1
  | _ :: _, [] => 1
  | x :: v, y :: w => if cmpi x y = 0 then cmpL v w else cmpi x y
theorem isNaN_c (x : Int) : FnC Tryd.prog 147 [.int .i64 x] (.bool false) := by
  refine fnc_of tab_ok Tryd.func147 rfl (by kernel_rfl) (by rw [Tryd.ntmps147]; exact Nat.le_add_left 1 _) ?_; rw [Tryd.ntmps147]
  refine qm ?_
  refine hk_region fun K hK => runs_eval tab_ok ?_
  simp only [ev0, evA, evB, evP, fl, gp, tab, simprocAttr, reduceCtorEq, reduceIte]
  refine fin_run trivial (hK _ ?_) <;> clear hK <;> clear K
  refine qa (qm ?_)
  refine hk_region fun K hK => runs_eval tab_ok ?_
  simp only [ev0, evA, evB, evP, fl, gp, tab, simprocAttr, reduceCtorEq, reduceIte]
  refine fin_run trivial (hK _ ?_) <;> clear hK <;> clear K
  refine qa (qk ?_)
  simp only [Tryd.results147, enA, ev0, evA, evB, evP, fl, gp, tab, simprocAttr, reduceCtorEq, reduceIte]
  all_goals ((first | exact rfl | exact ⟨rfl, rfl⟩ | exact ⟨rfl, rfl, rfl⟩ | exact ⟨trivial, rfl⟩ | exact ⟨Nat.le_refl _, rfl⟩ | trivial | (simp; done)))
theorem compare_c (x y : Int) : FnC Tryd.prog 125 [.int .i64 x, .int .i64 y] (.int .i64 (cmpi x y)) := by
  refine fnc_of tab_ok Tryd.func125 rfl (by kernel_rfl) (by rw [Tryd.ntmps125]; exact Nat.le_add_left 2 _) ?_; rw [Tryd.ntmps125]
  refine qm ?_
  refine hk_region fun K hK => runs_eval tab_ok ?_
  simp only [ev0, evA, evB, evP, fl, gp, tab, simprocAttr, reduceCtorEq, reduceIte]
  refine fin_run trivial (hK _ ?_) <;> clear hK <;> clear K
  refine qa (qm ?_)
  refine hk_region fun K hK => runs_eval tab_ok ?_
  simp only [ev0, evA, evB, evP, fl, gp, tab, simprocAttr, reduceCtorEq, reduceIte]
  refine fin_stop trivial (runs_call (isNaN_c x) rfl rfl rfl (by simp only [dstOk, Nat.reduceLT]) (by repeat (first | exact trivial | constructor)) (runs_eval tab_ok ?_))
  simp only [ev0, evA, evB, evP, fl, gp, tab, simprocAttr, reduceCtorEq, reduceIte]
  refine fin_run trivial (hK _ ?_) <;> clear hK <;> clear K
  refine qa (qm ?_)
  refine hk_region fun K hK => runs_eval tab_ok ?_
  simp only [ev0, evA, evB, evP, fl, gp, tab, simprocAttr, reduceCtorEq, reduceIte]
  refine fin_stop trivial (runs_call (isNaN_c y) rfl rfl rfl (by simp only [dstOk, Nat.reduceLT]) (by repeat (first | exact trivial | constructor)) (runs_eval tab_ok ?_))
  simp only [ev0, evA, evB, evP, fl, gp, tab, simprocAttr, reduceCtorEq, reduceIte]
  refine fin_run trivial (hK _ ?_) <;> clear hK <;> clear K
  refine qa (qm (qm ?_))
  refine hk_region fun K hK => runs_eval tab_ok ?_
  simp only [ev0, evA, evB, evP, fl, gp, tab, simprocAttr, reduceCtorEq, reduceIte]
  refine fin_run trivial (hK _ ?_) <;> clear hK <;> clear K
  refine qa ?_
  refine hk_cond rfl (fun hC1 => ?_) (fun hC1 => ?_)
  · cases hC1
  · (try simp only [nhs] at hC1)
    refine qh (qa (qm (qm ?_)))
    refine hk_region fun K hK => runs_eval tab_ok ?_
    simp only [ev0, evA, evB, evP, fl, gp, tab, simprocAttr, reduceCtorEq, reduceIte]
    refine fin_run trivial (hK _ ?_) <;> clear hK <;> clear K
    refine qa ?_
    refine hk_cond rfl (fun hC3 => ?_) (fun hC3 => ?_)
    · cases hC3
    · (try simp only [nhs] at hC3)
      refine qh (qa (qm (qm ?_)))
      refine hk_region fun K hK => runs_eval tab_ok ?_
      simp only [ev0, evA, evB, evP, fl, gp, tab, simprocAttr, reduceCtorEq, reduceIte]
      refine fin_run trivial (hK _ ?_) <;> clear hK <;> clear K
      refine qa ?_
      refine hk_cond rfl (fun hC4 => ?_) (fun hC4 => ?_)
      · (try simp only [nhs] at hC4)
        refine qm ?_
        refine hk_region fun K hK => runs_eval tab_ok ?_
        simp only [ev0, evA, evB, evP, fl, gp, tab, simprocAttr, reduceCtorEq, reduceIte]
        refine fin_run trivial (hK _ ?_) <;> clear hK <;> clear K
        refine qa (qk (qb ?_))
        simp only [Tryd.results125, enA, ev0, evA, evB, evP, fl, gp, tab, simprocAttr, reduceCtorEq, reduceIte]
        all_goals (unfold cmpi; rw [if_pos hC4])
      · (try simp only [nhs] at hC4)
        refine qh (qa (qm (qm ?_)))
        refine hk_region fun K hK => runs_eval tab_ok ?_
        simp only [ev0, evA, evB, evP, fl, gp, tab, simprocAttr, reduceCtorEq, reduceIte]
        refine fin_run trivial (hK _ ?_) <;> clear hK <;> clear K
        refine qa ?_
        refine hk_cond rfl (fun hC5 => ?_) (fun hC5 => ?_)
        · (try simp only [nhs] at hC5)
          refine qm ?_
          refine hk_region fun K hK => runs_eval tab_ok ?_
          simp only [ev0, evA, evB, evP, fl, gp, tab, simprocAttr, reduceCtorEq, reduceIte]
          refine fin_run trivial (hK _ ?_) <;> clear hK <;> clear K
          refine qa (qk (qb ?_))
          simp only [Tryd.results125, enA, ev0, evA, evB, evP, fl, gp, tab, simprocAttr, reduceCtorEq, reduceIte]
          all_goals (unfold cmpi; rw [if_neg hC4, if_pos hC5])
        · (try simp only [nhs] at hC5)
          refine qh (qa (qm ?_))
          refine hk_region fun K hK => runs_eval tab_ok ?_
          simp only [ev0, evA, evB, evP, fl, gp, tab, simprocAttr, reduceCtorEq, reduceIte]
          refine fin_run trivial (hK _ ?_) <;> clear hK <;> clear K
          refine qa (qk ?_)
          simp only [Tryd.results125, enA, ev0, evA, evB, evP, fl, gp, tab, simprocAttr, reduceCtorEq, reduceIte]
          all_goals (unfold cmpi; rw [if_neg hC4, if_neg hC5])
theorem cmpL_drop {v w : List Int} : ∀ {i : Nat}, (∀ j, j < i → j < v.length → j < w.length ∧ cmpi (v.getD j 0) (w.getD j 0) = 0) → i ≤ v.length → cmpL v w = cmpL (v.drop i) (w.drop i)
  | 0, _, _ => rfl
  | i + 1, h, hi => by
    cases v with
    | nil => simp at hi
    | cons x v =>
      cases w with
      | nil => have := (h 0 (by omega) (by simp)).1; simp at this
      | cons y w =>
        have h0 := (h 0 (by omega) (by simp)).2
        simp at h0
        have ih := cmpL_drop (v := v) (w := w) (i := i) (fun j hj hjv => by
          have := h (j + 1) (by omega) (by simpa using hjv)
          simpa using this) (by simpa using hi)
        simp only [List.drop_succ_cons]
        rw [← ih]
        show (if cmpi x y = 0 then cmpL v w else cmpi x y) = _
        rw [if_pos h0]
theorem drop_getD {v : List Int} {i : Nat} (h : i < v.length) : v.drop i = v.getD i 0 :: v.drop (i + 1) := by
  rw [List.drop_eq_getElem_cons h]
  congr 1
  simp [List.getD, List.getElem?_eq_getElem h]
theorem compareL_c (v w : List Int) (hv : v.length ≤ 1000000000) (hw : w.length ≤ 1000000000) : FnC Tryd.prog 92 [.list (il v), .list (il w)] (.int .i64 (cmpL v w)) := by
  refine fnc_of tab_ok Tryd.func92 rfl (by kernel_rfl) (by rw [Tryd.ntmps92]; exact Nat.le_add_left 2 _) ?_; rw [Tryd.ntmps92]
  refine qm ?_
  refine hk_region fun K hK => runs_eval tab_ok ?_
  simp only [ev0, evA, evB, evP, fl, gp, tab, simprocAttr, reduceCtorEq, reduceIte]
  refine fin_run trivial (hK _ ?_) <;> clear hK <;> clear K
  refine qa (qm (qm ?_))
  refine hk_region fun K hK => runs_eval tab_ok ?_
  simp only [ev0, evA, evB, evP, fl, gp, tab, simprocAttr, reduceCtorEq, reduceIte, il_length]
  refine fin_run trivial (hK _ ?_) <;> clear hK <;> clear K
  refine qa (ql ?_)
  refine hk_loop (ι := Nat) (fun i => ⟨36, [(0, .p (.list (il v))), (1, .p (.list (il w))), (9, .p (.list (il v))), (10, .p (.int .i64 v.length)), (11, .p (.int .i64 i))], []⟩) (fun i => i ≤ v.length ∧ ∀ j, j < i → j < v.length → j < w.length ∧ cmpi (v.getD j 0) (w.getD j 0) = 0) (fun i => v.length - i) 0 ⟨Nat.zero_le _, fun j hj => by omega⟩ [] (by simp only [leq, leA, ev0, evA, evB, evP, fl, gp, tab, simprocAttr, reduceCtorEq, reduceIte] <;> trivial) fun i hi => ?_
  obtain ⟨hi1, hi2⟩ := hi
  have hd := cmpL_drop hi2 hi1
  refine qm ?_
  refine hk_region fun K hK => runs_eval tab_ok ?_
  simp only [ev0, evA, evB, evP, fl, gp, tab, simprocAttr, reduceCtorEq, reduceIte]
  refine fin_run trivial (hK _ ?_) <;> clear hK <;> clear K
  refine qa (qm ?_)
  refine hk_cond rfl (fun hC1 => ?_) (fun hC1 => ?_)
  · (try simp only [nhs] at hC1)
    have hlt : i < v.length := by omega
    have hdv := drop_getD hlt
    refine qh (qa (qm (ql (qm ?_))))
    refine hk_region fun K hK => runs_eval tab_ok ?_
    simp only [ev0, evA, evB, evP, fl, gp, tab, simprocAttr, reduceCtorEq, reduceIte, il_get hlt]
    refine fin_run ?_ (hK _ ?_) <;> clear hK <;> clear K
    · (first | exact trivial | omega | (simp only [In64] at *; omega) | (simp [In64] at *; omega) | (simp_all; done) | skip)
    refine qa (qm (qm ?_))
    refine hk_region fun K hK => runs_eval tab_ok ?_
    simp only [ev0, evA, evB, evP, fl, gp, tab, simprocAttr, reduceCtorEq, reduceIte, il_length]
    refine fin_run trivial (hK _ ?_) <;> clear hK <;> clear K
    refine qa ?_
    refine hk_cond rfl (fun hC2 => ?_) (fun hC2 => ?_)
    · (try simp only [nhs] at hC2)
      refine qm ?_
      refine hk_region fun K hK => runs_eval tab_ok ?_
      simp only [ev0, evA, evB, evP, fl, gp, tab, simprocAttr, reduceCtorEq, reduceIte]
      refine fin_run trivial (hK _ ?_) <;> clear hK <;> clear K
      refine qa (qk (qb (qe (qb (qb (qe (qb ?_)))))))
      simp only [Tryd.results92, enA, ev0, evA, evB, evP, fl, gp, tab, simprocAttr, reduceCtorEq, reduceIte]
      have hdw : w.drop i = [] := List.drop_eq_nil_of_le (by omega)
      rw [hd, hdv, hdw]; rfl
    · (try simp only [nhs] at hC2)
      have hlw : i < w.length := by omega
      have hdw := drop_getD hlw
      refine qh (qa (qm ?_))
      refine hk_region fun K hK => runs_eval tab_ok ?_
      simp only [ev0, evA, evB, evP, fl, gp, tab, simprocAttr, reduceCtorEq, reduceIte, il_get hlw]
      refine fin_run ?_ (hK _ ?_) <;> clear hK <;> clear K
      · (first | exact trivial | omega | (simp only [In64] at *; omega) | (simp [In64] at *; omega) | (simp_all; done) | skip)
      refine qa (qm ?_)
      refine hk_region fun K hK => runs_eval tab_ok ?_
      simp only [ev0, evA, evB, evP, fl, gp, tab, simprocAttr, reduceCtorEq, reduceIte]
      refine fin_stop trivial (runs_call (compare_c (v.getD i 0) (w.getD i 0)) rfl rfl rfl (by simp only [dstOk, Nat.reduceLT]) (by repeat (first | exact trivial | constructor)) (runs_eval tab_ok ?_))
      simp only [ev0, evA, evB, evP, fl, gp, tab, simprocAttr, reduceCtorEq, reduceIte]
      refine fin_run trivial (hK _ ?_) <;> clear hK <;> clear K
      refine qa (qm ?_)
      refine hk_region fun K hK => runs_eval tab_ok ?_
      simp only [ev0, evA, evB, evP, fl, gp, tab, simprocAttr, reduceCtorEq, reduceIte]
      refine fin_run trivial (hK _ ?_) <;> clear hK <;> clear K
      refine qa ?_
      refine hk_cond rfl (fun hC3 => ?_) (fun hC3 => ?_)
      · (try simp only [nhs] at hC3)
        refine qm ?_
        refine hk_region fun K hK => runs_eval tab_ok ?_
        simp only [ev0, evA, evB, evP, fl, gp, tab, simprocAttr, reduceCtorEq, reduceIte]
        refine fin_run trivial (hK _ ?_) <;> clear hK <;> clear K
        refine qa (qk (qe (qb (qb (qe (qb ?_))))))
        simp only [Tryd.results92, enA, ev0, evA, evB, evP, fl, gp, tab, simprocAttr, reduceCtorEq, reduceIte]
        rw [hd, hdv, hdw]
        show _ = if _ then _ else _
        rw [if_neg hC3]
      · (try simp only [nhs] at hC3)
        refine qh (qd (qa ?_))
        refine hk_region fun K hK => runs_eval tab_ok ?_
        simp only [ev0, evA, evB, evP, fl, gp, tab, simprocAttr, reduceCtorEq, reduceIte]
        refine fin_run ?_ (hK _ ?_) <;> clear hK <;> clear K
        · (first | exact trivial | omega | (simp only [In64] at *; omega) | (simp [In64] at *; omega) | (simp_all; done) | skip)
        refine qa ?_
        refine ⟨i + 1, [], ⟨by omega, fun j hj hjv => ?_⟩, by omega, ?_⟩
        · by_cases hji : j = i
          · rw [hji]; exact ⟨hlw, by simpa using hC3⟩
          · exact hi2 j (by omega) hjv
        · simp only [leq, leA, ev0, evA, evB, evP, fl, gp, tab, simprocAttr, reduceCtorEq, reduceIte] <;> omega
  · (try simp only [nhs] at hC1)
    have hin : i = v.length := by omega
    have hdv : v.drop i = [] := List.drop_eq_nil_of_le (by omega)
    refine qj (qc (qc (qf (qa (qm (qm ?_))))))
    refine hk_region fun K hK => runs_eval tab_ok ?_
    simp only [ev0, evA, evB, evP, fl, gp, tab, simprocAttr, reduceCtorEq, reduceIte, il_length]
    refine fin_run trivial (hK _ ?_) <;> clear hK <;> clear K
    refine qa ?_
    refine hk_cond rfl (fun hC4 => ?_) (fun hC4 => ?_)
    · (try simp only [nhs] at hC4)
      refine qm ?_
      refine hk_region fun K hK => runs_eval tab_ok ?_
      simp only [ev0, evA, evB, evP, fl, gp, tab, simprocAttr, reduceCtorEq, reduceIte]
      refine fin_run trivial (hK _ ?_) <;> clear hK <;> clear K
      refine qa (qk (qb ?_))
      simp only [Tryd.results92, enA, ev0, evA, evB, evP, fl, gp, tab, simprocAttr, reduceCtorEq, reduceIte]
      all_goals (rw [hd, hdv, drop_getD (v := w) (i := i) (by omega)]; rfl)
    · (try simp only [nhs] at hC4)
      refine qh (qa (qm ?_))
      refine hk_region fun K hK => runs_eval tab_ok ?_
      simp only [ev0, evA, evB, evP, fl, gp, tab, simprocAttr, reduceCtorEq, reduceIte]
      refine fin_run trivial (hK _ ?_) <;> clear hK <;> clear K
      refine qa (qk ?_)
      simp only [Tryd.results92, enA, ev0, evA, evB, evP, fl, gp, tab, simprocAttr, reduceCtorEq, reduceIte]
      have hdw : w.drop i = [] := by
        refine List.drop_eq_nil_of_le ?_
        omega
      rw [hd, hdv, hdw]; rfl

/-! ### An order -/

theorem cmpi_lt {x y : Int} : cmpi x y < 0 ↔ x < y := by
  unfold cmpi
  by_cases h1 : x < y
  · simp [h1]
  · by_cases h2 : y < x <;> simp [h1, h2]
theorem cmpi_eq {x y : Int} : cmpi x y = 0 ↔ x = y := by
  unfold cmpi
  by_cases h1 : x < y
  · simp [h1]; omega
  · by_cases h2 : y < x
    · simp [h1, h2]; omega
    · simp [h1, h2]; omega
theorem cmpL_self : ∀ v : List Int, cmpL v v = 0
  | [] => rfl
  | x :: v => by show (if cmpi x x = 0 then cmpL v v else cmpi x x) = 0; rw [if_pos (cmpi_eq.2 rfl)]; exact cmpL_self v
theorem cmpL_cons_lt {x y : Int} {v w : List Int} : cmpL (x :: v) (y :: w) < 0 ↔ x < y ∨ x = y ∧ cmpL v w < 0 := by
  show (if cmpi x y = 0 then cmpL v w else cmpi x y) < 0 ↔ _
  by_cases h : cmpi x y = 0
  · rw [if_pos h]
    have := cmpi_eq.1 h
    constructor
    · exact fun h2 => .inr ⟨this, h2⟩
    · rintro (h2 | h2)
      · omega
      · exact h2.2
  · rw [if_neg h, cmpi_lt]
    have : ¬ x = y := fun e => h (cmpi_eq.2 e)
    constructor
    · exact fun h2 => .inl h2
    · rintro (h2 | h2)
      · exact h2
      · exact absurd h2.1 this
theorem cmpL_tot : ∀ v w : List Int, ¬ cmpL v w < 0 → ¬ cmpL w v < 0 → v = w
  | [], [], _, _ => rfl
  | [], _ :: _, h, _ => absurd (show (-1 : Int) < 0 by omega) h
  | _ :: _, [], _, h => absurd (show (-1 : Int) < 0 by omega) h
  | x :: v, y :: w, h1, h2 => by
    rw [cmpL_cons_lt] at h1 h2
    have hxy : x = y := by omega
    subst hxy
    rw [cmpL_tot v w (fun h => h1 (.inr ⟨rfl, h⟩)) (fun h => h2 (.inr ⟨rfl, h⟩))]
theorem cmpL_trans : ∀ u v w : List Int, cmpL u v < 0 → cmpL v w < 0 → cmpL u w < 0
  | [], [], _, h, _ => absurd h (by simp [cmpL])
  | [], _ :: _, [], _, h => absurd h (by simp [cmpL])
  | [], _ :: _, _ :: _, _, _ => by simp [cmpL]
  | _ :: _, [], _, h, _ => absurd h (by simp [cmpL])
  | _ :: _, _ :: _, [], _, h => absurd h (by simp [cmpL])
  | x :: u, y :: v, z :: w, h1, h2 => by
    rw [cmpL_cons_lt] at h1 h2 ⊢
    rcases h1 with h1 | ⟨rfl, h1⟩
    · rcases h2 with h2 | ⟨rfl, h2⟩
      · exact .inl (by omega)
      · exact .inl h1
    · rcases h2 with h2 | ⟨rfl, h2⟩
      · exact .inl h2
      · exact .inr ⟨rfl, cmpL_trans u v w h1 h2⟩
theorem cmpL_ntrans (u v w : List Int) (h1 : ¬ cmpL u v < 0) (h2 : ¬ cmpL v w < 0) : ¬ cmpL u w < 0 := fun h => by
  by_cases h3 : cmpL v u < 0
  · exact h2 (cmpL_trans _ _ _ h3 h)
  · rw [cmpL_tot _ _ h1 h3] at h; exact h2 h

/-- Sets: by how many, then by lists. -/
def cmpS (a b : List Int) : Int := if (a.length : Int) - (b.length : Int) = 0 then cmpL a b else (a.length : Int) - (b.length : Int)
theorem cmpS_lt {a b : List Int} : cmpS a b < 0 ↔ a.length < b.length ∨ a.length = b.length ∧ cmpL a b < 0 := by
  unfold cmpS
  by_cases h : (a.length : Int) - (b.length : Int) = 0
  · rw [if_pos h]; constructor
    · exact fun h2 => .inr ⟨by omega, h2⟩
    · rintro (h2 | h2)
      · omega
      · exact h2.2
  · rw [if_neg h]; omega
theorem cmpS_self (v : List Int) : ¬ cmpS v v < 0 := by
  rw [cmpS_lt, cmpL_self]; omega
end Go.Proofs.YtjikchbmkodgfaaDoor

/-
  Tables by a rule. Conditions: none.
-/
set_option linter.all false
namespace Go.Proofs.YtjikchbmkodgfaaDoor
open Go.Pv

theorem Grp.cong' {n : Nat} {f f' : Nat → Nat → Nat} {e : Nat} (G : Grp n f e) (h : ∀ a b, a < n → b < n → f' a b = f a b) : Grp n f' e := by
  refine ⟨G.pos, fun a b ha hb => by rw [h a b ha hb]; exact G.cl a b ha hb, G.el, fun a ha => by rw [h e a G.el ha]; exact G.one_l a ha, fun a ha => by rw [h a e ha G.el]; exact G.one_r a ha, fun a b c ha hb hc => ?_, fun a ha => ?_⟩
  · rw [h a b ha hb, h _ c (G.cl a b ha hb) hc, h b c hb hc, h a _ ha (G.cl b c hb hc)]
    exact G.assoc a b c ha hb hc
  · obtain ⟨b, hb, h1, h2⟩ := G.inv a ha
    exact ⟨b, hb, by rw [h a b ha hb]; exact h1, by rw [h b a hb ha]; exact h2⟩
end Go.Proofs.YtjikchbmkodgfaaDoor

/-
  Operations that are the same on a group's things: inverses, conjugates, what is made. Conditions: none.
-/
set_option linter.all false
namespace Go.Proofs.YtjikchbmkodgfaaDoor
open Go.Pv

section
variable {n e : Nat} {f g : Nat → Nat → Nat} {p : Nat → Bool}

theorem iv_cong (G : Grp n f e) (h : ∀ a b, a < n → b < n → g a b = f a b) {a : Nat} (ha : a < n) : iv n g e a = iv n f e a := by
  have G' := G.cong' h
  refine (G'.iv_unique ha (G.iv_lt ha) (.inl ?_)).symm
  rw [h _ _ ha (G.iv_lt ha), G.mul_iv ha]
theorem cjr_cong (G : Grp n f e) (h : ∀ a b, a < n → b < n → g a b = f a b) {x a : Nat} (hx : x < n) (ha : a < n) : cjr n g e x a = cjr n f e x a := by
  unfold cjr
  rw [iv_cong G h ha, h _ _ (G.iv_lt ha) hx, h _ _ (G.cl _ _ (G.iv_lt ha) hx) ha]
theorem Gen.cong_op (G : Grp n f e) (h : ∀ a b, a < n → b < n → g a b = f a b) {a : Nat} (hg : Gen n g e p a) : Gen n f e p a := by
  have G' := G.cong' h
  induction hg with
  | one => exact .one
  | step a b ha hb hp ih => rw [h a b (ih.lt G) hb]; exact .step a b ih hb hp
theorem Sub.cong_op (G : Grp n f e) (h : ∀ a b, a < n → b < n → g a b = f a b) (hs : Sub n g e p) : Sub n f e p :=
  sub_of G hs.one fun a b ha hb h1 h2 => by rw [← h a b ha hb]; exact hs.mul a b ha hb h1 h2
theorem Nml.cong_op (G : Grp n f e) (h : ∀ a b, a < n → b < n → g a b = f a b) (hs : Nml n g e p) : Nml n f e p := fun a ha x hx hp => by
  rw [← cjr_cong G h hx ha]; exact hs a ha x hx hp
end
end Go.Proofs.YtjikchbmkodgfaaDoor

/-
  All subgroups of a group, in their order. Conditions: none.
-/
set_option linter.all false
namespace Go.Proofs.YtjikchbmkodgfaaDoor
open Go.Pv

def wta (p : Nat → Bool) (a x : Nat) : Bool := p x || decide (x = a)
theorem bo_wta {n a : Nat} (p : Nat → Bool) (ha : a < n) : bo n p ||| 2 ^ a = bo n (wta p a) := by
  refine Nat.eq_of_testBit_eq fun i => ?_
  rw [Nat.testBit_or, bo_bit, bo_bit, Nat.testBit_two_pow]
  unfold wta
  by_cases hi : i < n
  · simp [hi, eq_comm]
  · have : ¬ a = i := by omega
    simp [hi, this]
theorem onp_gen {n e : Nat} {f : Nat → Nat → Nat} : ∀ a, a < n → (onp e a = true ↔ Gen n f e (Nat.testBit 0) a) := fun a ha => by
  rw [onp_iff]
  constructor
  · rintro rfl; exact .one
  · intro hg
    exact Gen.least (H := fun a => a = e) rfl (fun a b _ _ hb _ => by simp at hb) hg

section
variable {n e : Nat} {f : Nat → Nat → Nat}

/-- With one thing more, what is made is there. -/
def Dn (n : Nat) (f : Nat → Nat → Nat) (e x a : Nat) (L : List Nat) : Prop := ∀ q : Nat → Bool, (∀ y, y < n → (q y = true ↔ Gen n f e (wta x.testBit a) y)) → bo n q ∈ L
theorem Dn.mono {x a : Nat} {L L' : List Nat} (h : Dn n f e x a L) (hs : ∀ y ∈ L, y ∈ L') : Dn n f e x a L' := fun q hq => hs _ (h q hq)

/-- All subgroups; each once. -/
structure AllI (n : Nat) (f : Nat → Nat → Nat) (e : Nat) (L : List Nat) : Prop where
  nodup : L.Nodup
  subs : ∀ x ∈ L, ∃ p, Sub n f e p ∧ x = bo n p
  one : bo n (onp e) ∈ L
theorem AllI.lt {L : List Nat} (h : AllI n f e L) : ∀ x ∈ L, x < 2 ^ n := fun x hx => by
  obtain ⟨p, _, rfl⟩ := h.subs x hx
  exact bo_lt n p
theorem AllI.len {L : List Nat} (h : AllI n f e L) : L.length ≤ 2 ^ n := nodup_lt h.nodup h.lt
theorem AllI.all {L : List Nat} (G : Grp n f e) (h : AllI n f e L) (hd : ∀ x ∈ L, ∀ a, a < n → Dn n f e x a L) : ∀ p, Sub n f e p → bo n p ∈ L := by
  intro q hq
  -- from what is there, inside q, up
  have go : ∀ c (p : Nat → Bool), Sub n f e p → bo n p ∈ L → (∀ y, y < n → p y = true → q y = true) → (mem n q).length - (mem n p).length ≤ c → bo n q ∈ L := by
    intro c
    induction c with
    | zero =>
      intro p hp hL hle hc
      have hall : ∀ y, y < n → q y = p y := by
        refine Classical.byContradiction fun hh => ?_
        have := mem_lt (p := q) (q := p) hle (fun h2 => hh fun y hy => (h2 y hy).symm)
        omega
      rw [bo_congr hall]; exact hL
    | succ c ih =>
      intro p hp hL hle hc
      by_cases hall : ∀ y, y < n → q y = p y
      · rw [bo_congr hall]; exact hL
      · have hex : ∃ a, a < n ∧ q a = true ∧ p a = false := by
          refine Classical.byContradiction fun hh => hall fun y hy => ?_
          cases hpy : p y with
          | true => exact hle y hy hpy
          | false =>
            cases hqy : q y with
            | false => rfl
            | true => exact absurd ⟨y, hy, hqy, hpy⟩ hh
        obtain ⟨a, ha, qa, pa⟩ := hex
        obtain ⟨r, hr⟩ := gen_ex n f e (wta (bo n p).testBit a)
        have hrL := hd _ hL a ha r hr
        have hin : ∀ b, b < n → wta (bo n p).testBit a b = true → q b = true := fun b hb hw => by
          unfold wta at hw
          rw [bo_bit, Bool.or_eq_true, Bool.and_eq_true, decide_eq_true_eq, decide_eq_true_eq] at hw
          rcases hw with hw | hw
          · exact hle b hb hw.2
          · rw [hw]; exact qa
        have hrq : ∀ y, y < n → r y = true → q y = true := fun y hy h1 => ((hr y hy).1 h1).sub G hq hin
        have hpr : ∀ y, y < n → p y = true → r y = true := fun y hy h1 => (hr y hy).2 (Gen.mem G hy (by unfold wta; rw [bo_bit]; simp [hy, h1]))
        have hra : r a = true := (hr a ha).2 (Gen.mem G ha (by unfold wta; simp))
        have hlt := mem_lt (p := r) (q := p) hpr (fun h2 => by have := h2 a ha; rw [pa, hra] at this; cases this)
        exact ih r (gen_sub G hr) hrL hrq (by omega)
  exact go _ (onp e) G.onp_sub h.one (fun y hy h1 => by rw [onp_iff] at h1; rw [h1]; exact hq.one) (Nat.le_refl _)

/-- .. in their order. -/
structure AllS (n : Nat) (f : Nat → Nat → Nat) (e : Nat) (L : List Nat) : Prop where
  subs : ∀ x ∈ L, ∃ p, Sub n f e p ∧ x = bo n p
  all : ∀ p, Sub n f e p → bo n p ∈ L
  rise : L.Pairwise fun x y => cmpS (stl x) (stl y) < 0
theorem AllS.nodup {L : List Nat} (h : AllS n f e L) : L.Nodup := h.rise.imp fun {x y} hxy he => by
  subst he; exact cmpS_self _ hxy
theorem stl_inj {x y : Nat} (hx : x < 2 ^ 64) (hy : y < 2 ^ 64) (h : stl x = stl y) : x = y := by
  refine Nat.eq_of_testBit_eq fun i => ?_
  by_cases hi : i < 64
  · exact thl_inj h hi
  · have h1 := Nat.testBit_lt_two_pow (Nat.lt_of_lt_of_le hx (Nat.pow_le_pow_right (by omega) (Nat.le_of_not_lt hi)))
    have h2 := Nat.testBit_lt_two_pow (Nat.lt_of_lt_of_le hy (Nat.pow_le_pow_right (by omega) (Nat.le_of_not_lt hi)))
    rw [h1, h2]
/-- Put into a list that rises. -/
def insS (x : Nat) : List Nat → List Nat
  | [] => [x]
  | y :: r => if cmpS (stl x) (stl y) < 0 then x :: y :: r else y :: insS x r
end
end Go.Proofs.YtjikchbmkodgfaaDoor

/-
  Sylow's subgroups, as the program has them: look, Cauchy, one. Conditions: none.
-/
set_option linter.all false
namespace Go.Proofs.YtjikchbmkodgfaaDoor
open Go.Pv

theorem isPrime_r (p : Nat) : FnC Tryd.prog 64 [.int .i64 p] (.bool (decide (isPr p))) := by
  refine fnc_of tab_ok Tryd.func64 rfl (by kernel_rfl) (by rw [Tryd.ntmps64]; exact Nat.le_add_left 1 _) ?_; rw [Tryd.ntmps64]
  refine qm ?_
  refine hk_region fun K hK => runs_eval tab_ok ?_
  simp only [ev0, evA, evB, evP, fl, gp, tab, simprocAttr, reduceCtorEq, reduceIte]
  refine fin_run trivial (hK _ ?_) <;> clear hK <;> clear K
  refine qa (qm (qm ?_))
  by_cases g1a : (p : Int) < 2
  · refine hk_region fun K hK => runs_eval tab_ok ?_
    simp only [ev0, evA, evB, evP, fl, gp, tab, simprocAttr, reduceCtorEq, reduceIte, decide_eq_true g1a]
    refine fin_run trivial (hK _ ?_) <;> clear hK <;> clear K
    refine qa ?_
    refine hk_cond rfl (fun hC1 => ?_) (fun hC1 => ?_)
    · refine qm ?_
      refine hk_region fun K hK => runs_eval tab_ok ?_
      simp only [ev0, evA, evB, evP, fl, gp, tab, simprocAttr, reduceCtorEq, reduceIte]
      refine fin_run trivial (hK _ ?_) <;> clear hK <;> clear K
      refine qa (qk (qb ?_))
      simp only [Tryd.results64, enA, ev0, evA, evB, evP, fl, gp, tab, simprocAttr, reduceCtorEq, reduceIte]
      all_goals (rw [eq_comm]; exact decide_eq_false fun h => by have := h.1; omega)
    · cases hC1
  · refine hk_region fun K hK => runs_eval tab_ok ?_
    simp only [ev0, evA, evB, evP, fl, gp, tab, simprocAttr, reduceCtorEq, reduceIte, decide_eq_false g1a]
    refine fin_run trivial (hK _ ?_) <;> clear hK <;> clear K
    refine qa ?_
    refine hk_cond rfl (fun hC1 => ?_) (fun hC1 => ?_)
    · (try simp only [nhs] at hC1)
      refine qm ?_
      refine hk_region fun K hK => runs_eval tab_ok ?_
      simp only [ev0, evA, evB, evP, fl, gp, tab, simprocAttr, reduceCtorEq, reduceIte]
      refine fin_run trivial (hK _ ?_) <;> clear hK <;> clear K
      refine qa (qk (qb ?_))
      simp only [Tryd.results64, enA, ev0, evA, evB, evP, fl, gp, tab, simprocAttr, reduceCtorEq, reduceIte]
      all_goals (rw [eq_comm]; exact decide_eq_false fun h => by have := h.2.1; omega)
    · (try simp only [nhs] at hC1)
      refine qh (qa (qm (qm ?_)))
      refine hk_region fun K hK => runs_eval tab_ok ?_
      simp only [ev0, evA, evB, evP, fl, gp, tab, simprocAttr, reduceCtorEq, reduceIte]
      refine fin_run trivial (hK _ ?_) <;> clear hK <;> clear K
      refine qa (ql ?_)
      refine hk_loop (ι := Nat) (fun d => ⟨19, [(0, .p (.int .i64 p)), (3, .p (.int .i64 d))], []⟩) (fun d => 2 ≤ d ∧ d ≤ p ∧ ∀ c, c < d → 2 ≤ c → ¬ p % c = 0) (fun d => p - d) 2 ⟨Nat.le_refl _, by omega, fun c hc h => by omega⟩ [] (by simp only [leq, leA, ev0, evA, evB, evP, fl, gp, tab, simprocAttr, reduceCtorEq, reduceIte] <;> trivial) fun d hd => ?_
      obtain ⟨hd1, hd2, hd3⟩ := hd
      refine qm (qm ?_)
      refine hk_region fun K hK => runs_eval tab_ok ?_
      simp only [ev0, evA, evB, evP, fl, gp, tab, simprocAttr, reduceCtorEq, reduceIte]
      refine fin_run trivial (hK _ ?_) <;> clear hK <;> clear K
      refine qa ?_
      refine hk_cond rfl (fun hC2 => ?_) (fun hC2 => ?_)
      · (try simp only [nhs] at hC2)
        refine qh (qa (qm (ql (qm ?_))))
        refine hk_region fun K hK => runs_eval tab_ok ?_
        simp only [ev0, evA, evB, evP, fl, gp, tab, simprocAttr, reduceCtorEq, reduceIte, tm_nat]
        refine fin_run ?_ (hK _ ?_) <;> clear hK <;> clear K
        · (first | exact trivial | omega | (simp only [In64] at *; omega) | (simp [In64] at *; omega) | (simp_all; done) | skip)
        refine qa ?_
        refine hk_cond rfl (fun hC3 => ?_) (fun hC3 => ?_)
        · (try simp only [nhs] at hC3)
          refine qm ?_
          refine hk_region fun K hK => runs_eval tab_ok ?_
          simp only [ev0, evA, evB, evP, fl, gp, tab, simprocAttr, reduceCtorEq, reduceIte]
          refine fin_run trivial (hK _ ?_) <;> clear hK <;> clear K
          refine qa (qk (qe (qb (qb (qe (qb ?_))))))
          simp only [Tryd.results64, enA, ev0, evA, evB, evP, fl, gp, tab, simprocAttr, reduceCtorEq, reduceIte]
          all_goals (rw [eq_comm]; exact decide_eq_false fun h => h.2.2 d (by omega) hd1 (by omega))
        · (try simp only [nhs] at hC3)
          refine qh (qd (qa ?_))
          refine hk_region fun K hK => runs_eval tab_ok ?_
          simp only [ev0, evA, evB, evP, fl, gp, tab, simprocAttr, reduceCtorEq, reduceIte]
          refine fin_run ?_ (hK _ ?_) <;> clear hK <;> clear K
          · (first | exact trivial | omega | (simp only [In64] at *; omega) | (simp [In64] at *; omega) | (simp_all; done) | skip)
          refine qa ?_
          refine ⟨d + 1, [], ⟨by omega, by omega, fun c hc h2 => ?_⟩, by omega, ?_⟩
          · by_cases hcd : c = d
            · subst hcd; omega
            · exact hd3 c (by omega) h2
          · simp only [leq, leA, ev0, evA, evB, evP, fl, gp, tab, simprocAttr, reduceCtorEq, reduceIte] <;> omega
      · (try simp only [nhs] at hC2)
        refine qj (qc (qc (qf (qa (qm ?_)))))
        refine hk_region fun K hK => runs_eval tab_ok ?_
        simp only [ev0, evA, evB, evP, fl, gp, tab, simprocAttr, reduceCtorEq, reduceIte]
        refine fin_run trivial (hK _ ?_) <;> clear hK <;> clear K
        refine qa (qk ?_)
        simp only [Tryd.results64, enA, ev0, evA, evB, evP, fl, gp, tab, simprocAttr, reduceCtorEq, reduceIte]
        all_goals (rw [eq_comm]; exact decide_eq_true ⟨by omega, by omega, fun c hc h2 => hd3 c (by omega) h2⟩)

theorem sprime_c (p : Nat) (h2 : 2 ≤ p) (h100 : p ≤ 100) : FnC Tryd.prog 119 [.int .i64 p] (.bool (decide (isPr p))) := by
  refine fnc_of tab_ok Tryd.func119 rfl (by kernel_rfl) (by rw [Tryd.ntmps119]; exact Nat.le_add_left 1 _) ?_; rw [Tryd.ntmps119]
  refine qm ?_
  refine hk_region fun K hK => runs_eval tab_ok ?_
  simp only [ev0, evA, evB, evP, fl, gp, tab, simprocAttr, reduceCtorEq, reduceIte]
  refine fin_run trivial (hK _ ?_) <;> clear hK <;> clear K
  refine qa (qm (qm ?_))
  refine hk_region fun K hK => runs_eval tab_ok ?_
  simp only [ev0, evA, evB, evP, fl, gp, tab, simprocAttr, reduceCtorEq, reduceIte]
  refine fin_run trivial (hK _ ?_) <;> clear hK <;> clear K
  refine qa (ql ?_)
  refine hk_loop (ι := Nat) (fun d => ⟨17, [(0, .p (.int .i64 p)), (3, .p (.int .i64 d))], []⟩) (fun d => 2 ≤ d ∧ d ≤ p ∧ ∀ c, c < d → 2 ≤ c → ¬ p % c = 0) (fun d => p - d) 2 ⟨Nat.le_refl _, h2, fun c hc h => by omega⟩ [] (by simp only [leq, leA, ev0, evA, evB, evP, fl, gp, tab, simprocAttr, reduceCtorEq, reduceIte] <;> trivial) fun d hd => ?_
  obtain ⟨hd1, hd2, hd3⟩ := hd
  have hdd : d * d ≤ 10000 := Nat.mul_le_mul (show d ≤ 100 by omega) (show d ≤ 100 by omega)
  have hci : (d : Int) * (d : Int) = ((d * d : Nat) : Int) := by rw [Int.natCast_mul]
  refine qm (qm ?_)
  refine hk_region fun K hK => runs_eval tab_ok ?_
  simp only [ev0, evA, evB, evP, fl, gp, tab, simprocAttr, reduceCtorEq, reduceIte, hci]
  refine fin_run ?_ (hK _ ?_) <;> clear hK <;> clear K
  · simp only [In64]; omega
  refine qa ?_
  refine hk_cond rfl (fun hC1 => ?_) (fun hC1 => ?_)
  · (try simp only [nhs] at hC1)
    have h3 : d * d ≤ p := by omega
    have h4 : 2 * d ≤ d * d := Nat.mul_le_mul_right _ hd1
    refine qh (qa (qm (ql (qm ?_))))
    refine hk_region fun K hK => runs_eval tab_ok ?_
    simp only [ev0, evA, evB, evP, fl, gp, tab, simprocAttr, reduceCtorEq, reduceIte, tm_nat]
    refine fin_run ?_ (hK _ ?_) <;> clear hK <;> clear K
    · (first | exact trivial | omega | (simp only [In64] at *; omega) | (simp [In64] at *; omega) | (simp_all; done) | skip)
    refine qa ?_
    refine hk_cond rfl (fun hC2 => ?_) (fun hC2 => ?_)
    · (try simp only [nhs] at hC2)
      refine qm ?_
      refine hk_region fun K hK => runs_eval tab_ok ?_
      simp only [ev0, evA, evB, evP, fl, gp, tab, simprocAttr, reduceCtorEq, reduceIte]
      refine fin_run trivial (hK _ ?_) <;> clear hK <;> clear K
      refine qa (qk (qe (qb (qb (qe (qb ?_))))))
      simp only [Tryd.results119, enA, ev0, evA, evB, evP, fl, gp, tab, simprocAttr, reduceCtorEq, reduceIte]
      all_goals (rw [eq_comm]; exact decide_eq_false fun h => h.2.2 d (by omega) hd1 (by omega))
    · (try simp only [nhs] at hC2)
      refine qh (qd (qa ?_))
      refine hk_region fun K hK => runs_eval tab_ok ?_
      simp only [ev0, evA, evB, evP, fl, gp, tab, simprocAttr, reduceCtorEq, reduceIte]
      refine fin_run ?_ (hK _ ?_) <;> clear hK <;> clear K
      · (first | exact trivial | omega | (simp only [In64] at *; omega) | (simp [In64] at *; omega) | (simp_all; done) | skip)
      refine qa ?_
      refine ⟨d + 1, [], ⟨by omega, by omega, fun c hc h2 => ?_⟩, by omega, ?_⟩
      · by_cases hcd : c = d
        · subst hcd; omega
        · exact hd3 c (by omega) h2
      · simp only [leq, leA, ev0, evA, evB, evP, fl, gp, tab, simprocAttr, reduceCtorEq, reduceIte] <;> omega
  · (try simp only [nhs] at hC1)
    refine qj (qc (qc (qf (qa (qm ?_)))))
    refine hk_region fun K hK => runs_eval tab_ok ?_
    simp only [ev0, evA, evB, evP, fl, gp, tab, simprocAttr, reduceCtorEq, reduceIte]
    refine fin_run trivial (hK _ ?_) <;> clear hK <;> clear K
    refine qa (qk ?_)
    simp only [Tryd.results119, enA, ev0, evA, evB, evP, fl, gp, tab, simprocAttr, reduceCtorEq, reduceIte]
    rw [decide_eq_true (show (p : Int) > 1 by omega), eq_comm]
    refine decide_eq_true ⟨h2, h100, fun c hc hc2 hcp => ?_⟩
    have h3 : ¬ d * d ≤ p := by omega
    rcases Nat.lt_or_ge c d with h4 | h4
    · exact hd3 c h4 hc2 hcp
    · obtain ⟨q, hq⟩ := Nat.dvd_of_mod_eq_zero hcp
      have h5 : q < d := by
        refine Nat.lt_of_not_le fun h5 => ?_
        have : d * d ≤ c * q := Nat.mul_le_mul h4 h5
        omega
      have h6 : 2 ≤ q := by
        refine Nat.le_of_not_lt fun h6 => ?_
        have : c * q ≤ c * 1 := Nat.mul_le_mul_left _ (by omega)
        omega
      exact hd3 q h5 h6 (by rw [hq]; exact Nat.mul_mod_left c q)

/-- The fault of a group and a prime. -/
def syf (N : Int) (m : List Int) (p : Int) : Int × Int := bif decide ((gf N m).1 = 0) then (bif decide (isPr p.toNat) then (0, 0) else (3, 1)) else gf N m
theorem syf_no {N : Int} {m : List Int} {p : Int} (h : ¬ (gf N m).1 = 0) : syf N m p = gf N m := by unfold syf; rw [decide_eq_false h]; rfl
theorem syf_at {N : Int} {m : List Int} {p : Int} (h : (gf N m).1 = 0) : syf N m p = bif decide (isPr p.toNat) then (0, 0) else (3, 1) := by unfold syf; rw [decide_eq_true h]; rfl
theorem syf_of {n e P : Nat} {m : List Int} (h : GT n m n e) (hP : isPr P) : syf n m P = (0, 0) := by
  have hg := gf_of h
  rw [syf_at (by rw [hg])]
  rw [decide_eq_true (show isPr ((P : Int)).toNat by rw [Int.toNat_natCast]; exact hP)]; rfl

theorem syfault_c (c a : Int) : FnC Tryd.prog 120 [.int .i64 c, .int .i64 a] (fl (c, a)) := by
  refine fnc_of tab_ok Tryd.func120 rfl (by kernel_rfl) (by rw [Tryd.ntmps120]; exact Nat.le_add_left 2 _) ?_; rw [Tryd.ntmps120]
  refine qm ?_
  refine hk_region fun K hK => runs_eval tab_ok ?_
  simp only [ev0, evA, evB, evP, fl, gp, tab, simprocAttr, reduceCtorEq, reduceIte]
  refine fin_run ?_ (hK _ ?_) <;> clear hK <;> clear K
  · (first | exact trivial | omega | (simp only [In64] at *; omega) | (simp [In64] at *; omega) | (simp_all; done) | skip)
  refine qa (qm ?_)
  refine hk_region fun K hK => runs_eval tab_ok ?_
  simp only [ev0, evA, evB, evP, fl, gp, tab, simprocAttr, reduceCtorEq, reduceIte]
  refine fin_run ?_ (hK _ ?_) <;> clear hK <;> clear K
  · (first | exact trivial | omega | (simp only [In64] at *; omega) | (simp [In64] at *; omega) | (simp_all; done) | skip)
  refine qa (qk ?_)
  simp only [Tryd.results120, enA, ev0, evA, evB, evP, fl, gp, tab, simprocAttr, reduceCtorEq, reduceIte]
  all_goals ((first | exact rfl | exact ⟨rfl, rfl⟩ | exact ⟨rfl, rfl, rfl⟩ | exact ⟨trivial, rfl⟩ | exact ⟨Nat.le_refl _, rfl⟩ | trivial | (simp; done)))

theorem slook_c (N : Int) (m : List Int) (p : Int) (hm : m.length ≤ 1000000000000000) : FnC Tryd.prog 87 [gp N m, .int .i64 p] (fl (syf N m p)) := by
  refine fnc_of tab_ok Tryd.func87 rfl (by kernel_rfl) (by rw [Tryd.ntmps87]; exact Nat.le_add_left 2 _) ?_; rw [Tryd.ntmps87]
  refine qm ?_
  refine hk_region fun K hK => runs_eval tab_ok ?_
  simp only [ev0, evA, evB, evP, fl, gp, tab, simprocAttr, reduceCtorEq, reduceIte]
  refine fin_run ?_ (hK _ ?_) <;> clear hK <;> clear K
  · (first | exact trivial | omega | (simp only [In64] at *; omega) | (simp [In64] at *; omega) | (simp_all; done) | skip)
  refine qa (qm (qm ?_))
  refine hk_region fun K hK => runs_eval tab_ok ?_
  simp only [ev0, evA, evB, evP, fl, gp, tab, simprocAttr, reduceCtorEq, reduceIte]
  refine fin_stop trivial (runs_call (check_c N m hm) rfl rfl rfl (by simp only [dstOk, Nat.reduceLT]) (by repeat (first | exact trivial | constructor)) (runs_eval tab_ok ?_))
  simp only [ev0, evA, evB, evP, fl, gp, tab, simprocAttr, reduceCtorEq, reduceIte]
  refine fin_run ?_ (hK _ ?_) <;> clear hK <;> clear K
  · (first | exact trivial | omega | (simp only [In64] at *; omega) | (simp [In64] at *; omega) | (simp_all; done) | skip)
  refine qa (qm ?_)
  refine hk_region fun K hK => runs_eval tab_ok ?_
  simp only [ev0, evA, evB, evP, fl, gp, tab, simprocAttr, reduceCtorEq, reduceIte]
  refine fin_run ?_ (hK _ ?_) <;> clear hK <;> clear K
  · (first | exact trivial | omega | (simp only [In64] at *; omega) | (simp [In64] at *; omega) | (simp_all; done) | skip)
  refine qa ?_
  refine hk_cond rfl (fun hC1 => ?_) (fun hC1 => ?_)
  · (try simp only [nhs] at hC1)
    refine qm ?_
    refine hk_region fun K hK => runs_eval tab_ok ?_
    simp only [ev0, evA, evB, evP, fl, gp, tab, simprocAttr, reduceCtorEq, reduceIte]
    refine fin_run ?_ (hK _ ?_) <;> clear hK <;> clear K
    · (first | exact trivial | omega | (simp only [In64] at *; omega) | (simp [In64] at *; omega) | (simp_all; done) | skip)
    refine qa (qk (qb ?_))
    simp only [Tryd.results87, enA, ev0, evA, evB, evP, fl, gp, tab, simprocAttr, reduceCtorEq, reduceIte]
    all_goals (rw [syf_no hC1]; exact ⟨rfl, rfl⟩)
  · (try simp only [nhs] at hC1)
    refine qh (qa (qm (qm ?_)))
    by_cases g4a : p < 2
    · refine hk_region fun K hK => runs_eval tab_ok ?_
      simp only [ev0, evA, evB, evP, fl, gp, tab, simprocAttr, reduceCtorEq, reduceIte, decide_eq_true g4a]
      refine fin_run trivial (hK _ ?_) <;> clear hK <;> clear K
      refine qa ?_
      refine hk_cond rfl (fun hC2 => ?_) (fun hC2 => ?_)
      · refine qm ?_
        refine hk_region fun K hK => runs_eval tab_ok ?_
        simp only [ev0, evA, evB, evP, fl, gp, tab, simprocAttr, reduceCtorEq, reduceIte]
        refine fin_stop trivial (runs_call (syfault_c 3 1) rfl rfl rfl (by simp only [dstOk, Nat.reduceLT]) (by repeat (first | exact trivial | constructor)) (runs_eval tab_ok ?_))
        simp only [ev0, evA, evB, evP, fl, gp, tab, simprocAttr, reduceCtorEq, reduceIte]
        refine fin_run ?_ (hK _ ?_) <;> clear hK <;> clear K
        · (first | exact trivial | omega | (simp only [In64] at *; omega) | (simp [In64] at *; omega) | (simp_all; done) | skip)
        refine qa (qk (qb ?_))
        simp only [Tryd.results87, enA, ev0, evA, evB, evP, fl, gp, tab, simprocAttr, reduceCtorEq, reduceIte]
        all_goals (rw [syf_at hC1, decide_eq_false (show ¬ isPr p.toNat from fun h => by have := h.1; omega)]; exact ⟨rfl, rfl⟩)
      · cases hC2
    · by_cases g4b : p > 100
      · refine hk_region fun K hK => runs_eval tab_ok ?_
        simp only [ev0, evA, evB, evP, fl, gp, tab, simprocAttr, reduceCtorEq, reduceIte, decide_eq_false g4a, decide_eq_true g4b]
        refine fin_run trivial (hK _ ?_) <;> clear hK <;> clear K
        refine qa ?_
        refine hk_cond rfl (fun hC2 => ?_) (fun hC2 => ?_)
        · refine qm ?_
          refine hk_region fun K hK => runs_eval tab_ok ?_
          simp only [ev0, evA, evB, evP, fl, gp, tab, simprocAttr, reduceCtorEq, reduceIte]
          refine fin_stop trivial (runs_call (syfault_c 3 1) rfl rfl rfl (by simp only [dstOk, Nat.reduceLT]) (by repeat (first | exact trivial | constructor)) (runs_eval tab_ok ?_))
          simp only [ev0, evA, evB, evP, fl, gp, tab, simprocAttr, reduceCtorEq, reduceIte]
          refine fin_run ?_ (hK _ ?_) <;> clear hK <;> clear K
          · (first | exact trivial | omega | (simp only [In64] at *; omega) | (simp [In64] at *; omega) | (simp_all; done) | skip)
          refine qa (qk (qb ?_))
          simp only [Tryd.results87, enA, ev0, evA, evB, evP, fl, gp, tab, simprocAttr, reduceCtorEq, reduceIte]
          all_goals (rw [syf_at hC1, decide_eq_false (show ¬ isPr p.toNat from fun h => by have := h.2.1; omega)]; exact ⟨rfl, rfl⟩)
        · cases hC2
      · obtain ⟨k, rfl⟩ := Int.eq_ofNat_of_zero_le (show 0 ≤ p by omega)
        refine hk_region fun K hK => runs_eval tab_ok ?_
        simp only [ev0, evA, evB, evP, fl, gp, tab, simprocAttr, reduceCtorEq, reduceIte, decide_eq_false g4a, decide_eq_false g4b]
        refine fin_stop trivial (runs_call (sprime_c k (by omega) (by omega)) rfl rfl rfl (by simp only [dstOk, Nat.reduceLT]) (by repeat (first | exact trivial | constructor)) (runs_eval tab_ok ?_))
        simp only [ev0, evA, evB, evP, fl, gp, tab, simprocAttr, reduceCtorEq, reduceIte, decide_eq_false g4a, decide_eq_false g4b]
        refine fin_run trivial (hK _ ?_) <;> clear hK <;> clear K
        refine qa ?_
        refine hk_cond rfl (fun hC2 => ?_) (fun hC2 => ?_)
        · (try simp only [nhs] at hC2)
          refine qm ?_
          refine hk_region fun K hK => runs_eval tab_ok ?_
          simp only [ev0, evA, evB, evP, fl, gp, tab, simprocAttr, reduceCtorEq, reduceIte]
          refine fin_stop trivial (runs_call (syfault_c 3 1) rfl rfl rfl (by simp only [dstOk, Nat.reduceLT]) (by repeat (first | exact trivial | constructor)) (runs_eval tab_ok ?_))
          simp only [ev0, evA, evB, evP, fl, gp, tab, simprocAttr, reduceCtorEq, reduceIte]
          refine fin_run ?_ (hK _ ?_) <;> clear hK <;> clear K
          · (first | exact trivial | omega | (simp only [In64] at *; omega) | (simp [In64] at *; omega) | (simp_all; done) | skip)
          refine qa (qk (qb ?_))
          simp only [Tryd.results87, enA, ev0, evA, evB, evP, fl, gp, tab, simprocAttr, reduceCtorEq, reduceIte]
          all_goals (rw [syf_at hC1, decide_eq_false (show ¬ isPr ((k : Int)).toNat by rw [Int.toNat_natCast]; exact hC2)]; exact ⟨rfl, rfl⟩)
        · (try simp only [nhs] at hC2)
          refine qh (qa (qm ?_))
          refine hk_region fun K hK => runs_eval tab_ok ?_
          simp only [ev0, evA, evB, evP, fl, gp, tab, simprocAttr, reduceCtorEq, reduceIte]
          refine fin_run ?_ (hK _ ?_) <;> clear hK <;> clear K
          · (first | exact trivial | omega | (simp only [In64] at *; omega) | (simp [In64] at *; omega) | (simp_all; done) | skip)
          refine qa (qk ?_)
          simp only [Tryd.results87, enA, ev0, evA, evB, evP, fl, gp, tab, simprocAttr, reduceCtorEq, reduceIte]
          all_goals (rw [syf_at hC1, decide_eq_true (show isPr ((k : Int)).toNat by rw [Int.toNat_natCast]; exact hC2)]; exact ⟨rfl, rfl⟩)

def orp (n : Nat) (f : Nat → Nat → Nat) (e P a : Nat) : Bool := decide (ord n f e a = P)
section
variable {n e P : Nat} {m : List Int}
end
end Go.Proofs.YtjikchbmkodgfaaDoor

/-
  Sylow's subgroups, as the program grows one. Conditions: none.
-/
set_option linter.all false
namespace Go.Proofs.YtjikchbmkodgfaaDoor
open Go.Pv

section
variable {n e P : Nat} {m : List Int}
set_option maxHeartbeats 4000000 in
set_option maxRecDepth 100000 in
theorem syOne_c (h : GT n m n e) (hP : isPr P) {K : Nat} (hK1 : fst' (swc n (op m n) e P (swq n (op m n) e P K)) n = none) (hK2 : ∀ k, k < K → ¬ fst' (swc n (op m n) e P (swq n (op m n) e P k)) n = none) : FnC Tryd.prog 89 [gp n m, .int .i64 P] (.int .u64 (bo n (swq n (op m n) e P K))) := by
  have G := h.2.2
  have hb := h.2.1.big
  have hbt : ∀ p, bo n p < 2 ^ 64 := fun p => bo_lt64 hb p
  have hP2 := hP.1
  have hP100 := hP.2.1
  refine fnc_of tab_ok Tryd.func89 rfl (by kernel_rfl) (by rw [Tryd.ntmps89]; exact Nat.le_add_left 2 _) ?_; rw [Tryd.ntmps89]
  refine qm ?_
  refine hk_region fun K hK => runs_eval tab_ok ?_
  simp only [ev0, evA, evB, evP, fl, gp, tab, simprocAttr, reduceCtorEq, reduceIte]
  refine fin_run ?_ (hK _ ?_) <;> clear hK <;> clear K
  · (first | exact trivial | omega | (simp only [In64] at *; omega) | (simp [In64] at *; omega) | (simp_all; done) | skip)
  refine qa (qs (fun _ _ h => h) (qm ?_))
  refine hk_region fun K hK => runs_eval tab_ok ?_
  simp only [ev0, evA, evB, evP, fl, gp, tab, simprocAttr, reduceCtorEq, reduceIte]
  refine fin_stop trivial (runs_call (grow_c h 0 (Nat.pow_pos (by omega)) (onp e) onp_gen) rfl rfl rfl (by simp only [dstOk, Nat.reduceLT]) (by repeat (first | exact trivial | constructor)) (runs_eval tab_ok ?_))
  simp only [ev0, evA, evB, evP, fl, gp, tab, simprocAttr, reduceCtorEq, reduceIte]
  refine fin_run ?_ (hK _ ?_) <;> clear hK <;> clear K
  · (first | exact trivial | omega | (simp only [In64] at *; omega) | (simp [In64] at *; omega) | (simp_all; done) | skip)
  refine qa (qm (qi (qa (ql ?_))))
  refine hk_loop (ι := Nat) (fun k => ⟨53, [(1, .p (.int .i64 P)), (2, .ptr 0 0), (5, .p (.int .u64 (bo n (swq n (op m n) e P k))))], [.own [.p (.int .i64 n), .p (.list (il m))]]⟩) (fun k => k ≤ K) (fun k => K - k) 0 (Nat.zero_le _) [0] (by simp only [leq, leA, ev0, evA, evB, evP, fl, gp, tab, simprocAttr, reduceCtorEq, reduceIte] <;> trivial) fun k hk => ?_
  obtain ⟨hQ, jQ, hjQ⟩ := G.swq_ok hP k
  have hQe : swq n (op m n) e P (k + 1) = sws n (op m n) e P (swq n (op m n) e P k) := rfl
  generalize hQg : swq n (op m n) e P k = Q at hQ hjQ hQe ⊢
  refine ql (qm (qm ?_))
  refine hk_region fun K hK => runs_eval tab_ok ?_
  simp only [ev0, evA, evB, evP, fl, gp, tab, simprocAttr, reduceCtorEq, reduceIte]
  refine fin_run ?_ (hK _ ?_) <;> clear hK <;> clear K
  · (first | exact trivial | omega | (simp only [In64] at *; omega) | (simp [In64] at *; omega) | (simp_all; done) | skip)
  refine qa (ql ?_)
  refine hk_loop (ι := Nat) (fun a => ⟨53, [(1, .p (.int .i64 P)), (2, .ptr 0 0), (5, .p (.int .u64 (bo n Q))), (12, .p (.int .i64 n)), (13, .p (.int .i64 a))], [.own [.p (.int .i64 n), .p (.list (il m))]]⟩) (fun a => a ≤ n ∧ ∀ b, b < a → swc n (op m n) e P Q b = false) (fun a => n - a) 0 ⟨Nat.zero_le _, fun b hb => by omega⟩ [0] (by simp only [leq, leA, ev0, evA, evB, evP, fl, gp, tab, simprocAttr, reduceCtorEq, reduceIte] <;> trivial) fun a ha => ?_
  obtain ⟨ha1, ha2⟩ := ha
  refine qm ?_
  refine hk_region fun K hK => runs_eval tab_ok ?_
  simp only [ev0, evA, evB, evP, fl, gp, tab, simprocAttr, reduceCtorEq, reduceIte]
  refine fin_run trivial (hK _ ?_) <;> clear hK <;> clear K
  refine qa (qm ?_)
  refine hk_cond rfl (fun hC1 => ?_) (fun hC1 => ?_)
  · (try simp only [nhs] at hC1)
    have hal : a < n := by omega
    have hbit : (bo n Q).testBit a = Q a := by rw [bo_bit]; simp [hal]
    have hz : decide ((bo n (shf n (op m n) e Q a) : Int) = (bo n Q : Int)) = nzr n (op m n) e Q a := by
      rw [Bool.eq_iff_iff, decide_eq_true_eq, nzr_iff]
      exact ⟨fun he y hy => bo_inj (by omega) hy, fun he => by rw [bo_congr he]⟩
    have hnext : swc n (op m n) e P Q a = false → ∀ b, b < a + 1 → swc n (op m n) e P Q b = false := fun h1 b hb2 => by
      by_cases hba : b = a
      · rw [hba]; exact h1
      · exact ha2 b (by omega)
    refine qh (qa (qm (ql (qm ?_))))
    refine hk_region fun K hK => runs_eval tab_ok ?_
    simp only [ev0, evA, evB, evP, fl, gp, tab, simprocAttr, reduceCtorEq, reduceIte]
    refine fin_run trivial (hK _ ?_) <;> clear hK <;> clear K
    refine qa (qm (qm ?_))
    by_cases hsa : Q a = true
    · refine hk_region fun K hK => runs_eval tab_ok ?_
      simp only [ev0, evA, evB, evP, fl, gp, tab, simprocAttr, reduceCtorEq, reduceIte, hbit, hsa]
      refine fin_stop ?_ (runs_call (has_s (bo n Q) a (hbt _) (by omega)) rfl rfl rfl (by simp only [dstOk, Nat.reduceLT]) (by repeat (first | exact trivial | constructor)) (runs_eval tab_ok ?_))
      · (first | exact trivial | omega | (simp only [In64] at *; omega) | (simp [In64] at *; omega) | (simp_all; done) | skip)
      simp only [ev0, evA, evB, evP, fl, gp, tab, simprocAttr, reduceCtorEq, reduceIte, hbit, hsa]
      refine fin_run trivial (hK _ ?_) <;> clear hK <;> clear K
      refine qa ?_
      refine hk_cond rfl (fun hC2 => ?_) (fun hC2 => ?_)
      · refine qj (qc (qf (qa ?_)))
        refine hk_region fun K hK => runs_eval tab_ok ?_
        simp only [ev0, evA, evB, evP, fl, gp, tab, simprocAttr, reduceCtorEq, reduceIte]
        refine fin_run ?_ (hK _ ?_) <;> clear hK <;> clear K
        · (first | exact trivial | omega | (simp only [In64] at *; omega) | (simp [In64] at *; omega) | (simp_all; done) | skip)
        refine qa ?_
        refine ⟨a + 1, [0], ⟨by omega, hnext (by unfold swc; rw [hsa]; rfl)⟩, by omega, ?_⟩
        simp only [leq, leA, ev0, evA, evB, evP, fl, gp, tab, simprocAttr, reduceCtorEq, reduceIte] <;> first | trivial | omega
      · cases hC2
    · refine hk_region fun K hK => runs_eval tab_ok ?_
      simp only [ev0, evA, evB, evP, fl, gp, tab, simprocAttr, reduceCtorEq, reduceIte, hbit, hsa]
      refine fin_stop ?_ (runs_call (has_s (bo n Q) a (hbt _) (by omega)) rfl rfl rfl (by simp only [dstOk, Nat.reduceLT]) (by repeat (first | exact trivial | constructor)) (runs_eval tab_ok ?_))
      · (first | exact trivial | omega | (simp only [In64] at *; omega) | (simp [In64] at *; omega) | (simp_all; done) | skip)
      simp only [ev0, evA, evB, evP, fl, gp, tab, simprocAttr, reduceCtorEq, reduceIte, hbit, hsa]
      refine fin_stop trivial (runs_call (moved_s h Q hal) rfl rfl rfl (by simp only [dstOk, Nat.reduceLT]) (by repeat (first | exact trivial | constructor)) (runs_eval tab_ok ?_))
      simp only [ev0, evA, evB, evP, fl, gp, tab, simprocAttr, reduceCtorEq, reduceIte, hbit, hsa]
      refine fin_run ?_ (hK _ ?_) <;> clear hK <;> clear K
      · (first | exact trivial | omega | (simp only [In64] at *; omega) | (simp [In64] at *; omega) | (simp_all; done) | skip)
      refine qa ?_
      refine hk_cond rfl (fun hC2 => ?_) (fun hC2 => ?_)
      · (try simp only [nhs] at hC2)
        have hnz : nzr n (op m n) e Q a = false := by rw [← hz]; exact decide_eq_false hC2
        refine qj (qc (qf (qa ?_)))
        refine hk_region fun K hK => runs_eval tab_ok ?_
        simp only [ev0, evA, evB, evP, fl, gp, tab, simprocAttr, reduceCtorEq, reduceIte]
        refine fin_run ?_ (hK _ ?_) <;> clear hK <;> clear K
        · (first | exact trivial | omega | (simp only [In64] at *; omega) | (simp [In64] at *; omega) | (simp_all; done) | skip)
        refine qa ?_
        refine ⟨a + 1, [0], ⟨by omega, hnext (by unfold swc; rw [hnz]; simp)⟩, by omega, ?_⟩
        simp only [leq, leA, ev0, evA, evB, evP, fl, gp, tab, simprocAttr, reduceCtorEq, reduceIte] <;> first | trivial | omega
      · (try simp only [nhs] at hC2)
        have hnz : nzr n (op m n) e Q a = true := by rw [← hz]; exact decide_eq_true (by omega)
        obtain ⟨jo, ho1, ho2⟩ := npt_ex hP.1 (G.ord_pos hal)
        have hol := (G.ord_spec hal).2.1
        obtain ⟨so, hso⟩ : ∃ so, so = npt P (ord n (op m n) e a) := ⟨_, rfl⟩
        rw [← hso] at ho1 ho2
        have hpp : ∀ i, 0 < P ^ i := fun i => Nat.pow_pos (by omega)
        have hso0 : 0 < so := by
          rcases Nat.eq_zero_or_pos so with h0 | h0
          · exact absurd (h0 ▸ Nat.dvd_zero P) ho2
          · exact h0
        have hsol : so ≤ 60 := by
          have : so ≤ P ^ jo * so := Nat.le_mul_of_pos_left _ (hpp jo)
          omega
        have hjl : ∀ i, P ^ (jo - i) * so ≤ 60 := fun i => by
          have : P ^ (jo - i) * so ≤ P ^ jo * so := Nat.mul_le_mul_right _ (Nat.pow_le_pow_right (by omega) (by omega))
          omega
        refine qh (qa (qm ?_))
        refine hk_region fun K hK => runs_eval tab_ok ?_
        simp only [ev0, evA, evB, evP, fl, gp, tab, simprocAttr, reduceCtorEq, reduceIte]
        refine fin_stop trivial (runs_call (orderOf_c h hal) rfl rfl rfl (by simp only [dstOk, Nat.reduceLT]) (by repeat (first | exact trivial | constructor)) (runs_eval tab_ok ?_))
        simp only [ev0, evA, evB, evP, fl, gp, tab, simprocAttr, reduceCtorEq, reduceIte, ho1]
        refine fin_run ?_ (hK _ ?_) <;> clear hK <;> clear K
        · (first | exact trivial | omega | (simp only [In64] at *; omega) | (simp [In64] at *; omega) | (simp_all; done) | skip)
        refine qa (qm (ql ?_))
        refine hk_loop (ι := Nat) (fun i => ⟨53, [(1, .p (.int .i64 P)), (2, .ptr 0 0), (5, .p (.int .u64 (bo n Q))), (6, .p (.int .i64 a)), (7, .p (.int .i64 (P ^ (jo - i) * so : Nat))), (12, .p (.int .i64 n)), (13, .p (.int .i64 a))], [.own [.p (.int .i64 n), .p (.list (il m))]]⟩) (fun i => i ≤ jo) (fun i => jo - i) 0 (Nat.zero_le _) [0] (by simp only [leq, leA, ev0, evA, evB, evP, fl, gp, tab, simprocAttr, reduceCtorEq, reduceIte] <;> first | trivial | simp) fun i hi => ?_
        have hji := hjl i
        refine qm (qm ?_)
        refine hk_region fun K hK => runs_eval tab_ok ?_
        simp only [ev0, evA, evB, evP, fl, gp, tab, simprocAttr, reduceCtorEq, reduceIte, tm_nat]
        refine fin_run ?_ (hK _ ?_) <;> clear hK <;> clear K
        · omega
        refine qa ?_
        refine hk_cond rfl (fun hC3 => ?_) (fun hC3 => ?_)
        · (try simp only [nhs] at hC3)
          have hij : i < jo := by
            rcases Nat.lt_or_ge i jo with h1 | h1
            · exact h1
            · exfalso
              have e1 : jo - i = 0 := by omega
              rw [e1, Nat.pow_zero, Nat.one_mul] at hC3
              exact ho2 (Nat.dvd_of_mod_eq_zero (by omega))
          have e2 : P ^ (jo - i) * so / P = P ^ (jo - (i + 1)) * so := by
            rw [show jo - i = (jo - (i + 1)) + 1 by omega, Nat.pow_succ, Nat.mul_right_comm, Nat.mul_div_cancel _ (by omega)]
          have hji1 := hjl (i + 1)
          refine qh (qa (ql ?_))
          refine hk_region fun K hK => runs_eval tab_ok ?_
          simp only [ev0, evA, evB, evP, fl, gp, tab, simprocAttr, reduceCtorEq, reduceIte, td_nat, e2]
          refine fin_run ?_ (hK _ ?_) <;> clear hK <;> clear K
          · (try simp only [In64]); omega
          refine qd (qa ?_)
          refine ⟨i + 1, [0], by omega, by omega, ?_⟩
          simp only [leq, leA, ev0, evA, evB, evP, fl, gp, tab, simprocAttr, reduceCtorEq, reduceIte] <;> first | trivial | omega
        · (try simp only [nhs] at hC3)
          have hij : i = jo := by
            rcases Nat.lt_or_ge i jo with h1 | h1
            · exfalso
              have : P ^ (jo - i) * so % P = 0 := by
                rw [show jo - i = (jo - (i + 1)) + 1 by omega, Nat.pow_succ, Nat.mul_right_comm, Nat.mul_mod_left]
              omega
            · omega
          rw [hij, Nat.sub_self, Nat.pow_zero, Nat.one_mul]
          have hswb : pw (op m n) e a so = swb n (op m n) e P a := by unfold swb; rw [hso]
          have hbl := G.swb_lt (P := P) hal
          have hbitb : (bo n Q).testBit (swb n (op m n) e P a) = Q (swb n (op m n) e P a) := by rw [bo_bit]; simp [hbl]
          refine qj (qc (qc (qf (qa (qm ?_)))))
          refine hk_region fun K hK => runs_eval tab_ok ?_
          simp only [ev0, evA, evB, evP, fl, gp, tab, simprocAttr, reduceCtorEq, reduceIte]
          refine fin_stop trivial (runs_call (powOf_c h hal so (by omega)) rfl rfl rfl (by simp only [dstOk, Nat.reduceLT]) (by repeat (first | exact trivial | constructor)) (runs_eval tab_ok ?_))
          simp only [ev0, evA, evB, evP, fl, gp, tab, simprocAttr, reduceCtorEq, reduceIte, hswb]
          refine fin_run ?_ (hK _ ?_) <;> clear hK <;> clear K
          · (first | exact trivial | omega | (simp only [In64] at *; omega) | (simp [In64] at *; omega) | (simp_all; done) | skip)
          refine qa (qm ?_)
          refine hk_region fun K hK => runs_eval tab_ok ?_
          simp only [ev0, evA, evB, evP, fl, gp, tab, simprocAttr, reduceCtorEq, reduceIte]
          refine fin_stop ?_ (runs_call (has_s (bo n Q) (swb n (op m n) e P a) (hbt _) (by omega)) rfl rfl rfl (by simp only [dstOk, Nat.reduceLT]) (by repeat (first | exact trivial | constructor)) (runs_eval tab_ok ?_))
          · (first | exact trivial | omega | (simp only [In64] at *; omega) | (simp [In64] at *; omega) | (simp_all; done) | skip)
          simp only [ev0, evA, evB, evP, fl, gp, tab, simprocAttr, reduceCtorEq, reduceIte, hbitb]
          refine fin_run trivial (hK _ ?_) <;> clear hK <;> clear K
          refine qa ?_
          refine hk_cond rfl (fun hC4 => ?_) (fun hC4 => ?_)
          · (try simp only [nhs] at hC4)
            have hqb : Q (swb n (op m n) e P a) = false := by simpa using hC4
            have hcc : swc n (op m n) e P Q a = true := by unfold swc; rw [hnz, hqb]; simp [hsa]
            have hfs := fst_some hal hcc ha2
            have hkK : k < K := by
              rcases Nat.lt_or_ge k K with h1 | h1
              · exact h1
              · exfalso
                have : k = K := by omega
                rw [← this, hQg, hfs] at hK1
                cases hK1
            have hpw := pow_lt64 (b := swb n (op m n) e P a) (by omega)
            have hw := bo_wta Q hbl
            have hq1 : ∀ y, y < n → (swq n (op m n) e P (k + 1) y = true ↔ Gen n (op m n) e (wta Q (swb n (op m n) e P a)) y) := fun y hy => by
              rw [hQe]
              unfold sws
              rw [hfs]
              exact gn_iff _ y hy
            refine qm ?_
            refine hk_draw mixed (by kernel_rfl) fun K hK => runs_eval tab_ok ?_
            simp only [ev0, evA, evB, evP, fl, gp, tab, simprocAttr, reduceCtorEq, reduceIte, shl_one (show swb n (op m n) e P a < 64 by omega), bv_or (hbt Q) hpw, hw]
            refine fin_stop ?_ (runs_call (grow_c h (bo n (wta Q (swb n (op m n) e P a))) (bo_lt n _) (swq n (op m n) e P (k + 1)) (fun y hy => by rw [gen_bo]; exact hq1 y hy)) rfl rfl rfl (by simp only [dstOk, Nat.reduceLT]) (by repeat (first | exact trivial | constructor)) (runs_eval tab_ok ?_))
            · (first | exact trivial | omega | (simp only [In64] at *; omega) | (simp [In64] at *; omega) | (simp_all; done) | skip)
            simp only [ev0, evA, evB, evP, fl, gp, tab, simprocAttr, reduceCtorEq, reduceIte, shl_one (show swb n (op m n) e P a < 64 by omega), bv_or (hbt Q) hpw, hw]
            refine fin_run ?_ (hK _ ?_) <;> clear hK <;> clear K
            · (first | exact trivial | omega | (simp only [In64] at *; omega) | (simp [In64] at *; omega) | (simp_all; done) | skip)
            refine qa (qj (qg rfl (qc (qc (qg rfl (qc (qf (qa ?_))))))))
            refine ⟨k + 1, [0], by omega, by omega, ?_⟩
            simp only [leq, leA, ev0, evA, evB, evP, fl, gp, tab, simprocAttr, reduceCtorEq, reduceIte] <;> first | trivial | omega
          · (try simp only [nhs] at hC4)
            have hqb : Q (swb n (op m n) e P a) = true := by simpa using hC4
            refine qh (qd (qa ?_))
            refine hk_region fun K hK => runs_eval tab_ok ?_
            simp only [ev0, evA, evB, evP, fl, gp, tab, simprocAttr, reduceCtorEq, reduceIte]
            refine fin_run ?_ (hK _ ?_) <;> clear hK <;> clear K
            · (first | exact trivial | omega | (simp only [In64] at *; omega) | (simp [In64] at *; omega) | (simp_all; done) | skip)
            refine qa ?_
            refine ⟨a + 1, [0], ⟨by omega, hnext (by unfold swc; rw [hqb]; simp)⟩, by omega, ?_⟩
            simp only [leq, leA, ev0, evA, evB, evP, fl, gp, tab, simprocAttr, reduceCtorEq, reduceIte] <;> first | trivial | omega
  · (try simp only [nhs] at hC1)
    have hkK : k = K := by
      rcases Nat.lt_or_ge k K with h1 | h1
      · exfalso
        refine hK2 k h1 ?_
        rw [hQg]
        exact fst_none fun b hb2 => ha2 b (by omega)
      · omega
    refine qj (qc (qc (qf (qa (qm ?_)))))
    refine hk_region fun K hK => runs_eval tab_ok ?_
    simp only [ev0, evA, evB, evP, fl, gp, tab, simprocAttr, reduceCtorEq, reduceIte]
    refine fin_run trivial (hK _ ?_) <;> clear hK <;> clear K
    refine qa (qk (qe (qb (qe ?_))))
    simp only [Tryd.results89, enA, ev0, evA, evB, evP, fl, gp, tab, simprocAttr, reduceCtorEq, reduceIte]
    all_goals (rw [← hkK, hQg])
end
end Go.Proofs.YtjikchbmkodgfaaDoor

/-
  Plain law: conjugated sets in a list that rises. Conditions: none.
-/
set_option linter.all false
namespace Go.Proofs.YtjikchbmkodgfaaDoor
open Go.Pv

/-- Put into a list that rises, letter by letter. -/
def insL (x : Nat) : List Nat → List Nat
  | [] => [x]
  | y :: r => if cmpL (stl x) (stl y) < 0 then x :: y :: r else y :: insL x r
theorem mem_insL {x z : Nat} : ∀ {L : List Nat}, z ∈ insL x L ↔ z = x ∨ z ∈ L
  | [] => by simp [insL]
  | y :: r => by
    unfold insL
    by_cases h : cmpL (stl x) (stl y) < 0
    · rw [if_pos h]; simp
    · rw [if_neg h, List.mem_cons, mem_insL, List.mem_cons]
      constructor
      · rintro (h | h | h)
        · exact .inr (.inl h)
        · exact .inl h
        · exact .inr (.inr h)
      · rintro (h | h | h)
        · exact .inr (.inl h)
        · exact .inl h
        · exact .inr (.inr h)
theorem rise_insL {x : Nat} : ∀ {L : List Nat}, L.Pairwise (fun x y => cmpL (stl x) (stl y) < 0) → (∀ y ∈ L, stl x ≠ stl y) → (insL x L).Pairwise fun x y => cmpL (stl x) (stl y) < 0
  | [], _, _ => by simp [insL]
  | y :: r, h, hne => by
    obtain ⟨h1, h2⟩ := List.pairwise_cons.1 h
    unfold insL
    by_cases hc : cmpL (stl x) (stl y) < 0
    · rw [if_pos hc]
      refine List.pairwise_cons.2 ⟨fun z hz => ?_, h⟩
      rcases List.mem_cons.1 hz with rfl | hz
      · exact hc
      · exact cmpL_trans _ _ _ hc (h1 z hz)
    · rw [if_neg hc]
      refine List.pairwise_cons.2 ⟨fun z hz => ?_, rise_insL h2 fun z hz => hne z (by simp [hz])⟩
      rcases mem_insL.1 hz with rfl | hz
      · refine Classical.byContradiction fun hh => ?_
        exact hne y (by simp) (cmpL_tot _ _ hc hh)
      · exact h1 z hz
theorem riseL_ex : ∀ M : List Nat, (∀ x ∈ M, x < 2 ^ 64) → ∃ L : List Nat, (∀ x, x ∈ L ↔ x ∈ M) ∧ L.Pairwise fun x y => cmpL (stl x) (stl y) < 0
  | [], _ => ⟨[], by simp, by simp⟩
  | x :: r, hlt => by
    obtain ⟨L, l1, l2⟩ := riseL_ex r fun y hy => hlt y (by simp [hy])
    by_cases hx : x ∈ r
    · exact ⟨L, fun z => by rw [l1, List.mem_cons]; exact ⟨.inr, fun h => h.elim (fun h => h ▸ hx) id⟩, l2⟩
    · refine ⟨insL x L, fun z => by rw [mem_insL, l1]; simp, rise_insL l2 fun y hy hxy => ?_⟩
      have hyr := (l1 y).1 hy
      have := stl_inj (hlt x (by simp)) (hlt y (by simp [hyr])) hxy
      rw [this] at hx; exact hx hyr

/-- All sets that a set is conjugated to, in their order. -/
structure SyS (n : Nat) (f : Nat → Nat → Nat) (e : Nat) (s : Nat → Bool) (SL : List Nat) : Prop where
  all : ∀ x, x ∈ SL ↔ ∃ a, a < n ∧ x = bo n (shf n f e s a)
  rise : SL.Pairwise fun x y => cmpL (stl x) (stl y) < 0
section
variable {n e : Nat} {f : Nat → Nat → Nat} {s : Nat → Bool} {SL : List Nat}
theorem sys_ex (n : Nat) (f : Nat → Nat → Nat) (e : Nat) (s : Nat → Bool) (hn : n ≤ 60) : ∃ SL, SyS n f e s SL := by
  obtain ⟨L, l1, l2⟩ := riseL_ex ((List.range n).map fun a => bo n (shf n f e s a)) fun x hx => by
    obtain ⟨a, _, rfl⟩ := List.mem_map.1 hx
    exact bo_lt64 hn _
  refine ⟨L, fun x => ?_, l2⟩
  rw [l1, List.mem_map]
  exact ⟨fun ⟨a, h1, h2⟩ => ⟨a, List.mem_range.1 h1, h2.symm⟩, fun ⟨a, h1, h2⟩ => ⟨a, List.mem_range.2 h1, h2.symm⟩⟩
theorem SyS.nodup (h : SyS n f e s SL) : SL.Nodup := h.rise.imp fun {x y} hxy he => by
  subst he; rw [cmpL_self] at hxy; exact absurd hxy (by decide)
theorem SyS.pos (h : SyS n f e s SL) (G : Grp n f e) : 0 < SL.length := List.length_pos_of_mem ((h.all _).2 ⟨e, G.el, rfl⟩)
theorem SyS.len (h : SyS n f e s SL) : SL.length ≤ n := by
  have h1 := List.Nodup.length_le_of_subset h.nodup (l₂ := (List.range n).map fun a => bo n (shf n f e s a)) fun x hx => by
    obtain ⟨a, h1, h2⟩ := (h.all x).1 hx
    exact List.mem_map.2 ⟨a, List.mem_range.2 h1, h2.symm⟩
  simpa using h1
theorem SyS.num (h : SyS n f e s SL) (G : Grp n f e) (hs : Sub n f e s) : SL.length * (mem n (nzr n f e s)).length = n :=
  G.conj_num hs (code := bo n) (fun p q => ⟨fun he y hy => by
    have := congrArg (fun x => Nat.testBit x y) he
    simpa [bo_bit, hy] using this, fun he => bo_congr he⟩) h.nodup h.all
end
end Go.Proofs.YtjikchbmkodgfaaDoor

/-
  Maps by lists of keys. Conditions: none.
-/
set_option linter.all false
namespace Go.Proofs.YtjikchbmkodgfaaDoor
open Go.Pv

/-! ### Maps by lists of keys -/
def mpd (l : List Int) : Int → Bool := fun u => decide (u ∈ l)
def mpv (l : List Int) (g : Int → PV) : Int → PV := fun u => bif decide (u ∈ l) then g u else default
theorem mpd_nil : (fun _ : Int => false) = mpd [] := funext fun u => by simp [mpd]
theorem mpv_nil (g : Int → PV) : (fun _ : Int => (default : PV)) = mpv [] g := funext fun u => by simp [mpv]
theorem mpd_set (l : List Int) (x : Int) : (fun u => decide (u = x) || mpd l u) = mpd (l ++ [x]) := funext fun u => by
  unfold mpd
  rw [Bool.eq_iff_iff]
  simp only [Bool.or_eq_true, decide_eq_true_eq, List.mem_append, List.mem_singleton]
  exact Or.comm
theorem mpv_set (l : List Int) (x : Int) (g : Int → PV) : (fun u => bif decide (u = x) then g x else mpv l g u) = mpv (l ++ [x]) g := funext fun u => by
  unfold mpv
  by_cases hu : u = x
  · subst hu; simp
  · simp [hu]
theorem ll_takeL (ls : List (List Int)) : (ll ls).take ls.length = ll ls := List.take_of_length_le (by rw [ll_length]; exact Nat.le_refl _)
theorem ll_takeS (ls : List (List Int)) (x : List Int) : (ll (ls ++ [x])).take (ls.length + 1) = ll (ls ++ [x]) := List.take_of_length_le (by rw [ll_length]; simp)
def tru : Int → PV := fun _ => .bool true
end Go.Proofs.YtjikchbmkodgfaaDoor

/-
  Calls that write what is the caller's own: contracts over blocks. Conditions: none; a library text.
-/
set_option linter.all false
namespace Go.Pv
open Go.RowKit

def ancs : Nat → Nat → Heap
  | _, 0 => []
  | k, n + 1 => .anc k k :: ancs (k + 1) n

theorem ancs_get : ∀ (n k j : Nat) (b : Blk), (ancs k n)[j]? = some b → j < n ∧ b = .anc (k + j) (k + j)
  | 0, k, j, b, h => by simp [ancs] at h
  | n + 1, k, 0, b, h => by simp [ancs] at h; exact ⟨by omega, h.symm⟩
  | n + 1, k, j + 1, b, h => by
    have := ancs_get n (k + 1) j b (by simpa [ancs] using h)
    refine ⟨by omega, ?_⟩
    rw [this.2, show k + 1 + j = k + (j + 1) by omega]

theorem ancs_at : ∀ (n k j : Nat), j < n → (ancs k n)[j]? = some (.anc (k + j) (k + j))
  | n + 1, k, 0, _ => rfl
  | n + 1, k, j + 1, h => by
    rw [show ancs k (n + 1) = .anc k k :: ancs (k + 1) n from rfl, List.getElem?_cons_succ, ancs_at n (k + 1) j (by omega), show k + 1 + j = k + (j + 1) by omega]

def entA : Nat → List AV → List (Nat × AV)
  | _, [] => []
  | k, a :: r => (k, a) :: entA (k + 1) r

theorem entA_lk : ∀ (l : List AV) (k t : Nat), lk (entA k l) t = if k ≤ t then l.getD (t - k) .dead else .dead
  | [], k, t => by simp [entA, lk]
  | a :: r, k, t => by
    simp only [entA, lk]
    by_cases h : k = t
    · subst h; simp
    · rw [show (k == t) = false by simpa using h]
      simp only [cond_false]
      rw [entA_lk r (k + 1) t]
      by_cases hk : k ≤ t
      · rw [if_pos (by omega), if_pos hk, show t - k = (t - (k + 1)) + 1 by omega]; rfl
      · rw [if_neg (by omega), if_neg hk]

theorem app_get {H X : Heap} {k : Nat} {b : Blk} (h : (H ++ X)[k]? = some b) : (k < H.length ∧ H[k]? = some b) ∨ X[k - H.length]? = some b := by
  by_cases hk : k < H.length
  · exact .inl ⟨hk, by rwa [List.getElem?_append_left hk] at h⟩
  · exact .inr (by rwa [List.getElem?_append_right (by omega)] at h)

section
variable {P : Program} {T : TypeId → Option TI} {C : Ctx} {m : Map} {s : St} {tmps : Array Value} {w : World}

theorem Rel.addAnc (R : Rel C m s tmps w) {n : Nat} (hn : n ≤ s.H.length) (ha : ∀ i, i < n → m i = C.anc i) : Rel C m { s with H := s.H ++ ancs 0 n } tmps w := by
  have gen : ∀ (k : Nat) (b : Blk), (∀ i j, b ≠ .anc i j) → (s.H ++ ancs 0 n)[k]? = some b → k < s.H.length ∧ s.H[k]? = some b := by
    intro k b hb h
    rcases app_get h with h | h
    · exact h
    · exact absurd (ancs_get _ _ _ _ h).2 (hb _ _)
  have own : ∀ (k : Nat) (c : List AV), (s.H ++ ancs 0 n)[k]? = some (.own c) → k < s.H.length ∧ s.H[k]? = some (.own c) := fun k c h => gen k _ (fun _ _ h => by cases h) h
  have mps : ∀ (k : Nat) (kk : IntKind) (d : Int → Bool) (v : Int → PV), (s.H ++ ancs 0 n)[k]? = some (Blk.mp kk d v) → k < s.H.length ∧ s.H[k]? = some (Blk.mp kk d v) := fun k _ _ _ h => gen k _ (fun _ _ h => by cases h) h
  have ho : ∀ b, OK C m s.H w b → OK C m (s.H ++ ancs 0 n) w b := fun b h => ⟨h.1, h.2.1, fun k c l hk hl => h.2.2 k c l (own k c hk).2 hl⟩
  have hlen : s.H.length ≤ (s.H ++ ancs 0 n).length := by simp
  have rd : ∀ p v, Reads (OK C m s.H w) w p v → Reads (OK C m (s.H ++ ancs 0 n) w) w p v := fun p v h => h.mono ho
  refine ⟨R.laid.ext rd, R.below, R.base, R.size, fun k k' c c' l l' h1 h2 => R.inj k k' c c' l l' (own k c h1).2 (own k' c' h2).2, fun k c h => (R.blk k c (own k c h).2).ext rd hlen (fun _ _ => rfl) rfl fun _ _ => rfl,
    fun k c h => (R.fro k c (gen k _ (fun _ _ h => by cases h) h).2).ext ho (fun _ _ => rfl) rfl, fun t => (R.slot t).ext rd hlen fun _ _ => rfl, fun k kk d v h => (R.mp.1 k kk d v (mps k kk d v h).2).ext ho (fun _ _ => rfl) rfl fun _ _ => rfl,
    fun k k' kk d v kk' d' v' l l' h1 h2 => R.mp.2.1 k k' kk d v kk' d' v' l l' (mps _ _ _ _ h1).2 (mps _ _ _ _ h2).2, fun k i j h => ?_⟩
  rcases app_get h with h | h
  · obtain ⟨a1, a2⟩ := R.mp.2.2 k i j h.2
    exact ⟨by simp; omega, a2⟩
  · obtain ⟨a1, a2⟩ := ancs_get _ _ _ _ h
    cases a2
    refine ⟨by simp; omega, ?_⟩
    rw [ha _ (by omega)]

/-! ### The contract -/

/-- A CONTRACT OVER BLOCKS: called with values that are so over such blocks of the caller's own, the function returns so, over those blocks as they are then, and new ones. -/
def FnM (P : Program) (f : FuncId) (args : List AV) (H0 : Heap) (r : AV) (H1 : Heap) : Prop :=
  Fun P f ∧ ∀ (C : Ctx) (m : Map) (w : World) (vals : Array Value), Rel C m ⟨args.length, entA 0 args, H0 ++ ancs 0 H0.length⟩ vals w →
    Calls P f vals w fun e w' => ∃ v m', e = .returned v ∧ Rel C m' ⟨1, [(0, r)], H1 ++ ancs 0 H0.length⟩ #[v] w'

/-! ### Who calls it -/

theorem AVal.sig {rd rd' : PV → Value → Prop} {m m2 : Map} {H H2 : Heap} {σ : List Nat} (h1 : ∀ p v, rd p v → rd' p v) (hs : ∀ k, k < σ.length → σ.getD k 0 < H2.length ∧ m2 (σ.getD k 0) = m k) {x : AV} {v : Value} (h : AVal rd m H x v)
    (hx : scA σ.length x = true) : AVal rd' m2 H2 (Go.Pv.ren σ x) v := by
  have one : ∀ {x : AV} {v : Value}, AVal rd m H x v → sc1 σ.length x = true → AVal rd' m2 H2 (ren1 σ x) v := by
    intro x v h hsc
    cases h with
    | dead v => exact .dead v
    | p pv v h => exact .p pv v (h1 _ _ h)
    | sl k lo len v hk h =>
      obtain ⟨g1, g2⟩ := hs k (by simpa [sc1] using hsc)
      refine .sl _ lo len v g1 ?_
      unfold SlOk at *
      rw [g2]; exact h
    | ptr k i v hk h =>
      obtain ⟨g1, g2⟩ := hs k (by simpa [sc1] using hsc)
      refine .ptr _ i v g1 ?_
      unfold PtrOk at *
      rw [g2]; exact h
    | agg l vs hl hr => simp [sc1] at hsc
    | tup l vs hl hr => simp [sc1] at hsc
    | cl f l vs hl hr => simp [sc1] at hsc
    | itv r => exact .itv r
    | mptr k v hk h =>
      obtain ⟨g1, g2⟩ := hs k (by simpa [sc1] using hsc)
      refine .mptr _ v g1 ?_
      unfold MptrOk at *
      rw [g2]; exact h
  cases x with
  | agg l =>
    cases h with
    | agg _ vs hl hr =>
      refine .agg _ vs (by simpa using hl) fun c hc => ?_
      rw [List.length_map] at hc
      rw [List.getElem_map]
      exact one (hr c hc) ((List.all_eq_true.1 hx) _ (List.getElem_mem hc))
  | tup l =>
    cases h with
    | tup _ vs hl hr =>
      refine .tup _ vs (by simpa using hl) fun c hc => ?_
      rw [List.length_map] at hc
      rw [List.getElem_map]
      exact one (hr c hc) ((List.all_eq_true.1 hx) _ (List.getElem_mem hc))
  | cl f l =>
    cases h with
    | cl _ _ vs hl hr =>
      refine .cl _ _ vs (by simpa using hl) fun c hc => ?_
      rw [List.length_map] at hc
      rw [List.getElem_map]
      exact one (hr c hc) ((List.all_eq_true.1 hx) _ (List.getElem_mem hc))
  | dead => exact one h hx
  | p pv => exact one h hx
  | sl k lo len => exact one h hx
  | ptr k i => exact one h hx
  | mptr k => exact one h hx
  | itv r => exact one h hx

/-- Blocks put back: those that were lent, in their places; new ones behind. -/
def putM : Heap → List Nat → Heap → Heap
  | H, [], bs => H ++ bs
  | H, _ :: _, [] => H
  | H, k :: ks, b :: bs => putM (hset H k b) ks bs

theorem putM_get : ∀ (ks : List Nat) (bs H : Heap) (k : Nat) (b : Blk), (∀ k ∈ ks, k < H.length) → ks.length ≤ bs.length → (putM H ks bs)[k]? = some b →
    (∃ j : Nat, bs[j]? = some b ∧ (ks ++ List.range' H.length (bs.length - ks.length))[j]? = some k) ∨ (k < H.length ∧ k ∉ ks ∧ H[k]? = some b)
  | [], bs, H, k, b, _, _, h => by
    simp only [putM] at h
    by_cases hk : k < H.length
    · exact .inr ⟨hk, by simp, by rwa [List.getElem?_append_left hk] at h⟩
    · rw [List.getElem?_append_right (by omega)] at h
      · refine .inl ⟨k - H.length, h, ?_⟩
        have := (List.getElem?_eq_some_iff.1 h).1
        simp only [List.nil_append, List.length_nil, Nat.sub_zero]
        rw [List.getElem?_range' this]
        simp; omega
  | k0 :: ks, [], H, k, b, _, hl, _ => by simp at hl
  | k0 :: ks, b0 :: bs, H, k, b, hk, hl, h => by
    simp only [putM] at h
    have h0 := hk k0 (by simp)
    rcases putM_get ks bs (hset H k0 b0) k b (fun k hk' => by rw [hset_length]; exact hk k (by simp [hk'])) (by simpa using hl) h with ⟨j, h1, h2⟩ | ⟨h1, h2, h3⟩
    · rw [hset_length] at h2
      exact .inl ⟨j + 1, by simpa using h1, by simpa using h2⟩
    · rw [hset_get] at h3
      rw [hset_length] at h1
      by_cases e : k = k0
      · subst e
        rw [if_pos ⟨rfl, h0⟩] at h3
        exact .inl ⟨0, by simpa using h3, by simp⟩
      · rw [if_neg (by simp [e])] at h3
        exact .inr ⟨h1, by simp [e, h2], h3⟩

theorem putM_length : ∀ (ks : List Nat) (bs H : Heap), ks.length ≤ bs.length → (putM H ks bs).length = H.length + (bs.length - ks.length)
  | [], bs, H, _ => by simp [putM]
  | k0 :: ks, [], H, hl => by simp at hl
  | k0 :: ks, b0 :: bs, H, hl => by
    simp only [putM]
    rw [putM_length ks bs _ (by simpa using hl), hset_length]; simp

/-- Maps stay maps. -/
def mpKeep : Heap → Heap → Bool
  | .mp _ _ _ :: r, .mp _ _ _ :: t => mpKeep r t
  | .mp _ _ _ :: _, _ => false
  | _ :: r, _ :: t => mpKeep r t
  | [], _ => true
  | _ :: _, [] => false

theorem mpKeep_get : ∀ {H0 H1 : Heap}, mpKeep H0 H1 = true → ∀ (j : Nat) (kk : IntKind) (d : Int → Bool) (v : Int → PV), H0[j]? = some (.mp kk d v) → ∃ kk' d' v', H1[j]? = some (.mp kk' d' v')
  | [], _, _, j, _, _, _, h => by simp at h
  | b :: r, [], hm, _, _, _, _, _ => by cases b <;> simp [mpKeep] at hm
  | b :: r, b' :: t, hm, 0, kk, d, v, h => by
    simp at h; subst h
    cases b' <;> simp [mpKeep] at hm
    exact ⟨_, _, _, rfl⟩
  | b :: r, b' :: t, hm, j + 1, kk, d, v, h => by
    have hm2 : mpKeep r t = true := by cases b <;> cases b' <;> simp [mpKeep] at hm <;> exact hm
    simpa using mpKeep_get hm2 j kk d v (by simpa using h)

def scM (av : AV) (H0 H1 : Heap) : Bool :=
  scA H1.length av && H1.all (fun | .own c => c.all (scA H1.length) | .anc _ _ => false | _ => true) && decide (H0.length ≤ H1.length) && mpKeep H0 H1 && H0.all notAnc

/-- The frame of who is called with blocks that are lent. -/
def subC (C : Ctx) (m : Map) (H : Heap) (ks : List Nat) (H0 : Heap) (w : World) : Ctx :=
  ⟨fun b => OK C m H w b, fun b => w.heap.size ≤ b ∨ ∃ (j : Nat) (b0 : Blk) (l : Loc), H0[j]? = some b0 ∧ b0.wr = true ∧ mren m ks j = some l ∧ l.g = b, w, mren m ks⟩

theorem Rel.wrLt (R : Rel C m s tmps w) {k : Nat} {b : Blk} (hb : s.H[k]? = some b) (hw : b.wr = true) {l : Loc} (hl : m k = some l) : C.B l.g ∧ l.g < w.heap.size := by
  cases b with
  | own c =>
    rcases R.blk k c hb with ⟨_, hn⟩ | ⟨l', cur, e, a1, a2, a3, _⟩
    · rw [hl] at hn; cases hn
    · rw [hl] at a1; cases a1
      exact ⟨a2, (Array.getElem?_eq_some_iff.1 a3).1⟩
  | mp kk d v =>
    obtain ⟨l', ar, clk, vs, a1, a2, a3, _⟩ := R.mp.1 k kk d v hb
    rw [hl] at a1; cases a1
    exact ⟨a2, (Array.getElem?_eq_some_iff.1 a3).1⟩
  | _ => cases hw

theorem Rel.inj2 (R : Rel C m s tmps w) {k k' : Nat} {b b' : Blk} (hb : s.H[k]? = some b) (hw : b.wr = true) (hb' : s.H[k']? = some b') (hw' : b'.wr = true) {l l' : Loc} (hl : m k = some l) (hl' : m k' = some l') (e : l.g = l'.g) : k = k' := by
  cases b with
  | own c =>
    cases b' with
    | own c' => exact R.inj k k' c c' l l' hb hb' hl hl' e
    | mp kk d v => exact absurd e ((R.mpOK hb' hl').2.2 k c l hb hl)
    | _ => cases hw'
  | mp kk d v =>
    cases b' with
    | own c' => exact absurd e.symm ((R.mpOK hb hl).2.2 k' c' l' hb' hl')
    | mp kk' d' v' => exact R.mp.2.1 _ _ _ _ _ _ _ _ _ _ hb hb' hl hl' e
    | _ => cases hw'
  | _ => cases hw

theorem LeH.wr {π : List Nat} {H H1 : Heap} (h3 : LeH π H π H1) {j : Nat} {b0 : Blk} (h : H1[j]? = some b0) (hw : b0.wr = true) : ∃ k' b, π[j]? = some k' ∧ H[k']? = some b ∧ b.wr = true ∧ ((∃ c, b0 = .own c) → ∃ c, b = .own c) ∧ ((∃ kk d v, b0 = .mp kk d v) → ∃ kk d v, b = .mp kk d v) := by
  obtain ⟨g1, g2⟩ := h3.get
  cases b0 with
  | own c =>
    obtain ⟨k', d, a1, a2, _⟩ := LeH.own g2 j c h
    exact ⟨k', _, a1, a2, rfl, (fun _ => ⟨_, rfl⟩), fun ⟨_, _, _, h⟩ => by cases h⟩
  | mp kk d v =>
    obtain ⟨k', a, b⟩ := g2 j _ h
    exact ⟨k', _, a, hget_some b (by simp), rfl, (fun ⟨_, h⟩ => by cases h), fun _ => ⟨_, _, _, rfl⟩⟩
  | _ => cases hw

theorem Rel.joinM (R : Rel C m s tmps w) {ks : List Nat} {H0 H1 : Heap} {r : AV} {w' : World} {v : Value} {m' : Map} (hle : LeH ks s.H ks H0) (hks : ∀ k ∈ ks, k < s.H.length) (R1 : Rel (subC C m s.H ks H0 w) m' ⟨1, [(0, r)], H1 ++ ancs 0 H0.length⟩ #[v] w') (hsc : scM r H0 H1 = true) :
    ∃ m2, Rel C m2 { s with H := putM s.H ks (H1.map (Blk.ren (ks ++ List.range' s.H.length (H1.length - ks.length)))) } tmps w' ∧
      AVal (Reads (OK C m2 (putM s.H ks (H1.map (Blk.ren (ks ++ List.range' s.H.length (H1.length - ks.length))))) w') w') m2 (putM s.H ks (H1.map (Blk.ren (ks ++ List.range' s.H.length (H1.length - ks.length))))) (Go.Pv.ren (ks ++ List.range' s.H.length (H1.length - ks.length)) r) v := by
  obtain ⟨g1, g2⟩ := hle.get
  unfold scM at hsc
  rw [Bool.and_eq_true, Bool.and_eq_true, Bool.and_eq_true, Bool.and_eq_true, decide_eq_true_eq] at hsc
  obtain ⟨⟨⟨⟨s1, s2⟩, s3⟩, s4⟩, s5⟩ := hsc
  have hn : ks.length ≤ H1.length := by omega
  generalize hσe : ks ++ List.range' s.H.length (H1.length - ks.length) = σ
  have hσlen : σ.length = H1.length := by rw [← hσe]; simp; omega
  generalize hH2 : putM s.H ks (H1.map (Blk.ren σ)) = H2
  have hlen2 : H2.length = s.H.length + (H1.length - ks.length) := by rw [← hH2, putM_length _ _ _ (by simpa using hn)]; simp
  -- where the callee's blocks lie
  have hm1 : ∀ j, j < H0.length → m' j = mren m ks j := fun j hj => by
    have h : (H1 ++ ancs 0 H0.length)[H1.length + j]? = some (.anc j j) := by
      rw [List.getElem?_append_right (by omega), Nat.add_sub_cancel_left, ancs_at _ _ _ hj, Nat.zero_add]
    exact (R1.mp.2.2 _ _ _ h).2
  obtain ⟨m2, hm2⟩ : ∃ m2 : Map, m2 = fun k => if k < s.H.length then m k else m' (ks.length + (k - s.H.length)) := ⟨_, rfl⟩
  have hmo : ∀ k, k < s.H.length → m2 k = m k := fun k h => by rw [hm2]; simp [h]
  have hσ : ∀ (j k : Nat), σ[j]? = some k → k < H2.length ∧ m2 k = m' j := by
    intro j k h
    rw [← hσe] at h
    by_cases hj : j < ks.length
    · rw [List.getElem?_append_left hj] at h
      have hk := hks k (List.mem_of_getElem? h)
      refine ⟨by omega, ?_⟩
      rw [hmo k hk, hm1 j (by omega)]
      simp only [mren, h, Option.bind_some]
    · rw [List.getElem?_append_right (by omega)] at h
      have hj2 : j - ks.length < H1.length - ks.length := by
        have := (List.getElem?_eq_some_iff.1 h).1
        simpa using this
      rw [List.getElem?_range' hj2] at h
      simp only [Option.some.injEq, Nat.one_mul] at h
      subst h
      refine ⟨by omega, ?_⟩
      rw [hm2]
      simp only
      rw [if_neg (by omega)]
      congr 1
      omega
  have hσ2 : ∀ k, k < σ.length → σ.getD k 0 < H2.length ∧ m2 (σ.getD k 0) = m' k := fun k hk => by
    have : σ[k]? = some (σ.getD k 0) := by simp [List.getD, List.getElem?_eq_getElem hk]
    exact hσ k _ this
  have hget : ∀ (k : Nat) (b : Blk), H2[k]? = some b → (∃ (j : Nat) (b' : Blk), H1[j]? = some b' ∧ b = b'.ren σ ∧ σ[j]? = some k) ∨ (k < s.H.length ∧ k ∉ ks ∧ s.H[k]? = some b) := by
    intro k b h
    rw [← hH2] at h
    rcases putM_get ks _ s.H k b hks (by simpa using hn) h with ⟨j, h1, h2⟩ | h
    · rw [List.length_map, hσe] at h2
      rw [List.getElem?_map] at h1
      cases e : H1[j]? with
      | none => rw [e] at h1; cases h1
      | some b' => rw [e] at h1; exact .inl ⟨j, b', e, (Option.some.inj h1).symm, h2⟩
    · exact .inr h
  have hHc : ∀ (j : Nat) (b : Blk), H1[j]? = some b → (H1 ++ ancs 0 H0.length)[j]? = some b := fun j b h => by
    rw [List.getElem?_append_left (List.getElem?_eq_some_iff.1 h).1]; exact h
  have hown : ∀ (k : Nat) (c : List AV), H2[k]? = some (.own c) → (∃ (j : Nat) (c' : List AV), H1[j]? = some (.own c') ∧ c = c'.map (Go.Pv.ren σ) ∧ σ[j]? = some k) ∨ (k < s.H.length ∧ k ∉ ks ∧ s.H[k]? = some (.own c)) := by
    intro k c h
    rcases hget k _ h with ⟨j, b', h1, h2, h3⟩ | h
    · cases b' with
      | own c' => simp only [Blk.ren, Blk.own.injEq] at h2; exact .inl ⟨j, c', h1, h2, h3⟩
      | _ => cases h2
    · exact .inr h
  have hmps : ∀ (k : Nat) (kk : IntKind) (d : Int → Bool) (vv : Int → PV), H2[k]? = some (.mp kk d vv) → (∃ j : Nat, H1[j]? = some (.mp kk d vv) ∧ σ[j]? = some k) ∨ (k < s.H.length ∧ k ∉ ks ∧ s.H[k]? = some (.mp kk d vv)) := by
    intro k kk d vv h
    rcases hget k _ h with ⟨j, b', h1, h2, h3⟩ | h
    · cases b' with
      | mp kk' d' v' => simp only [Blk.ren, Blk.mp.injEq] at h2; obtain ⟨rfl, rfl, rfl⟩ := h2; exact .inl ⟨j, h1, h3⟩
      | _ => cases h2
    · exact .inr h
  have hfro : ∀ (k : Nat) (c : List PV), H2[k]? = some (.fro c) → (∃ j : Nat, H1[j]? = some (.fro c) ∧ σ[j]? = some k) ∨ (k < s.H.length ∧ k ∉ ks ∧ s.H[k]? = some (.fro c)) := by
    intro k c h
    rcases hget k _ h with ⟨j, b', h1, h2, h3⟩ | h
    · cases b' with
      | fro c' => simp only [Blk.ren, Blk.fro.injEq] at h2; subst h2; exact .inl ⟨j, h1, h3⟩
      | _ => cases h2
    · exact .inr h
  have lent : ∀ (j : Nat) (b0 : Blk) (l : Loc), H0[j]? = some b0 → b0.wr = true → mren m ks j = some l → ∃ k' b, k' ∈ ks ∧ s.H[k']? = some b ∧ b.wr = true ∧ m k' = some l ∧ ((∃ c, b0 = .own c) → ∃ c, b = .own c) ∧ ((∃ kk d v, b0 = .mp kk d v) → ∃ kk d v, b = .mp kk d v) := by
    intro j b0 l h hw hl
    obtain ⟨k', b, a1, a2, a3, a4, a5⟩ := hle.wr h hw
    simp only [mren, a1, Option.bind_some] at hl
    exact ⟨k', b, List.mem_of_getElem? a1, a2, a3, hl, a4, a5⟩
  have hB1 : ∀ b, (subC C m s.H ks H0 w).B b → C.B b := by
    intro b hb
    rcases hb with hb | ⟨j, b0, l, h1, h2, h3, rfl⟩
    · exact R.base b hb
    · obtain ⟨k', b, _, a2, a3, a4, _⟩ := lent j b0 l h1 h2 h3
      exact (R.wrLt a2 a3 a4).1
  have hBx : ∀ (k : Nat) (b : Blk) (l : Loc), k ∉ ks → s.H[k]? = some b → b.wr = true → m k = some l → ¬ (subC C m s.H ks H0 w).B l.g := by
    intro k b l hk hb hw hl hB
    rcases hB with hB | ⟨j, b0, l0, h1, h2, h3, h4⟩
    · have := (R.wrLt hb hw hl).2
      omega
    · obtain ⟨k', b', a1, a2, a3, a4, _⟩ := lent j b0 l0 h1 h2 h3
      have := R.inj2 hb hw a2 a3 hl a4 h4.symm
      subst this
      exact hk a1
  have hcell : ∀ b o x, OK C m s.H w b → w.cell? ⟨b, o, none⟩ = some x → w'.cell? ⟨b, o, none⟩ = some x := by
    intro b o x hb hc
    by_cases hB : (subC C m s.H ks H0 w).B b
    · exfalso
      rcases hB with hB | ⟨j, b0, l0, h1, h2, h3, h4⟩
      · have := hb.2.1; omega
      · obtain ⟨k', b', a1, a2, a3, a4, _⟩ := lent j b0 l0 h1 h2 h3
        cases b' with
        | own c => exact hb.2.2 k' c l0 a2 a4 h4
        | mp kk d vv =>
          obtain ⟨l', ar, clk, vs, c1, c2, c3, _⟩ := R.mp.1 k' kk d vv a2
          rw [a4] at c1; cases c1
          rw [h4] at c3
          unfold World.cell? at hc
          simp only [c3] at hc
          first | cases hc | simp at hc
        | _ => cases a3
    · rw [World.cell?_of_block (w := w) (R1.below.block b hB)]; exact hc
  have hOK : ∀ b, OK (subC C m s.H ks H0 w) m' (H1 ++ ancs 0 H0.length) w' b → OK C m2 H2 w' b := by
    intro b hb
    refine ⟨?_, hb.2.1, fun k c l h hl => ?_⟩
    · rcases hb.1 with h | h
      · exact h.1
      · exact .inr (hB1 b h)
    · rcases hown k c h with ⟨j, c', h1, _, h3⟩ | ⟨h1, h2, h3⟩
      · rw [(hσ j k h3).2] at hl
        exact hb.2.2 j c' l (hHc _ _ h1) hl
      · rw [hmo k h1] at hl
        rcases hb.1 with h' | h'
        · exact h'.2.2 k c l h3 hl
        · intro e
          exact hBx k _ l h2 h3 rfl hl (by rw [e]; exact h')
  have ho1 : ∀ b, OK C m s.H w b → OK C m2 H2 w' b := by
    intro b hb
    refine ⟨hb.1, Nat.lt_of_lt_of_le hb.2.1 R1.below.size, fun k c l h hl e => ?_⟩
    rcases hown k c h with ⟨j, c', h1, _, h3⟩ | ⟨h1, h2, h3⟩
    · rw [(hσ j k h3).2] at hl
      rcases (R1.wrLt (hHc _ _ h1) rfl hl).1 with hB | ⟨j0, b0, l0, a1, a2, a3, a4⟩
      · have := hb.2.1; omega
      · obtain ⟨k', b', d1, d2, d3, d4, d5, d6⟩ := lent j0 b0 l0 a1 a2 a3
        cases b0 with
        | own c0 =>
          obtain ⟨c1, rfl⟩ := d5 ⟨_, rfl⟩
          exact hb.2.2 k' c1 l0 d2 d4 (by rw [a4, e])
        | mp kk d vv =>
          obtain ⟨kk', d', v', f1⟩ := mpKeep_get s4 j0 kk d vv a1
          have hj0 : j0 < H0.length := (List.getElem?_eq_some_iff.1 a1).1
          have f2 : m' j0 = some l0 := by rw [hm1 j0 hj0]; exact a3
          exact (R1.mpOK (hHc _ _ f1) f2).2.2 j c' l (hHc _ _ h1) hl a4.symm
        | _ => cases a2
    · rw [hmo k h1] at hl
      exact hb.2.2 k c l h3 hl e
  have rd1 : ∀ p x, Reads (OK C m s.H w) w p x → Reads (OK C m2 H2 w') w' p x := fun p x h => h.extc ho1 hcell
  have rd2 : ∀ p x, Reads (OK (subC C m s.H ks H0 w) m' (H1 ++ ancs 0 H0.length) w') w' p x → Reads (OK C m2 H2 w') w' p x := fun p x h => h.mono hOK
  have hlen3 : s.H.length ≤ H2.length := by omega
  have sall : ∀ (j : Nat) (b : Blk), H1[j]? = some b → (match b with | .own c => c.all (scA H1.length) | .anc _ _ => false | _ => true) = true := fun j b h => by
    have := (List.all_eq_true.1 s2) _ (List.mem_of_getElem? h)
    cases b <;> exact this
  refine ⟨m2, ⟨R.laid.ext rd1, R.below.trans ⟨R1.below.os, R1.below.tape, R1.below.output, R1.below.size, fun k hk => R1.below.block k fun h => hk (hB1 k h), R1.below.dr⟩, fun b h => R.base b (Nat.le_trans R1.below.size h), R.size, ?_, ?_, ?_, fun t => ?_, ?_, ?_, ?_⟩, ?_⟩
  · intro k k' c c' l l' h1 h2 h3 h4 h5
    rcases hown k c h1 with ⟨j, d, a1, _, a3⟩ | ⟨a1, a2, a3⟩ <;> rcases hown k' c' h2 with ⟨j', d', b1, _, b3⟩ | ⟨b1, b2, b3⟩
    · rw [(hσ _ _ a3).2] at h3; rw [(hσ _ _ b3).2] at h4
      have := R1.inj j j' d d' l l' (hHc _ _ a1) (hHc _ _ b1) h3 h4 h5
      subst this
      rw [a3] at b3
      exact Option.some.inj b3
    · rw [(hσ _ _ a3).2] at h3; rw [hmo _ b1] at h4
      exact absurd (by rw [← h5]; exact (R1.wrLt (hHc _ _ a1) rfl h3).1) (hBx k' _ l' b2 b3 rfl h4)
    · rw [hmo _ a1] at h3; rw [(hσ _ _ b3).2] at h4
      exact absurd (by rw [h5]; exact (R1.wrLt (hHc _ _ b1) rfl h4).1) (hBx k _ l a2 a3 rfl h3)
    · rw [hmo _ a1] at h3; rw [hmo _ b1] at h4
      exact R.inj k k' c c' l l' a3 b3 h3 h4 h5
  · intro k c h
    rcases hown k c h with ⟨j, c', a1, rfl, a3⟩ | ⟨a1, a2, a3⟩
    · rcases R1.blk j c' (hHc _ _ a1) with ⟨e, hn⟩ | ⟨l, cur, e, b1, b2, b3, b4, b5, b6, b7⟩
      · exact .inl ⟨by rw [e]; rfl, by rw [(hσ _ _ a3).2]; exact hn⟩
      · refine .inr ⟨l, cur, e, by rw [(hσ _ _ a3).2]; exact b1, hB1 _ b2, b3, b4, b5, by simpa using b6, fun i hi => ?_⟩
        rw [List.length_map] at hi
        rw [List.getElem_map]
        have hs : scA σ.length c'[i] = true := by
          rw [hσlen]
          exact (List.all_eq_true.1 (sall j _ a1)) _ (List.getElem_mem hi)
        exact (b7 i hi).sig rd2 hσ2 hs
    · refine (R.blk k c a3).ext rd1 hlen3 hmo (hmo k a1) fun l hl => R1.below.block _ (hBx k _ l a2 a3 rfl hl)
  · intro k c h
    rcases hfro k c h with ⟨j, a1, a3⟩ | ⟨a1, a2, a3⟩
    · rcases R1.fro j c (hHc _ _ a1) with ⟨e1, e2⟩ | ⟨l, vs, e1, e2, e3, e4⟩
      · exact .inl ⟨e1, by rw [(hσ _ _ a3).2]; exact e2⟩
      · exact .inr ⟨l, vs, by rw [(hσ _ _ a3).2]; exact e1, hOK _ e2, e3, fun i hi => ⟨(e4 i hi).1, rd2 _ _ (e4 i hi).2⟩⟩
    · rcases R.fro k c a3 with ⟨e1, e2⟩ | ⟨l, vs, e1, e2, e3, e4⟩
      · exact .inl ⟨e1, by rw [hmo k a1]; exact e2⟩
      · exact .inr ⟨l, vs, by rw [hmo k a1]; exact e1, ho1 _ e2, e3, fun i hi => ⟨hcell _ _ _ e2 (e4 i hi).1, rd1 _ _ (e4 i hi).2⟩⟩
  · exact (R.slot t).ext rd1 hlen3 hmo
  · intro k kk d vv h
    rcases hmps k kk d vv h with ⟨j, a1, a3⟩ | ⟨a1, a2, a3⟩
    · obtain ⟨l, ar, clk, vs, b1, b2, b3, b4, b5, b6, b7⟩ := R1.mp.1 j kk d vv (hHc _ _ a1)
      exact ⟨l, ar, clk, vs, by rw [(hσ _ _ a3).2]; exact b1, hB1 _ b2, b3, b4, b5, b6, fun z hz => rd2 _ _ (b7 z hz)⟩
    · obtain ⟨l, ar, clk, vs, b1, b2, b3, b4, b5, b6, b7⟩ := R.mp.1 k kk d vv a3
      exact ⟨l, ar, clk, vs, by rw [hmo k a1]; exact b1, b2, by rw [R1.below.block _ (hBx k _ l a2 a3 rfl b1)]; exact b3, b4, b5, b6, fun z hz => rd1 _ _ (b7 z hz)⟩
  · intro k k' kk d vv kk' d' v' l l' h1 h2 h3 h4 h5
    rcases hmps k kk d vv h1 with ⟨j, a1, a3⟩ | ⟨a1, a2, a3⟩ <;> rcases hmps k' kk' d' v' h2 with ⟨j', b1, b3⟩ | ⟨b1, b2, b3⟩
    · rw [(hσ _ _ a3).2] at h3; rw [(hσ _ _ b3).2] at h4
      have := R1.mp.2.1 _ _ _ _ _ _ _ _ _ _ (hHc _ _ a1) (hHc _ _ b1) h3 h4 h5
      subst this
      rw [a3] at b3
      exact Option.some.inj b3
    · rw [(hσ _ _ a3).2] at h3; rw [hmo _ b1] at h4
      exact absurd (by rw [← h5]; exact (R1.wrLt (hHc _ _ a1) rfl h3).1) (hBx k' _ l' b2 b3 rfl h4)
    · rw [hmo _ a1] at h3; rw [(hσ _ _ b3).2] at h4
      exact absurd (by rw [h5]; exact (R1.wrLt (hHc _ _ b1) rfl h4).1) (hBx k _ l a2 a3 rfl h3)
    · rw [hmo _ a1] at h3; rw [hmo _ b1] at h4
      exact R.mp.2.1 _ _ _ _ _ _ _ _ _ _ a3 b3 h3 h4 h5
  · intro k i j h
    rcases hget k _ h with ⟨j', b', h1, h2, _⟩ | ⟨a1, a2, a3⟩
    · have := sall j' b' h1
      cases b' with
      | anc _ _ => cases this
      | _ => cases h2
    · obtain ⟨c1, c2⟩ := R.mp.2.2 k i j a3
      exact ⟨by simp only; omega, by rw [hmo j c1]; exact c2⟩
  · have := R1.slot 0
    exact AVal.sig rd2 hσ2 this (by rw [hσlen]; exact s1)

/-! ### The call -/

def argM1 (H : Heap) (ks : List Nat) (x a : AV) : Prop :=
  match a with
  | .p pv => (match peekG H x with | some (p, pv', true) => p ∧ pv' = pv | _ => False)
  | a => x = Go.Pv.ren ks a ∧ scA ks.length a = true

def argsM (H : Heap) (ks : List Nat) : List AV → List AV → Prop
  | x :: xs, a :: avs => argM1 H ks x a ∧ argsM H ks xs avs
  | [], [] => True
  | _, _ => False

theorem argsM_val (R : Rel C m s tmps w) {rd' : PV → Value → Prop} {ks : List Nat} {H0 : Heap} (h1 : ∀ p v, Reads (OK C m s.H w) w p v → rd' p v) (hl : H0.length = ks.length) : ∀ (X avs : List AV) (f : Nat → Value), argsM s.H ks X avs → (∀ i (h : i < X.length), AVal (Reads (OK C m s.H w) w) m s.H X[i] (f i)) →
    avs.length = X.length ∧ ∀ i (h : i < avs.length), AVal rd' (mren m ks) H0 avs[i] (f i)
  | [], [], f, _, _ => ⟨rfl, fun i h => by simp at h⟩
  | x :: xs, a :: avs, f, h, hv => by
    obtain ⟨k1, k2⟩ := argsM_val R h1 hl xs avs (fun i => f (i + 1)) h.2 fun i hi => by have := hv (i + 1) (by simp; omega); rwa [List.getElem_cons_succ] at this
    refine ⟨by simp [k1], fun i hi => ?_⟩
    cases i with
    | succ i => simpa using k2 i (by simpa using hi)
    | zero =>
      have hx := hv 0 (by simp)
      simp only [List.getElem_cons_zero] at hx ⊢
      have h0 := h.1
      unfold argM1 at h0
      split at h0
      · rename_i pv
        split at h0
        · rename_i p pv' hp
          obtain ⟨g1, rfl⟩ := h0
          exact .p _ _ (h1 _ _ ((peekG_val R hx hp g1).2 rfl))
        · exact h0.elim
      · obtain ⟨rfl, hsc⟩ := h0
        exact hx.unren h1 hl hsc
  | [], _ :: _, _, h, _ => h.elim
  | _ :: _, [], _, h, _ => h.elim

theorem call_doesM {o : Oper} {fo : Operand} {args : Array Operand} {ts : Array TypeId} (ho : o.op = .call { callee := .value fo, args := args, argTypes := ts }) {g : FuncId} {cap : List PV} (hfo : s.ev fo = .p (.fn g cap)) {ks : List Nat} {avs : List AV} {H0 H1 : Heap} {r : AV}
    (hc : FnM P g avs H0 r H1) (hargs : argsM s.H ks (args.toList.map s.ev ++ cap.map .p) avs) (hle : LeH ks s.H ks H0) (hnd : ks.Nodup) (hks : ks.all (fun k => decide (k < s.H.length)) = true) (hsc : scM r H0 H1 = true) :
    DoesW P o s (Go.Pv.ren (ks ++ List.range' s.H.length (H1.length - ks.length)) r) (putM s.H ks (H1.map (Blk.ren (ks ++ List.range' s.H.length (H1.length - ks.length))))) := by
  intro C m a w K Q R hK
  have hks' : ∀ k ∈ ks, k < s.H.length := fun k hk => by simpa using (List.all_eq_true.1 hks) k hk
  have hfv := R.ev fo
  rw [hfo] at hfv
  generalize hfe : a.eval fo = fv at hfv
  have hfv := hfv.p_inv
  cases hfv with
  | fn _ _ vs hcl hcr =>
    obtain ⟨⟨fn, hfn, hnm, hbd⟩, hcalls⟩ := hc
    have hrun : (execOp a.eval o).run P w = .ok (.enter g (args.map a.eval ++ vs)) w := by
      have hnm' : ¬ fn.name = "runtime.NumGoroutine" := by simpa using hnm
      have hbd' : ¬ fn.body = none := by intro e; rw [e] at hbd; simp at hbd
      simp [execOp, ho, resolve, hfe, Deferred.ofValue, invoke, callFunc, hfn, hnm', hbd']
    unfold Oper.wp
    rw [hrun]
    simp only [Oper.upon]
    obtain ⟨g1, g2⟩ := hle.get
    have ho1 : ∀ b, OK C m s.H w b → OK (subC C m s.H ks H0 w) (mren m ks) H0 w b := by
      refine fun b h => ⟨.inl h, h.2.1, fun k c l hk hl => ?_⟩
      obtain ⟨k', d, a1, a2, _⟩ := LeH.own g2 k c hk
      simp only [mren, a1, Option.bind_some] at hl
      exact h.2.2 k' _ l a2 hl
    obtain ⟨e1, e2⟩ := argsM_val R (rd' := Reads (OK (subC C m s.H ks H0 w) (mren m ks) H0 w) w) (H0 := H0) (fun p v h => h.mono ho1) g1.symm _ avs (fun i => (args.map a.eval ++ vs).getD i undef) hargs fun i hi => by
      simp only [List.length_append, List.length_map, Array.length_toList] at hi
      by_cases hip : i < args.size
      · rw [List.getElem_append_left (by simpa using hip)]
        simp only [Array.getD_eq_getD_getElem?]
        rw [Array.getElem?_append_left (by simpa using hip)]
        have := R.ev args[i]
        simpa [Array.getElem?_eq_getElem hip] using this
      · rw [List.getElem_append_right (by simp; omega)]
        simp only [Array.getD_eq_getD_getElem?]
        rw [Array.getElem?_append_right (by simp; omega)]
        simp only [List.getElem_map, List.length_map, Array.length_toList, Array.size_map]
        have := hcr (i - args.size) (by omega)
        rw [Array.getD_eq_getD_getElem?] at this
        exact .p _ _ this
    have hsz : (args.map a.eval ++ vs).size = avs.length := by
      rw [e1]; simp; omega
    have s5 : H0.all notAnc = true := by
      unfold scM at hsc
      rw [Bool.and_eq_true] at hsc
      exact hsc.2
    have R0 : Rel (subC C m s.H ks H0 w) (mren m ks) ⟨avs.length, entA 0 avs, H0⟩ (args.map a.eval ++ vs) w := by
      refine R.weakenC (s1 := ⟨avs.length, entA 0 avs, H0⟩) hsz hnd hle ho1 (BelowP.refl _ _) (fun b h => .inl h) (fun k b l h hw hl _ => .inr ⟨k, b, l, h, hw, hl, rfl⟩) (fun k i j h => ?_) fun t => ?_
      · exact absurd rfl (notAnc_spec ((List.all_eq_true.1 s5) _ (List.mem_of_getElem? h)) i j)
      · unfold St.get
        simp only
        rw [entA_lk, if_pos (Nat.zero_le _), Nat.sub_zero]
        by_cases ht : t < avs.length
        · have := e2 t ht
          simpa [List.getD, List.getElem?_eq_getElem ht] using this
        · rw [List.getD_eq_getElem?_getD, List.getElem?_eq_none (by omega)]
          exact .dead _
    have R0' := R0.addAnc (n := H0.length) (Nat.le_refl _) fun i _ => rfl
    refine (hcalls _ _ w _ R0').mono fun e w' ⟨v, m', he, R1⟩ => ?_
    subst he
    obtain ⟨m2, R2, hv⟩ := R.joinM hle hks' R1 hsc
    exact hK v m2 w' R2 hv

/-- THE WORD OF THE WALK: a call that is lent blocks. -/
theorem runs_callM {all : Array Oper} {rest : List Oper} {K : St → Prop} {dst : Option Tmp} {ty : TypeId} {pos : String} {aft : Array Edge} {gd : Option (Nat × Bool)} {fo : Operand} {args : Array Operand} {ts : Array TypeId} {g : FuncId} {avs : List AV} {H0 H1 : Heap} {r : AV} (ks : List Nat)
    (hc : FnM P g avs H0 r H1) {cap : List PV} (hfo : s.ev fo = .p (.fn g cap)) (hg : guardA all s { dst := dst, op := .call { callee := .value fo, args := args, argTypes := ts }, type := ty, pos := pos, after := aft, guard := gd } = some true)
    (hargs : argsM s.H ks (args.toList.map s.ev ++ cap.map .p) avs) (hle : LeH ks s.H ks H0) (hnd : ks.Nodup) (hks : ks.all (fun k => decide (k < s.H.length)) = true) (hsc : scM r H0 H1 = true) (hd : dstOk s dst)
    (h : Runs P false all rest K (({ s with H := putM s.H ks (H1.map (Blk.ren (ks ++ List.range' s.H.length (H1.length - ks.length)))) } : St).put dst (Go.Pv.ren (ks ++ List.range' s.H.length (H1.length - ks.length)) r))) :
    Runs P false all ({ dst := dst, op := .call { callee := .value fo, args := args, argTypes := ts }, type := ty, pos := pos, after := aft, guard := gd } :: rest) K s := by
  obtain ⟨s', hr, hK⟩ := h
  exact ⟨s', .cons (.op s _ _ hg (dstOk_spec hd) (call_doesM rfl hfo hc hargs hle hnd hks hsc) fun h => by cases h) hr, hK⟩

/-! ### How much stands in a map -/

open Classical in
noncomputable def mpLen (d : Int → Bool) : Nat := if h : ∃ l : List Int, l.Nodup ∧ ∀ z, z ∈ l ↔ d z = true then h.choose.length else 0

theorem mlk_some {kk : IntKind} {z : Int} : ∀ {es : List MapEntry} {x : Value}, mlk kk z es = some x → ∃ e ∈ es, e.key = .int kk z
  | [], _, h => by cases h
  | e :: es, x, h => by
    by_cases hk : e.key = .int kk z
    · exact ⟨e, by simp, hk⟩
    · rw [mlk_neg _ hk] at h
      obtain ⟨e', h1, h2⟩ := mlk_some h
      exact ⟨e', by simp [h1], h2⟩

theorem mlk_ne {kk : IntKind} {z : Int} : ∀ {es : List MapEntry}, (∃ e ∈ es, e.key = .int kk z) → mlk kk z es ≠ none
  | [], h => by obtain ⟨e, h1, _⟩ := h; cases h1
  | e :: es, h => by
    by_cases hk : e.key = .int kk z
    · rw [mlk_pos _ hk]; simp
    · rw [mlk_neg _ hk]
      obtain ⟨e', h1, h2⟩ := h
      rcases List.mem_cons.1 h1 with rfl | h1
      · exact absurd h2 hk
      · exact mlk_ne ⟨e', h1, h2⟩

def keyInt : Value → Int
  | .int _ z => z
  | _ => 0

end

end Go.Pv

/-
  Steps of a region beside those that are evaluated: literal rows as one's own, entries of literal maps. Conditions: none; a library text.
-/
set_option linter.all false

namespace Go.Pv
open Go.RowKit
section
variable {P : Program} {T : TypeId → Option TI} {s : St}
section
variable {C : Ctx} {m : Map} {tmps : Array Value} {w : World}
end
end
end Go.Pv

/-
  The library's sort by a comparison, over a row of the caller's own: what it leaves. Conditions: none; a library text.
-/
set_option linter.all false
namespace Go.Pv
open Go.RowKit

theorem below_grow {w w' : World} (h : Below w.heap.size w w') : ∃ q os, w' = Go.Sort.grow (w.drewN q) os := by
  refine ⟨w'.drawn - w.drawn, w'.heap.extract w.heap.size w'.heap.size, ?_⟩
  obtain ⟨h1, h2, h3, h4, h5, h6⟩ := h
  cases w with
  | mk heap tape drawn os output =>
    cases w' with
    | mk heap' tape' drawn' os' output' =>
      simp only at h1 h2 h3 h4 h5 h6
      subst h1 h2 h3
      have hh : heap' = heap ++ heap'.extract heap.size heap'.size := by
        apply Array.ext_getElem?
        intro k
        by_cases hk : k < heap.size
        · rw [Array.getElem?_append_left hk]; exact h5 k hk
        · rw [Array.getElem?_append_right (by omega), Array.getElem?_extract]
          by_cases hk2 : k < heap'.size
          · rw [if_pos (by simp; omega), show heap.size + (k - heap.size) = k by omega]
          · rw [if_neg (by simp; omega), Array.getElem?_eq_none (by omega)]
      have hd : drawn' = drawn + (drawn' - drawn) := by omega
      show World.mk heap' tape' drawn' os' output' = World.mk (heap ++ heap'.extract heap.size heap'.size) tape' (drawn + (drawn' - drawn)) os' output'
      rw [← hh, ← hd]

theorem below_sortWorld {α : Type} [Inhabited α] (enc : α → Value) (w : World) (blk off m : Nat) (dk : Array α) (os : Array Obj) : ∀ b, b ≠ blk → b < w.heap.size → (Go.Proofs.sortWorld enc w blk off m dk os).heap[b]? = w.heap[b]? := by
  intro b hb hs
  unfold Go.Proofs.sortWorld
  rw [Go.Sort.heap_grow_old _ _ (by simpa using hs)]
  simp only [Go.Sort.putRow, Go.Sort.mapBlock, Array.getElem?_modify]
  rw [if_neg (Ne.symm hb)]
  rfl

theorem perm_sorted_unique {lt : PV → PV → Prop} : ∀ (xs ys : List PV), xs.Perm ys → (∀ x ∈ xs, ∀ y ∈ xs, ¬ lt x y → ¬ lt y x → x = y) → xs.Pairwise (fun x y => ¬ lt y x) → ys.Pairwise (fun x y => ¬ lt y x) → xs = ys
  | [], ys, h, _, _, _ => by simpa using h.symm.eq_nil.symm
  | x :: r, [], h, _, _, _ => by simpa using h.eq_nil
  | x :: r, y :: s, h, ha, h1, h2 => by
    have hxy : x = y := by
      have hx : x ∈ y :: s := h.mem_iff.1 (by simp)
      have hy : y ∈ x :: r := h.mem_iff.2 (by simp)
      rcases List.mem_cons.1 hx with hx | hx
      · exact hx
      · rcases List.mem_cons.1 hy with hy' | hy'
        · exact hy'.symm
        · have a1 := (List.pairwise_cons.1 h1).1 y hy'
          have a2 := (List.pairwise_cons.1 h2).1 x hx
          exact ha x (by simp) y hy a2 a1
    subst hxy
    rw [perm_sorted_unique r s (List.Perm.cons_inv h) (fun a ha' b hb' => ha a (by simp [ha']) b (by simp [hb'])) (List.pairwise_cons.1 h1).2 (List.pairwise_cons.1 h2).2]

section
variable {P : Program} {ρ : Go.Shelf.Ren}

/-- slices.SortFunc: a row of the caller's own; a pure comparison that parts whatever two things; behind it the row holds the one list that rises. -/
theorem sort_m (L : Go.Proofs.SlLaysF.n6 P ρ) {g : FuncId} {cap : List PV} (xs ys : List PV) (cf : PV → PV → Int) (hne : xs ≠ []) (hone : ∀ x ∈ xs, x.one = true)
    (irr : ∀ x ∈ xs, ¬ cf x x < 0) (tr : ∀ x ∈ xs, ∀ y ∈ xs, ∀ z ∈ xs, cf x y < 0 → cf y z < 0 → cf x z < 0) (ntr : ∀ x ∈ xs, ∀ y ∈ xs, ∀ z ∈ xs, ¬ cf x y < 0 → ¬ cf y z < 0 → ¬ cf x z < 0)
    (anti : ∀ x ∈ xs, ∀ y ∈ xs, ¬ cf x y < 0 → ¬ cf y x < 0 → x = y) (hc : ∀ x ∈ xs, ∀ y ∈ xs, FnC P g (x :: y :: cap) (.int .i64 (cf x y)))
    (hperm : xs.Perm ys) (hs : ys.Pairwise fun x y => ¬ cf y x < 0) (hlen : xs.length < 4611686018427387904) :
    FnM P (ρ.f 6) [.sl 0 0 xs.length, .p (.fn g cap)] [.own (opl xs)] (.p (.tup [])) [.own (opl ys)] := by
  have hpos : 0 < xs.length := List.length_pos_iff.2 hne
  refine ⟨?_, fun C m w vals R => ?_⟩
  · obtain ⟨nm, h1, h2⟩ := L.f6
    exact ⟨_, h2, h1, rfl⟩
  have hsz : vals.size = 2 := R.size
  have s0 := R.slot 0
  have s1 := R.slot 1
  simp only [St.get, entA, lk, BEq.rfl, cond_true, show ((0 : Nat) == 1) = false from rfl, cond_false] at s0 s1
  generalize hv0 : vals.getD 0 undef = v0 at s0
  generalize hv1 : vals.getD 1 undef = v1 at s1
  have hvals : vals = #[v0, v1] := by
    apply Array.ext
    · simpa using hsz
    · intro i h1 h2
      simp only [Array.getD_eq_getD_getElem?] at hv0 hv1
      match i, h2 with
      | 0, _ => rw [Array.getElem?_eq_getElem h1] at hv0; simpa using hv0
      | 1, _ => rw [Array.getElem?_eq_getElem h1] at hv1; simpa using hv1
  subst hvals
  have s1 := s1.p_inv
  cases s1 with
  | fn _ _ vs hcl hcr =>
  cases s0 with
  | sl _ _ _ _ hk0 h0 =>
  rcases h0 with ⟨h0, _⟩ | ⟨l, cp, hm, rfl, hle, hlo⟩
  · omega
  rcases R.blk 0 (opl xs) rfl with ⟨hx, _⟩ | ⟨l', cur, e, hm', hB, hg, hcs, hmx, hol, hcell⟩
  · exact absurd (show xs = [] by simpa [opl] using hx) hne
  rw [hm] at hm'; cases hm'
  rw [opl_length] at hol
  generalize hok : OK C m ([.own (opl xs)] ++ ancs 0 [Blk.own (opl xs)].length) w = ok at *
  have hokne : ∀ b, ok b → b ≠ l.g := fun b hb => by
    subst hok
    exact fun e => hb.2.2 0 _ l rfl hm e.symm
  have hoklt : ∀ b, ok b → b < w.heap.size := fun b hb => by subst hok; exact hb.2.1
  have hblk : l.g < w.heap.size := (Array.getElem?_eq_some_iff.1 hg).1
  have hrd : ∀ j (h : j < xs.length), Reads ok w xs[j] (cur.getD (l.o + j) undef) := fun j h => by
    have := hcell j (by rw [opl_length]; exact h)
    simp only [opl, List.getElem_map] at this
    subst hok
    exact this.p_inv
  let α := {p : PV × Value // p.1 ∈ xs ∧ Reads ok w p.1 p.2}
  have inh : α := ⟨(xs[0], cur.getD (l.o + 0) undef), List.getElem_mem hpos, hrd 0 hpos⟩
  letI : Inhabited α := ⟨inh⟩
  let enc : α → Value := fun x => x.1.2
  let cf' : α → α → Int := fun x y => cf x.1.1 y.1.1
  let d : Array α := Array.ofFn fun j : Fin xs.length => (⟨(xs[j], cur.getD (l.o + j) undef), List.getElem_mem j.2, hrd j j.2⟩ : α)
  have hd : d.size = xs.length := by simp [d]
  have hdj : ∀ j (h : j < xs.length), d[j]! = (⟨(xs[j], cur.getD (l.o + j) undef), List.getElem_mem h, hrd j h⟩ : α) := fun j h => by
    rw [getElem!_pos d j (by omega)]
    simp [d]
  have h1 : Go.Proofs.OneCell enc := fun x => (Reads.one x.2.2 (hone _ x.2.1)).1
  have hO : Go.Sort.SWO (Go.Proofs.ltOf cf') := by
    refine ⟨fun x => ?_, fun x y z h1 h2 => ?_, fun x y z h1 h2 => ?_⟩
    · exact decide_eq_false (irr _ x.2.1)
    · exact decide_eq_true (tr _ x.2.1 _ y.2.1 _ z.2.1 (of_decide_eq_true h1) (of_decide_eq_true h2))
    · exact decide_eq_false (ntr _ x.2.1 _ y.2.1 _ z.2.1 (of_decide_eq_false h1) (of_decide_eq_false h2))
  have hH : Go.Sort.Holds enc w l.g (l.o + 0) d := fun j hj => by
    rw [hd] at hj
    have hjc : l.o + j < cur.size := by omega
    refine ⟨?_, ?_⟩
    · rw [hdj j hj]
      show w.cell? ⟨l.g, l.o + 0 + j, none⟩ = some (cur.getD (l.o + j) undef)
      simp only [World.cell?, hg, Nat.add_zero]
      simp [Array.getD_eq_getD_getElem?, Array.getElem?_eq_getElem hjc]
    · simp [World.frozen?, hg]
  have eg : ∀ args w, (callFunc g args).run P w = .ok (.enter g args) w := by
    obtain ⟨fn, f1, f2, f3⟩ := (hc _ (List.getElem_mem hpos) _ (List.getElem_mem hpos)).1
    obtain ⟨c, hcb⟩ := Option.ne_none_iff_exists'.1 (show fn.body ≠ none by intro e; rw [e] at f3; simp at f3)
    exact Go.Proofs.enters_of f1 f2 hcb
  have hcmp : Go.Proofs.CmpLays1 P g vs enc cf' l.g (l.o + 0) d.size w := fun m1 os dk hs x y => by
    have hheap : ∀ b, ok b → (Go.Proofs.sortWorld enc w l.g (l.o + 0) m1 dk os).heap[b]? = w.heap[b]? := fun b hb => below_sortWorld enc w l.g _ m1 dk os b (hokne b hb) (hoklt b hb)
    have hsw : w.heap.size ≤ (Go.Proofs.sortWorld enc w l.g (l.o + 0) m1 dk os).heap.size := by simp [Go.Proofs.sortWorld]
    refine ((hc _ x.2.1 _ y.2.1).2 ok _ (#[enc x, enc y] ++ vs) ⟨fun b hb => Nat.lt_of_lt_of_le (hoklt b hb) hsw, fun gg ll hgg => ?_⟩ (by simp [hcl]; omega) fun i hi => ?_).mono fun e' w2 ⟨v, he, hbl, hv⟩ => ?_
    · have := R.laid gg ll hgg
      rw [hok] at this
      exact this.ext (fun _ h => h) hheap
    · match i, hi with
      | 0, _ =>
        have e0 : (#[enc x, enc y] ++ vs).getD 0 undef = enc x := by simp [Array.getD_eq_getD_getElem?, Array.getElem?_append]
        rw [e0]
        exact x.2.2.ext (fun _ h => h) hheap
      | 1, _ =>
        have e0 : (#[enc x, enc y] ++ vs).getD 1 undef = enc y := by simp [Array.getD_eq_getD_getElem?, Array.getElem?_append]
        rw [e0]
        exact y.2.2.ext (fun _ h => h) hheap
      | i + 2, hi =>
        have hi' : i < cap.length := by simpa using hi
        have e2 : (#[enc x, enc y] ++ vs).getD (i + 2) undef = vs.getD i undef := by
          simp only [Array.getD_eq_getD_getElem?]
          rw [Array.getElem?_append_right (by simp)]
          simp
        rw [e2]
        exact (hcr i hi').ext (fun _ h => h) hheap
    · subst he
      cases hv
      exact ⟨rfl, below_grow hbl⟩
  have hcall := Go.Proofs.Any.slices_SortFunc L enc h1 cf' hO g vs l.g (l.o + 0) cp d w eg hcmp hH hblk (by omega)
  rw [hd] at hcall
  refine hcall.mono fun e2 w2 ⟨he, d', n, os, hp, hso, hw⟩ => ?_
  subst he
  refine ⟨.tuple #[], m, rfl, ?_⟩
  have hs' : d'.size = xs.length := by rw [hp.1, hd]
  have hdl : d.toList.map (fun x => x.1.1) = xs := by
    apply List.ext_getElem
    · simp [d]
    · intro i h1 h2
      simp [d]
  have hperm2 : (d'.toList.map fun x => x.1.1).Perm xs := by
    have := hp.2.2
    rw [← hd, Array.extract_size] at this
    have h3 : d'.extract 0 d.size = d' := by rw [hd, ← hs', Array.extract_size]
    rw [h3] at this
    have h4 := this.map (fun x : α => x.1.1)
    rwa [hdl] at h4
  have hys : d'.toList.map (fun x => x.1.1) = ys := by
    refine perm_sorted_unique (lt := fun x y => cf x y < 0) _ _ (hperm2.trans hperm) (fun x hx y hy => anti x (hperm2.mem_iff.1 hx) y (hperm2.mem_iff.1 hy)) ?_ hs
    rw [List.pairwise_iff_getElem]
    intro i j hi hj hij
    simp only [List.length_map, Array.length_toList] at hi hj
    have := hso i j (Nat.zero_le _) hij (by omega)
    rw [getElem!_pos d' i hi, getElem!_pos d' j hj] at this
    simpa using of_decide_eq_false this
  have hyl : ys.length = xs.length := hperm.length_eq.symm
  -- the row as it stands behind the sort
  have R1 : Rel C m ⟨2, entA 0 [.sl 0 0 xs.length, .p (.fn g cap)], hset ([.own (opl xs)] ++ ancs 0 [Blk.own (opl xs)].length) 0 (.own (opl ys))⟩ #[.slice (some ⟨l.g, l.o + 0, none⟩) xs.length cp, .func (.func g) #[] vs] (Go.Sort.putRow enc (Go.Sort.ahead w n) l.g (l.o + 0) d') := by
    refine R.setBlk (a := { tmps := #[.slice (some ⟨l.g, l.o + 0, none⟩) xs.length cp, .func (.func g) #[] vs], defers := [] }) (c := opl xs) rfl hm ⟨rfl, rfl, rfl, by simp, fun k hk => ?_, by simp⟩ (fun b hb => ?_) (cur := Go.Sort.putCells enc (l.o + 0) d' cur) (e := e) ?_ (by simp [Go.Sort.putCells, hcs]) (by rw [opl_length]; omega) fun j hj => ?_
    · simp only [Go.Sort.putRow, Go.Sort.mapBlock, Array.getElem?_modify]
      rw [if_neg (fun e => hk (by rw [← e]; exact hB))]; rfl
    · simp only [Go.Sort.putRow, Go.Sort.mapBlock, Array.getElem?_modify]
      rw [if_neg (Ne.symm hb)]; rfl
    · simp only [Go.Sort.putRow, Go.Sort.mapBlock, Array.getElem?_modify]
      rw [if_pos trivial]
      show Option.map _ (w.heap[l.g]?) = _
      rw [hg]; rfl
    · rw [opl_length] at hj
      have hjd : j < d'.size := by omega
      have hjc : l.o + j < cur.size := by omega
      have e3 : (Go.Sort.putCells enc (l.o + 0) d' cur).getD (l.o + j) undef = enc d'[j] := by
        simp only [Go.Sort.putCells, Array.getD_eq_getD_getElem?, Array.getElem?_mapIdx, Array.getElem?_eq_getElem hjc, Option.map_some, Option.getD_some]
        rw [if_pos ⟨by omega, by omega⟩, show l.o + j - (l.o + 0) = j by omega, getElem!_pos d' j hjd]
      rw [e3]
      have e4 : ys[j] = d'[j].1.1 := by
        have := hys
        subst this
        simp
      have e5 : (opl ys)[j]'(by rw [opl_length]; exact hj) = .p ys[j] := by simp [opl]
      rw [e5, e4]
      have h6 := d'[j].2.2
      refine .p _ _ ?_
      show Reads (OK C m ([.own (opl xs)] ++ ancs 0 [Blk.own (opl xs)].length) w) w _ _
      rw [hok]
      exact h6
  have R2 := R1.later (w' := w2) (by
    rw [hw]
    refine ⟨rfl, rfl, rfl, by simp [Go.Proofs.sortWorld], fun k hk => ?_, Nat.le_refl _⟩
    unfold Go.Proofs.sortWorld
    exact Go.Sort.heap_grow_old _ _ hk)
  exact ⟨R2.laid, R2.below, R2.base, rfl, R2.inj, R2.blk, R2.fro, fun t => by
    cases t with
    | zero => exact .p _ _ (.tup [] #[] rfl fun c h => absurd h (by simp))
    | succ t => exact .dead _, R2.mp⟩

end
end Go.Pv

/-
  Contracts of the library, laid at this dump: numbers, and that each body is the same. Conditions: none; written by a program of this repo out of the kit's own tool.
-/
set_option linter.all false
namespace Go.Proofs
open Go.Shelf
def Tryd.sortS_ren : Go.Shelf.Ren := ⟨fun | 6 => 108 | 15 => 124 | 14 => 130 | 28 => 145 | 29 => 146 | 20 => 148 | 21 => 149 | 22 => 150 | 23 => 151 | 24 => 152 | 25 => 153 | 26 => 154 | 27 => 155 | 46 => 162 | 47 => 158 | 48 => 159 | 49 => 163 | 50 => 164 | 57 => 166 | n => n, fun | 22 => 68 | 24 => 71 | 25 => 95 | 3 => 3 | 39 => 102 | 0 => 0 | 53 => 118 | 55 => 70 | 4 => 4 | 46 => 111 | 45 => 110 | 50 => 115 | 5 => 5 | 9 => 9 | 66 => 125 | 70 => 129 | 76 => 133 | 77 => 134 | n => n, fun | n => n⟩
def Tryd.sortL_ren : Go.Shelf.Ren := ⟨fun | 6 => 91 | 15 => 124 | 14 => 123 | 28 => 145 | 29 => 146 | 20 => 137 | 21 => 138 | 22 => 139 | 23 => 140 | 24 => 141 | 25 => 142 | 26 => 143 | 27 => 144 | 46 => 157 | 47 => 158 | 48 => 159 | 49 => 160 | 50 => 161 | 57 => 165 | n => n, fun | 22 => 25 | 24 => 22 | 25 => 87 | 3 => 3 | 39 => 102 | 0 => 0 | 53 => 118 | 55 => 70 | 4 => 4 | 46 => 111 | 45 => 110 | 50 => 115 | 5 => 5 | 9 => 9 | 66 => 125 | 70 => 129 | 76 => 133 | 77 => 134 | n => n, fun | n => n⟩
theorem Tryd.sortL : Go.Proofs.SlLaysF.n6 Tryd.prog Tryd.sortL_ren := {
  mixed := by kernel_rfl
  f6 := ⟨Tryd.f91.name, by decide, Tryd.func91.trans (congrArg some (by kernel_rfl))⟩
  f14 := ⟨Tryd.f123.name, by decide, Tryd.func123.trans (congrArg some (by kernel_rfl))⟩
  f15 := Tryd.func124.trans (congrArg some (by kernel_rfl))
  f20 := ⟨Tryd.f137.name, by decide, Tryd.func137.trans (congrArg some (by kernel_rfl))⟩
  f21 := ⟨Tryd.f138.name, by decide, Tryd.func138.trans (congrArg some (by kernel_rfl))⟩
  f22 := ⟨Tryd.f139.name, by decide, Tryd.func139.trans (congrArg some (by kernel_rfl))⟩
  f23 := ⟨Tryd.f140.name, by decide, Tryd.func140.trans (congrArg some (by kernel_rfl))⟩
  f24 := ⟨Tryd.f141.name, by decide, Tryd.func141.trans (congrArg some (by kernel_rfl))⟩
  f25 := ⟨Tryd.f142.name, by decide, Tryd.func142.trans (congrArg some (by kernel_rfl))⟩
  f26 := ⟨Tryd.f143.name, by decide, Tryd.func143.trans (congrArg some (by kernel_rfl))⟩
  f27 := ⟨Tryd.f144.name, by decide, Tryd.func144.trans (congrArg some (by kernel_rfl))⟩
  f28 := Tryd.func145.trans (congrArg some (by kernel_rfl))
  f29 := Tryd.func146.trans (congrArg some (by kernel_rfl))
  f46 := ⟨Tryd.f157.name, by decide, Tryd.func157.trans (congrArg some (by kernel_rfl))⟩
  f47 := Tryd.func158.trans (congrArg some (by kernel_rfl))
  f48 := Tryd.func159.trans (congrArg some (by kernel_rfl))
  f49 := ⟨Tryd.f160.name, by decide, Tryd.func160.trans (congrArg some (by kernel_rfl))⟩
  f50 := ⟨Tryd.f161.name, by decide, Tryd.func161.trans (congrArg some (by kernel_rfl))⟩
  f57 := ⟨Tryd.f165.name, by decide, Tryd.func165.trans (congrArg some (by kernel_rfl))⟩
  t0 := Tryd.underlying0
  a0 := Tryd.isAgg0
  z0 := Tryd.sizeOf0
  v0 := Tryd.zeroValue0
  t3 := Tryd.underlying3
  a3 := Tryd.isAgg3
  z3 := Tryd.sizeOf3
  v3 := Tryd.zeroValue3
  t4 := Tryd.underlying4
  a4 := Tryd.isAgg4
  z4 := Tryd.sizeOf4
  v4 := Tryd.zeroValue4
  t5 := Tryd.underlying5
  a5 := Tryd.isAgg5
  z5 := Tryd.sizeOf5
  v5 := Tryd.zeroValue5
  t9 := Tryd.underlying9
  a9 := Tryd.isAgg9
  z9 := Tryd.sizeOf9
  v9 := Tryd.zeroValue9
  t22 := Tryd.underlying25
  a22 := Tryd.isAgg25
  z22 := Tryd.sizeOf25
  v22 := Tryd.zeroValue25
  a24 := Tryd.isAgg22
  z24 := Tryd.sizeOf22
  t25 := Tryd.underlying87
  a25 := Tryd.isAgg87
  z25 := Tryd.sizeOf87
  v25 := Tryd.zeroValue87
  t39 := Tryd.underlying102
  a39 := Tryd.isAgg102
  z39 := Tryd.sizeOf102
  v39 := Tryd.zeroValue102
  t45 := Tryd.underlying110
  a45 := Tryd.isAgg110
  z45 := Tryd.sizeOf110
  v45 := Tryd.zeroValue110
  t46 := Tryd.underlying111
  a46 := Tryd.isAgg111
  z46 := Tryd.sizeOf111
  v46 := Tryd.zeroValue111
  t50 := Tryd.underlying115
  a50 := Tryd.isAgg115
  z50 := Tryd.sizeOf115
  v50 := Tryd.zeroValue115
  t53 := Tryd.underlying118
  a53 := Tryd.isAgg118
  z53 := Tryd.sizeOf118
  v53 := Tryd.zeroValue118
  t55 := Tryd.underlying70
  a55 := Tryd.isAgg70
  z55 := Tryd.sizeOf70
  v55 := Tryd.zeroValue70
  t66 := Tryd.underlying125
  a66 := Tryd.isAgg125
  z66 := Tryd.sizeOf125
  v66 := Tryd.zeroValue125
  t70 := Tryd.underlying129
  a70 := Tryd.isAgg129
  z70 := Tryd.sizeOf129
  v70 := Tryd.zeroValue129
  t76 := Tryd.underlying133
  a76 := Tryd.isAgg133
  z76 := Tryd.sizeOf133
  v76 := Tryd.zeroValue133
  t77 := Tryd.underlying134
  a77 := Tryd.isAgg134
  z77 := Tryd.sizeOf134
  v77 := Tryd.zeroValue134 }
end Go.Proofs

/-
  A loop over a map of one's own: its entries come in whatever order. Conditions: none; a library text.
-/
set_option linter.all false
namespace Go.Pv
open Go.RowKit

section
variable {P : Program} {C : Ctx} {m : Map} {s : St} {tmps : Array Value} {w : World}

/-- The frame where some blocks are left alone. -/
def holdC (C : Ctx) (X : Nat → Prop) (w : World) : Ctx := ⟨fun b => C.okA b ∨ C.B b, fun b => C.B b ∧ ¬ X b, w, C.anc⟩

theorem holdC_ok (C : Ctx) (X : Nat → Prop) (w0 : World) (m : Map) (H : Heap) (w : World) : OK (holdC C X w0) m H w = OK C m H w := by
  funext b
  unfold OK holdC
  refine propext ⟨fun h => ⟨?_, h.2⟩, fun h => ⟨.inl h.1, h.2⟩⟩
  rcases h.1 with h1 | h1
  · exact h1
  · exact .inr h1.1

theorem Rel.hold (R : Rel C m s tmps w) (X : Nat → Prop) (hX : ∀ b, X b → b < w.heap.size ∧ ∀ cur e sh, w.heap[b]? ≠ some (.cells cur e sh))
    (hmp : ∀ (k : Nat) (kk : IntKind) (d : Int → Bool) (v : Int → PV) (l : Loc), s.H[k]? = some (Blk.mp kk d v) → m k = some l → ¬ X l.g) : Rel (holdC C X w) m s tmps w := by
  have e := holdC_ok C X w m s.H w
  refine ⟨by rw [e]; exact R.laid, BelowP.refl _ _, fun b hb => ⟨R.base b hb, fun hx => by have := (hX b hx).1; omega⟩, R.size, R.inj, fun k c h => ?_, by rw [e]; exact R.fro, by rw [e]; exact R.slot, fun k kk d v h => ?_, R.mp.2.1, R.mp.2.2⟩
  · rw [e]
    rcases R.blk k c h with h1 | ⟨l, cur, ee, a1, a2, a3, a4⟩
    · exact .inl h1
    · exact .inr ⟨l, cur, ee, a1, ⟨a2, fun hx => (hX _ hx).2 _ _ _ a3⟩, a3, a4⟩
  · rw [e]
    obtain ⟨l, ar, clk, vs, a1, a2, a3⟩ := R.mp.1 k kk d v h
    exact ⟨l, ar, clk, vs, a1, ⟨a2, hmp k kk d v l h a1⟩, a3⟩

theorem BelowP.monoB {B B' : Nat → Prop} {a b : World} (h : BelowP B a b) (hB : ∀ k, B k → B' k) : BelowP B' a b :=
  ⟨h.os, h.tape, h.output, h.size, fun k hk => h.block k fun hh => hk (hB k hh), h.dr⟩

theorem Rel.unhold {X : Nat → Prop} {w0 : World} (R : Rel (holdC C X w0) m s tmps w) (hb : BelowP C.B C.w0 w0) : Rel C m s tmps w := by
  have e := holdC_ok C X w0 m s.H w
  have hB : ∀ b, (holdC C X w0).B b → C.B b := fun b h => h.1
  refine ⟨by rw [← e]; exact R.laid, hb.trans (R.below.monoB hB), fun b h => hB b (R.base b h), R.size, R.inj, fun k c h => ?_, by rw [← e]; exact R.fro, by rw [← e]; exact R.slot, fun k kk d v h => ?_, R.mp.2.1, R.mp.2.2⟩
  · rw [← e]
    rcases R.blk k c h with h1 | ⟨l, cur, ee, a1, a2, a3, a4⟩
    · exact .inl h1
    · exact .inr ⟨l, cur, ee, a1, hB _ a2, a3, a4⟩
  · rw [← e]
    obtain ⟨l, ar, clk, vs, a1, a2, a3⟩ := R.mp.1 k kk d v h
    exact ⟨l, ar, clk, vs, a1, hB _ a2, a3⟩

/-- The frame begins anew. -/
theorem Rel.anew {X : Nat → Prop} {w0 : World} (R : Rel (holdC C X w0) m s tmps w) : Rel (holdC C X w) m s tmps w := by
  have e : OK (holdC C X w) m s.H w = OK (holdC C X w0) m s.H w := (holdC_ok C X w m s.H w).trans (holdC_ok C X w0 m s.H w).symm
  exact ⟨by rw [e]; exact R.laid, BelowP.refl _ _, R.base, R.size, R.inj, by rw [e]; exact R.blk, by rw [e]; exact R.fro, by rw [e]; exact R.slot, by rw [e]; exact R.mp⟩

/-- One of the blocks that are left alone turns; it is none of cells. -/
theorem Rel.turn {X : Nat → Prop} {w0 w2 : World} (R : Rel (holdC C X w0) m s tmps w) {r : Nat} (hr : X r) (hw : ∀ cur e sh, w.heap[r]? ≠ some (.cells cur e sh)) (h1 : ∀ b, b ≠ r → w2.heap[b]? = w.heap[b]?) (h2 : w2.heap.size = w.heap.size) : Rel (holdC C X w2) m s tmps w2 := by
  have e : OK (holdC C X w2) m s.H w2 = OK (holdC C X w0) m s.H w := by
    rw [holdC_ok, holdC_ok]
    funext b
    unfold OK
    rw [h2]
  have hcell : ∀ (b o : Nat) (x : Value), w.cell? ⟨b, o, none⟩ = some x → w2.cell? ⟨b, o, none⟩ = some x := fun b o x h => by
    by_cases eb : b = r
    · subst eb
      exfalso
      unfold World.cell? at h
      split at h
      · rename_i hh; exact hw _ _ _ hh
      · cases h
    · rw [World.cell?_of_block (w := w) (h1 b eb)]; exact h
  have rdx : ∀ p x, Reads (OK (holdC C X w0) m s.H w) w p x → Reads (OK (holdC C X w0) m s.H w) w2 p x := fun p x h => h.extc (fun _ h => h) fun b o y _ hc => hcell b o y hc
  refine ⟨by rw [e]; exact R.laid.ext rdx, BelowP.refl _ _, by rw [h2]; exact R.base, R.size, R.inj, fun k c h => ?_, fun k c h => ?_, fun t => ?_, fun k kk d v h => ?_, R.mp.2.1, R.mp.2.2⟩
  · rw [e]
    have hb := R.blk k c h
    refine hb.ext rdx (Nat.le_refl _) (fun _ _ => rfl) rfl fun l hl => ?_
    rcases hb with ⟨_, hn⟩ | ⟨l2, cur, ee, a1, a2, a3, _⟩
    · rw [hl] at hn; cases hn
    · rw [hl] at a1; cases a1
      exact h1 _ fun eb => a2.2 (eb ▸ hr)
  · rw [e]
    rcases R.fro k c h with h' | ⟨l2, vs2, b1, b2, b3, b4⟩
    · exact .inl h'
    · exact .inr ⟨l2, vs2, b1, b2, b3, fun i hi => ⟨hcell _ _ _ (b4 i hi).1, rdx _ _ (b4 i hi).2⟩⟩
  · rw [e]
    exact (R.slot t).ext rdx (Nat.le_refl _) fun _ _ => rfl
  · rw [e]
    obtain ⟨l, ar, clk, vs, a1, a2, a3, a4, a5, a6, a7⟩ := R.mp.1 k kk d v h
    have hne : l.g ≠ r := fun eb => a2.2 (eb ▸ hr)
    exact ⟨l, ar, clk, vs, a1, a2, by rw [h1 _ hne]; exact a3, a4, a5, a6, fun z hz => rdx _ _ (a7 z hz)⟩

/-! ### The loop -/

/-- Where the loop stands: which keys have come. -/
def ItOk (ar : Array MapEntry) (clk bm r : Nat) (L : List Int) (w : World) : Prop :=
  w.heap[bm]? = some (.map ar clk) ∧ ∃ (seen : Array Nat) (vis : List MapEntry), w.heap[r]? = some (.mapIter (some bm) clk seen clk) ∧ (∀ e ∈ vis, e ∈ ar.toList) ∧ seen.toList = vis.map MapEntry.born ∧ L = vis.map (fun e => keyInt e.key) ∧ L.Nodup

def itLeft (ar : Array MapEntry) (r : Nat) (w : World) : Nat :=
  match w.heap[r]? with
  | some (.mapIter _ _ seen _) => (leftOf ar seen).size
  | _ => 0

theorem nodup_inj {α β : Type} {f : α → β} : ∀ {l : List α}, (l.map f).Nodup → ∀ {x y : α}, x ∈ l → y ∈ l → f x = f y → x = y
  | a :: r, h, x, y, hx, hy, e => by
    obtain ⟨h1, h2⟩ := List.nodup_cons.1 h
    rcases List.mem_cons.1 hx with rfl | hx'
    · rcases List.mem_cons.1 hy with rfl | hy'
      · rfl
      · exact absurd (e ▸ List.mem_map.2 ⟨y, hy', rfl⟩) h1
    · rcases List.mem_cons.1 hy with rfl | hy'
      · exact absurd (e ▸ List.mem_map.2 ⟨x, hx', rfl⟩) h1
      · exact nodup_inj h2 hx' hy' e

theorem hk_range {T : TypeId → Option TI} (hT : ∀ t ti, T t = some ti → tiOf P t = some ti) {Q : Exit → St → Prop} {rid rid1 rid2 bid bid3 xs t34 t35 t36 t37 t38 t39 t11 : Nat} {ty y1 y2 y3 y4 y5 y6 y7 : TypeId} {p1 p2 p3 p4 p5 p6 p7 : String} {e1 e2 e3 e4 e5 e6 e7 : Array Edge} {body : Code}
    {ti : TI} (ht : T ty = some ti) {kt et : TypeId} {zo : Option Value} (hkind : ti.kind = .map kt et zo)
    {k : Nat} {kk : IntKind} {d : Int → Bool} {v : Int → PV} (hx : s.get xs = .mptr k) (hg : hget s.H k = .mp kk d v)
    (S : Nat → List Int → St) (π : List Nat) (hd : (decide (t34 < s.n ∧ t35 < s.n ∧ t36 < s.n ∧ t37 < s.n ∧ t38 < s.n ∧ t39 < s.n ∧ t11 < s.n ∧ ¬ t36 = t35 ∧ ¬ t37 = t35)) = true)
    (hS : ∀ r L, (S r L).get t35 = .itv r ∧ (S r L).n = s.n)
    (h0 : ∀ r, Le π (S r []) ((({ s with H := hset s.H k .dead } : St).put (some t34) .dead).put (some t35) (.itv r)))
    (step : ∀ r L z, L.Nodup → (∀ y ∈ L, d y = true) → d z = true → z ∉ L → Holds P body (InB bid3 (Thn (fun s' => ∃ π, Le π (S r (L ++ [z])) s') (InB bid Q))) ((((((S r L).put (some t36) .dead).put (some t37) (.p (.bool true))).put (some t38) .dead).put (some t39) (.p (.int kk z))).put (some t11) (.p (.int kk z))))
    (fin : ∀ r L, L.Nodup → (∀ z, d z = true ↔ z ∈ L) → Q .normal (((S r L).put (some t36) .dead).put (some t37) (.p (.bool false)))) :
    Holds P ((Code.region rid #[{ dst := some t34, op := .move (.tmp xs), type := y1, pos := p1, after := e1, guard := none }, { dst := some t35, op := .range ty (.tmp t34), type := y2, pos := p2, after := e2, guard := none }] false).seq
      (Code.block bid (((Code.region rid1 #[{ dst := some t36, op := .next (.tmp t35) false, type := y3, pos := p3, after := e3, guard := none }, { dst := some t37, op := .extract (.tmp t36) 0, type := y4, pos := p4, after := e4, guard := none }] false).seq
        ((Code.cond (.tmp t37) .skip (.exit bid)).seq (Code.block bid3 ((Code.region rid2 #[{ dst := some t38, op := .entry (.tmp t35), type := y5, pos := p5, after := e5, guard := none }, { dst := some t39, op := .extract (.tmp t38) 0, type := y6, pos := p6, after := e6, guard := none }, { dst := some t11, op := .assign (.tmp t39), type := y7, pos := p7, after := e7, guard := none }] false).seq body)))).loop))) Q s := by
  rw [decide_eq_true_eq] at hd
  obtain ⟨d34, d35, d36, d37, d38, d39, d11, n36, n37⟩ := hd
  intro C m a w R hdf
  have hu := (ti_map (hT _ _ ht) hkind).1
  have hk := hget_some hg (by simp)
  have hxe := R.ev (.tmp xs)
  rw [show s.ev (.tmp xs) = .mptr k from hx] at hxe
  generalize hxv : a.eval (.tmp xs) = xv at hxe
  cases hxe with
  | mptr _ _ hkl hp =>
  obtain ⟨l, hml, rfl⟩ := hp
  obtain ⟨l', ar, clk, vs, a1, a2, a3, a4, a5, a6, a7⟩ := R.mp.1 k kk d v hk
  rw [hml] at a1; cases a1
  have hbl : l.g < w.heap.size := (Array.getElem?_eq_some_iff.1 a3).1
  have hkey : ∀ e ∈ ar.toList, e.key = .int kk (keyInt e.key) := fun e he => by
    obtain ⟨z, hz⟩ := a4.1 e he
    rw [hz]; rfl
  have hdk : ∀ e ∈ ar.toList, d (keyInt e.key) = true := fun e he => by
    cases hdd : d (keyInt e.key) with
    | true => rfl
    | false => exact absurd (a5 _ hdd) (mlk_ne ⟨e, he, hkey e he⟩)
  refine wp_seq (wp_region_lit ?_)
  refine wpList_plain rfl fun K1 hK1 => ?_
  unfold Oper.wp
  simp only [execOp, Sem.run_pure, Sem.run_map, Result.andThen_ok, hxv]
  refine hK1 _ _ ?_
  refine wpList_plain rfl fun K2 hK2 => ?_
  unfold Oper.wp
  have hev : (a.put (some t34) (.map (some l.g))).eval (.tmp t34) = .map (some l.g) := by
    have hsz := R.size
    simp [Act.put, Act.eval, hsz, d34]
  have hrun := run_range_map (P := P) w ty kt et l.g ar clk hu a3
  simp only [execOp, Sem.run_bind, Sem.run_pure, Sem.run_map, Result.andThen_ok, hev, hrun]
  refine hK2 _ _ (wpList_nil ?_)
  obtain ⟨r, hr⟩ : ∃ r, r = w.heap.size := ⟨_, rfl⟩
  obtain ⟨w1, hw1⟩ : ∃ w1, w1 = w.alloc (.mapIter (some l.g) clk #[] clk) := ⟨_, rfl⟩
  rw [← hr, ← hw1]
  have hal := MapKept.heap_alloc w (.mapIter (some l.g) clk #[] clk)
  have hr1 : w1.heap[r]? = some (.mapIter (some l.g) clk #[] clk) := by rw [hw1, hr]; exact hal.1
  have hb1 : w1.heap[l.g]? = some (.map ar clk) := by rw [hw1]; exact (hal.2 _ hbl).trans a3
  have hCr : C.B r := R.base r (by omega)
  have hbel1 : Below w.heap.size w w1 := by rw [hw1]; exact (Below.refl _ _).alloc (Nat.le_refl _) _
  have R1 : Rel C m ((({ s with H := hset s.H k .dead } : St).put (some t34) .dead).put (some t35) (.itv r)) ((a.put (some t34) (.map (some l.g))).put (some t35) (.pointer (some ⟨r, 0, none⟩))).tmps w1 :=
    (((R.kill k).later hbel1).put (fun t h => by cases h; exact d34) (.dead _)).put (fun t h => by cases h; exact d35) (.itv r)
  obtain ⟨X, hX⟩ : ∃ X : Nat → Prop, X = fun b => b = l.g ∨ b = r := ⟨_, rfl⟩
  have hXg : X l.g := by rw [hX]; exact .inl rfl
  have hXr : X r := by rw [hX]; exact .inr rfl
  have R2 := R1.hold X (fun b hb => by
    rw [hX] at hb
    rcases hb with rfl | rfl
    · exact ⟨(Array.getElem?_eq_some_iff.1 hb1).1, fun _ _ _ h => by rw [hb1] at h; cases h⟩
    · exact ⟨(Array.getElem?_eq_some_iff.1 hr1).1, fun _ _ _ h => by rw [hr1] at h; cases h⟩) (fun j kk' d' v' l2 h hl2 => by
    rw [St.put_H, St.put_H] at h
    have h2 : j ≠ k ∧ s.H[j]? = some (.mp kk' d' v') := by
      simp only at h
      rw [hset_get] at h
      by_cases e : j = k
      · rw [if_pos ⟨e, hkl⟩] at h; cases h
      · rw [if_neg (by simp [e])] at h; exact ⟨e, h⟩
    rw [hX]
    rintro (e | e)
    · exact h2.1 (R.mp.2.1 _ _ _ _ _ _ _ _ _ _ h2.2 hk hl2 hml e)
    · obtain ⟨l3, ar3, clk3, vs3, b1, b2, b3, _⟩ := R.mp.1 j kk' d' v' h2.2
      rw [hl2] at b1; cases b1
      have := (Array.getElem?_eq_some_iff.1 b3).1
      omega)
  have R3 := R2.weaken (h0 r)
  have hB0 : BelowP C.B C.w0 w1 := R1.below
  show Code.wp P _ _ _ _
  refine wp_block (wp_loop (fun a' w' => ∃ L m', Rel (holdC C X w') m' (S r L) a'.tmps w' ∧ a'.defers = [] ∧ ItOk ar clk l.g r L w' ∧ (∀ y ∈ L, d y = true) ∧ BelowP C.B C.w0 w') (fun _ w' => itLeft ar r w') ⟨[], _, R3, hdf, ⟨hb1, #[], [], hr1, by simp, rfl, rfl, List.nodup_nil⟩, by simp, hB0⟩ ?_)
  rintro a2 w2 ⟨L, m2, RL, hdf2, ⟨hb2, seen, vis, hr2, hvis, hseen, hLv, hLn⟩, hLd, hbel⟩
  have hv35 : a2.eval (.tmp t35) = .pointer (some ⟨r, 0, none⟩) := by
    have h := RL.ev (.tmp t35)
    rw [show (S r L).ev (.tmp t35) = .itv r from (hS r L).1] at h
    generalize a2.eval (.tmp t35) = x at h ⊢
    cases h; rfl
  have hsz := RL.size
  rw [(hS r L).2] at hsz
  have hput : ∀ (a : Act) (t : Nat) (v : Value), a.tmps.size = s.n → t < s.n → (a.put (some t) v).eval (.tmp t) = v := fun a t v h1 h2 => by
    simp [Act.put, Act.eval, h1, h2]
  have hnsz : ∀ (a : Act) (t : Nat) (v : Value), a.tmps.size = s.n → (a.put (some t) v).tmps.size = s.n := fun a t v h1 => by
    simp [Act.put, h1]
  refine wp_seq (wp_region_lit ?_)
  refine wpList_plain rfl fun K3 hK3 => ?_
  unfold Oper.wp
  rcases run_next_at (P := P) w2 y3 r l.g clk clk seen ar clk hr2 hb2 a4.2.2.1 (Nat.le_refl _) with ⟨hz0, hrun2⟩ | ⟨e, he, w3, hal3, hrun2⟩
  · simp only [execOp, Sem.run_bind, Sem.run_pure, Sem.run_map, Result.andThen_ok, hv35, hrun2]
    refine hK3 _ _ ?_
    refine wpList_plain rfl fun K4 hK4 => ?_
    unfold Oper.wp
    simp only [execOp, Sem.run_bind, Sem.run_pure, Sem.run_map, Result.andThen_ok, hput a2 t36 _ hsz d36]
    have hex : (Instr.extract (.tuple #[.bool false]) 0).run P w2 = .ok (.bool false) w2 := rfl
    simp only [hex, Result.andThen_ok]
    refine hK4 _ _ (wpList_nil ?_)
    show Code.wp P _ _ _ _
    refine wp_seq (wp_cond_false (hput _ t37 _ (hnsz _ _ _ hsz) d37) (wp_exit ?_))
    have hall := all_seen ar seen hz0
    simp only [Exit.then, Exit.inBlock, if_true]
    refine ⟨_, m2, fin r L hLn fun z => ⟨fun hz => ?_, hLd z⟩, ((RL.unhold hbel).put (fun t h => by cases h; rw [(hS r L).2]; exact d36) (.dead _)).put (fun t h => by cases h; show t37 < (S r L).n; rw [(hS r L).2]; exact d37) (.p _ _ (.bool false)), hdf2⟩
    obtain ⟨e0, he0, hz0'⟩ := mlk_some (a6 z hz)
    have h1 := hall e0 he0
    rw [Array.contains_iff_mem, ← Array.mem_toList_iff, hseen] at h1
    obtain ⟨e1, he1, hb1'⟩ := List.mem_map.1 h1
    have := nodup_inj a4.2.2.2 (hvis e1 he1) he0 hb1'
    rw [hLv]
    exact List.mem_map.2 ⟨e1, he1, by rw [this, hz0']; rfl⟩
  · obtain ⟨hem, hes⟩ := mem_left he
    simp only [execOp, Sem.run_bind, Sem.run_pure, Sem.run_map, Result.andThen_ok, hv35, hrun2]
    refine hK3 _ _ ?_
    refine wpList_plain rfl fun K4 hK4 => ?_
    unfold Oper.wp
    simp only [execOp, Sem.run_bind, Sem.run_pure, Sem.run_map, Result.andThen_ok, hput a2 t36 _ hsz d36]
    obtain ⟨w4, hw4⟩ : ∃ w4, w4 = Go.ChangeMaps.setBlock w3 r (.mapIter (some l.g) clk (seen.push e.born) clk) := ⟨_, rfl⟩
    rw [← hw4]
    have hex : (Instr.extract (.tuple #[.bool true, e.key, e.val]) 0).run P w4 = .ok (.bool true) w4 := rfl
    simp only [hex, Result.andThen_ok]
    refine hK4 _ _ (wpList_nil ?_)
    show Code.wp P _ _ _ _
    refine wp_seq (wp_cond_true (hput _ t37 _ (hnsz _ _ _ hsz) d37) (wp_skip ?_))
    show Code.wp P _ _ _ _
    have hr3 : w3.heap[r]? = some (.mapIter (some l.g) clk seen clk) := by rcases hal3 with rfl | rfl <;> exact hr2
    have hset := MapKept.heap_set (o' := .mapIter (some l.g) clk (seen.push e.born) clk) hr3
    have h3o : ∀ b, b ≠ r → w4.heap[b]? = w2.heap[b]? := fun b hb => by
      rw [hw4]
      rcases hal3 with rfl | rfl <;> exact hset.2 b hb
    have h3s : w4.heap.size = w2.heap.size := by
      rw [hw4]
      rcases hal3 with rfl | rfl <;> simp [Go.ChangeMaps.setBlock]
    have hr4 : w4.heap[r]? = some (.mapIter (some l.g) clk (seen.push e.born) clk) := by rw [hw4]; exact hset.1
    have hb4 : w4.heap[l.g]? = some (.map ar clk) := (h3o _ (by omega)).trans hb2
    have RT := RL.turn hXr (fun _ _ _ h => by rw [hr2] at h; cases h) h3o h3s
    have hbel4 : BelowP C.B C.w0 w4 := hbel.trans ⟨by rw [hw4]; rcases hal3 with rfl | rfl <;> rfl, by rw [hw4]; rcases hal3 with rfl | rfl <;> rfl, by rw [hw4]; rcases hal3 with rfl | rfl <;> rfl, by rw [h3s]; exact Nat.le_refl _, fun b hb => h3o b fun e => hb (e ▸ hCr), by rw [hw4]; rcases hal3 with rfl | rfl; exact Nat.le_refl _; exact Nat.le_succ _⟩
    refine wp_block (wp_seq (wp_region_lit ?_))
    refine wpList_plain rfl fun K5 hK5 => ?_
    unfold Oper.wp
    have RT2 := (RT.put (d := some t36) (v := .tuple #[.bool true, e.key, e.val]) (x := .dead) (fun t h => by cases h; rw [(hS r L).2]; exact d36) (.dead _)).put (d := some t37) (v := .bool true) (x := .p (.bool true)) (fun t h => by cases h; show t37 < (S r L).n; rw [(hS r L).2]; exact d37) (.p _ _ (.bool true))
    have hsz5 : ((a2.put (some t36) (.tuple #[.bool true, e.key, e.val])).put (some t37) (.bool true)).tmps.size = s.n := hnsz _ _ _ (hnsz _ _ _ hsz)
    generalize ha5 : (a2.put (some t36) (.tuple #[.bool true, e.key, e.val])).put (some t37) (.bool true) = a5 at RT2 hsz5 ⊢
    have hdf5 : a5.defers = [] := by rw [← ha5]; exact hdf2
    have hv5 : a5.eval (.tmp t35) = .pointer (some ⟨r, 0, none⟩) := by
      have h := RT2.ev (.tmp t35)
      have e35 : (((S r L).put (some t36) .dead).put (some t37) (.p (.bool true))).ev (.tmp t35) = .itv r := by
        show lk _ t35 = _
        simp only [St.put, lk, show (t37 == t35) = false by simpa using n37, show (t36 == t35) = false by simpa using n36, cond_false]
        exact (hS r L).1
      rw [e35] at h
      generalize a5.eval (.tmp t35) = x at h ⊢
      cases h; rfl
    have hen := run_entry_at (P := P) w4 r l.g clk seen ar clk e hr4 hb4 hem a4.2.2.2
    simp only [execOp, Sem.run_bind, Sem.run_pure, Sem.run_map, Result.andThen_ok, hv5, hen]
    refine hK5 _ _ ?_
    refine wpList_plain rfl fun K6 hK6 => ?_
    unfold Oper.wp
    simp only [execOp, Sem.run_bind, Sem.run_pure, Sem.run_map, Result.andThen_ok, hput a5 t38 _ hsz5 d38]
    have hex2 : (Instr.extract (.tuple #[e.key, e.val]) 0).run P w4 = .ok e.key w4 := rfl
    simp only [hex2, Result.andThen_ok]
    refine hK6 _ _ ?_
    refine wpList_plain rfl fun K7 hK7 => ?_
    unfold Oper.wp
    simp only [execOp, Sem.run_bind, Sem.run_pure, Sem.run_map, Result.andThen_ok, hput _ t39 _ (hnsz _ _ _ hsz5) d39]
    refine hK7 _ _ (wpList_nil ?_)
    show Code.wp P _ _ _ _
    have hkz := hkey e hem
    generalize hzz : keyInt e.key = z at hkz
    have hzL : z ∉ L := fun hz => by
      rw [hLv] at hz
      obtain ⟨e1, he1, h1⟩ := List.mem_map.1 hz
      have h2 : e1 = e := nodup_inj a4.2.1 (hvis e1 he1) hem (by rw [hkey e1 (hvis e1 he1), h1, hkz])
      rw [h2] at he1
      have h3 : seen.contains e.born = true := by rw [Array.contains_iff_mem, ← Array.mem_toList_iff, hseen]; exact List.mem_map.2 ⟨e, he1, rfl⟩
      rw [hes] at h3; cases h3
    have hdz : d z = true := by rw [← hzz]; exact hdk e hem
    rw [hkz]
    have RT5 := ((RT2.put (d := some t38) (v := .tuple #[.int kk z, e.val]) (x := .dead) (fun t h => by cases h; show t38 < (S r L).n; rw [(hS r L).2]; exact d38) (.dead _)).put (d := some t39) (v := .int kk z) (x := .p (.int kk z)) (fun t h => by cases h; show t39 < (S r L).n; rw [(hS r L).2]; exact d39) (.p _ _ (.int kk z))).put (d := some t11) (v := .int kk z) (x := .p (.int kk z)) (fun t h => by cases h; show t11 < (S r L).n; rw [(hS r L).2]; exact d11) (.p _ _ (.int kk z))
    refine wp_mono (step r L z hLn hLd hdz hzL _ m2 _ w4 RT5 hdf5) fun ex a6 w6 ⟨s6, m6, q1, q2, q3⟩ => ?_
    have hBr : ¬ (holdC C X w4).B r := fun h => h.2 hXr
    have hBg : ¬ (holdC C X w4).B l.g := fun h => h.2 hXg
    have hr6 : w6.heap[r]? = some (.mapIter (some l.g) clk (seen.push e.born) clk) := (q2.below.block r hBr).trans hr4
    have hb6 : w6.heap[l.g]? = some (.map ar clk) := (q2.below.block l.g hBg).trans hb4
    have nrm : (∃ π, Le π (S r (L ++ [z])) s6) → (∃ L m', Rel (holdC C X w6) m' (S r L) a6.tmps w6 ∧ a6.defers = [] ∧ ItOk ar clk l.g r L w6 ∧ (∀ y ∈ L, d y = true) ∧ BelowP C.B C.w0 w6) ∧ itLeft ar r w6 < itLeft ar r w2 := by
      rintro ⟨π', hle⟩
      refine ⟨⟨L ++ [z], _, (q2.weaken hle).anew, q3, ⟨hb6, seen.push e.born, vis ++ [e], hr6, fun x hx => ?_, by rw [Array.toList_push, hseen]; simp, by rw [hLv]; simp [hzz], List.nodup_append.2 ⟨hLn, by simp, fun x hx y hy he => hzL (by rw [List.mem_singleton] at hy; rw [← hy, ← he]; exact hx)⟩⟩, fun y hy => ?_, hbel4.trans (q2.below.monoB fun _ h => h.1)⟩, ?_⟩
      · rcases List.mem_append.1 hx with hx | hx
        · exact hvis x hx
        · rw [List.mem_singleton] at hx; rw [hx]; exact hem
      · rcases List.mem_append.1 hy with hy | hy
        · exact hLd y hy
        · rw [List.mem_singleton] at hy; rw [hy]; exact hdz
      · simp only [itLeft, hr6, hr2]
        exact left_shrinks ar seen e he
    have oth : Q ex s6 → ∃ s' m', Q ex s' ∧ Rel C m' s' a6.tmps w6 ∧ a6.defers = [] := fun h => ⟨s6, m6, h, q2.unhold hbel4, q3⟩
    cases ex with
    | normal => exact nrm q1
    | exit j =>
      simp only [Exit.then, Exit.inBlock, InB] at q1 ⊢
      by_cases hj : j = bid3
      · rw [if_pos hj] at q1 ⊢; exact nrm q1
      · rw [if_neg hj] at q1 ⊢
        simp only [Thn, InB] at q1
        by_cases hj2 : j = bid
        · simp only [hj2, if_true] at q1 ⊢
          exact ⟨s6, m6, q1, q2.unhold hbel4, q3⟩
        · simp only [hj2, if_false] at q1 ⊢
          exact oth q1
    | goto g => exact oth q1
    | ret => exact oth q1
    | panic c => exact oth q1
    | outgrown => exact oth q1
end
end Go.Pv

/-
  All of Sylow's subgroups, as the program has them. Conditions: none.
-/
set_option linter.all false
namespace Go.Proofs.YtjikchbmkodgfaaDoor
open Go.Pv

def sql (SL : List Nat) : List (List Int) := SL.map stl
theorem sql_len (SL : List Nat) : (sql SL).length = SL.length := by simp [sql]
theorem sql_get {SL : List Nat} {i : Nat} (hi : i < SL.length) : (sql SL).getD i [] = stl (SL.getD i 0) := by
  simp [sql, List.getD, List.getElem?_eq_getElem hi]
def slz (L : List Int) : List (List Int) := L.map fun z => stl z.toNat
theorem slz_snoc (L : List Int) (z : Int) : slz (L ++ [z]) = slz L ++ [stl z.toNat] := by simp [slz]
theorem slz_len (L : List Int) : (slz L).length = L.length := by simp [slz]
def pvi : PV → Int
  | .int _ x => x
  | _ => 0
theorem pvi_il (v : List Int) : (il v).map pvi = v := by
  unfold il
  rw [List.map_map]
  exact (List.map_congr_left fun _ _ => rfl).trans (List.map_id v)
def cfL : PV → PV → Int
  | .list a, .list b => cmpL (a.map pvi) (b.map pvi)
  | _, _ => 0
theorem cfL_il (v w : List Int) : cfL (.list (il v)) (.list (il w)) = cmpL v w := by
  show cmpL ((il v).map pvi) ((il w).map pvi) = _
  rw [pvi_il, pvi_il]
theorem mem_ll {x : PV} {ls : List (List Int)} (h : x ∈ ll ls) : ∃ v ∈ ls, x = .list (il v) := by
  obtain ⟨v, hv, rfl⟩ := List.mem_map.1 h
  exact ⟨v, hv, rfl⟩

theorem sortL_c {xs ys : List (List Int)} (hne : xs ≠ []) (hl : xs.length ≤ 1000000) (hr : ∀ v ∈ xs, v.length ≤ 1000000) (hperm : xs.Perm ys) (hs : ys.Pairwise fun v w => cmpL v w < 0) :
    FnM Tryd.prog 91 [.sl 0 0 (ll xs).length, .p (.fn 92 [])] [.own (opl (ll xs))] (.p (.tup [])) [.own (opl (ll ys))] :=
  sort_m Go.Proofs.Tryd.sortL (ll xs) (ll ys) cfL (fun h => hne (by cases xs with
      | nil => rfl
      | cons a r => cases h)) (fun x hx => by obtain ⟨v, _, rfl⟩ := mem_ll hx; rfl)
    (fun x hx => by obtain ⟨v, _, rfl⟩ := mem_ll hx; rw [cfL_il, cmpL_self]; decide)
    (fun x hx y hy z hz h1 h2 => by
      obtain ⟨u, _, rfl⟩ := mem_ll hx; obtain ⟨v, _, rfl⟩ := mem_ll hy; obtain ⟨w, _, rfl⟩ := mem_ll hz
      rw [cfL_il] at *; exact cmpL_trans _ _ _ h1 h2)
    (fun x hx y hy z hz h1 h2 => by
      obtain ⟨u, _, rfl⟩ := mem_ll hx; obtain ⟨v, _, rfl⟩ := mem_ll hy; obtain ⟨w, _, rfl⟩ := mem_ll hz
      rw [cfL_il] at *; exact cmpL_ntrans _ _ _ h1 h2)
    (fun x hx y hy h1 h2 => by
      obtain ⟨u, _, rfl⟩ := mem_ll hx; obtain ⟨v, _, rfl⟩ := mem_ll hy
      rw [cfL_il] at *; rw [cmpL_tot _ _ h1 h2])
    (fun x hx y hy => by
      obtain ⟨u, hu, rfl⟩ := mem_ll hx; obtain ⟨v, hv, rfl⟩ := mem_ll hy
      rw [cfL_il]; have h1 := hr u hu; have h2 := hr v hv; exact compareL_c u v (by omega) (by omega))
    (hperm.map _) (by
      unfold ll
      rw [List.pairwise_map]
      exact hs.imp fun {x y} hxy h2 => by
        rw [cfL_il] at h2
        have := cmpL_trans _ _ _ hxy h2
        rw [cmpL_self] at this; exact absurd this (by decide)) (by rw [ll_length]; omega)

section
variable {n e P : Nat} {m : List Int}
/-- Keys that have been laid. -/
def kys (n : Nat) (f : Nat → Nat → Nat) (e : Nat) (s : Nat → Bool) (a : Nat) : List Int := (List.range a).map fun b => ((bo n (shf n f e s b) : Nat) : Int)
theorem kys_succ (n : Nat) (f : Nat → Nat → Nat) (e : Nat) (s : Nat → Bool) (a : Nat) : kys n f e s (a + 1) = kys n f e s a ++ [((bo n (shf n f e s a) : Nat) : Int)] := by
  simp [kys, List.range_succ]

set_option maxHeartbeats 4000000 in
set_option maxRecDepth 100000 in
theorem syAll_ok (h : GT n m n e) (hP : isPr P) {K : Nat} (hK1 : fst' (swc n (op m n) e P (swq n (op m n) e P K)) n = none) (hK2 : ∀ k, k < K → ¬ fst' (swc n (op m n) e P (swq n (op m n) e P k)) n = none)
    {SL : List Nat} (hS : SyS n (op m n) e (swq n (op m n) e P K) SL) : FnC Tryd.prog 45 [gp n m, .int .i64 P] (.tup [.list (ll (sql SL)), fl (0, 0)]) := by
  have G := h.2.2
  have hb := h.2.1.big
  have hml := h.2.1.len
  have hsq := sq_le hb
  have hone := syOne_c h hP hK1 hK2
  generalize swq n (op m n) e P K = s at hS hone
  have hKl : ∀ a, (kys n (op m n) e s a).length = a := fun a => by simp [kys]
  refine fnc_of tab_ok Tryd.func45 rfl (by kernel_rfl) (by rw [Tryd.ntmps45]; exact Nat.le_add_left 2 _) ?_; rw [Tryd.ntmps45]
  refine qm ?_
  refine hk_region fun K hK => runs_eval tab_ok ?_
  simp only [ev0, evA, evB, evP, fl, gp, tab, simprocAttr, reduceCtorEq, reduceIte]
  refine fin_run ?_ (hK _ ?_) <;> clear hK <;> clear K
  · (first | exact trivial | omega | (simp only [In64] at *; omega) | (simp [In64] at *; omega) | (simp_all; done) | skip)
  refine qa (qm (qm ?_))
  refine hk_region fun K hK => runs_eval tab_ok ?_
  simp only [ev0, evA, evB, evP, fl, gp, tab, simprocAttr, reduceCtorEq, reduceIte]
  refine fin_stop trivial (runs_call (slook_c n m P (by omega)) rfl rfl rfl (by simp only [dstOk, Nat.reduceLT]) (by repeat (first | exact trivial | constructor)) (runs_eval tab_ok ?_))
  simp only [ev0, evA, evB, evP, fl, gp, tab, simprocAttr, reduceCtorEq, reduceIte, syf_of h hP]
  refine fin_run ?_ (hK _ ?_) <;> clear hK <;> clear K
  · (first | exact trivial | omega | (simp only [In64] at *; omega) | (simp [In64] at *; omega) | (simp_all; done) | skip)
  refine qa (qm ?_)
  refine hk_region fun K hK => runs_eval tab_ok ?_
  simp only [ev0, evA, evB, evP, fl, gp, tab, simprocAttr, reduceCtorEq, reduceIte]
  refine fin_run ?_ (hK _ ?_) <;> clear hK <;> clear K
  · (first | exact trivial | omega | (simp only [In64] at *; omega) | (simp [In64] at *; omega) | (simp_all; done) | skip)
  refine qa ?_
  refine hk_cond rfl (fun hC1 => ?_) (fun hC1 => ?_)
  · cases hC1
  · (try simp only [nhs] at hC1)
    refine qh (qa (qm ?_))
    refine hk_region fun K hK => runs_eval tab_ok ?_
    simp only [ev0, evA, evB, evP, fl, gp, tab, simprocAttr, reduceCtorEq, reduceIte]
    refine fin_stop trivial (runs_call (hone) rfl rfl rfl (by simp only [dstOk, Nat.reduceLT]) (by repeat (first | exact trivial | constructor)) (runs_eval tab_ok ?_))
    simp only [ev0, evA, evB, evP, fl, gp, tab, simprocAttr, reduceCtorEq, reduceIte]
    refine fin_run ?_ (hK _ ?_) <;> clear hK <;> clear K
    · (first | exact trivial | omega | (simp only [In64] at *; omega) | (simp [In64] at *; omega) | (simp_all; done) | skip)
    refine qa (qm ?_)
    refine hk_region fun K hK => runs_eval tab_ok ?_
    simp only [ev0, evA, evB, evP, fl, gp, tab, simprocAttr, reduceCtorEq, reduceIte]
    refine fin_run ?_ (hK _ ?_) <;> clear hK <;> clear K
    · (first | exact trivial | omega | (simp only [In64] at *; omega) | (simp [In64] at *; omega) | (simp_all; done) | skip)
    refine qa (qm (qm ?_))
    refine hk_region fun K hK => runs_eval tab_ok ?_
    simp only [ev0, evA, evB, evP, fl, gp, tab, simprocAttr, reduceCtorEq, reduceIte]
    refine fin_run ?_ (hK _ ?_) <;> clear hK <;> clear K
    · (first | exact trivial | omega | (simp only [In64] at *; omega) | (simp [In64] at *; omega) | (simp_all; done) | skip)
    refine qa (ql ?_)
    refine hk_loop (ι := Nat) (fun a => ⟨49, [(2, .ptr 0 0), (5, .ptr 1 0), (7, .p (.int .u64 (bo n s))), (8, .mptr 2), (24, .p (.int .i64 n)), (25, .p (.int .i64 a))], [.own [.p (.int .i64 n), .p (.list (il m))], .own [.p (.int .i64 0), .p (.int .i64 0)], .mp .u64 (mpd (kys n (op m n) e s a)) (mpv (kys n (op m n) e s a) tru)]⟩) (fun a => a ≤ n) (fun a => n - a) 0 (Nat.zero_le _) [0, 1, 3] (by rw [show kys n (op m n) e s 0 = [] from rfl, ← mpd_nil, ← mpv_nil]; simp only [leq, leA, ev0, evA, evB, evP, fl, gp, tab, simprocAttr, reduceCtorEq, reduceIte] <;> first | trivial | exact ⟨rfl, rfl⟩) fun a ha => ?_
    refine qm ?_
    refine hk_region fun K hK => runs_eval tab_ok ?_
    simp only [ev0, evA, evB, evP, fl, gp, tab, simprocAttr, reduceCtorEq, reduceIte]
    refine fin_run trivial (hK _ ?_) <;> clear hK <;> clear K
    refine qa (qm ?_)
    refine hk_cond rfl (fun hC2 => ?_) (fun hC2 => ?_)
    · (try simp only [nhs] at hC2)
      have hal : a < n := by omega
      have hd1 := mpd_set (kys n (op m n) e s a) ((bo n (shf n (op m n) e s a) : Nat) : Int)
      have hv1 := mpv_set (kys n (op m n) e s a) ((bo n (shf n (op m n) e s a) : Nat) : Int) tru
      refine qh (qa (qm (ql (qm ?_))))
      refine hk_region fun K hK => runs_eval tab_ok ?_
      simp only [ev0, evA, evB, evP, fl, gp, tab, simprocAttr, reduceCtorEq, reduceIte]
      refine fin_run trivial (hK _ ?_) <;> clear hK <;> clear K
      refine qa ?_
      refine hk_region fun K hK => runs_eval tab_ok ?_
      simp only [ev0, evA, evB, evP, fl, gp, tab, simprocAttr, reduceCtorEq, reduceIte]
      refine fin_stop trivial (runs_call (moved_s h s hal) rfl rfl rfl (by simp only [dstOk, Nat.reduceLT]) (by repeat (first | exact trivial | constructor)) (runs_eval tab_ok ?_))
      simp only [ev0, evA, evB, evP, fl, gp, tab, simprocAttr, reduceCtorEq, reduceIte]
      refine fin_run ?_ (hK _ ?_) <;> clear hK <;> clear K
      · (first | exact trivial | omega | (simp only [In64] at *; omega) | (simp [In64] at *; omega) | (simp_all; done) | skip)
      refine qd (qa ?_)
      refine hk_region fun K hK => runs_eval tab_ok ?_
      simp only [ev0, evA, evB, evP, fl, gp, tab, simprocAttr, reduceCtorEq, reduceIte]
      refine fin_run ?_ (hK _ ?_) <;> clear hK <;> clear K
      · (first | exact trivial | omega | (simp only [In64] at *; omega) | (simp [In64] at *; omega) | (simp_all; done) | skip)
      refine qa ?_
      refine ⟨a + 1, [0, 1, 2], by omega, by omega, ?_⟩
      rw [kys_succ]
      simp only [← hd1, ← hv1]
      simp only [leq, leA, ev0, evA, evB, evP, fl, gp, tab, simprocAttr, reduceCtorEq, reduceIte] <;> first | trivial | omega | exact ⟨rfl, rfl⟩
    · (try simp only [nhs] at hC2)
      have han : a = n := by omega
      subst han
      refine qj (qc (qc (qf (qa (qm ?_)))))
      refine hk_region fun K hK => runs_eval tab_ok ?_
      simp only [ev0, evA, evB, evP, fl, gp, tab, simprocAttr, reduceCtorEq, reduceIte]
      refine fin_run trivial (hK _ ?_) <;> clear hK <;> clear K
      refine qa (qm ?_)
      refine hk_own0 10 rfl ?_
      refine hk_range tab_ok rfl rfl rfl rfl (fun r L => ⟨49, [(5, .ptr 0 0), (10, .sl 1 0 (slz L).length), (35, .itv r)], [.own [.p (.int .i64 0), .p (.int .i64 0)], .own (opl (ll (slz L)))]⟩) [1, 3] rfl (fun _ _ => ⟨rfl, rfl⟩) (fun r => ?_) (fun r L z hLn hLd hz hzL => ?_) fun r L hLn hall => ?_
      · simp only [leq, leA, ev0, evA, evB, evP, fl, gp, tab, simprocAttr, reduceCtorEq, reduceIte] <;> trivial
      · obtain ⟨b, hb2, hzb⟩ := List.mem_map.1 (of_decide_eq_true hz)
        subst hzb
        have hL1 : (slz L).length ≤ a := by
          rw [slz_len, ← hKl a]
          exact List.Nodup.length_le_of_subset hLn fun y hy => of_decide_eq_true (hLd y hy)
        refine hk_region fun K hK => runs_eval tab_ok ?_
        simp only [ev0, evA, evB, evP, fl, gp, tab, simprocAttr, reduceCtorEq, reduceIte, ll_takeL, oll_ok, ll_snoc]
        refine fin_stop trivial (runs_call (list_s (bo a (shf a (op m a) e s b)) (bo_lt64 hb _)) rfl rfl rfl (by simp only [dstOk, Nat.reduceLT]) (by repeat (first | exact trivial | constructor)) (runs_eval tab_ok ?_))
        simp only [ev0, evA, evB, evP, fl, gp, tab, simprocAttr, reduceCtorEq, reduceIte, ll_takeL, oll_ok, ll_snoc]
        refine fin_run ?_ (hK _ ?_) <;> clear hK <;> clear K
        · first | (simp [cellOk, PV.one]; done) | (simp [cellOk, PV.one]; omega)
        refine qd (qa ?_)
        refine ⟨[0, 2], ?_⟩
        rw [slz_snoc, Int.toNat_natCast]
        simp only [leq, leA, ev0, evA, evB, evP, fl, gp, tab, simprocAttr, reduceCtorEq, reduceIte, ll_takeL, ll_snoc, ll_takeS] <;> first | trivial | omega | (simp [ll]; done)
      · have hmem : ∀ z : Int, z ∈ L ↔ ∃ x : Nat, x ∈ SL ∧ z = (x : Int) := fun z => by
          rw [← hall z]
          constructor
          · intro hz
            obtain ⟨b, hb2, hzb⟩ := List.mem_map.1 (of_decide_eq_true hz)
            exact ⟨_, (hS.all _).2 ⟨b, List.mem_range.1 hb2, rfl⟩, hzb.symm⟩
          · rintro ⟨x, hx, rfl⟩
            obtain ⟨b, hb2, rfl⟩ := (hS.all _).1 hx
            exact decide_eq_true (List.mem_map.2 ⟨b, List.mem_range.2 hb2, rfl⟩)
        have hp1 : (L.map Int.toNat).Perm SL := (List.perm_ext_iff_of_nodup (nodup_map hLn fun x hx y hy hxy => by
          obtain ⟨x', _, rfl⟩ := (hmem x).1 hx
          obtain ⟨y', _, rfl⟩ := (hmem y).1 hy
          rw [Int.toNat_natCast, Int.toNat_natCast] at hxy
          rw [hxy]) hS.nodup).2 fun x => by
            rw [List.mem_map]
            constructor
            · rintro ⟨z, hz, rfl⟩
              obtain ⟨x', hx', rfl⟩ := (hmem z).1 hz
              rwa [Int.toNat_natCast]
            · exact fun hx => ⟨(x : Int), (hmem _).2 ⟨x, hx, rfl⟩, Int.toNat_natCast x⟩
        have hperm : (slz L).Perm (sql SL) := by
          have := hp1.map stl
          rw [List.map_map] at this
          exact this
        have hlen2 := hperm.length_eq
        have hSl := hS.len
        have hSp := hS.pos G
        have hsl := sql_len SL
        have hsort := sortL_c (xs := slz L) (ys := sql SL) (fun hh => by rw [hh] at hlen2; simp at hlen2; omega) (by omega) (fun v hv => by
          obtain ⟨x, hx, rfl⟩ := List.mem_map.1 (hperm.mem_iff.1 hv)
          obtain ⟨b, _, rfl⟩ := (hS.all _).1 hx
          rw [stl_bo hb]
          have := thl_le a (shf a (op m a) e s b)
          omega) hperm (by
          unfold sql
          rw [List.pairwise_map]
          exact hS.rise)
        rw [ll_length] at hsort
        refine qa (qm ?_)
        refine hk_region fun K hK => runs_eval tab_ok ?_
        simp only [ev0, evA, evB, evP, fl, gp, tab, simprocAttr, reduceCtorEq, reduceIte]
        refine fin_stop ?_ (runs_callM [1] (hsort) rfl rfl ?_ (by simp only [leA, ev0, evA, evB, evP, fl, gp, tab, simprocAttr, reduceCtorEq, reduceIte]; first | trivial | (simp only [ll_takeL]; first | trivial | (repeat constructor; done)) | (repeat constructor)) (by decide) (by first | rfl | (simp only [List.length_cons, List.length_nil, List.length_append]; decide)) (by first | rfl | (simp only [scM, opl_sc, List.all_cons, List.all_nil, List.length_cons, List.length_nil]; first | rfl | decide) | (simp [scM, scA, sc1, mpKeep, notAnc]; done)) (by simp only [dstOk, Nat.reduceLT]) (runs_eval tab_ok ?_))
        · first | (simp only [ll_takeL]; done) | (simp only [leA, ev0, evA, evB, evP, fl, gp, tab, simprocAttr, reduceCtorEq, reduceIte, ll_takeL]; first | trivial | (repeat constructor)) | (first | exact trivial | omega | (simp only [In64] at *; omega) | (simp [In64] at *; omega) | (simp_all; done) | skip)
        · (simp only [argsM, argM1, peekG, peekS, scA, sc1, ren, ren1, List.map_cons, List.map_nil, List.append_nil, List.cons_append, List.nil_append, enA, ev0, evA, evB, evP, fl, gp, tab, simprocAttr, reduceCtorEq, reduceIte]; try trivial)
        simp only [putM, hset, List.range', Blk.ren, ren, ren1, List.map_cons, List.map_nil, List.cons_append, List.nil_append, List.append_nil, List.length_cons, List.length_nil, ev0, evA, evB, evP, fl, gp, tab, simprocAttr, reduceCtorEq, reduceIte]
        refine fin_run trivial (hK _ ?_) <;> clear hK <;> clear K
        refine qa (qm ?_)
        rw [hlen2, ← ll_length (sql SL)]
        refine hk_sealp 10 1 (ll_all _) rfl rfl ?_
        refine hk_region fun K hK => runs_eval tab_ok ?_
        simp only [ev0, evA, evB, evP, fl, gp, tab, simprocAttr, reduceCtorEq, reduceIte]
        refine fin_run ?_ (hK _ ?_) <;> clear hK <;> clear K
        · (first | exact trivial | omega | (simp only [In64] at *; omega) | (simp [In64] at *; omega) | (simp_all; done) | skip)
        refine qa (qk ?_)
        simp only [Tryd.results45, enA, ev0, evA, evB, evP, fl, gp, tab, simprocAttr, reduceCtorEq, reduceIte]
        all_goals ((first | exact rfl | exact ⟨rfl, rfl⟩ | exact ⟨rfl, rfl, rfl⟩ | exact ⟨trivial, rfl⟩ | exact ⟨Nat.le_refl _, rfl⟩ | trivial | (simp; done)))
end
end Go.Proofs.YtjikchbmkodgfaaDoor
