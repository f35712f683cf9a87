/-
  Sets of things as bits: plain laws of bits; the words of package sub that reckon with them. Conditions: none.
-/
import Derived.Test.YtjikchbmkodgfaaDoorT6
set_option linter.all false
namespace Go.Proofs.YtjikchbmkodgfaaDoor
open Go.Pv

/-! ### Numbers of 64 bits -/

theorem wrap_u (z : Int) : IntKind.u64.wrap z = z % 18446744073709551616 := rfl
theorem wrap_n {a : Nat} (h : a < 2 ^ 64) : IntKind.u64.wrap (a : Int) = (a : Int) := by
  rw [wrap_u]; omega
theorem ofInt_n {a : Nat} (h : a < 2 ^ 64) : (BitVec.ofInt 64 (a : Int)).toNat = a := by
  rw [BitVec.toNat_ofInt]; omega

theorem bv_and {a b : Nat} (ha : a < 2 ^ 64) (hb : b < 2 ^ 64) : bitsV (fun _ x y => x &&& y) .u64 (a : Int) (b : Int) = .int .u64 ((a &&& b : Nat) : Int) := by
  show PV.int .u64 (IntKind.u64.wrap ((BitVec.ofInt 64 (a : Int) &&& BitVec.ofInt 64 (b : Int)).toNat : Int)) = _
  rw [BitVec.toNat_and, ofInt_n ha, ofInt_n hb, wrap_n (Nat.and_lt_two_pow a hb)]
theorem bv_or {a b : Nat} (ha : a < 2 ^ 64) (hb : b < 2 ^ 64) : bitsV (fun _ x y => x ||| y) .u64 (a : Int) (b : Int) = .int .u64 ((a ||| b : Nat) : Int) := by
  show PV.int .u64 (IntKind.u64.wrap ((BitVec.ofInt 64 (a : Int) ||| BitVec.ofInt 64 (b : Int)).toNat : Int)) = _
  rw [BitVec.toNat_or, ofInt_n ha, ofInt_n hb, wrap_n (Nat.or_lt_two_pow ha hb)]
theorem bits_u : IntKind.u64.bits = 64 := rfl
theorem shl_one {b : Nat} (hb : b < 64) : IntKind.u64.wrap (1 * 2 ^ (min b IntKind.u64.bits)) = ((2 ^ b : Nat) : Int) := by
  rw [bits_u, Nat.min_eq_left (by omega), Int.one_mul, show (2 : Int) ^ b = ((2 ^ b : Nat) : Int) by simp, wrap_n (Nat.pow_lt_pow_right (by omega) hb)]
theorem shr_n {a b : Nat} (hb : b < 64) : (a : Int).fdiv (2 ^ (min b IntKind.u64.bits)) = ((a / 2 ^ b : Nat) : Int) := by
  rw [bits_u, Nat.min_eq_left (by omega), show (2 : Int) ^ b = ((2 ^ b : Nat) : Int) by simp, Int.fdiv_eq_ediv_of_nonneg _ (Int.natCast_nonneg _), ← Int.natCast_ediv]

theorem bv_and1 {a : Nat} (ha : a < 2 ^ 64) : bitsV (fun _ x y => x &&& y) .u64 (a : Int) 1 = .int .u64 ((a % 2 : Nat) : Int) := by
  have := bv_and ha (show 1 < 2 ^ 64 by omega)
  rwa [Nat.and_one_is_mod] at this

/-! ### The lowest bit -/

/-- The lowest bit that is set. -/
def tz (s : Nat) : Nat := (fst' s.testBit 64).getD 64

theorem bit_lt {s i : Nat} (hs : s < 2 ^ 64) (h : s.testBit i = true) : i < 64 := by
  rcases Nat.lt_or_ge i 64 with h1 | h1
  · exact h1
  · have := Nat.testBit_lt_two_pow (Nat.lt_of_lt_of_le hs (Nat.pow_le_pow_right (by omega) h1))
    rw [h] at this; cases this
theorem tz_spec {s : Nat} (hs : s < 2 ^ 64) (h0 : s ≠ 0) : tz s < 64 ∧ s.testBit (tz s) = true ∧ ∀ j, j < tz s → s.testBit j = false := by
  cases h : fst' s.testBit 64 with
  | none =>
    obtain ⟨i, hi⟩ := Nat.exists_testBit_of_ne_zero h0
    have := fst_spec0 h i (bit_lt hs hi)
    rw [hi] at this; cases this
  | some a =>
    have e : tz s = a := by unfold tz; rw [h]; rfl
    rw [e]
    exact fst_spec h
theorem tz_split {s : Nat} (hs : s < 2 ^ 64) (h0 : s ≠ 0) : s = 2 ^ (tz s + 1) * (s / 2 ^ (tz s + 1)) + 2 ^ tz s := by
  obtain ⟨h1, h2, h3⟩ := tz_spec hs h0
  have e1 : s % 2 ^ (tz s + 1) = 2 ^ tz s := by
    refine Nat.eq_of_testBit_eq fun i => ?_
    rw [Nat.testBit_mod_two_pow, Nat.testBit_two_pow]
    rcases Nat.lt_trichotomy i (tz s) with h | h | h
    · rw [h3 i h]; simp; omega
    · subst h; rw [h2]; simp
    · have a1 : decide (i < tz s + 1) = false := by simp; omega
      have a2 : decide (tz s = i) = false := by simp; omega
      rw [a1, a2]; rfl
  have := Nat.div_add_mod s (2 ^ (tz s + 1))
  omega
theorem bit_pred {s : Nat} (hs : s < 2 ^ 64) (h0 : s ≠ 0) (i : Nat) : (s - 1).testBit i = if i < tz s then true else if i = tz s then false else s.testBit i := by
  have e := tz_split hs h0
  have hp : 0 < 2 ^ tz s := Nat.two_pow_pos _
  have e1 : s - 1 = 2 ^ (tz s + 1) * (s / 2 ^ (tz s + 1)) + (2 ^ tz s - 1) := by omega
  have hlt : 2 ^ tz s < 2 ^ (tz s + 1) := Nat.pow_lt_pow_right (by omega) (by omega)
  have b1 : s.testBit i = (2 ^ (tz s + 1) * (s / 2 ^ (tz s + 1)) + 2 ^ tz s).testBit i := by rw [← e]
  rw [e1, Nat.testBit_two_pow_mul_add _ (by omega), b1, Nat.testBit_two_pow_mul_add _ hlt, Nat.testBit_two_pow_sub_one]
  rcases Nat.lt_trichotomy i (tz s) with h | h | h
  · rw [if_pos (by omega), if_pos h]; simpa using h
  · rw [if_pos (by omega), if_neg (by omega), if_pos h]; simp; omega
  · rw [if_neg (by omega), if_neg (by omega), if_neg (by omega), if_neg (by omega)]
theorem low_bit {s : Nat} (hs : s < 2 ^ 64) (h0 : s ≠ 0) : s &&& (2 ^ 64 - s) = 2 ^ tz s := by
  obtain ⟨h1, h2, h3⟩ := tz_spec hs h0
  refine Nat.eq_of_testBit_eq fun i => ?_
  have e : 2 ^ 64 - s = 2 ^ 64 - ((s - 1) + 1) := by omega
  rw [Nat.testBit_and, e, Nat.testBit_two_pow_sub_succ (by omega), bit_pred hs h0, Nat.testBit_two_pow]
  rcases Nat.lt_trichotomy i (tz s) with h | h | h
  · rw [h3 i h]; simp; omega
  · subst h; rw [h2]; simp; omega
  · rw [if_neg (by omega), if_neg (by omega)]
    cases s.testBit i <;> simp <;> omega
/-- Without its lowest bit. -/
def cut (s : Nat) : Nat := s &&& (s - 1)
theorem cut_bit {s : Nat} (hs : s < 2 ^ 64) (h0 : s ≠ 0) (i : Nat) : (cut s).testBit i = (s.testBit i && !decide (i = tz s)) := by
  obtain ⟨h1, h2, h3⟩ := tz_spec hs h0
  unfold cut
  rw [Nat.testBit_and, bit_pred hs h0]
  rcases Nat.lt_trichotomy i (tz s) with h | h | h
  · rw [h3 i h]; simp
  · rw [if_neg (by omega), if_pos h]; simp [h]
  · rw [if_neg (by omega), if_neg (by omega)]
    have : decide (i = tz s) = false := by simp; omega
    rw [this]; simp
theorem cut_lt {s : Nat} (h0 : s ≠ 0) : cut s < s := by
  have : cut s ≤ s - 1 := Nat.and_le_right
  omega

/-! ### Lists of sets -/

/-- The things of which something holds, rising. -/
def thn' (n : Nat) (p : Nat → Bool) : List Nat := (List.range n).filter p
/-- As numbers of the program. -/
def thl (n : Nat) (p : Nat → Bool) : List Int := (thn' n p).map (fun (a : Nat) => (a : Int))

theorem thl_len (n : Nat) (p : Nat → Bool) : (thl n p).length = (thn' n p).length := by simp [thl]
theorem thn_congr {n : Nat} {p q : Nat → Bool} (h : ∀ a, a < n → p a = q a) : thn' n p = thn' n q := List.filter_congr fun a ha => h a (List.mem_range.1 ha)
theorem thl_congr {n : Nat} {p q : Nat → Bool} (h : ∀ a, a < n → p a = q a) : thl n p = thl n q := by unfold thl; rw [thn_congr h]
theorem thl_succ (n : Nat) (p : Nat → Bool) : thl (n + 1) p = thl n p ++ if p n = true then [(n : Int)] else [] := by
  unfold thl thn'
  rw [List.range_succ, List.filter_append, List.map_append]
  congr 1
  cases h : p n <;> simp [h]
theorem thl_ext {n m : Nat} {p : Nat → Bool} (h : n ≤ m) (hp : ∀ a, n ≤ a → a < m → p a = false) : thl m p = thl n p := by
  induction m with
  | zero => have : n = 0 := by omega
            subst this; rfl
  | succ m ih =>
    by_cases e : n = m + 1
    · subst e; rfl
    · rw [thl_succ, hp m (by omega) (by omega), ih (by omega) fun a h1 h2 => hp a h1 (by omega)]; simp
theorem mem_thn {n : Nat} {p : Nat → Bool} {a : Nat} : a ∈ thn' n p ↔ a < n ∧ p a = true := by simp [thn']
theorem thl_le (n : Nat) (p : Nat → Bool) : (thl n p).length ≤ n := by
  rw [thl_len]
  have := List.length_filter_le p (List.range n)
  rwa [List.length_range] at this
theorem thl_inj {n : Nat} {p q : Nat → Bool} (h : thl n p = thl n q) {a : Nat} (ha : a < n) : p a = q a := by
  have h1 : thn' n p = thn' n q := List.map_inj_right (f := fun (a : Nat) => (a : Int)) (fun x y h => by have h' : (x : Int) = (y : Int) := h; omega) |>.1 h
  have h2 : a ∈ thn' n p ↔ a ∈ thn' n q := by rw [h1]
  rw [mem_thn, mem_thn] at h2
  cases hp : p a <;> cases hq : q a <;> simp_all

/-- The list of a set of bits. -/
def stl (s : Nat) : List Int := thl 64 s.testBit

theorem stl_zero : stl 0 = [] := by
  unfold stl thl thn'
  simp
theorem thn_first {n k : Nat} {p : Nat → Bool} (hk : k < n) (h1 : p k = true) (h2 : ∀ j, j < k → p j = false) : thn' n p = k :: thn' n (fun i => p i && !decide (i = k)) := by
  unfold thn'
  have e : n = k + ((n - k - 1) + 1) := by omega
  rw [e, List.range_add, List.filter_append, List.filter_append]
  have z : ∀ q : Nat → Bool, (∀ j, j < k → q j = false) → (List.range k).filter q = [] := by
    intro q hq
    rw [List.filter_eq_nil_iff]
    intro a ha
    rw [hq a (List.mem_range.1 ha)]; simp
  rw [z p h2, z _ (fun j hj => by rw [h2 j hj]; rfl), List.nil_append, List.nil_append, List.range_succ_eq_map, List.map_cons, List.filter_cons, List.filter_cons]
  rw [if_pos (by simpa using h1), if_neg (by simp)]
  simp only [Nat.add_zero, List.cons.injEq, true_and]
  refine List.filter_congr fun a ha => ?_
  simp only [List.map_map, List.mem_map, List.mem_range, Function.comp] at ha
  obtain ⟨j, _, rfl⟩ := ha
  have : decide (k + (j + 1) = k) = false := by simp
  simp [this]
theorem stl_cons {s : Nat} (hs : s < 2 ^ 64) (h0 : s ≠ 0) : stl s = (tz s : Int) :: stl (cut s) := by
  obtain ⟨h1, h2, h3⟩ := tz_spec hs h0
  unfold stl thl
  rw [thn_first h1 h2 h3, List.map_cons, thn_congr fun a _ => (cut_bit hs h0 a).symm]
theorem stl_len (s : Nat) : (stl s).length ≤ 64 := thl_le _ _

/-- Bits below n alone: the list is that of n things. -/
theorem stl_n {s n : Nat} (hn : n ≤ 64) (hs : s < 2 ^ n) : stl s = thl n s.testBit := by
  unfold stl
  refine thl_ext hn fun a h1 _ => Nat.testBit_lt_two_pow (Nat.lt_of_lt_of_le hs (Nat.pow_le_pow_right (by omega) h1))

/-! ### The walks -/

theorem has_s (s a : Nat) (hs : s < 2 ^ 64) (ha : a < 64) : FnC Tryd.prog 104 [.int .u64 s, .int .i64 a] (.bool (s.testBit a)) := by
  have h1 : s / 2 ^ a < 2 ^ 64 := Nat.lt_of_le_of_lt (Nat.div_le_self _ _) hs
  refine fnc_of tab_ok Tryd.func104 rfl (by kernel_rfl) (by rw [Tryd.ntmps104]; exact Nat.le_add_left 2 _) ?_; rw [Tryd.ntmps104]
  refine qm ?_
  refine hk_region fun K hK => runs_eval tab_ok ?_
  simp only [ev0, evA, evB, evP, fl, gp, tab, simprocAttr, reduceCtorEq, reduceIte]
  refine fin_run trivial (hK _ ?_) <;> clear hK <;> clear K
  refine qa (qm ?_)
  refine hk_region fun K hK => runs_eval tab_ok ?_
  simp only [ev0, evA, evB, evP, fl, gp, tab, simprocAttr, reduceCtorEq, reduceIte, shr_n ha, bv_and1 h1]
  refine fin_run ?_ (hK _ ?_) <;> clear hK <;> clear K
  · (first | exact trivial | omega | (simp only [In64] at *; omega) | (simp [In64] at *; omega) | (simp_all; done) | skip)
  refine qa (qk ?_)
  simp only [Tryd.results104, enA, ev0, evA, evB, evP, fl, gp, tab, simprocAttr, reduceCtorEq, reduceIte]
  all_goals (rw [Nat.testBit_eq_decide_div_mod_eq]; exact decide_eq_decide.2 (by omega))

theorem gva_0 : gva 0 = .p (.ptr glob0) := rfl /- 111 -/
theorem glob0_len : glob0.length = 64 := rfl /- 111 -/

/-- Where the table is asked. -/
def dix (k : Nat) : Nat := 2 ^ k * 285870213051353865 % 18446744073709551616 / 2 ^ 58
theorem deb_ix (k : Nat) : (IntKind.u64.wrap (((2 ^ k : Nat) : Int) * 285870213051353865)).fdiv (2 ^ min 58 IntKind.u64.bits) = ((dix k : Nat) : Int) := by
  rw [wrap_u, bits_u, Int.fdiv_eq_ediv_of_nonneg _ (by decide)]
  show (((2 ^ k : Nat) : Int) * ((285870213051353865 : Nat) : Int)) % ((18446744073709551616 : Nat) : Int) / (((2 ^ 58 : Nat)) : Int) = _
  rw [← Int.natCast_mul, ← Int.natCast_emod, ← Int.natCast_ediv]
  rfl
def isU8 (k : Nat) : PV → Bool
  | .int .u8 i => decide (i = (k : Int))
  | _ => false
theorem isU8_eq {k : Nat} {p : PV} (h : isU8 k p = true) : p = .int .u8 (k : Nat) := by
  unfold isU8 at h
  split at h
  · rw [of_decide_eq_true h]
  · cases h
theorem deb_all : ((List.range 64).all fun k => isU8 k ((glob0.drop (dix k * 1)).headD default)) = true := by decide +kernel /- 111 -/
theorem deb_at {k : Nat} (hk : k < 64) : (glob0.drop (dix k * 1)).headD default = .int .u8 (k : Nat) :=
  isU8_eq (List.all_eq_true.1 deb_all k (List.mem_range.2 hk)) /- 111 -/
theorem dix_lt (k : Nat) : dix k < 64 := by unfold dix; omega
theorem wrap_i8 {k : Nat} (hk : k < 64) : IntKind.i64.wrap (k : Int) = (k : Int) := by
  show (if _ then _ else _) = _
  have h1 : (k : Int) % (2 ^ IntKind.i64.bits : Int) = (k : Int) := by
    show (k : Int) % 18446744073709551616 = _
    omega
  rw [h1, if_neg]
  show ¬ (_ && decide ((k : Int) ≥ 9223372036854775808)) = true
  simp; omega

theorem tz_c (s : Nat) (hs : s < 2 ^ 64) (h0 : s ≠ 0) : FnC Tryd.prog 111 [.int .u64 s] (.int .i64 (tz s : Nat)) := by
  obtain ⟨h1, h2, h3⟩ := tz_spec hs h0
  have hneg : IntKind.u64.wrap (-(s : Int)) = ((2 ^ 64 - s : Nat) : Int) := by
    rw [wrap_u]; omega
  have hd := dix_lt (tz s)
  refine fnc_of tab_ok Tryd.func111 rfl (by kernel_rfl) (by rw [Tryd.ntmps111]; exact Nat.le_add_left 1 _) ?_; rw [Tryd.ntmps111]
  refine qm ?_
  refine hk_region fun K hK => runs_eval tab_ok ?_
  simp only [ev0, evA, evB, evP, fl, gp, tab, simprocAttr, reduceCtorEq, reduceIte]
  refine fin_run trivial (hK _ ?_) <;> clear hK <;> clear K
  refine qa (qm (qm ?_))
  refine hk_region fun K hK => runs_eval tab_ok ?_
  simp only [ev0, evA, evB, evP, fl, gp, tab, simprocAttr, reduceCtorEq, reduceIte]
  refine fin_run trivial (hK _ ?_) <;> clear hK <;> clear K
  refine qa ?_
  refine hk_cond rfl (fun hC1 => ?_) (fun hC1 => ?_)
  · (try simp only [nhs] at hC1)
    omega
  · (try simp only [nhs] at hC1)
    refine qh (qa (qm ?_))
    refine hk_region fun K hK => runs_eval tab_ok ?_
    simp only [ev0, evA, evB, evP, fl, gp, tab, simprocAttr, reduceCtorEq, reduceIte, hneg, bv_and hs (show 2 ^ 64 - s < 2 ^ 64 by omega), low_bit hs h0, gva_0, deb_ix, deb_at h1, wrap_i8 h1, glob0_len, List.length_drop]
    refine fin_run ?_ (hK _ ?_) <;> clear hK <;> clear K
    · (first | exact trivial | omega | (simp only [In64] at *; omega) | (simp [In64] at *; omega) | (simp_all; done) | skip)
    refine qa (qk ?_)
    simp only [Tryd.results111, enA, ev0, evA, evB, evP, fl, gp, tab, simprocAttr, reduceCtorEq, reduceIte]
    all_goals (rfl)
end Go.Proofs.YtjikchbmkodgfaaDoor
