
/-
  How many bits are set: by sums of neighbours. Conditions: none.
-/
import Derived.Test.YtjikchbmkodgfaaDoorS1
set_option linter.all false
namespace Go.Proofs.YtjikchbmkodgfaaDoor
open Go.Pv

theorem land_byte {a c : Nat} (u v : Nat) (ha : a < 256) (hc : c < 256) : (a + 256 * u) &&& (c + 256 * v) = (a &&& c) + 256 * (u &&& v) := by
  have e : ∀ b w : Nat, b + 256 * w = 2 ^ 8 * w + b := fun b w => by omega
  refine Nat.eq_of_testBit_eq fun i => ?_
  have hac : a &&& c < 2 ^ 8 := Nat.lt_of_le_of_lt Nat.and_le_left ha
  rw [e, e, e, Nat.testBit_and, Nat.testBit_two_pow_mul_add _ (show a < 2 ^ 8 from ha), Nat.testBit_two_pow_mul_add _ (show c < 2 ^ 8 from hc), Nat.testBit_two_pow_mul_add _ hac]
  by_cases hi : i < 8
  · rw [if_pos hi, if_pos hi, if_pos hi, Nat.testBit_and]
  · rw [if_neg hi, if_neg hi, if_neg hi, Nat.testBit_and]
def msk8 (c : Nat) : Nat → Nat
  | 0 => 0
  | k + 1 => c + 256 * msk8 c k
def p1 (M x : Nat) : Nat := (x / 2 &&& M) + (x &&& M)
def p2 (M x : Nat) : Nat := (x / 4 &&& M) + (x &&& M)
def p3 (M x : Nat) : Nat := (x / 16 + x) &&& M
theorem p1_step {a : Nat} (ha : a < 256) (u M : Nat) : p1 (85 + 256 * M) (a + 256 * u) = p1 85 a + 256 * p1 M u := by
  have h : ∀ a, a < 256 → ∀ r, r < 2 → (a / 2 + 128 * r) &&& 85 = a / 2 &&& 85 := by decide +kernel
  have e : (a + 256 * u) / 2 = (a / 2 + 128 * (u % 2)) + 256 * (u / 2) := by omega
  unfold p1
  rw [e, land_byte _ _ (by omega) (by omega), land_byte _ _ ha (by omega), h a ha _ (by omega)]
  omega
theorem p2_step {a : Nat} (ha : a < 256) (u M : Nat) : p2 (51 + 256 * M) (a + 256 * u) = p2 51 a + 256 * p2 M u := by
  have h : ∀ a, a < 256 → ∀ r, r < 4 → (a / 4 + 64 * r) &&& 51 = a / 4 &&& 51 := by decide +kernel
  have e : (a + 256 * u) / 4 = (a / 4 + 64 * (u % 4)) + 256 * (u / 4) := by omega
  unfold p2
  rw [e, land_byte _ _ (by omega) (by omega), land_byte _ _ ha (by omega), h a ha _ (by omega)]
  omega
theorem p3_step {a : Nat} (ha : a % 16 ≤ 4 ∧ a / 16 ≤ 4) (u M : Nat) (hu : u % 16 ≤ 4) : p3 (15 + 256 * M) (a + 256 * u) = p3 15 a + 256 * p3 M u := by
  have e : (a + 256 * u) / 16 + (a + 256 * u) = (a / 16 + 16 * (u % 16) + a) + 256 * (u / 16 + u) := by omega
  have m15 : ∀ z, z &&& 15 = z % 16 := fun z => Nat.and_two_pow_sub_one_eq_mod z 4
  unfold p3
  rw [e, land_byte _ _ (by omega) (by omega), m15, m15]
  have : (a / 16 + 16 * (u % 16) + a) % 16 = (a / 16 + a) % 16 := by omega
  rw [this]
def pT (k x : Nat) : Nat := p3 (msk8 15 k) (p2 (msk8 51 k) (p1 (msk8 85 k) x))
def pM (k x : Nat) : Nat := p2 (msk8 51 k) (p1 (msk8 85 k) x)
theorem p1_small : ∀ a, a < 256 → p1 85 a < 256 := by decide +kernel
theorem p2_small : ∀ a, a < 256 → p2 51 (p1 85 a) % 16 ≤ 4 ∧ p2 51 (p1 85 a) / 16 ≤ 4 := by decide +kernel
def cnt (k x : Nat) : Nat := ((List.range k).filter x.testBit).length
theorem p_byte : ∀ a, a < 256 → p3 15 (p2 51 (p1 85 a)) = cnt 8 a := by decide +kernel
theorem cnt_le (k x : Nat) : cnt k x ≤ k := by
  have := List.length_filter_le x.testBit (List.range k)
  simpa [cnt] using this
theorem pM_step {a : Nat} (ha : a < 256) (k u : Nat) : pM (k + 1) (a + 256 * u) = p2 51 (p1 85 a) + 256 * pM k u := by
  show p2 (51 + 256 * msk8 51 k) (p1 (85 + 256 * msk8 85 k) (a + 256 * u)) = _
  rw [p1_step ha, p2_step (p1_small a ha)]; rfl
theorem pM_low : ∀ (k u : Nat), pM k u % 16 ≤ 4
  | 0, u => by simp [pM, msk8, p2]
  | k + 1, u => by
    have := pM_step (a := u % 256) (Nat.mod_lt _ (by omega)) k (u / 256)
    rw [show u % 256 + 256 * (u / 256) = u by omega] at this
    rw [this]
    have := p2_small (u % 256) (Nat.mod_lt _ (by omega))
    omega
theorem pT_step (k x : Nat) : pT (k + 1) x = cnt 8 (x % 256) + 256 * pT k (x / 256) := by
  have ha : x % 256 < 256 := Nat.mod_lt _ (by omega)
  have := pM_step ha k (x / 256)
  rw [show x % 256 + 256 * (x / 256) = x by omega] at this
  show p3 (15 + 256 * msk8 15 k) (pM (k + 1) x) = _
  rw [this, p3_step (p2_small _ ha) _ _ (pM_low _ _), p_byte _ ha]; rfl
theorem cnt_step (k x : Nat) : cnt (8 + k) x = cnt 8 (x % 256) + cnt k (x / 256) := by
  unfold cnt
  rw [List.range_add, List.filter_append, List.length_append]
  congr 1
  · congr 1
    refine List.filter_congr fun i hi => ?_
    have hi : i < 8 := List.mem_range.1 hi
    show x.testBit i = (x % 2 ^ 8).testBit i
    rw [Nat.testBit_mod_two_pow]; simp [hi]
  · rw [List.filter_map, List.length_map]
    congr 1
    refine List.filter_congr fun i _ => ?_
    show x.testBit (8 + i) = (x / 2 ^ 8).testBit i
    rw [Nat.testBit_div_two_pow, Nat.add_comm]
theorem pT0 (x : Nat) : pT 0 x = 0 := by simp [pT, msk8, p3]
def pcf (x : Nat) : Nat :=
  let y := pT 8 x
  let y4 := y + y / 256
  let y5 := y4 + y4 / 65536
  let y6 := y5 + y5 / 4294967296
  y6 % 128
theorem dv {a B q : Nat} (h : a < B) : (a + B * q) / B = q := by
  rw [Nat.add_mul_div_left _ _ (Nat.lt_of_le_of_lt (Nat.zero_le _) h), Nat.div_eq_of_lt h, Nat.zero_add]
theorem l3 {E0 E1 E2 E3 : Nat} (h0 : E0 ≤ 5000) (h1 : E1 ≤ 5000) (h2 : E2 ≤ 5000) (h3 : E3 ≤ 5000) :
    let y4 := E0 + 65536 * (E1 + 65536 * (E2 + 65536 * E3))
    let y5 := y4 + y4 / 65536
    (y5 + y5 / 4294967296) % 128 = (E0 + E1 + E2 + E3) % 128 := by
  intro y4 y5
  have a1 : y4 / 65536 = E1 + 65536 * (E2 + 65536 * E3) := dv (by omega)
  have a2 : y5 = ((E0 + E1) + 65536 * (E1 + E2)) + 4294967296 * ((E2 + E3) + 65536 * E3) := by
    show y4 + y4 / 65536 = _
    rw [a1]; show E0 + 65536 * (E1 + 65536 * (E2 + 65536 * E3)) + _ = _
    omega
  have a3 : y5 / 4294967296 = (E2 + E3) + 65536 * E3 := by rw [a2]; exact dv (by omega)
  rw [a3, a2]
  omega
theorem l1 {d0 d1 d2 d3 d4 d5 d6 d7 : Nat} : d0 + 256 * (d1 + 256 * (d2 + 256 * (d3 + 256 * (d4 + 256 * (d5 + 256 * (d6 + 256 * d7)))))) + (d1 + 256 * (d2 + 256 * (d3 + 256 * (d4 + 256 * (d5 + 256 * (d6 + 256 * d7)))))) =
    (d0 + d1 + 256 * (d1 + d2)) + 65536 * ((d2 + d3 + 256 * (d3 + d4)) + 65536 * ((d4 + d5 + 256 * (d5 + d6)) + 65536 * (d6 + d7 + 256 * d7))) := by
  omega

theorem pcf_eq (x : Nat) (hx : x < 2 ^ 64) : pcf x = cnt 64 x := by
  have c0 : ∀ u, cnt 0 u = 0 := fun u => rfl
  have e : cnt 64 x = cnt (8 + (8 + (8 + (8 + (8 + (8 + (8 + (8 + 0)))))))) x := rfl
  have e2 : pT 8 x = pT (0 + 1 + 1 + 1 + 1 + 1 + 1 + 1 + 1) x := rfl
  have key : ∀ d0 d1 d2 d3 d4 d5 d6 d7 : Nat, d0 ≤ 8 → d1 ≤ 8 → d2 ≤ 8 → d3 ≤ 8 → d4 ≤ 8 → d5 ≤ 8 → d6 ≤ 8 → d7 ≤ 8 → ∀ Y, Y = d0 + 256 * (d1 + 256 * (d2 + 256 * (d3 + 256 * (d4 + 256 * (d5 + 256 * (d6 + 256 * d7)))))) →
      ((Y + Y / 256 + (Y + Y / 256) / 65536) + (Y + Y / 256 + (Y + Y / 256) / 65536) / 4294967296) % 128 = d0 + (d1 + (d2 + (d3 + (d4 + (d5 + (d6 + d7)))))) := by
    intro d0 d1 d2 d3 d4 d5 d6 d7 b0 b1 b2 b3 b4 b5 b6 b7 Y hY
    have a1 : Y / 256 = d1 + 256 * (d2 + 256 * (d3 + 256 * (d4 + 256 * (d5 + 256 * (d6 + 256 * d7))))) := by rw [hY]; exact dv (by omega)
    rw [a1, hY, l1]
    have := l3 (E0 := d0 + d1 + 256 * (d1 + d2)) (E1 := d2 + d3 + 256 * (d3 + d4)) (E2 := d4 + d5 + 256 * (d5 + d6)) (E3 := d6 + d7 + 256 * d7) (by omega) (by omega) (by omega) (by omega)
    simp only at this
    rw [this]
    omega
  unfold pcf
  rw [e, e2]
  simp only [cnt_step, c0, pT_step, pT0]
  refine (key _ _ _ _ _ _ _ _ (cnt_le _ _) (cnt_le _ _) (cnt_le _ _) (cnt_le _ _) (cnt_le _ _) (cnt_le _ _) (cnt_le _ _) (cnt_le _ _) _ rfl).trans ?_
  rw [Nat.add_zero]

end Go.Proofs.YtjikchbmkodgfaaDoor
