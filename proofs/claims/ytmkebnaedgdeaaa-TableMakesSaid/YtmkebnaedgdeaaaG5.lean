/-
  Plain law: cyclic, dihedral and dicyclic tables are groups; what is told of them. Conditions: none.
-/
import Derived.Test.YtmkebnaedgdeaaaG4
set_option linter.all false
namespace Go.Proofs.Ytmkebnaedgdeaaa
open Go.Pv

theorem cyc_grp {n : Nat} (hn : 1 ≤ n) : Grp n (cyc n) 0 where
  pos := hn
  cl a b _ _ := Nat.mod_lt _ hn
  el := hn
  one_l a ha := by simp only [cyc, Nat.zero_add]; exact Nat.mod_eq_of_lt ha
  one_r a ha := by simp only [cyc, Nat.add_zero]; exact Nat.mod_eq_of_lt ha
  assoc a b c _ _ _ := by simp only [cyc, Nat.mod_add_mod, Nat.add_mod_mod, Nat.add_assoc]
  inv a ha := ⟨(n - a) % n, Nat.mod_lt _ hn, by simp only [cyc, Nat.add_mod_mod]; rw [Nat.add_sub_cancel' (by omega), Nat.mod_self], by simp only [cyc, Nat.mod_add_mod]; rw [Nat.sub_add_cancel (by omega), Nat.mod_self]⟩

/-- Two rows of q things. -/
def gx (q c i s j t : Nat) : Nat := (i + (if s + t = 2 then c else 0) + (if s = 1 then q - j else j)) % q
def gen (q c a b : Nat) : Nat := gx q c (a % q) (a / q) (b % q) (b / q) + (a / q + b / q) % 2 * q

theorem dih_gen (n a b : Nat) : dih n a b = gen n 0 a b := by
  unfold dih gen gx; simp only [ite_self, Nat.add_zero]
theorem dic_gen (n a b : Nat) : dic n a b = gen (2 * n) n a b := rfl

theorem co {q a : Nat} (hq : 0 < q) (ha : a < 2 * q) : ∃ i s, i < q ∧ (s = 0 ∨ s = 1) ∧ a = i + s * q := by
  refine ⟨a % q, a / q, Nat.mod_lt _ hq, ?_, ?_⟩
  · have : a / q < 2 := Nat.div_lt_of_lt_mul (by rw [Nat.mul_comm]; exact ha)
    generalize a / q = s at this
    omega
  · rw [Nat.mul_comm]; exact (Nat.mod_add_div a q).symm
theorem co_mod {q i s : Nat} (hi : i < q) : (i + s * q) % q = i := by rw [Nat.add_mul_mod_self_right, Nat.mod_eq_of_lt hi]
theorem co_div {q i s : Nat} (hi : i < q) : (i + s * q) / q = s := by rw [Nat.add_mul_div_right _ _ (by omega), Nat.div_eq_of_lt hi, Nat.zero_add]
theorem gen_co {q c i j s t : Nat} (hi : i < q) (hj : j < q) : gen q c (i + s * q) (j + t * q) = gx q c i s j t + (s + t) % 2 * q := by
  unfold gen; rw [co_mod hi, co_mod hj, co_div hi, co_div hj]
theorem gx_lt {q c i s j t : Nat} (hq : 0 < q) : gx q c i s j t < q := Nat.mod_lt _ hq
theorem md3 {q y : Nat} (hq : 0 < q) (hy : y < 3 * q) : y % q < q ∧ (y % q = y ∨ y % q + q = y ∨ y % q + 2 * q = y) := by
  refine ⟨Nat.mod_lt _ hq, ?_⟩
  have h1 := Nat.mod_add_div y q
  have h2 : y / q < 3 := Nat.div_lt_of_lt_mul (by rw [Nat.mul_comm]; exact hy)
  generalize y / q = z at h1 h2
  generalize y % q = w at h1 ⊢
  have h3 : z = 0 ∨ z = 1 ∨ z = 2 := by omega
  rcases h3 with rfl | rfl | rfl <;> omega
theorem gx_00 {q c i j : Nat} (hi : i < q) (hj : j < q) : gx q c i 0 j 0 < q ∧ (gx q c i 0 j 0 = i + j ∨ gx q c i 0 j 0 + q = i + j) := by
  have := md3 (y := i + 0 + j) (show 0 < q by omega) (by omega)
  simp only [gx, show ¬ (0 + 0 = 2) by omega, show ¬ (0 = 1) by omega, if_false]
  omega
theorem gx_01 {q c i j : Nat} (hi : i < q) (hj : j < q) : gx q c i 0 j 1 < q ∧ (gx q c i 0 j 1 = i + j ∨ gx q c i 0 j 1 + q = i + j) := by
  have := md3 (y := i + 0 + j) (show 0 < q by omega) (by omega)
  simp only [gx, show ¬ (0 + 1 = 2) by omega, show ¬ (0 = 1) by omega, if_false]
  omega
theorem gx_10 {q c i j : Nat} (hi : i < q) (hj : j < q) : gx q c i 1 j 0 < q ∧ (gx q c i 1 j 0 + j = i + q ∨ gx q c i 1 j 0 + j = i) := by
  have := md3 (y := i + 0 + (q - j)) (show 0 < q by omega) (by omega)
  simp only [gx, show ¬ (1 + 0 = 2) by omega, if_false, if_true]
  omega
theorem gx_11 {q c i j : Nat} (hc : c < q) (hi : i < q) (hj : j < q) : gx q c i 1 j 1 < q ∧ (gx q c i 1 j 1 + j = i + c + q ∨ gx q c i 1 j 1 + j = i + c ∨ gx q c i 1 j 1 + j + q = i + c) := by
  have := md3 (y := i + c + (q - j)) (show 0 < q by omega) (by omega)
  simp only [gx, show (1 + 1 = 2) by omega, if_true]
  omega

theorem gx_assoc {q c i j k s t u : Nat} (hc : c = 0 ∨ 2 * c = q) (hi : i < q) (hj : j < q) (hk : k < q) (hs : s = 0 ∨ s = 1) (ht : t = 0 ∨ t = 1) (hu : u = 0 ∨ u = 1) :
    gx q c (gx q c i s j t) ((s + t) % 2) k u = gx q c i s (gx q c j t k u) ((t + u) % 2) := by
  have hcq : c < q := by omega
  have e00 : (0 + 0) % 2 = 0 := rfl
  have e01 : (0 + 1) % 2 = 1 := rfl
  have e10 : (1 + 0) % 2 = 1 := rfl
  have e11 : (1 + 1) % 2 = 0 := rfl
  rcases hs with rfl | rfl <;> rcases ht with rfl | rfl <;> rcases hu with rfl | rfl <;> simp only [e00, e01, e10, e11]
  · have a := gx_00 (c := c) hi hj
    have b := gx_00 (c := c) hj hk
    have a' := gx_00 (c := c) a.1 hk
    have b' := gx_00 (c := c) hi b.1
    omega
  · have a := gx_00 (c := c) hi hj
    have b := gx_01 (c := c) hj hk
    have a' := gx_01 (c := c) a.1 hk
    have b' := gx_01 (c := c) hi b.1
    omega
  · have a := gx_01 (c := c) hi hj
    have b := gx_10 (c := c) hj hk
    have a' := gx_10 (c := c) a.1 hk
    have b' := gx_01 (c := c) hi b.1
    omega
  · have a := gx_01 (c := c) hi hj
    have b := gx_11 hcq hj hk
    have a' := gx_11 hcq a.1 hk
    have b' := gx_00 (c := c) hi b.1
    omega
  · have a := gx_10 (c := c) hi hj
    have b := gx_00 (c := c) hj hk
    have a' := gx_10 (c := c) a.1 hk
    have b' := gx_10 (c := c) hi b.1
    omega
  · have a := gx_10 (c := c) hi hj
    have b := gx_01 (c := c) hj hk
    have a' := gx_11 hcq a.1 hk
    have b' := gx_11 hcq hi b.1
    omega
  · have a := gx_11 hcq hi hj
    have b := gx_10 (c := c) hj hk
    have a' := gx_00 (c := c) a.1 hk
    have b' := gx_11 hcq hi b.1
    omega
  · have a := gx_11 hcq hi hj
    have b := gx_11 hcq hj hk
    have a' := gx_01 (c := c) a.1 hk
    have b' := gx_10 (c := c) hi b.1
    omega

theorem co_lt {q i s : Nat} (hi : i < q) (hs : s = 0 ∨ s = 1) : i + s * q < 2 * q := by
  rcases hs with rfl | rfl <;> omega

theorem gen_grp {q c : Nat} (hq : 0 < q) (hc : c = 0 ∨ 2 * c = q) : Grp (2 * q) (gen q c) 0 where
  pos := by omega
  cl a b ha hb := by
    obtain ⟨i, s, hi, hs, rfl⟩ := co hq ha
    obtain ⟨j, t, hj, ht, rfl⟩ := co hq hb
    rw [gen_co hi hj]
    exact co_lt (gx_lt hq) (by omega)
  el := by omega
  one_l a ha := by
    obtain ⟨i, s, hi, hs, rfl⟩ := co hq ha
    rw [show gen q c 0 (i + s * q) = gen q c (0 + 0 * q) (i + s * q) by simp, gen_co hq hi]
    rcases hs with rfl | rfl
    · have := gx_00 (c := c) hq hi
      simp only [show (0 + 0) % 2 = 0 from rfl]
      omega
    · have := gx_01 (c := c) hq hi
      simp only [show (0 + 1) % 2 = 1 from rfl]
      omega
  one_r a ha := by
    obtain ⟨i, s, hi, hs, rfl⟩ := co hq ha
    rw [show gen q c (i + s * q) 0 = gen q c (i + s * q) (0 + 0 * q) by simp, gen_co hi hq]
    rcases hs with rfl | rfl
    · have := gx_00 (c := c) hi hq
      simp only [show (0 + 0) % 2 = 0 from rfl]
      omega
    · have := gx_10 (c := c) hi hq
      simp only [show (1 + 0) % 2 = 1 from rfl]
      omega
  assoc a b d ha hb hd := by
    obtain ⟨i, s, hi, hs, rfl⟩ := co hq ha
    obtain ⟨j, t, hj, ht, rfl⟩ := co hq hb
    obtain ⟨k, u, hk, hu, rfl⟩ := co hq hd
    rw [gen_co hi hj, gen_co hj hk, gen_co (gx_lt hq) hk, gen_co hi (gx_lt hq), gx_assoc hc hi hj hk hs ht hu]
    congr 2
    omega
  inv a ha := by
    obtain ⟨i, s, hi, hs, rfl⟩ := co hq ha
    rcases hs with rfl | rfl
    · by_cases hz : i = 0
      · subst hz
        have := gx_00 (c := c) hq hq
        refine ⟨0 + 0 * q, by omega, ?_, ?_⟩ <;> rw [gen_co hq hq] <;> simp only [show (0 + 0) % 2 = 0 from rfl] <;> omega
      · have hj : q - i < q := by omega
        have h1 := gx_00 (c := c) hi hj
        have h2 := gx_00 (c := c) hj hi
        refine ⟨(q - i) + 0 * q, by omega, ?_, ?_⟩
        · rw [gen_co hi hj]; simp only [show (0 + 0) % 2 = 0 from rfl]; omega
        · rw [gen_co hj hi]; simp only [show (0 + 0) % 2 = 0 from rfl]; omega
    · have hcq : c < q := by omega
      have hj := md3 (y := i + c) hq (by omega)
      have h1 := gx_11 hcq hi hj.1
      have h2 := gx_11 hcq hj.1 hi
      refine ⟨(i + c) % q + 1 * q, by omega, ?_, ?_⟩
      · rw [gen_co hi hj.1]; simp only [show (1 + 1) % 2 = 0 from rfl]; omega
      · rw [gen_co hj.1 hi]; simp only [show (1 + 1) % 2 = 0 from rfl]; omega

/-! ### The three tables -/

theorem cyc_GT {n : Nat} (h1 : 1 ≤ n) (h2 : n ≤ 60) : GT n (tbl (fun a b => (cyc n a b : Nat)) n) n 0 := tbl_GT h2 (cyc_grp h1)
theorem dih_GT {n : Nat} (h1 : 1 ≤ n) (h2 : n ≤ 30) : GT (2 * n : Nat) (tbl (fun a b => (dih n a b : Nat)) (2 * n)) (2 * n) 0 := by
  have := tbl_GT (n := 2 * n) (by omega) (gen_grp (q := n) (c := 0) (by omega) (.inl rfl))
  simpa only [dih_gen] using this
theorem dic_GT {n : Nat} (h1 : 1 ≤ n) (h2 : n ≤ 15) : GT (2 * (2 * n) : Nat) (tbl (fun a b => (dic n a b : Nat)) (2 * (2 * n))) (2 * (2 * n)) 0 := by
  have := tbl_GT (n := 2 * (2 * n)) (by omega) (gen_grp (q := 2 * n) (c := n) (by omega) (.inr rfl))
  simpa only [dic_gen] using this
theorem op_tbl (g : Nat → Nat → Nat) {n a b : Nat} (ha : a < n) (hb : b < n) : op (tbl (fun a b => (g a b : Nat)) n) n a b = g a b := by
  unfold op; rw [tbl_get _ ha hb]; rfl

/-! ### The dihedral group moves the corners -/

def mv (n i k x : Nat) : Nat := (if k = 1 then i + n - x else x + i) % n

theorem mv_dih {n a b x : Nat} (hn : 0 < n) (ha : a < 2 * n) (hb : b < 2 * n) (hx : x < n) :
    mv n (dih n a b % n) (dih n a b / n) x = mv n (a % n) (a / n) (mv n (b % n) (b / n) x) := by
  rw [dih_gen]
  obtain ⟨i, s, hi, hs, rfl⟩ := co hn ha
  obtain ⟨j, t, hj, ht, rfl⟩ := co hn hb
  rw [gen_co hi hj, co_mod hi, co_mod hj, co_div hi, co_div hj, co_mod (gx_lt hn), co_div (gx_lt hn)]
  have f0 : ∀ {i x : Nat}, i < n → x < n → mv n i 0 x < n ∧ (mv n i 0 x = x + i ∨ mv n i 0 x + n = x + i) := by
    intro i x hi hx
    have := md3 (y := x + i) hn (by omega)
    simp only [mv, show ¬ (0 = 1) by omega, if_false]
    omega
  have f1 : ∀ {i x : Nat}, i < n → x < n → mv n i 1 x < n ∧ (mv n i 1 x + x = i + n ∨ mv n i 1 x + x = i) := by
    intro i x hi hx
    have := md3 (y := i + n - x) hn (by omega)
    simp only [mv, if_true]
    omega
  rcases hs with rfl | rfl <;> rcases ht with rfl | rfl
  · have a := gx_00 (c := 0) hi hj
    have b := f0 hj hx
    have c := f0 hi b.1
    have d := f0 a.1 hx
    simp only [show (0 + 0) % 2 = 0 from rfl]
    omega
  · have a := gx_01 (c := 0) hi hj
    have b := f1 hj hx
    have c := f0 hi b.1
    have d := f1 a.1 hx
    simp only [show (0 + 1) % 2 = 1 from rfl]
    omega
  · have a := gx_10 (c := 0) hi hj
    have b := f0 hj hx
    have c := f1 hi b.1
    have d := f1 a.1 hx
    simp only [show (1 + 0) % 2 = 1 from rfl]
    omega
  · have a := gx_11 hn hi hj
    have b := f1 hj hx
    have c := f1 hi b.1
    have d := f0 a.1 hx
    simp only [show (1 + 1) % 2 = 0 from rfl]
    omega

/-! ### The dicyclic group -/

section
variable {n : Nat} (h1 : 1 ≤ n) (h2 : n ≤ 15)
include h1
theorem dic_lo {i j : Nat} (hi : i < 2 * n) (hj : j < 2 * n) : dic n i j = (i + j) % (2 * n) := by
  rw [dic_gen]
  have := gen_co (c := n) (s := 0) (t := 0) hi hj
  simp only [Nat.zero_mul, Nat.add_zero, Nat.zero_mod] at this
  rw [this]
  simp [gx]
theorem dic_pw : ∀ k, pw (op (tbl (fun a b => ((dic n a b : Nat) : Int)) (2 * (2 * n))) (2 * (2 * n))) 0 1 k = k % (2 * n)
  | 0 => by simp [pw]
  | k + 1 => by
    have hm := Nat.mod_lt k (show 0 < 2 * n by omega)
    simp only [pw, dic_pw k]
    first
      | rw [op_tbl _ (by omega) (by omega), dic_lo h1 hm (by omega), Nat.mod_add_mod]
      | rw [op_tbl _ (by omega) (by omega), dic_lo h1 (by omega) hm, Nat.add_mod_mod, Nat.add_comm]
include h2
theorem dic_ord : ord (2 * (2 * n)) (op (tbl (fun a b => ((dic n a b : Nat) : Int)) (2 * (2 * n))) (2 * (2 * n))) 0 1 = 2 * n := by
  refine (dic_GT h1 h2).2.2.ord_eq (by omega) fun j => ?_
  rw [dic_pw h1]
  exact ⟨Nat.dvd_of_mod_eq_zero, Nat.mod_eq_zero_of_dvd⟩
theorem dic_p {i : Nat} (hi : i < 2 * n) : pw (op (tbl (fun a b => ((dic n a b : Nat) : Int)) (2 * (2 * n))) (2 * (2 * n))) 0 1 ((i : Int) % (ord (2 * (2 * n)) (op (tbl (fun a b => ((dic n a b : Nat) : Int)) (2 * (2 * n))) (2 * (2 * n))) 0 1 : Nat)).toNat = i := by
  rw [dic_ord h1 h2, dic_pw h1]
  rw [show ((i : Int) % ((2 * n : Nat) : Int)).toNat = i % (2 * n) from rfl, Nat.mod_mod, Nat.mod_eq_of_lt hi]
theorem dic_ix {i : Nat} (hi : i < 2 * n) : op (tbl (fun a b => ((dic n a b : Nat) : Int)) (2 * (2 * n))) (2 * (2 * n)) i (2 * n) = 2 * n + i := by
  rw [op_tbl _ (by omega) (by omega), dic_gen]
  have hq : 0 < 2 * n := by omega
  have e := gen_co (c := n) (s := 0) (t := 1) hi hq
  have g := gx_01 (c := n) hi hq
  simp only [Nat.zero_mul, Nat.add_zero, Nat.zero_add, Nat.one_mul, show 1 % 2 = 1 from rfl] at e
  rw [e]; omega
theorem dic_xx : op (tbl (fun a b => ((dic n a b : Nat) : Int)) (2 * (2 * n))) (2 * (2 * n)) (2 * n) (2 * n) = n % (2 * n) := by
  rw [op_tbl _ (by omega) (by omega), dic_gen]
  have hq : 0 < 2 * n := by omega
  have e := gen_co (c := n) (s := 1) (t := 1) hq hq
  have g := gx_11 (c := n) (show n < 2 * n by omega) hq hq
  simp only [Nat.zero_mul, Nat.add_zero, Nat.zero_add, Nat.one_mul, show (1 + 1) % 2 = 0 from rfl] at e
  rw [e, Nat.mod_eq_of_lt (show n < 2 * n by omega)]; omega
theorem dic_x1 : op (tbl (fun a b => ((dic n a b : Nat) : Int)) (2 * (2 * n))) (2 * (2 * n)) (2 * n) 1 = op (tbl (fun a b => ((dic n a b : Nat) : Int)) (2 * (2 * n))) (2 * (2 * n)) (iv (2 * (2 * n)) (op (tbl (fun a b => ((dic n a b : Nat) : Int)) (2 * (2 * n))) (2 * (2 * n))) 0 1) (2 * n) := by
  have hq : 0 < 2 * n := by omega
  have h1q : 1 < 2 * n := by omega
  have hi : iv (2 * (2 * n)) (op (tbl (fun a b => ((dic n a b : Nat) : Int)) (2 * (2 * n))) (2 * (2 * n))) 0 1 = 2 * n - 1 := by
    refine ((dic_GT h1 h2).2.2.iv_unique (a := 1) (b := 2 * n - 1) (by omega) (by omega) (.inl ?_)).symm
    rw [op_tbl _ (by omega) (by omega), dic_lo h1 (by omega) (by omega), Nat.add_sub_cancel' (by omega), Nat.mod_self]
  rw [hi, dic_ix h1 h2 (by omega), op_tbl _ (by omega) (by omega), dic_gen]
  have e := gen_co (c := n) (s := 1) (t := 0) hq h1q
  have g := gx_10 (c := n) hq h1q
  simp only [Nat.zero_mul, Nat.add_zero, Nat.zero_add, Nat.one_mul, show (1 + 0) % 2 = 1 from rfl] at e
  rw [e]; omega
end
end Go.Proofs.Ytmkebnaedgdeaaa
