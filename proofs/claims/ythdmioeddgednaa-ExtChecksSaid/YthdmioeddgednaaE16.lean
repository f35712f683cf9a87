/-
  Walks: the document's search for a bound. Conditions: none.
-/
import Derived.Test.YthdmioeddgednaaE15
import Derived.Test.YthdmioeddgednaaE8
import Derived.Test.YthdmioeddgednaaE10
set_option linter.all false
namespace Go.Proofs.Ythdmioeddgednaa
open Go.Pv

/-- A list whose bounds are these. -/
def sol (n : Nat) (m : List Int) (p : Nat) (f c : List Int) : Prop := c.length = n ∧ rng p c ∧ dl n m p c = f

/-- The digits of a number tell a list at the makers. -/
def dgt (p : Nat) (ml c : List Int) (k : Nat) : Prop := ∀ i, i < ml.length → ((k / p ^ i % p : Nat) : Int) = c.getD (ml.getD i 0).toNat 0

theorem dgt_ex {p : Nat} (hp : 0 < p) (c : List Int) : ∀ ml : List Int, (∀ x ∈ ml, 0 ≤ c.getD x.toNat 0 ∧ c.getD x.toNat 0 < p) → ∃ k, k < p ^ ml.length ∧ dgt p ml c k
  | [], _ => ⟨0, by simp, fun i hi => by simp at hi⟩
  | x :: ml, h => by
    obtain ⟨k, hk, hd⟩ := dgt_ex hp c ml fun y hy => h y (by simp [hy])
    have hx := h x (by simp)
    refine ⟨(c.getD x.toNat 0).toNat + p * k, ?_, fun i hi => ?_⟩
    · rw [List.length_cons, Nat.pow_succ, Nat.mul_comm (p ^ _) p]
      have h1 : p * (k + 1) ≤ p * p ^ ml.length := Nat.mul_le_mul_left _ hk
      rw [Nat.mul_add, Nat.mul_one] at h1
      omega
    · have h0 : (c.getD x.toNat 0).toNat < p := by omega
      cases i with
      | zero =>
        rw [Nat.pow_zero, Nat.div_one, Nat.add_mul_mod_self_left, Nat.mod_eq_of_lt h0]
        simp only [List.getD_cons_zero]
        omega
      | succ i =>
        rw [Nat.pow_succ, Nat.mul_comm (p ^ i) p, ← Nat.div_div_eq_div_mul, Nat.add_mul_div_left _ _ hp, Nat.div_eq_of_lt h0, Nat.zero_add]
        simpa using hd i (by simpa using hi)

/-- What is known fits every solution of these digits. -/
def fits (n : Nat) (m : List Int) (p : Nat) (f ml : List Int) (k : Nat) (c : List Int) (kn : Nat → Bool) : Prop := ∀ c0, sol n m p f c0 → dgt p ml c0 k → ∀ a, a < n → kn a = true → c.getD a 0 = c0.getD a 0

theorem set_get {c : List Int} {x t : Nat} {v : Int} (ht : t < c.length) : (c.set x v).getD t 0 = if t = x then v else c.getD t 0 := by
  rw [List.getD_eq_getElem?_getD, List.getElem?_set]
  by_cases h : x = t
  · subst h; simp [ht]
  · rw [if_neg h, if_neg (fun e => h e.symm)]; rfl

theorem rng_set {p : Nat} {c : List Int} {x : Nat} {v : Int} (h : rng p c) (h0 : 0 ≤ v) (h1 : v < p) : rng p (c.set x v) := fun t ht => by
  rw [List.length_set] at ht
  rw [set_get ht]
  split
  · exact ⟨h0, h1⟩
  · exact h t ht

theorem sol_at {n e p : Nat} {m f c0 : List Int} (h : GT n m n e) (hs : sol n m p f c0) {a b : Nat} (ha : a < n) (hb : b < n) : f.getD (a * n + b) 0 = (c0.getD a 0 + c0.getD b 0 - c0.getD (op m n a b) 0) % (p : Int) := by
  rw [← hs.2.2]
  exact F2_dl' ha hb
where
  F2_dl' {n p : Nat} {m c : List Int} {a b : Nat} (ha : a < n) (hb : b < n) : (dl n m p c).getD (a * n + b) 0 = (c.getD a 0 + c.getD b 0 - c.getD (op m n a b) 0) % (p : Int) := by
    obtain ⟨d1, d2⟩ := dm_at (a := a) hb
    rw [dl_get (at_lt ha hb)]
    simp only [dB, d1, d2]

/-- A new thing's number. -/
theorem sol_new {n e p : Nat} {m f c0 : List Int} (h : GT n m n e) (hp : 0 < p) (hs : sol n m p f c0) {a b : Nat} (ha : a < n) (hb : b < n) : (c0.getD a 0 + c0.getD b 0 - f.getD (a * n + b) 0) % (p : Int) = c0.getD (op m n a b) 0 := by
  have hx := hs.2.1 (op m n a b) (by rw [hs.1]; exact h.2.1.lt ha hb)
  rw [sol_at h hs ha hb]
  have e1 : (c0.getD (op m n a b) 0) % (p : Int) = c0.getD (op m n a b) 0 := Int.emod_eq_of_lt hx.1 hx.2
  refine Eq.trans ?_ e1
  rw [emod_iff]
  have := Int.dvd_neg.2 (dvd_emod_sub p (c0.getD a 0 + c0.getD b 0 - c0.getD (op m n a b) 0))
  rwa [show -((c0.getD a 0 + c0.getD b 0 - c0.getD (op m n a b) 0) % (p : Int) - (c0.getD a 0 + c0.getD b 0 - c0.getD (op m n a b) 0)) = c0.getD a 0 + c0.getD b 0 - (c0.getD a 0 + c0.getD b 0 - c0.getD (op m n a b) 0) % (p : Int) - c0.getD (op m n a b) 0 by omega] at this

theorem sol_one {n e p : Nat} {m f c0 : List Int} (h : GT n m n e) (hp : 0 < p) (hs : sol n m p f c0) : f.getD (e * n + e) 0 = c0.getD e 0 := by
  have he := h.2.2.el
  rw [sol_at h hs he he, h.2.2.one_l e he]
  have hx := hs.2.1 e (by rw [hs.1]; exact he)
  rw [show c0.getD e 0 + c0.getD e 0 - c0.getD e 0 = c0.getD e 0 by omega, Int.emod_eq_of_lt hx.1 hx.2]

theorem pow12 {p k : Nat} (hp : pr p) (hk : k ≤ 12) : 0 < p ^ k ∧ p ^ k ≤ 13841287201 := by
  have hp2 := hp.le
  refine ⟨Nat.pow_pos (by omega), ?_⟩
  calc p ^ k ≤ 7 ^ k := Nat.pow_le_pow_left hp2.2 k
    _ ≤ 7 ^ 12 := Nat.pow_le_pow_right (by omega) hk
    _ = 13841287201 := by decide

set_option maxHeartbeats 4000000 in
theorem solved_c {n e p : Nat} {m : List Int} (h : GT n m n e) (hn : n ≤ 12) (hp : pr p) (f : List Int) (hf : f.length = n * n) (hr : rng p f) (b : Bool) (hb : b = true ↔ ∃ c, sol n m p f c) :
    FnC Try.prog 24 [gp n m, .int .i64 p, .list (il f)] (.bool b) := by
  have T := h.2.1
  have G := h.2.2
  have hp2 := hp.le
  have hp0 : 0 < p := by omega
  have hsq : n * n ≤ 144 := Nat.mul_le_mul hn hn
  have hel := G.el
  obtain ⟨ml, hml⟩ : ∃ ml, ml = mkS n m e n := ⟨_, rfl⟩
  have hmem : ∀ x ∈ ml, ∃ a, a < n ∧ x = ((a : Nat) : Int) := by rw [hml]; exact mkS_mem T.pos n
  have hlen : ml.length ≤ n := by rw [hml]; exact mkS_len n m e n
  have hgen : ∀ a, a < n → Gen n (op m n) e (tst ml) a := fun a ha => by rw [hml]; exact mk_gen G ha
  have hat : ∀ i, i < ml.length → ∃ a, a < n ∧ ml.getD i 0 = ((a : Nat) : Int) := fun i hi => hmem _ (by simp [List.getD, List.getElem?_eq_getElem hi])
  refine fnc_of tab_ok Try.func24 rfl (by kernel_rfl) (by rw [Try.ntmps24]; exact Nat.le_add_left 3 _) ?_; rw [Try.ntmps24]
  refine qm ?_
  refine hk_region fun K hK => runs_eval tab_ok ?_
  simp only [ev0, evA, evB, evP, fl, gp, tab, simprocAttr, reduceCtorEq, reduceIte]
  refine fin_run ?_ (hK _ ?_) <;> clear hK <;> clear K
  · (first | exact trivial | omega | (simp only [In64] at *; omega) | (simp [In64] at *; omega) | (simp_all; done) | skip)
  refine qa (qm ?_)
  refine hk_region fun K hK => runs_eval tab_ok ?_
  simp only [ev0, evA, evB, evP, fl, gp, tab, simprocAttr, reduceCtorEq, reduceIte]
  refine fin_stop trivial (runs_call (e_c T) rfl rfl rfl (by simp only [dstOk, Nat.reduceLT]) (by repeat (first | exact trivial | constructor)) (runs_eval tab_ok ?_))
  simp only [ev0, evA, evB, evP, fl, gp, tab, simprocAttr, reduceCtorEq, reduceIte, h.eI]
  refine fin_run ?_ (hK _ ?_) <;> clear hK <;> clear K
  · (first | exact trivial | omega | (simp only [In64] at *; omega) | (simp [In64] at *; omega) | (simp_all; done) | skip)
  refine qa (qm ?_)
  refine hk_region fun K hK => runs_eval tab_ok ?_
  simp only [ev0, evA, evB, evP, fl, gp, tab, simprocAttr, reduceCtorEq, reduceIte]
  refine fin_stop trivial (runs_call ((hml ▸ makers_c h)) rfl rfl rfl (by simp only [dstOk, Nat.reduceLT]) (by repeat (first | exact trivial | constructor)) (runs_eval tab_ok ?_))
  simp only [ev0, evA, evB, evP, fl, gp, tab, simprocAttr, reduceCtorEq, reduceIte]
  refine fin_run ?_ (hK _ ?_) <;> clear hK <;> clear K
  · (first | exact trivial | omega | (simp only [In64] at *; omega) | (simp [In64] at *; omega) | (simp_all; done) | skip)
  refine qa (qm ?_)
  refine hk_region fun K hK => runs_eval tab_ok ?_
  simp only [ev0, evA, evB, evP, fl, gp, tab, simprocAttr, reduceCtorEq, reduceIte]
  refine fin_run trivial (hK _ ?_) <;> clear hK <;> clear K
  refine qa (qm (qm ?_))
  refine hk_region fun K hK => runs_eval tab_ok ?_
  simp only [ev0, evA, evB, evP, fl, gp, tab, simprocAttr, reduceCtorEq, reduceIte]
  refine fin_run trivial (hK _ ?_) <;> clear hK <;> clear K
  refine qa (ql ?_)
  refine hk_loop (ι := Nat) (fun j => ⟨152, [(1, .p (.int .i64 p)), (2, .p (.list (il f))), (3, .ptr 0 0), (7, .p (.int .i64 e)), (8, .p (.list (il ml))), (9, .p (.int .i64 (p ^ j : Nat))), (10, .p (.int .i64 j))], [.own [.p (.int .i64 n), .p (.list (il m))]]⟩) (fun j => j ≤ ml.length) (fun j => ml.length - j) 0 (Nat.zero_le _) [0] (by simp only [leq, leA, ev0, evA, evB, evP, fl, gp, tab, simprocAttr, reduceCtorEq, reduceIte] <;> simp) fun j hj => ?_
  refine qm (qm ?_)
  refine hk_region fun K hK => runs_eval tab_ok ?_
  simp only [ev0, evA, evB, evP, fl, gp, tab, simprocAttr, reduceCtorEq, reduceIte]
  refine fin_run trivial (hK _ ?_) <;> clear hK <;> clear K
  refine qa ?_
  refine hk_cond rfl (fun hC1 => ?_) (fun hC1 => ?_)
  · (try simp only [nhs] at hC1)
    have hjl : j < ml.length := by omega
    have hw := pow12 hp (show j + 1 ≤ 12 by omega)
    have hm1 : ((p ^ j : Nat) : Int) * (p : Int) = ((p ^ (j + 1) : Nat) : Int) := by rw [Nat.pow_succ, Int.natCast_mul]
    refine qh (qa (qm (ql ?_)))
    refine hk_region fun K hK => runs_eval tab_ok ?_
    simp only [ev0, evA, evB, evP, fl, gp, tab, simprocAttr, reduceCtorEq, reduceIte, hm1]
    refine fin_run ?_ (hK _ ?_) <;> clear hK <;> clear K
    · (first | exact trivial | omega | (simp only [In64] at *; omega) | (simp [In64] at *; omega) | (simp_all; done) | skip)
    refine qd (qa ?_)
    refine hk_region fun K hK => runs_eval tab_ok ?_
    simp only [ev0, evA, evB, evP, fl, gp, tab, simprocAttr, reduceCtorEq, reduceIte]
    refine fin_run ?_ (hK _ ?_) <;> clear hK <;> clear K
    · (first | exact trivial | omega | (simp only [In64] at *; omega) | (simp [In64] at *; omega) | (simp_all; done) | skip)
    refine qa ?_
    refine ⟨j + 1, [0], by omega, by omega, ?_⟩
    simp only [leq, leA, ev0, evA, evB, evP, fl, gp, tab, simprocAttr, reduceCtorEq, reduceIte] <;> omega
  · (try simp only [nhs] at hC1)
    have hjm : j = ml.length := by omega
    subst hjm
    have hw := pow12 hp (show ml.length ≤ 12 by omega)
    refine qj (qc (qc (qf (qa (qm (qm ?_))))))
    refine hk_region fun K hK => runs_eval tab_ok ?_
    simp only [ev0, evA, evB, evP, fl, gp, tab, simprocAttr, reduceCtorEq, reduceIte]
    refine fin_run trivial (hK _ ?_) <;> clear hK <;> clear K
    refine qa (ql ?_)
    refine hk_loop (ι := Nat) (fun k => ⟨152, [(1, .p (.int .i64 p)), (2, .p (.list (il f))), (3, .ptr 0 0), (7, .p (.int .i64 e)), (8, .p (.list (il ml))), (9, .p (.int .i64 (p ^ ml.length : Nat))), (11, .p (.int .i64 k))], [.own [.p (.int .i64 n), .p (.list (il m))]]⟩) (fun k => k ≤ p ^ ml.length ∧ ∀ c0, sol n m p f c0 → ∀ k', k' < k → ¬ dgt p ml c0 k') (fun k => p ^ ml.length - k) 0 ⟨Nat.zero_le _, fun _ _ k' hk' => by omega⟩ [0] (by simp only [leq, leA, ev0, evA, evB, evP, fl, gp, tab, simprocAttr, reduceCtorEq, reduceIte] <;> trivial) fun k hk => ?_
    obtain ⟨hk1, hk2⟩ := hk
    refine qm (qm ?_)
    refine hk_region fun K hK => runs_eval tab_ok ?_
    simp only [ev0, evA, evB, evP, fl, gp, tab, simprocAttr, reduceCtorEq, reduceIte]
    refine fin_run trivial (hK _ ?_) <;> clear hK <;> clear K
    refine qa ?_
    refine hk_cond rfl (fun hC2 => ?_) (fun hC2 => ?_)
    · (try simp only [nhs] at hC2)
      have hkl : k < p ^ ml.length := by omega
      have hee := at_lt hel hel
      have he1 := hr (e * n + e) (by omega)
      have c1 : (e : Int) * (n : Int) = ((e * n : Nat) : Int) := (Int.natCast_mul e n).symm
      refine qh (qa (qm (ql (qm ?_))))
      refine hk_region fun K hK => runs_eval tab_ok ?_
      simp only [ev0, evA, evB, evP, fl, gp, tab, simprocAttr, reduceCtorEq, reduceIte, ol_replicate]
      refine fin_run ?_ (hK _ ?_) <;> clear hK <;> clear K
      · (first | exact trivial | omega | (simp only [In64] at *; omega) | (simp [In64] at *; omega) | (simp_all; done) | skip)
      refine qa (qm ?_)
      refine hk_region fun K hK => runs_eval tab_ok ?_
      simp only [ev0, evA, evB, evP, fl, gp, tab, simprocAttr, reduceCtorEq, reduceIte, makeSliceA.eq_def, obl_new]
      refine fin_run ?_ (hK _ ?_) <;> clear hK <;> clear K
      · (first | exact trivial | omega | (simp only [In64] at *; omega) | (simp [In64] at *; omega) | (simp_all; done) | skip)
      refine qa (qm ?_)
      refine hk_region fun K hK => runs_eval tab_ok ?_
      simp only [ev0, evA, evB, evP, fl, gp, tab, simprocAttr, reduceCtorEq, reduceIte, at_nat, il_get (show e * n + e < f.length by omega), ol_set]
      refine fin_run ?_ (hK _ ?_) <;> clear hK <;> clear K
      · rw [c1]; simp only [In64, List.length_replicate]; omega
      refine qa (qm ?_)
      refine hk_region fun K hK => runs_eval tab_ok ?_
      simp only [ev0, evA, evB, evP, fl, gp, tab, simprocAttr, reduceCtorEq, reduceIte, obl_len]
      refine fin_run ?_ (hK _ ?_) <;> clear hK <;> clear K
      · rw [bl_len]; omega
      refine qa (qm ?_)
      rw [obl_set]
      refine hk_region fun K hK => runs_eval tab_ok ?_
      simp only [ev0, evA, evB, evP, fl, gp, tab, simprocAttr, reduceCtorEq, reduceIte]
      refine fin_run trivial (hK _ ?_) <;> clear hK <;> clear K
      refine qa (qm (qm ?_))
      refine hk_region fun K hK => runs_eval tab_ok ?_
      simp only [ev0, evA, evB, evP, fl, gp, tab, simprocAttr, reduceCtorEq, reduceIte]
      refine fin_run trivial (hK _ ?_) <;> clear hK <;> clear K
      refine qa (ql ?_)
      refine hk_loop (ι := Nat × List Int × (Nat → Bool)) (fun x => ⟨152, [(1, .p (.int .i64 p)), (2, .p (.list (il f))), (3, .ptr 0 0), (7, .p (.int .i64 e)), (8, .p (.list (il ml))), (9, .p (.int .i64 (p ^ ml.length : Nat))), (11, .p (.int .i64 k)), (12, .sl 1 0 n), (13, .sl 2 0 n), (14, .p (.int .i64 (k / p ^ x.1 : Nat))), (15, .p (.int .i64 x.1))], [.own [.p (.int .i64 n), .p (.list (il m))], .own (ol x.2.1), .own (opl (bl n x.2.2))]⟩) (fun x => x.1 ≤ ml.length ∧ x.2.1.length = n ∧ rng p x.2.1 ∧ x.2.2 e = true ∧ (∀ j, j < x.1 → x.2.2 (ml.getD j 0).toNat = true) ∧ fits n m p f ml k x.2.1 x.2.2) (fun x => ml.length - x.1) (0, (List.replicate n 0).set e (f.getD (e * n + e) 0), upd (fun _ => false) e) ⟨Nat.zero_le _, by simp, rng_set (emod_zero_rng hp0) he1.1 he1.2, by simp [upd], fun j hj => by simp only at hj; omega, fun c0 hs hd a ha hka => by
          simp only [upd, Bool.false_or, decide_eq_true_eq] at hka
          subst hka
          simp only
          rw [set_get (by simp; omega), if_pos rfl]
          exact sol_one h hp0 hs⟩ [0, 1, 2] (by simp only [leq, leA, ev0, evA, evB, evP, fl, gp, tab, simprocAttr, reduceCtorEq, reduceIte] <;> simp) fun x hx => ?_
      obtain ⟨i, c, kn⟩ := x
      obtain ⟨x1, x2, x3, x4, x5, x6⟩ := hx
      simp only at x1 x2 x3 x4 x5 x6
      refine qm (qm ?_)
      refine hk_region fun K hK => runs_eval tab_ok ?_
      simp only [ev0, evA, evB, evP, fl, gp, tab, simprocAttr, reduceCtorEq, reduceIte]
      refine fin_run trivial (hK _ ?_) <;> clear hK <;> clear K
      refine qa ?_
      refine hk_cond rfl (fun hC3 => ?_) (fun hC3 => ?_)
      · (try simp only [nhs] at hC3)
        have hil : i < ml.length := by omega
        obtain ⟨y, y1, y2⟩ := hat i hil
        have hdg : k / p ^ i % p < p := Nat.mod_lt _ hp0
        have hkp : k / p ^ i ≤ k := Nat.div_le_self _ _
        have q0 : (0 : Int) ≤ ((k / p ^ i : Nat) : Int) := Int.natCast_nonneg _
        have hkd : k / p ^ i / p = k / p ^ (i + 1) := by rw [Nat.pow_succ, Nat.div_div_eq_div_mul]
        have q1 : (0 : Int) ≤ ((k / p ^ (i + 1) : Nat) : Int) := Int.natCast_nonneg _
        have hkp1 : k / p ^ (i + 1) ≤ k := Nat.div_le_self _ _
        refine qh (qa (qm (ql (qm ?_))))
        refine hk_draw mixed (by kernel_rfl) fun K hK => runs_eval tab_ok ?_
        simp only [ev0, evA, evB, evP, fl, gp, tab, simprocAttr, reduceCtorEq, reduceIte, il_get hil, y2, tm_nat, ol_set]
        refine fin_run ?_ (hK _ ?_) <;> clear hK <;> clear K
        · (first | exact trivial | omega | (simp only [In64] at *; omega) | (simp [In64] at *; omega) | (simp_all; done) | skip)
        refine qa (qm ?_)
        refine hk_region fun K hK => runs_eval tab_ok ?_
        simp only [ev0, evA, evB, evP, fl, gp, tab, simprocAttr, reduceCtorEq, reduceIte, il_get hil, y2, obl_len]
        refine fin_run ?_ (hK _ ?_) <;> clear hK <;> clear K
        · rw [bl_len]; omega
        refine qa ?_
        rw [obl_set]
        refine hk_region fun K hK => runs_eval tab_ok ?_
        simp only [ev0, evA, evB, evP, fl, gp, tab, simprocAttr, reduceCtorEq, reduceIte, td_nat, hkd]
        refine fin_run ?_ (hK _ ?_) <;> clear hK <;> clear K
        · refine ⟨by omega, ?_⟩
          simp only [In64]; omega
        refine qd (qa ?_)
        refine hk_region fun K hK => runs_eval tab_ok ?_
        simp only [ev0, evA, evB, evP, fl, gp, tab, simprocAttr, reduceCtorEq, reduceIte]
        refine fin_run ?_ (hK _ ?_) <;> clear hK <;> clear K
        · (first | exact trivial | omega | (simp only [In64] at *; omega) | (simp [In64] at *; omega) | (simp_all; done) | skip)
        refine qa ?_
        refine ⟨(i + 1, c.set y (k / p ^ i % p : Nat), upd kn y), [0, 1, 2], ⟨by simp only; omega, by simp [x2], rng_set x3 (Int.natCast_nonneg _) (by omega), by simp [upd, x4], fun j hj => ?_, fun c0 hs hd a ha hka => ?_⟩, by simp only; omega, ?_⟩
        · simp only at hj ⊢
          by_cases hji : j = i
          · subst hji; rw [y2]; simp [upd]
          · have := x5 j (by omega)
            simp only [upd, this, Bool.true_or]
        · simp only [upd, Bool.or_eq_true, decide_eq_true_eq] at hka ⊢
          rw [set_get (by omega)]
          by_cases hay : a = y
          · rw [if_pos hay]
            have := hd i hil
            rw [y2, Int.toNat_natCast] at this
            rw [hay]; exact this
          · rw [if_neg hay]
            exact x6 c0 hs hd a ha (hka.resolve_right hay)
        · simp only [leq, leA, ev0, evA, evB, evP, fl, gp, tab, simprocAttr, reduceCtorEq, reduceIte] <;> first | trivial | omega
      · (try simp only [nhs] at hC3)
        have hie : i = ml.length := by omega
        refine qj (qc (qc (qf (qa (qm (qm ?_))))))
        refine hk_region fun K hK => runs_eval tab_ok ?_
        simp only [ev0, evA, evB, evP, fl, gp, tab, simprocAttr, reduceCtorEq, reduceIte]
        refine fin_run trivial (hK _ ?_) <;> clear hK <;> clear K
        refine qa (ql ?_)
        refine hk_loop (ι := List Int × (Nat → Bool) × Bool) (fun x => ⟨152, [(1, .p (.int .i64 p)), (2, .p (.list (il f))), (3, .ptr 0 0), (7, .p (.int .i64 e)), (8, .p (.list (il ml))), (9, .p (.int .i64 (p ^ ml.length : Nat))), (11, .p (.int .i64 k)), (12, .sl 1 0 n), (13, .sl 2 0 n), (16, .p (.bool x.2.2))], [.own [.p (.int .i64 n), .p (.list (il m))], .own (ol x.1), .own (opl (bl n x.2.1))]⟩) (fun x => x.1.length = n ∧ rng p x.1 ∧ x.2.1 e = true ∧ (∀ j, j < ml.length → x.2.1 (ml.getD j 0).toNat = true) ∧ fits n m p f ml k x.1 x.2.1 ∧ (x.2.2 = false → ∀ a, a < n → x.2.1 a = true → ∀ j, j < ml.length → x.2.1 (op m n a (ml.getD j 0).toNat) = true)) (fun x => 2 * (2 ^ 64 - bo n x.2.1) + (if x.2.2 = true then 1 else 0)) (c, kn, true) ⟨x2, x3, x4, by rw [hie] at x5; exact x5, x6, fun h => by cases h⟩ [0, 1, 2] (by simp only [leq, leA, ev0, evA, evB, evP, fl, gp, tab, simprocAttr, reduceCtorEq, reduceIte] <;> first | trivial | (simp; done)) fun x hx => ?_
        obtain ⟨c', kn', again⟩ := x
        obtain ⟨z1, z2, z3, z4, z5, z6⟩ := hx
        simp only at z1 z2 z3 z4 z5 z6
        refine qm (qm ?_)
        refine hk_region fun K hK => runs_eval tab_ok ?_
        simp only [ev0, evA, evB, evP, fl, gp, tab, simprocAttr, reduceCtorEq, reduceIte]
        refine fin_run trivial (hK _ ?_) <;> clear hK <;> clear K
        refine qa ?_
        refine hk_cond rfl (fun hC4 => ?_) (fun hC4 => ?_)
        · (try simp only [nhs] at hC4)
          subst hC4
          refine qh (qa (ql (qm ?_)))
          refine hk_region fun K hK => runs_eval tab_ok ?_
          simp only [ev0, evA, evB, evP, fl, gp, tab, simprocAttr, reduceCtorEq, reduceIte]
          refine fin_run trivial (hK _ ?_) <;> clear hK <;> clear K
          refine qa (qm ?_)
          refine hk_region fun K hK => runs_eval tab_ok ?_
          simp only [ev0, evA, evB, evP, fl, gp, tab, simprocAttr, reduceCtorEq, reduceIte]
          refine fin_run trivial (hK _ ?_) <;> clear hK <;> clear K
          refine qa (ql ?_)
          refine hk_loop (ι := Nat × List Int × (Nat → Bool) × Bool) (fun x => ⟨152, [(1, .p (.int .i64 p)), (2, .p (.list (il f))), (3, .ptr 0 0), (7, .p (.int .i64 e)), (8, .p (.list (il ml))), (9, .p (.int .i64 (p ^ ml.length : Nat))), (11, .p (.int .i64 k)), (12, .sl 1 0 n), (13, .sl 2 0 n), (16, .p (.bool x.2.2.2)), (17, .p (.int .i64 x.1))], [.own [.p (.int .i64 n), .p (.list (il m))], .own (ol x.2.1), .own (opl (bl n x.2.2.1))]⟩) (fun x => x.1 ≤ n ∧ x.2.1.length = n ∧ rng p x.2.1 ∧ (∀ a, a < n → kn' a = true → x.2.2.1 a = true) ∧ fits n m p f ml k x.2.1 x.2.2.1 ∧ (x.2.2.2 = true → bo n kn' < bo n x.2.2.1) ∧ (x.2.2.2 = false → x.2.2.1 = kn' ∧ ∀ a, a < x.1 → kn' a = true → ∀ j, j < ml.length → kn' (op m n a (ml.getD j 0).toNat) = true)) (fun x => n - x.1) (0, c', kn', false) ⟨Nat.zero_le _, z1, z2, fun a _ h => h, z5, fun h => by (first | cases h | simp at h), fun _ => ⟨rfl, fun a ha => by simp only at ha; omega⟩⟩ [0, 1, 2] (by simp only [leq, leA, ev0, evA, evB, evP, fl, gp, tab, simprocAttr, reduceCtorEq, reduceIte] <;> first | trivial | (simp; done)) fun x hx => ?_
          obtain ⟨a, c2, k2, ag⟩ := x
          obtain ⟨u1, u2, u3, u4, u5, u6, u7⟩ := hx
          simp only at u1 u2 u3 u4 u5 u6 u7
          refine qm (qm ?_)
          refine hk_region fun K hK => runs_eval tab_ok ?_
          simp only [ev0, evA, evB, evP, fl, gp, tab, simprocAttr, reduceCtorEq, reduceIte]
          refine fin_run ?_ (hK _ ?_) <;> clear hK <;> clear K
          · (first | exact trivial | omega | (simp only [In64] at *; omega) | (simp [In64] at *; omega) | (simp_all; done) | skip)
          refine qa ?_
          refine hk_cond rfl (fun hC5 => ?_) (fun hC5 => ?_)
          · (try simp only [nhs] at hC5)
            have hal : a < n := by omega
            refine qh (qa (qm (ql (qm ?_))))
            refine hk_region fun K hK => runs_eval tab_ok ?_
            simp only [ev0, evA, evB, evP, fl, gp, tab, simprocAttr, reduceCtorEq, reduceIte]
            refine fin_run trivial (hK _ ?_) <;> clear hK <;> clear K
            refine qa (ql ?_)
            refine hk_loop (ι := Nat × List Int × (Nat → Bool) × Bool) (fun x => ⟨152, [(1, .p (.int .i64 p)), (2, .p (.list (il f))), (3, .ptr 0 0), (7, .p (.int .i64 e)), (8, .p (.list (il ml))), (9, .p (.int .i64 (p ^ ml.length : Nat))), (11, .p (.int .i64 k)), (12, .sl 1 0 n), (13, .sl 2 0 n), (16, .p (.bool x.2.2.2)), (17, .p (.int .i64 a)), (18, .p (.int .i64 x.1))], [.own [.p (.int .i64 n), .p (.list (il m))], .own (ol x.2.1), .own (opl (bl n x.2.2.1))]⟩) (fun x => x.1 ≤ ml.length ∧ x.2.1.length = n ∧ rng p x.2.1 ∧ (∀ a, a < n → kn' a = true → x.2.2.1 a = true) ∧ fits n m p f ml k x.2.1 x.2.2.1 ∧ (x.2.2.2 = true → bo n kn' < bo n x.2.2.1) ∧ (x.2.2.2 = false → x.2.2.1 = kn' ∧ (∀ a', a' < a → kn' a' = true → ∀ j, j < ml.length → kn' (op m n a' (ml.getD j 0).toNat) = true) ∧ (kn' a = true → ∀ j, j < x.1 → kn' (op m n a (ml.getD j 0).toNat) = true))) (fun x => ml.length - x.1) (0, c2, k2, ag) ⟨Nat.zero_le _, u2, u3, u4, u5, u6, fun h => ⟨(u7 h).1, (u7 h).2, fun _ j hj => by simp only at hj; omega⟩⟩ [0, 1, 2] (by simp only [leq, leA, ev0, evA, evB, evP, fl, gp, tab, simprocAttr, reduceCtorEq, reduceIte] <;> first | trivial | (simp; done)) fun x hx => ?_
            obtain ⟨i', c3, k3, ag3⟩ := x
            obtain ⟨v1, v2, v3, v4, v5, v6, v7⟩ := hx
            simp only at v1 v2 v3 v4 v5 v6 v7
            refine qm (qm ?_)
            refine hk_region fun K hK => runs_eval tab_ok ?_
            simp only [ev0, evA, evB, evP, fl, gp, tab, simprocAttr, reduceCtorEq, reduceIte]
            refine fin_run trivial (hK _ ?_) <;> clear hK <;> clear K
            refine qa ?_
            refine hk_cond rfl (fun hC6 => ?_) (fun hC6 => ?_)
            · (try simp only [nhs] at hC6)
              have hil : i' < ml.length := by omega
              obtain ⟨y, y1, y2⟩ := hat i' hil
              have hxl := T.lt hal y1
              have hky : k3 y = true := by have := v4 y y1 (by have := z4 i' hil; rwa [y2, Int.toNat_natCast] at this); exact this
              refine qh (qa (qm (ql (qm ?_))))
              refine hk_region fun K hK => runs_eval tab_ok ?_
              simp only [ev0, evA, evB, evP, fl, gp, tab, simprocAttr, reduceCtorEq, reduceIte, il_get hil, y2]
              refine fin_run ?_ (hK _ ?_) <;> clear hK <;> clear K
              · (first | exact trivial | omega | (simp only [In64] at *; omega) | (simp [In64] at *; omega) | (simp_all; done) | skip)
              refine qa (qm ?_)
              refine hk_region fun K hK => runs_eval tab_ok ?_
              simp only [ev0, evA, evB, evP, fl, gp, tab, simprocAttr, reduceCtorEq, reduceIte]
              refine fin_stop trivial (runs_call (m_c T hal y1) rfl rfl rfl (by simp only [dstOk, Nat.reduceLT]) (by repeat (first | exact trivial | constructor)) (runs_eval tab_ok ?_))
              simp only [ev0, evA, evB, evP, fl, gp, tab, simprocAttr, reduceCtorEq, reduceIte]
              refine fin_run ?_ (hK _ ?_) <;> clear hK <;> clear K
              · (first | exact trivial | omega | (simp only [In64] at *; omega) | (simp [In64] at *; omega) | (simp_all; done) | skip)
              refine qa (qm ?_)
              rcases bool3 (k3 a) (k3 (op m n a y)) with hka | ⟨hka, hkx⟩ | ⟨hka, hkx⟩
              · refine hk_region fun K hK => runs_eval tab_ok ?_
                simp only [ev0, evA, evB, evP, fl, gp, tab, simprocAttr, reduceCtorEq, reduceIte, obl_get hal, bl_len, obl_len, hka]
                refine fin_run ?_ (hK _ ?_) <;> clear hK <;> clear K
                · omega
                refine qa ?_
                refine hk_cond rfl (fun hC7 => ?_) (fun hC7 => ?_)
                · cases hC7
                · refine qh (qd (qa ?_))
                  refine hk_region fun K hK => runs_eval tab_ok ?_
                  simp only [ev0, evA, evB, evP, fl, gp, tab, simprocAttr, reduceCtorEq, reduceIte]
                  refine fin_run ?_ (hK _ ?_) <;> clear hK <;> clear K
                  · (first | exact trivial | omega | (simp only [In64] at *; omega) | (simp [In64] at *; omega) | (simp_all; done) | skip)
                  refine qa ?_
                  refine ⟨(i' + 1, c3, k3, ag3), [0, 1, 2], ⟨by simp only; omega, v2, v3, v4, v5, v6, fun h => ?_⟩, by simp only; omega, ?_⟩
                  · obtain ⟨w1, w2, w3⟩ := v7 h
                    refine ⟨w1, w2, fun hk' => ?_⟩
                    rw [← w1, hka] at hk'; cases hk'
                  · simp only [leq, leA, ev0, evA, evB, evP, fl, gp, tab, simprocAttr, reduceCtorEq, reduceIte] <;> first | trivial | omega
              · refine hk_region fun K hK => runs_eval tab_ok ?_
                simp only [ev0, evA, evB, evP, fl, gp, tab, simprocAttr, reduceCtorEq, reduceIte, obl_get hal, obl_get hxl, bl_len, obl_len, hka, hkx, Bool.not_false]
                refine fin_run ?_ (hK _ ?_) <;> clear hK <;> clear K
                · omega
                refine qa ?_
                refine hk_cond rfl (fun hC7 => ?_) (fun hC7 => ?_)
                · (try simp only [nhs] at hC7)
                  have hay := at_lt hal y1
                  have r1 := v3 a (by omega)
                  have r2 := v3 y (by omega)
                  have r3 := hr (a * n + y) (by omega)
                  have c2' : (a : Int) * (n : Int) = ((a * n : Nat) : Int) := (Int.natCast_mul a n).symm
                  have tm : Int.tmod (c3.getD a 0 + c3.getD y 0 + p - f.getD (a * n + y) 0) p = (c3.getD a 0 + c3.getD y 0 - f.getD (a * n + y) 0) % (p : Int) := by
                    rw [Int.tmod_eq_emod_of_nonneg (by omega), show c3.getD a 0 + c3.getD y 0 + p - f.getD (a * n + y) 0 = c3.getD a 0 + c3.getD y 0 - f.getD (a * n + y) 0 + p by omega, Int.add_emod_right]
                  refine qm ?_
                  refine hk_draw mixed (by kernel_rfl) fun K hK => runs_eval tab_ok ?_
                  simp only [ev0, evA, evB, evP, fl, gp, tab, simprocAttr, reduceCtorEq, reduceIte, at_nat, ol_get (show a < c3.length by omega), ol_get (show y < c3.length by omega), il_get (show a * n + y < f.length by omega), tm, ol_set]
                  refine fin_run ?_ (hK _ ?_) <;> clear hK <;> clear K
                  · rw [c2']; simp only [In64]; omega
                  refine qa (qm ?_)
                  refine hk_region fun K hK => runs_eval tab_ok ?_
                  simp only [ev0, evA, evB, evP, fl, gp, tab, simprocAttr, reduceCtorEq, reduceIte, obl_len]
                  refine fin_run ?_ (hK _ ?_) <;> clear hK <;> clear K
                  · rw [bl_len]; omega
                  refine qa ?_
                  rw [obl_set]
                  refine hk_region fun K hK => runs_eval tab_ok ?_
                  simp only [ev0, evA, evB, evP, fl, gp, tab, simprocAttr, reduceCtorEq, reduceIte]
                  refine fin_run trivial (hK _ ?_) <;> clear hK <;> clear K
                  refine qd (qa ?_)
                  refine hk_region fun K hK => runs_eval tab_ok ?_
                  simp only [ev0, evA, evB, evP, fl, gp, tab, simprocAttr, reduceCtorEq, reduceIte]
                  refine fin_run ?_ (hK _ ?_) <;> clear hK <;> clear K
                  · (first | exact trivial | omega | (simp only [In64] at *; omega) | (simp [In64] at *; omega) | (simp_all; done) | skip)
                  refine qa ?_
                  have hgt : bo n kn' < bo n (upd k3 (op m n a y)) := by
                    have h1 : bo n k3 < bo n (upd k3 (op m n a y)) := bo_lt_of (fun a _ h => by simp [upd, h]) hxl hkx (by simp [upd])
                    cases hag : ag3 with
                    | true => have := v6 hag; omega
                    | false => rw [(v7 hag).1] at h1; rw [(v7 hag).1]; exact h1
                  have hv := emod_rng hp0 (c3.getD a 0 + c3.getD y 0 - f.getD (a * n + y) 0)
                  refine ⟨(i' + 1, c3.set (op m n a y) ((c3.getD a 0 + c3.getD y 0 - f.getD (a * n + y) 0) % (p : Int)), upd k3 (op m n a y), true), [0, 1, 2], ⟨by simp only; omega, by simp [v2], rng_set v3 hv.1 hv.2, fun b hb' hh => by simp [upd, v4 b hb' hh], fun c0 hs hd b hb' hkb => ?_, fun _ => hgt, fun h => by first | cases h | simp at h⟩, by simp only; omega, ?_⟩
                  · simp only [upd, Bool.or_eq_true, decide_eq_true_eq] at hkb ⊢
                    rw [set_get (by omega)]
                    by_cases hbx : b = op m n a y
                    · rw [if_pos hbx, hbx, v5 c0 hs hd a hal hka, v5 c0 hs hd y y1 hky]
                      exact sol_new h hp0 hs hal y1
                    · rw [if_neg hbx]
                      exact v5 c0 hs hd b hb' (hkb.resolve_right hbx)
                  · simp only [leq, leA, ev0, evA, evB, evP, fl, gp, tab, simprocAttr, reduceCtorEq, reduceIte] <;> first | trivial | omega
                · cases hC7
              · refine hk_region fun K hK => runs_eval tab_ok ?_
                simp only [ev0, evA, evB, evP, fl, gp, tab, simprocAttr, reduceCtorEq, reduceIte, obl_get hal, obl_get hxl, bl_len, obl_len, hka, hkx, Bool.not_true]
                refine fin_run ?_ (hK _ ?_) <;> clear hK <;> clear K
                · omega
                refine qa ?_
                refine hk_cond rfl (fun hC7 => ?_) (fun hC7 => ?_)
                · cases hC7
                · (try simp only [nhs] at hC7)
                  refine qh (qd (qa ?_))
                  refine hk_region fun K hK => runs_eval tab_ok ?_
                  simp only [ev0, evA, evB, evP, fl, gp, tab, simprocAttr, reduceCtorEq, reduceIte]
                  refine fin_run ?_ (hK _ ?_) <;> clear hK <;> clear K
                  · (first | exact trivial | omega | (simp only [In64] at *; omega) | (simp [In64] at *; omega) | (simp_all; done) | skip)
                  refine qa ?_
                  refine ⟨(i' + 1, c3, k3, ag3), [0, 1, 2], ⟨by simp only; omega, v2, v3, v4, v5, v6, fun h => ?_⟩, by simp only; omega, ?_⟩
                  · obtain ⟨w1, w2, w3⟩ := v7 h
                    refine ⟨w1, w2, fun hk' j hj => ?_⟩
                    by_cases hji : j = i'
                    · rw [hji, y2, Int.toNat_natCast, ← w1]; exact hkx
                    · exact w3 hk' j (by simp only at hj; omega)
                  · simp only [leq, leA, ev0, evA, evB, evP, fl, gp, tab, simprocAttr, reduceCtorEq, reduceIte] <;> first | trivial | omega
            · (try simp only [nhs] at hC6)
              refine qj (qc (qc (qf (qd (qa ?_)))))
              refine hk_region fun K hK => runs_eval tab_ok ?_
              simp only [ev0, evA, evB, evP, fl, gp, tab, simprocAttr, reduceCtorEq, reduceIte]
              refine fin_run ?_ (hK _ ?_) <;> clear hK <;> clear K
              · (first | exact trivial | omega | (simp only [In64] at *; omega) | (simp [In64] at *; omega) | (simp_all; done) | skip)
              refine qa ?_
              have hie' : i' = ml.length := by omega
              refine ⟨(a + 1, c3, k3, ag3), [0, 1, 2], ⟨by simp only; omega, v2, v3, v4, v5, v6, fun h => ?_⟩, by simp only; omega, ?_⟩
              · obtain ⟨w1, w2, w3⟩ := v7 h
                refine ⟨w1, fun a' ha' hk' j hj => ?_⟩
                by_cases haa : a' = a
                · rw [haa] at hk' ⊢; exact w3 hk' j (by omega)
                · exact w2 a' (by simp only at ha'; omega) hk' j hj
              · simp only [leq, leA, ev0, evA, evB, evP, fl, gp, tab, simprocAttr, reduceCtorEq, reduceIte] <;> first | trivial | omega
          · (try simp only [nhs] at hC5)
            refine qj (qc (qc (qf (qd (qa ?_)))))
            have han : a = n := by omega
            refine ⟨(c2, k2, ag), [0, 1, 2], ⟨u2, u3, u4 e hel z3, fun j hj => ?_, u5, fun h a' ha' hk' j hj => ?_⟩, ?_, ?_⟩
            · obtain ⟨y, y1, y2⟩ := hat j hj
              have := z4 j hj
              rw [y2, Int.toNat_natCast] at this ⊢
              exact u4 y y1 this
            · obtain ⟨w1, w2⟩ := u7 h
              simp only [w1] at hk' ⊢
              exact w2 a' (by omega) hk' j hj
            · have h1 := bo_lt64 (show n ≤ 60 by omega) k2
              have h2 := bo_lt64 (show n ≤ 60 by omega) kn'
              simp only [if_true]
              cases hag : ag with
              | true => have := u6 hag; simp only [if_true]; omega
              | false => rw [(u7 hag).1]; simp
            · simp only [leq, leA, ev0, evA, evB, evP, fl, gp, tab, simprocAttr, reduceCtorEq, reduceIte] <;> first | trivial | omega
        · (try simp only [nhs] at hC4)
          subst hC4
          have hall : ∀ a, a < n → kn' a = true := fun a ha => Gen.least (H := fun x => kn' x = true) z3 (fun a b ga hb' hpb hH => by
            unfold tst at hpb
            obtain ⟨j, hj, e1⟩ := List.getElem_of_mem (of_decide_eq_true hpb)
            have := z6 rfl a (ga.lt G) hH j hj
            have e2 : ml.getD j 0 = (b : Int) := by simp [List.getD, List.getElem?_eq_getElem hj, e1]
            rwa [e2, Int.toNat_natCast] at this) (hgen a ha)
          refine qj (qc (qc (qf (qa (qm ?_)))))
          refine hk_seal 12 1 (w := c') (by rw [z1]; rfl) rfl ?_
          refine hk_region fun K hK => runs_eval tab_ok ?_
          simp only [ev0, evA, evB, evP, fl, gp, tab, simprocAttr, reduceCtorEq, reduceIte]
          refine fin_stop trivial (runs_call (boundOf_c h hn hp c' z1 z2) rfl rfl rfl (by simp only [dstOk, Nat.reduceLT]) (by repeat (first | exact trivial | constructor)) (runs_eval tab_ok ?_))
          simp only [ev0, evA, evB, evP, fl, gp, tab, simprocAttr, reduceCtorEq, reduceIte]
          refine fin_stop trivial (runs_call (ints_c (dl n m p c') f (by rw [dl_len]; omega)) rfl rfl rfl (by simp only [dstOk, Nat.reduceLT]) (by repeat (first | exact trivial | constructor)) (runs_eval tab_ok ?_))
          simp only [ev0, evA, evB, evP, fl, gp, tab, simprocAttr, reduceCtorEq, reduceIte]
          refine fin_run ?_ (hK _ ?_) <;> clear hK <;> clear K
          · (first | exact trivial | omega | (simp only [In64] at *; omega) | (simp [In64] at *; omega) | (simp_all; done) | skip)
          refine qa ?_
          refine hk_cond rfl (fun hC8 => ?_) (fun hC8 => ?_)
          · (try simp only [nhs] at hC8)
            refine qm ?_
            refine hk_region fun K hK => runs_eval tab_ok ?_
            simp only [ev0, evA, evB, evP, fl, gp, tab, simprocAttr, reduceCtorEq, reduceIte]
            refine fin_run trivial (hK _ ?_) <;> clear hK <;> clear K
            refine qa (qk (qe (qb (qb (qe (qb ?_))))))
            simp only [Try.results24, enA, ev0, evA, evB, evP, fl, gp, tab, simprocAttr, reduceCtorEq, reduceIte]
            have : b = true := hb.2 ⟨c', z1, z2, hC8⟩
            simp [this]
          · (try simp only [nhs] at hC8)
            refine qh (qd (qa ?_))
            refine hk_region fun K hK => runs_eval tab_ok ?_
            simp only [ev0, evA, evB, evP, fl, gp, tab, simprocAttr, reduceCtorEq, reduceIte]
            refine fin_run ?_ (hK _ ?_) <;> clear hK <;> clear K
            · (first | exact trivial | omega | (simp only [In64] at *; omega) | (simp [In64] at *; omega) | (simp_all; done) | skip)
            refine qa ?_
            refine ⟨k + 1, [0], ⟨by omega, fun c0 hs k' hk' hd => ?_⟩, by omega, ?_⟩
            · by_cases hkk : k' = k
              · rw [hkk] at hd
                refine hC8 ?_
                have : c' = c0 := by
                  apply List.ext_getElem (by rw [z1, hs.1])
                  intro t t1 t2
                  have := z5 c0 hs hd t (by omega) (hall t (by omega))
                  simpa [List.getD, List.getElem?_eq_getElem t1, List.getElem?_eq_getElem t2] using this
                rw [this]; exact hs.2.2
              · exact hk2 c0 hs k' (by omega) hd
            · simp only [leq, leA, ev0, evA, evB, evP, fl, gp, tab, simprocAttr, reduceCtorEq, reduceIte] <;> first | trivial | omega
    · (try simp only [nhs] at hC2)
      refine qj (qc (qc (qf (qa (qm ?_)))))
      refine hk_region fun K hK => runs_eval tab_ok ?_
      simp only [ev0, evA, evB, evP, fl, gp, tab, simprocAttr, reduceCtorEq, reduceIte]
      refine fin_run trivial (hK _ ?_) <;> clear hK <;> clear K
      refine qa (qk ?_)
      simp only [Try.results24, enA, ev0, evA, evB, evP, fl, gp, tab, simprocAttr, reduceCtorEq, reduceIte]
      have : b = false := by
        cases hbb : b with
        | false => rfl
        | true =>
          obtain ⟨c0, hs⟩ := hb.1 hbb
          obtain ⟨k', h1, h2⟩ := dgt_ex hp0 c0 ml fun x hx => by
            obtain ⟨y, y1, y2⟩ := hmem x hx
            rw [y2, Int.toNat_natCast]
            exact hs.2.1 y (by rw [hs.1]; exact y1)
          exact absurd h2 (hk2 c0 hs k' (by omega))
      simp [this]

end Go.Proofs.Ythdmioeddgednaa
