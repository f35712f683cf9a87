/-
  Texts of this proof, one behind the other: what each says stands at its head. Conditions: none.
-/
import Derived.Test.YtboadfahlflmhaaDoorProg
import Derived.Shelf.Lays
import Derived.Test.YtboadfahlflmhaaDoorB7
import Derived.Test.YtboadfahlflmhaaDoorB5
import Derived.Test.YtboadfahlflmhaaDoorB6
import Derived.Test.YtboadfahlflmhaaDoorRows
import Derived.Test.YtboadfahlflmhaaDoorB4
import Derived.ProofKit
import Derived.LaidMore
import Derived.OpenShut
import Derived.Stop.Joined

/-
  Contracts of the library, laid at this dump: numbers, and that each body is the same. Conditions: none; written by a program of this repo out of the kit's own tool.
-/
set_option linter.all false
namespace Go.Proofs
open Go.Shelf
def Tryd.sortI_ren : Go.Shelf.Ren := ⟨fun | 189 => 104 | 125 => 133 | 257 => 139 | 128 => 159 | 129 => 160 | 294 => 163 | 295 => 164 | 296 => 165 | 297 => 166 | 298 => 167 | 299 => 168 | 216 => 169 | 300 => 170 | 301 => 171 | 328 => 178 | 329 => 174 | 330 => 175 | 331 => 179 | 332 => 180 | 215 => 161 | 343 => 190 | n => n, fun | 28 => 22 | 3 => 3 | 46 => 107 | 0 => 0 | 51 => 127 | 53 => 93 | 4 => 4 | 183 => 120 | 182 => 119 | 131 => 124 | 5 => 5 | 9 => 9 | 218 => 137 | 222 => 141 | 228 => 150 | 229 => 151 | n => n, fun | n => n⟩
theorem Tryd.sortI : Go.Proofs.Lays.n189 Tryd.prog Tryd.sortI_ren := {
  mixed := by kernel_rfl
  f125 := Tryd.func133.trans (congrArg some (by kernel_rfl))
  f128 := Tryd.func159.trans (congrArg some (by kernel_rfl))
  f129 := Tryd.func160.trans (congrArg some (by kernel_rfl))
  f189 := Tryd.func104.trans (congrArg some (by kernel_rfl))
  f215 := Tryd.func161.trans (congrArg some (by kernel_rfl))
  f216 := Tryd.func169.trans (congrArg some (by kernel_rfl))
  f257 := Tryd.func139.trans (congrArg some (by kernel_rfl))
  f294 := Tryd.func163.trans (congrArg some (by kernel_rfl))
  f295 := Tryd.func164.trans (congrArg some (by kernel_rfl))
  f296 := Tryd.func165.trans (congrArg some (by kernel_rfl))
  f297 := Tryd.func166.trans (congrArg some (by kernel_rfl))
  f298 := Tryd.func167.trans (congrArg some (by kernel_rfl))
  f299 := Tryd.func168.trans (congrArg some (by kernel_rfl))
  f300 := Tryd.func170.trans (congrArg some (by kernel_rfl))
  f301 := Tryd.func171.trans (congrArg some (by kernel_rfl))
  f328 := Tryd.func178.trans (congrArg some (by kernel_rfl))
  f329 := Tryd.func174.trans (congrArg some (by kernel_rfl))
  f330 := Tryd.func175.trans (congrArg some (by kernel_rfl))
  f331 := Tryd.func179.trans (congrArg some (by kernel_rfl))
  f332 := Tryd.func180.trans (congrArg some (by kernel_rfl))
  f343 := Tryd.func190.trans (congrArg some (by kernel_rfl))
  t0 := Tryd.underlying0
  a0 := Tryd.isAgg0
  z0 := Tryd.sizeOf0
  v0 := Tryd.zeroValue0
  t3 := Tryd.underlying3
  a3 := Tryd.isAgg3
  z3 := Tryd.sizeOf3
  v3 := Tryd.zeroValue3
  t4 := Tryd.underlying4
  a4 := Tryd.isAgg4
  z4 := Tryd.sizeOf4
  v4 := Tryd.zeroValue4
  t5 := Tryd.underlying5
  a5 := Tryd.isAgg5
  z5 := Tryd.sizeOf5
  v5 := Tryd.zeroValue5
  t9 := Tryd.underlying9
  a9 := Tryd.isAgg9
  z9 := Tryd.sizeOf9
  v9 := Tryd.zeroValue9
  t28 := Tryd.underlying22
  a28 := Tryd.isAgg22
  z28 := Tryd.sizeOf22
  v28 := Tryd.zeroValue22
  t46 := Tryd.underlying107
  a46 := Tryd.isAgg107
  z46 := Tryd.sizeOf107
  v46 := Tryd.zeroValue107
  t51 := Tryd.underlying127
  a51 := Tryd.isAgg127
  z51 := Tryd.sizeOf127
  v51 := Tryd.zeroValue127
  t53 := Tryd.underlying93
  a53 := Tryd.isAgg93
  z53 := Tryd.sizeOf93
  v53 := Tryd.zeroValue93
  t131 := Tryd.underlying124
  a131 := Tryd.isAgg124
  z131 := Tryd.sizeOf124
  v131 := Tryd.zeroValue124
  t182 := Tryd.underlying119
  a182 := Tryd.isAgg119
  z182 := Tryd.sizeOf119
  v182 := Tryd.zeroValue119
  t183 := Tryd.underlying120
  a183 := Tryd.isAgg120
  z183 := Tryd.sizeOf120
  v183 := Tryd.zeroValue120
  t218 := Tryd.underlying137
  a218 := Tryd.isAgg137
  z218 := Tryd.sizeOf137
  v218 := Tryd.zeroValue137
  t222 := Tryd.underlying141
  a222 := Tryd.isAgg141
  z222 := Tryd.sizeOf141
  v222 := Tryd.zeroValue141
  t228 := Tryd.underlying150
  a228 := Tryd.isAgg150
  z228 := Tryd.sizeOf150
  v228 := Tryd.zeroValue150
  t229 := Tryd.underlying151
  a229 := Tryd.isAgg151
  z229 := Tryd.sizeOf151
  v229 := Tryd.zeroValue151 }
end Go.Proofs

/-
  The program's Factors. Conditions: none.
-/
set_option linter.all false
namespace Go.Proofs.YtboadfahlflmhaaDoor
open Go.Pv

section
variable {n e k d : Nat} {f g : Nat → Nat → Nat} {p q : Nat → Bool}
end

section
variable {n e : Nat} {m : List Int} {p q : Nat → Bool}
end
end Go.Proofs.YtboadfahlflmhaaDoor

/-
  Rows of equations modulo a prime, reduced as they come: what is reckoned. Conditions: none.
-/
set_option linter.all false
namespace Go.Proofs.YtboadfahlflmhaaDoor
open Go.Pv

/-- The primes that are let in. -/
def pr (p : Nat) : Prop := p = 2 ∨ p = 3 ∨ p = 5 ∨ p = 7
instance (p : Nat) : Decidable (pr p) := by unfold pr; infer_instance
theorem pr.le {p : Nat} (h : pr p) : 2 ≤ p ∧ p ≤ 7 := by unfold pr at h; omega

/-- All that is in a row is between 0 and p. -/
def rng (p : Nat) (u : List Int) : Prop := ∀ t, t < u.length → 0 ≤ u.getD t 0 ∧ u.getD t 0 < p

/-- The least number that makes 1 of another. -/
def inv (p : Nat) (x : Int) : Nat := ((List.range p).find? fun k => decide ((k * x.toNat) % p = 1)).getD 0

/-- Rows that are as they should be. -/
structure Ech (p n : Nat) (L : List (Nat × List Int)) : Prop where
  keys : (L.map (·.1)).Nodup
  lt : ∀ e ∈ L, e.1 < n
  len : ∀ e ∈ L, e.2.length = n
  rg : ∀ e ∈ L, rng p e.2
  one : ∀ e ∈ L, e.2.getD e.1 0 = 1
  zero : ∀ e ∈ L, ∀ j, j < e.1 → e.2.getD j 0 = 0

end Go.Proofs.YtboadfahlflmhaaDoor

/-
  Walks: rows of equations: a new one; a row is added. Conditions: none.
-/
set_option linter.all false
namespace Go.Proofs.YtboadfahlflmhaaDoor
open Go.Pv

theorem clone_c (v : List Int) (h0 : v ≠ []) (hl : v.length ≤ 1000000) : FnG Tryd.prog 103 [.list (il v)] (.sl 0 0 v.length) [.own (ol v)] := by
  have hp : 0 < v.length := List.length_pos_iff.2 h0
  refine fng_of tab_ok Tryd.func103 rfl (by kernel_rfl) (by rw [Tryd.ntmps103]; exact Nat.le_add_left 1 _) ?_; rw [Tryd.ntmps103]
  refine qm ?_
  refine hk_region fun K hK => runs_eval tab_ok ?_
  simp only [ev0, evA, evB, evP, fl, gp, tab, simprocAttr, reduceCtorEq, reduceIte]
  refine fin_run trivial (hK _ ?_) <;> clear hK <;> clear K
  refine qa (qm (qm ?_))
  refine hk_region fun K hK => runs_eval tab_ok ?_
  simp only [ev0, evA, evB, evP, fl, gp, tab, simprocAttr, reduceCtorEq, reduceIte]
  refine fin_run ?_ (hK _ ?_) <;> clear hK <;> clear K
  · simp [il, h0]
  refine qa ?_
  refine hk_cond rfl (fun hC1 => ?_) (fun hC1 => ?_)
  · cases hC1
  · (try simp only [nhs] at hC1)
    refine qh (qa (qm ?_))
    refine hk_region fun K hK => runs_eval tab_ok ?_
    simp only [ev0, evA, evB, evP, fl, gp, tab, simprocAttr, reduceCtorEq, reduceIte]
    refine fin_run ?_ (hK _ ?_) <;> clear hK <;> clear K
    · (first | exact trivial | omega | (simp only [In64] at *; omega) | (simp [In64] at *; omega) | (simp_all; done) | skip)
    refine qa (qk ?_)
    simp only [Tryd.results103, PostG, endG, rvsA, rvA, mkTup, ev0, evA, evB, evP, fl, gp, tab, simprocAttr, reduceCtorEq, reduceIte]
    refine ⟨[0], rfl, rfl, rfl, by simp, ⟨⟨?_, ol_sc _ _⟩, trivial⟩, trivial⟩
    rw [ol_ren, take_len]

end Go.Proofs.YtboadfahlflmhaaDoor

/-
  Walks: kernels and images. Conditions: none.
-/
set_option linter.all false
namespace Go.Proofs.YtboadfahlflmhaaDoor
open Go.Pv

section
variable {α : Type} [DecidableEq α]
theorem mem_cpN {d : α} {xs : List α} {k : Nat} {x : α} : x ∈ cpN d xs k ↔ ∃ j, j < k ∧ (j = 0 ∨ xs.getD j d ≠ xs.getD (j - 1) d) ∧ xs.getD j d = x := by
  unfold cpN
  rw [List.mem_map]
  constructor
  · rintro ⟨j, hj, rfl⟩
    rw [List.mem_filter, List.mem_range, Bool.or_eq_true, beq_iff_eq, decide_eq_true_eq] at hj
    exact ⟨j, hj.1, hj.2, rfl⟩
  · rintro ⟨j, h1, h2, rfl⟩
    refine ⟨j, ?_, rfl⟩
    rw [List.mem_filter, List.mem_range, Bool.or_eq_true, beq_iff_eq, decide_eq_true_eq]
    exact ⟨h1, h2⟩
theorem mem_cps {d : α} {xs : List α} {x : α} : x ∈ cps d xs ↔ x ∈ xs := by
  unfold cps
  rw [mem_cpN]
  constructor
  · rintro ⟨j, h1, _, rfl⟩
    simp [List.getD, List.getElem?_eq_getElem h1]
  · intro hx
    obtain ⟨i, hi, rfl⟩ := List.getElem_of_mem hx
    have e : xs[i] = xs.getD i d := by simp [List.getD, List.getElem?_eq_getElem hi]
    rw [e]
    clear e hx
    induction i with
    | zero => exact ⟨0, hi, .inl rfl, rfl⟩
    | succ i ih =>
      by_cases h : xs.getD (i + 1) d = xs.getD i d
      · rw [h]; exact ih (by omega)
      · exact ⟨i + 1, hi, .inr h, rfl⟩
theorem cps_pw {d : α} {xs : List α} {R R' : α → α → Prop} (h : xs.Pairwise R') (hR : ∀ a b, R' a b → a ≠ b → R a b) (htr : ∀ a b c, R' a b → R b c → R a c) : (cps d xs).Pairwise R := by
  unfold cps cpN
  rw [List.pairwise_map]
  have h1 : ((List.range xs.length).filter fun j => j == 0 || decide (xs.getD j d ≠ xs.getD (j - 1) d)).Pairwise (· < ·) := List.Pairwise.filter _ List.pairwise_lt_range
  refine h1.imp_of_mem fun {i j} hi hj hij => ?_
  rw [List.mem_filter, List.mem_range, Bool.or_eq_true, beq_iff_eq, decide_eq_true_eq] at hi hj
  have hg : ∀ a b, a < b → b < xs.length → R' (xs.getD a d) (xs.getD b d) := fun a b hab hb => by
    have := List.pairwise_iff_getElem.1 h a b (by omega) hb hab
    simpa [List.getD, List.getElem?_eq_getElem hb, List.getElem?_eq_getElem (show a < xs.length by omega)] using this
  have hne : xs.getD (j - 1) d ≠ xs.getD j d := fun he => by
    rcases hj.2 with h | h
    · omega
    · exact h he.symm
  have hl := hR _ _ (hg (j - 1) j (by omega) hj.1) hne
  by_cases hji : i = j - 1
  · rw [hji]; exact hl
  · exact htr _ _ _ (hg i (j - 1) (by omega) (by omega)) hl
end
theorem cps_srt {l : List Int} {n : Nat} {p : Nat → Bool} (h : ∀ x, x ∈ l ↔ ∃ a, a < n ∧ p a = true ∧ x = ((a : Nat) : Int)) : cps 0 (srt l) = thl n p := by
  have h1 : (cps 0 (srt l)).Pairwise (· < ·) := cps_pw (R' := (· ≤ ·)) (srt_rise l) (fun a b h1 h2 => by omega) (fun a b c h1 h2 => by omega)
  have h2 : (thl n p).Pairwise (· < ·) := thl_asc n p
  refine rise_unique _ _ ?_ (h1.imp fun h => Int.le_of_lt h) (h2.imp fun h => Int.le_of_lt h)
  refine (List.perm_ext_iff_of_nodup (h1.imp fun h => Int.ne_of_lt h) (h2.imp fun h => Int.ne_of_lt h)).2 fun x => ?_
  rw [mem_cps, (srt_perm l).mem_iff, h, mem_thl]

section
variable {n e n' e' : Nat} {m m' l : List Int}
theorem kernel_no (N : Int) (m : List Int) (N' : Int) (m' l : List Int) (hm : m.length ≤ 1000000000000000) (hm' : m'.length ≤ 1000000000000000) (h : ¬ (homf N m N' m' l).1 = 0) : FnC Tryd.prog 44 [gp N m, gp N' m', .list (il l)] (.tup [.list [], fl (homf N m N' m' l)]) := by
  refine fnc_of tab_ok Tryd.func44 rfl (by kernel_rfl) (by rw [Tryd.ntmps44]; exact Nat.le_add_left 3 _) ?_; rw [Tryd.ntmps44]
  refine qm ?_
  refine hk_region fun K hK => runs_eval tab_ok ?_
  simp only [ev0, evA, evB, evP, fl, gp, tab, simprocAttr, reduceCtorEq, reduceIte]
  refine fin_run ?_ (hK _ ?_) <;> clear hK <;> clear K
  · (first | exact trivial | omega | (simp only [In64] at *; omega) | (simp [In64] at *; omega) | (simp_all; done) | skip)
  refine qa (qm (qm ?_))
  refine hk_region fun K hK => runs_eval tab_ok ?_
  simp only [ev0, evA, evB, evP, fl, gp, tab, simprocAttr, reduceCtorEq, reduceIte]
  refine fin_stop trivial (runs_call (homCheck_c N m N' m' l hm hm') rfl rfl rfl (by simp only [dstOk, Nat.reduceLT]) (by repeat (first | exact trivial | constructor)) (runs_eval tab_ok ?_))
  simp only [ev0, evA, evB, evP, fl, gp, tab, simprocAttr, reduceCtorEq, reduceIte]
  refine fin_run ?_ (hK _ ?_) <;> clear hK <;> clear K
  · (first | exact trivial | omega | (simp only [In64] at *; omega) | (simp [In64] at *; omega) | (simp_all; done) | skip)
  refine qa (qm ?_)
  refine hk_region fun K hK => runs_eval tab_ok ?_
  simp only [ev0, evA, evB, evP, fl, gp, tab, simprocAttr, reduceCtorEq, reduceIte]
  refine fin_run ?_ (hK _ ?_) <;> clear hK <;> clear K
  · (first | exact trivial | omega | (simp only [In64] at *; omega) | (simp [In64] at *; omega) | (simp_all; done) | skip)
  refine qa ?_
  refine hk_cond rfl (fun hC1 => ?_) (fun hC1 => ?_)
  · (try simp only [nhs] at hC1)
    refine qm ?_
    refine hk_draw mixed (by kernel_rfl) fun K hK => runs_eval tab_ok ?_
    simp only [ev0, evA, evB, evP, fl, gp, tab, simprocAttr, reduceCtorEq, reduceIte]
    refine fin_run ?_ (hK _ ?_) <;> clear hK <;> clear K
    · (first | exact trivial | omega | (simp only [In64] at *; omega) | (simp [In64] at *; omega) | (simp_all; done) | skip)
    refine qa (qk (qb ?_))
    simp only [Tryd.results44, enA, ev0, evA, evB, evP, fl, gp, tab, simprocAttr, reduceCtorEq, reduceIte]
    all_goals (simp)
  · (try simp only [nhs] at hC1)
    omega
theorem image_no (N : Int) (m : List Int) (N' : Int) (m' l : List Int) (hm : m.length ≤ 1000000000000000) (hm' : m'.length ≤ 1000000000000000) (h : ¬ (homf N m N' m' l).1 = 0) : FnC Tryd.prog 45 [gp N m, gp N' m', .list (il l)] (.tup [.list [], fl (homf N m N' m' l)]) := by
  refine fnc_of tab_ok Tryd.func45 rfl (by kernel_rfl) (by rw [Tryd.ntmps45]; exact Nat.le_add_left 3 _) ?_; rw [Tryd.ntmps45]
  refine qm ?_
  refine hk_region fun K hK => runs_eval tab_ok ?_
  simp only [ev0, evA, evB, evP, fl, gp, tab, simprocAttr, reduceCtorEq, reduceIte]
  refine fin_run ?_ (hK _ ?_) <;> clear hK <;> clear K
  · (first | exact trivial | omega | (simp only [In64] at *; omega) | (simp [In64] at *; omega) | (simp_all; done) | skip)
  refine qa (qm (qm ?_))
  refine hk_region fun K hK => runs_eval tab_ok ?_
  simp only [ev0, evA, evB, evP, fl, gp, tab, simprocAttr, reduceCtorEq, reduceIte]
  refine fin_stop trivial (runs_call (homCheck_c N m N' m' l hm hm') rfl rfl rfl (by simp only [dstOk, Nat.reduceLT]) (by repeat (first | exact trivial | constructor)) (runs_eval tab_ok ?_))
  simp only [ev0, evA, evB, evP, fl, gp, tab, simprocAttr, reduceCtorEq, reduceIte]
  refine fin_run ?_ (hK _ ?_) <;> clear hK <;> clear K
  · (first | exact trivial | omega | (simp only [In64] at *; omega) | (simp [In64] at *; omega) | (simp_all; done) | skip)
  refine qa (qm ?_)
  refine hk_region fun K hK => runs_eval tab_ok ?_
  simp only [ev0, evA, evB, evP, fl, gp, tab, simprocAttr, reduceCtorEq, reduceIte]
  refine fin_run ?_ (hK _ ?_) <;> clear hK <;> clear K
  · (first | exact trivial | omega | (simp only [In64] at *; omega) | (simp [In64] at *; omega) | (simp_all; done) | skip)
  refine qa ?_
  refine hk_cond rfl (fun hC1 => ?_) (fun hC1 => ?_)
  · (try simp only [nhs] at hC1)
    refine qm ?_
    refine hk_draw mixed (by kernel_rfl) fun K hK => runs_eval tab_ok ?_
    simp only [ev0, evA, evB, evP, fl, gp, tab, simprocAttr, reduceCtorEq, reduceIte]
    refine fin_run ?_ (hK _ ?_) <;> clear hK <;> clear K
    · (first | exact trivial | omega | (simp only [In64] at *; omega) | (simp [In64] at *; omega) | (simp_all; done) | skip)
    refine qa (qk (qb ?_))
    simp only [Tryd.results45, enA, ev0, evA, evB, evP, fl, gp, tab, simprocAttr, reduceCtorEq, reduceIte]
    all_goals (simp)
  · (try simp only [nhs] at hC1)
    omega
/-- The kernel; the image. -/
def kerp (l : List Int) (e' : Nat) (a : Nat) : Bool := decide (hv l a = e')
def imgp (l : List Int) (n : Nat) (b : Nat) : Bool := (List.range n).any fun a => hv l a == b
theorem imgp_iff {b : Nat} : imgp l n b = true ↔ ∃ a, a < n ∧ hv l a = b := by
  simp [imgp]
theorem kernel_ok (h : GT n m n e) (h' : GT n' m' n' e') (hm : m.length ≤ 1000000000000000) (hm' : m'.length ≤ 1000000000000000) (hH : Hom m m' l n n') (hf : homf n m n' m' l = (0, 0)) :
    FnC Tryd.prog 44 [gp n m, gp n' m', .list (il l)] (.tup [.list (il (thl n (kerp l e'))), fl (0, 0)]) := by
  have hc := homCheck_c n m n' m' l hm hm'
  rw [hf] at hc
  obtain ⟨hl, hv1, _⟩ := hH
  have hn := h.2.1.big
  refine fnc_of tab_ok Tryd.func44 rfl (by kernel_rfl) (by rw [Tryd.ntmps44]; exact Nat.le_add_left 3 _) ?_; rw [Tryd.ntmps44]
  refine qm ?_
  refine hk_region fun K hK => runs_eval tab_ok ?_
  simp only [ev0, evA, evB, evP, fl, gp, tab, simprocAttr, reduceCtorEq, reduceIte]
  refine fin_run ?_ (hK _ ?_) <;> clear hK <;> clear K
  · (first | exact trivial | omega | (simp only [In64] at *; omega) | (simp [In64] at *; omega) | (simp_all; done) | skip)
  refine qa (qm (qm ?_))
  refine hk_region fun K hK => runs_eval tab_ok ?_
  simp only [ev0, evA, evB, evP, fl, gp, tab, simprocAttr, reduceCtorEq, reduceIte]
  refine fin_stop trivial (runs_call (hc) rfl rfl rfl (by simp only [dstOk, Nat.reduceLT]) (by repeat (first | exact trivial | constructor)) (runs_eval tab_ok ?_))
  simp only [ev0, evA, evB, evP, fl, gp, tab, simprocAttr, reduceCtorEq, reduceIte]
  refine fin_run ?_ (hK _ ?_) <;> clear hK <;> clear K
  · (first | exact trivial | omega | (simp only [In64] at *; omega) | (simp [In64] at *; omega) | (simp_all; done) | skip)
  refine qa (qm ?_)
  refine hk_region fun K hK => runs_eval tab_ok ?_
  simp only [ev0, evA, evB, evP, fl, gp, tab, simprocAttr, reduceCtorEq, reduceIte]
  refine fin_run ?_ (hK _ ?_) <;> clear hK <;> clear K
  · (first | exact trivial | omega | (simp only [In64] at *; omega) | (simp [In64] at *; omega) | (simp_all; done) | skip)
  refine qa ?_
  refine hk_cond rfl (fun hC1 => ?_) (fun hC1 => ?_)
  · (try simp only [nhs] at hC1)
    simp at hC1
  · (try simp only [nhs] at hC1)
    refine qh (qa (qm ?_))
    refine hk_region fun K hK => runs_eval tab_ok ?_
    simp only [ev0, evA, evB, evP, fl, gp, tab, simprocAttr, reduceCtorEq, reduceIte]
    refine fin_run trivial (hK _ ?_) <;> clear hK <;> clear K
    refine qa (qm (qm ?_))
    refine hk_own0 9 rfl ?_
    refine hk_region fun K hK => runs_eval tab_ok ?_
    simp only [ev0, evA, evB, evP, fl, gp, tab, simprocAttr, reduceCtorEq, reduceIte, il_length, hl]
    refine fin_run trivial (hK _ ?_) <;> clear hK <;> clear K
    refine qa (ql ?_)
    refine hk_loop (ι := Nat) (fun k => ⟨38, [(4, .ptr 0 0), (7, .ptr 1 0), (9, .sl 2 0 (thl k (kerp l e')).length), (20, .p (.list (il l))), (21, .p (.int .i64 n)), (22, .p (.int .i64 k))], [.own [.p (.int .i64 n'), .p (.list (il m'))], .own [.p (.int .i64 0), .p (.int .i64 0)], .own (ol (thl k (kerp l e')))]⟩) (fun k => k ≤ n) (fun k => n - k) 0 (Nat.zero_le _) [1, 2, 4] (by simp only [leq, leA, ev0, evA, evB, evP, fl, gp, tab, simprocAttr, reduceCtorEq, reduceIte] <;> first | trivial | exact ⟨rfl, rfl⟩ | trace_state) fun k hk => ?_
    have htl := thl_le k (kerp l e')
    refine qm ?_
    refine hk_region fun K hK => runs_eval tab_ok ?_
    simp only [ev0, evA, evB, evP, fl, gp, tab, simprocAttr, reduceCtorEq, reduceIte]
    refine fin_run trivial (hK _ ?_) <;> clear hK <;> clear K
    refine qa (qm ?_)
    refine hk_cond rfl (fun hC2 => ?_) (fun hC2 => ?_)
    · (try simp only [nhs] at hC2)
      have hkl : k < n := by omega
      have hs := thl_succ k (kerp l e')
      obtain ⟨ev, lv⟩ := hv1 k hkl
      refine qh (qa (qm (ql (qm ?_))))
      refine hk_region fun K hK => runs_eval tab_ok ?_
      simp only [ev0, evA, evB, evP, fl, gp, tab, simprocAttr, reduceCtorEq, reduceIte, il_get (show k < l.length by omega), ev]
      refine fin_run ?_ (hK _ ?_) <;> clear hK <;> clear K
      · (first | exact trivial | omega | (simp only [In64] at *; omega) | (simp [In64] at *; omega) | (simp_all; done) | skip)
      refine qa (qm ?_)
      refine hk_region fun K hK => runs_eval tab_ok ?_
      simp only [ev0, evA, evB, evP, fl, gp, tab, simprocAttr, reduceCtorEq, reduceIte]
      refine fin_stop trivial (runs_call (oneOf_c h') rfl rfl rfl (by simp only [dstOk, Nat.reduceLT]) (by repeat (first | exact trivial | constructor)) (runs_eval tab_ok ?_))
      simp only [ev0, evA, evB, evP, fl, gp, tab, simprocAttr, reduceCtorEq, reduceIte]
      refine fin_run ?_ (hK _ ?_) <;> clear hK <;> clear K
      · (first | exact trivial | omega | (simp only [In64] at *; omega) | (simp [In64] at *; omega) | (simp_all; done) | skip)
      refine qa ?_
      refine hk_cond rfl (fun hC3 => ?_) (fun hC3 => ?_)
      · (try simp only [nhs] at hC3)
        have hp : kerp l e' k = true := by unfold kerp; rw [decide_eq_true_eq]; omega
        rw [if_pos hp] at hs
        refine hk_region fun K hK => runs_eval tab_ok ?_
        simp only [ev0, evA, evB, evP, fl, gp, tab, simprocAttr, reduceCtorEq, reduceIte]
        refine fin_run ?_ (hK _ ?_) <;> clear hK <;> clear K
        · (first | exact trivial | omega | (simp only [In64] at *; omega) | (simp [In64] at *; omega) | (simp_all; done) | skip)
        refine qd (qa ?_)
        refine hk_region fun K hK => runs_eval tab_ok ?_
        simp only [ev0, evA, evB, evP, fl, gp, tab, simprocAttr, reduceCtorEq, reduceIte]
        refine fin_run ?_ (hK _ ?_) <;> clear hK <;> clear K
        · (first | exact trivial | omega | (simp only [In64] at *; omega) | (simp [In64] at *; omega) | (simp_all; done) | skip)
        refine qa ?_
        refine ⟨k + 1, [0, 1, 3], by omega, by omega, ?_⟩
        rw [hs]
        simp only [leq, leA, ev0, evA, evB, evP, fl, gp, tab, simprocAttr, reduceCtorEq, reduceIte] <;> first | trivial | omega | trace_state
      · (try simp only [nhs] at hC3)
        have hp : ¬ kerp l e' k = true := by unfold kerp; rw [decide_eq_true_eq]; omega
        rw [if_neg hp, List.append_nil] at hs
        refine qh (qd (qa ?_))
        refine hk_region fun K hK => runs_eval tab_ok ?_
        simp only [ev0, evA, evB, evP, fl, gp, tab, simprocAttr, reduceCtorEq, reduceIte]
        refine fin_run ?_ (hK _ ?_) <;> clear hK <;> clear K
        · (first | exact trivial | omega | (simp only [In64] at *; omega) | (simp [In64] at *; omega) | (simp_all; done) | skip)
        refine qa ?_
        refine ⟨k + 1, [0, 1, 2], by omega, by omega, ?_⟩
        rw [hs]
        simp only [leq, leA, ev0, evA, evB, evP, fl, gp, tab, simprocAttr, reduceCtorEq, reduceIte] <;> first | trivial | omega | trace_state
    · (try simp only [nhs] at hC2)
      obtain rfl : k = n := by omega
      refine qj (qc (qc (qf (qa (qm ?_)))))
      refine hk_seal 9 2 rfl rfl ?_
      refine hk_region fun K hK => runs_eval tab_ok ?_
      simp only [ev0, evA, evB, evP, fl, gp, tab, simprocAttr, reduceCtorEq, reduceIte]
      refine fin_run ?_ (hK _ ?_) <;> clear hK <;> clear K
      · (first | exact trivial | omega | (simp only [In64] at *; omega) | (simp [In64] at *; omega) | (simp_all; done) | skip)
      refine qa (qk ?_)
      simp only [Tryd.results44, enA, ev0, evA, evB, evP, fl, gp, tab, simprocAttr, reduceCtorEq, reduceIte]
      all_goals (trace_state)
theorem compactI_p (xs : List Int) (hl : xs.length ≤ 1000000) : FnM Tryd.prog 105 [.sl 0 0 xs.length] [.own (opl (il xs))] (.sl 0 0 (cps 0 xs).length) [.own (opl (il (cps 0 xs ++ List.replicate (xs.length - (cps 0 xs).length) 0)))] := compactI_c xs hl
theorem image_ok (h : GT n m n e) (h' : GT n' m' n' e') (hm : m.length ≤ 1000000000000000) (hm' : m'.length ≤ 1000000000000000) (hH : Hom m m' l n n') (hf : homf n m n' m' l = (0, 0)) :
    FnC Tryd.prog 45 [gp n m, gp n' m', .list (il l)] (.tup [.list (il (thl n' (imgp l n))), fl (0, 0)]) := by
  have hc := homCheck_c n m n' m' l hm hm'
  rw [hf] at hc
  obtain ⟨hl, hv1, _⟩ := hH
  have hn := h.2.1.big
  have hpos : 0 < n := h.2.1.pos
  have hci : cps 0 (srt l) = thl n' (imgp l n) := cps_srt fun x => by
    constructor
    · intro hx
      obtain ⟨i, hi, rfl⟩ := List.getElem_of_mem hx
      obtain ⟨ev, lv⟩ := hv1 i (by omega)
      exact ⟨hv l i, lv, imgp_iff.2 ⟨i, by omega, rfl⟩, by rw [← ev]; simp [List.getD, List.getElem?_eq_getElem hi]⟩
    · rintro ⟨b, hb, h2, rfl⟩
      obtain ⟨a, ha, rfl⟩ := imgp_iff.1 h2
      obtain ⟨ev, _⟩ := hv1 a ha
      rw [← ev]; simp [List.getD, List.getElem?_eq_getElem (show a < l.length by omega)]
  have hlr := srt_len l
  refine fnc_of tab_ok Tryd.func45 rfl (by kernel_rfl) (by rw [Tryd.ntmps45]; exact Nat.le_add_left 3 _) ?_; rw [Tryd.ntmps45]
  refine qm ?_
  refine hk_region fun K hK => runs_eval tab_ok ?_
  simp only [ev0, evA, evB, evP, fl, gp, tab, simprocAttr, reduceCtorEq, reduceIte]
  refine fin_run ?_ (hK _ ?_) <;> clear hK <;> clear K
  · (first | exact trivial | omega | (simp only [In64] at *; omega) | (simp [In64] at *; omega) | (simp_all; done) | skip)
  refine qa (qm (qm ?_))
  refine hk_region fun K hK => runs_eval tab_ok ?_
  simp only [ev0, evA, evB, evP, fl, gp, tab, simprocAttr, reduceCtorEq, reduceIte]
  refine fin_stop trivial (runs_call (hc) rfl rfl rfl (by simp only [dstOk, Nat.reduceLT]) (by repeat (first | exact trivial | constructor)) (runs_eval tab_ok ?_))
  simp only [ev0, evA, evB, evP, fl, gp, tab, simprocAttr, reduceCtorEq, reduceIte]
  refine fin_run ?_ (hK _ ?_) <;> clear hK <;> clear K
  · (first | exact trivial | omega | (simp only [In64] at *; omega) | (simp [In64] at *; omega) | (simp_all; done) | skip)
  refine qa (qm ?_)
  refine hk_region fun K hK => runs_eval tab_ok ?_
  simp only [ev0, evA, evB, evP, fl, gp, tab, simprocAttr, reduceCtorEq, reduceIte]
  refine fin_run ?_ (hK _ ?_) <;> clear hK <;> clear K
  · (first | exact trivial | omega | (simp only [In64] at *; omega) | (simp [In64] at *; omega) | (simp_all; done) | skip)
  refine qa ?_
  refine hk_cond rfl (fun hC1 => ?_) (fun hC1 => ?_)
  · (try simp only [nhs] at hC1)
    simp at hC1
  · (try simp only [nhs] at hC1)
    refine qh (qa (qm ?_))
    refine hk_region fun K hK => runs_eval tab_ok ?_
    simp only [ev0, evA, evB, evP, fl, gp, tab, simprocAttr, reduceCtorEq, reduceIte]
    refine fin_stop trivial (runs_callG (clone_c l (fun h => by rw [h] at hl; simp at hl; omega) (by omega)) rfl rfl (by first | rfl | (simp [scG, scA, sc1, opl]; done) | (simp only [scG, List.all_cons, List.all_nil, ol_sc, Bool.and_true]; rfl)) (by simp only [dstOk, Nat.reduceLT]) (by repeat (first | exact trivial | constructor)) (runs_eval tab_ok ?_))
    simp only [Go.Pv.shf, List.range', Blk.ren, opl_ren, ren, ren1, ev0, evA, evB, evP, fl, gp, tab, simprocAttr, reduceCtorEq, reduceIte]
    refine fin_run trivial (hK _ ?_) <;> clear hK <;> clear K
    refine qa (qm ?_)
    refine hk_region fun K hK => runs_eval tab_ok ?_
    simp only [ev0, evA, evB, evP, fl, gp, tab, simprocAttr, reduceCtorEq, reduceIte]
    refine fin_stop ?_ (runs_callM [4] (sortI_m Go.Proofs.Tryd.sortI l (by omega)) rfl rfl ?_ (by simp only [leA, ev0, evA, evB, evP, fl, gp, tab, simprocAttr, reduceCtorEq, reduceIte]; first | trivial | (simp only [ll_takeL]; first | trivial | (repeat constructor; done)) | (repeat constructor)) (by decide) (by first | rfl | (simp only [List.length_cons, List.length_nil, List.length_append]; decide)) (by first | rfl | (simp only [scM, opl_sc, List.all_cons, List.all_nil, List.length_cons, List.length_nil]; first | rfl | decide) | (simp [scM, scA, sc1, mpKeep, notAnc]; done)) (by simp only [dstOk, Nat.reduceLT]) (runs_eval tab_ok ?_))
    · (first | exact trivial | omega | (simp only [In64] at *; omega) | (simp [In64] at *; omega) | (simp_all; done) | skip)
    · (simp only [argsM, argM1, peekG, peekS, scA, sc1, ren, ren1, List.map_cons, List.map_nil, List.append_nil, List.cons_append, List.nil_append, enA, ev0, evA, evB, evP, fl, gp, tab, simprocAttr, reduceCtorEq, reduceIte]; try trivial)
    simp only [putM, hset, List.range', Blk.ren, ren, ren1, List.map_cons, List.map_nil, List.cons_append, List.nil_append, List.append_nil, List.length_cons, List.length_nil, ev0, evA, evB, evP, fl, gp, tab, simprocAttr, reduceCtorEq, reduceIte]
    refine fin_run trivial (hK _ ?_) <;> clear hK <;> clear K
    refine qa (qm ?_)
    refine hk_region fun K hK => runs_eval tab_ok ?_
    simp only [ev0, evA, evB, evP, fl, gp, tab, simprocAttr, reduceCtorEq, reduceIte]
    refine fin_stop ?_ (runs_callM [4] (compactI_p (srt l) (by omega)) rfl rfl ?_ (by simp only [leA, ev0, evA, evB, evP, fl, gp, tab, simprocAttr, reduceCtorEq, reduceIte]; first | trivial | (simp only [ll_takeL]; first | trivial | (repeat constructor; done)) | (repeat constructor)) (by decide) (by first | rfl | (simp only [List.length_cons, List.length_nil, List.length_append]; decide)) (by first | rfl | (simp only [scM, opl_sc, List.all_cons, List.all_nil, List.length_cons, List.length_nil]; first | rfl | decide) | (simp [scM, scA, sc1, mpKeep, notAnc]; done)) (by simp only [dstOk, Nat.reduceLT]) (runs_eval tab_ok ?_))
    · (first | exact trivial | omega | (simp only [In64] at *; omega) | (simp [In64] at *; omega) | (simp_all; done) | skip)
    · (simp only [argsM, argM1, peekG, peekS, scA, sc1, ren, ren1, List.map_cons, List.map_nil, List.append_nil, List.cons_append, List.nil_append, enA, ev0, evA, evB, evP, fl, gp, tab, simprocAttr, reduceCtorEq, reduceIte]; try trivial)
      rw [hlr]
    simp only [putM, hset, List.range', Blk.ren, ren, ren1, List.map_cons, List.map_nil, List.cons_append, List.nil_append, List.append_nil, List.length_cons, List.length_nil, ev0, evA, evB, evP, fl, gp, tab, simprocAttr, reduceCtorEq, reduceIte]
    refine fin_run ?_ (hK _ ?_) <;> clear hK <;> clear K
    · (first | exact trivial | omega | (simp only [In64] at *; omega) | (simp [In64] at *; omega) | (simp_all; done) | skip)
    refine qa (qk ?_)
    simp only [Tryd.results45, enA, ev0, evA, evB, evP, fl, gp, tab, simprocAttr, reduceCtorEq, reduceIte]
    refine ⟨by simp, ?_⟩
    rw [List.take_left, hci]
end
end Go.Proofs.YtboadfahlflmhaaDoor

/-
  The law HomComposes. Conditions: none.
-/
set_option linter.all false
namespace Go.Proofs.YtboadfahlflmhaaDoor
open Go.Pv

section
variable {n e n' e' : Nat} {m m' l k : List Int}
theorem homf_of (h : GT n m n e) (h' : GT n' m' n' e') (hH : Hom m m' l n n') : homf n m n' m' l = (0, 0) := by
  rw [homf_2 (by rw [tg_ok h h']) (by rw [hH.1]) fun j hj => decide_eq_false fun hb => by
    obtain ⟨h1, h2⟩ := hH.2.1 j (by rw [← hH.1]; exact hj)
    rw [h1] at hb; omega]
  exact homf2_0 fun j hj => hH.2.2 j hj
theorem Hom.hmo (hH : Hom m m' l n n') : Hmo n (op m n) n' (op m' n') (hv l) := ⟨fun a ha => (hH.2.1 a ha).2, fun a b ha hb => (hH.2.2 a ha b hb).symm⟩
theorem hom_of_hmo {φ : Nat → Nat} (G : Grp n (op m n) e) (h : Hmo n (op m n) n' (op m' n') φ) : Hom m m' (tbm n φ) n n' := by
  have hvv : ∀ a, a < n → hv (tbm n φ) a = φ a := fun a ha => by unfold hv; rw [tbm_get ha]; rfl
  refine ⟨tbm_len n φ, fun a ha => ?_, fun a ha b hb => ?_⟩
  · rw [hvv a ha, tbm_get ha]; exact ⟨rfl, h.lt a ha⟩
  · rw [hvv a ha, hvv b hb, hvv _ (G.cl _ _ ha hb), h.mul a b ha hb]
theorem Hom.rng (hH : Hom m m' l n n') : ∀ x ∈ l, 0 ≤ x ∧ x < (n' : Int) := fun x hx => by
  obtain ⟨i, hi, rfl⟩ := List.getElem_of_mem hx
  obtain ⟨h1, h2⟩ := hH.2.1 i (by rw [← hH.1]; exact hi)
  rw [show l.getD i 0 = l[i] by simp [List.getD, List.getElem?_eq_getElem hi]] at h1
  rw [h1]; omega
end
end Go.Proofs.YtboadfahlflmhaaDoor

/-
  The law HomTheorem. Conditions: none.
-/
set_option linter.all false
namespace Go.Proofs.YtboadfahlflmhaaDoor
open Go.Pv

section
variable {n e N d : Nat} {f g : Nat → Nat → Nat} {φ : Nat → Nat}
theorem Hmo.iv (G : Grp n f e) (K : Grp N g d) (h : Hmo n f N g φ) {a : Nat} (ha : a < n) : φ (iv n f e a) = iv N g d (φ a) := by
  have h1 := h.lt a ha
  have h2 := h.lt _ (G.iv_lt ha)
  have h3 := h.mul a _ ha (G.iv_lt ha)
  rw [G.mul_iv ha, h.one G K] at h3
  refine K.cancel_l h1 h2 (K.iv_lt h1) ?_
  rw [← h3, K.mul_iv h1]
theorem ker_sub (G : Grp n f e) (K : Grp N g d) (h : Hmo n f N g φ) : Sub n f e fun a => decide (φ a = d) := by
  refine sub_of G (by simpa using h.one G K) fun a b ha hb h1 h2 => ?_
  simp only [decide_eq_true_eq] at h1 h2 ⊢
  rw [h.mul a b ha hb, h1, h2, K.one_l _ K.el]
theorem ker_nml (G : Grp n f e) (K : Grp N g d) (h : Hmo n f N g φ) : Nml n f e fun a => decide (φ a = d) := fun a ha x hx h1 => by
  simp only [decide_eq_true_eq] at h1 ⊢
  unfold cjr
  have hi := G.iv_lt ha
  rw [h.mul _ _ (G.cl _ _ hi hx) ha, h.mul _ _ hi hx, h1, K.one_r _ (h.lt _ hi), h.iv G K ha, K.iv_mul (h.lt a ha)]
theorem img_sub (G : Grp n f e) (K : Grp N g d) (h : Hmo n f N g φ) : Sub N g d fun b => (List.range n).any fun a => φ a == b := by
  have hi : ∀ b, ((List.range n).any fun a => φ a == b) = true ↔ ∃ a, a < n ∧ φ a = b := fun b => by simp
  refine sub_of K ((hi d).2 ⟨e, G.el, h.one G K⟩) fun a b ha hb h1 h2 => ?_
  obtain ⟨x, hx, rfl⟩ := (hi a).1 h1
  obtain ⟨y, hy, rfl⟩ := (hi b).1 h2
  exact (hi _).2 ⟨f x y, G.cl _ _ hx hy, h.mul x y hx hy⟩
theorem ker_co (G : Grp n f e) (K : Grp N g d) (h : Hmo n f N g φ) {a b : Nat} (ha : a < n) (hb : b < n) : dco n f (fun a => decide (φ a = d)) (onp e) a b = true ↔ φ a = φ b := by
  rw [G.rco_iff ha hb, decide_eq_true_eq, h.mul _ _ hb (G.iv_lt ha), h.iv G K ha]
  have h1 := h.lt a ha
  have h2 := h.lt b hb
  have hi := K.iv_lt h1
  constructor
  · intro hh
    have : g (g (φ b) (iv N g d (φ a))) (φ a) = g d (φ a) := by rw [hh]
    rw [K.assoc _ _ _ h2 hi h1, K.iv_mul h1, K.one_r _ h2, K.one_l _ h1] at this
    exact this.symm
  · intro hh
    rw [hh, K.mul_iv h2]
/-- As many cosets as values. -/
theorem ker_num (G : Grp n f e) (K : Grp N g d) (h : Hmo n f N g φ) : (mem n (lead (dco n f (fun a => decide (φ a = d)) (onp e)))).length = (mem N fun b => (List.range n).any fun a => φ a == b).length := by
  have E := G.dco_eqv (ker_sub G K h) G.onp_sub
  have hm : ∀ {k : Nat} {p : Nat → Bool} {x : Nat}, x ∈ mem k p ↔ x < k ∧ p x = true := fun {k p x} => by unfold mem; rw [List.mem_filter, List.mem_range]
  have hnd : ∀ {k : Nat} {p : Nat → Bool}, (mem k p).Nodup := fun {k p} => List.Pairwise.filter _ List.nodup_range
  rw [← List.length_map (f := φ)]
  refine ((List.perm_ext_iff_of_nodup ?_ hnd).2 fun b => ?_).length_eq
  · refine nodup_map hnd fun x hx y hy hxy => ?_
    rw [hm] at hx hy
    exact E.lead_eq hx.1 hy.1 hx.2 hy.2 ((ker_co G K h hx.1 hy.1).2 hxy)
  · rw [List.mem_map, hm]
    constructor
    · rintro ⟨x, hx, rfl⟩
      rw [hm] at hx
      exact ⟨h.lt x hx.1, by simpa using ⟨x, hx.1, rfl⟩⟩
    · rintro ⟨hb, h1⟩
      obtain ⟨a, ha, rfl⟩ : ∃ a, a < n ∧ φ a = b := by simpa using h1
      obtain ⟨x, hx, hl, hr⟩ := E.least ha
      exact ⟨x, hm.2 ⟨hx, hl⟩, (ker_co G K h hx ha).1 hr⟩
end
end Go.Proofs.YtboadfahlflmhaaDoor

/-
  Isomorphisms; Noether's first theorem. Conditions: none.
-/
set_option linter.all false
namespace Go.Proofs.YtboadfahlflmhaaDoor
open Go.Pv

/-- An isomorphism. -/
def Isom (n : Nat) (f : Nat → Nat → Nat) (N : Nat) (g : Nat → Nat → Nat) (φ : Nat → Nat) : Prop := Hmo n f N g φ ∧ onto1 (tbm n φ) N
theorem isom_iff {n N : Nat} {f g : Nat → Nat → Nat} {φ : Nat → Nat} : Isom n f N g φ ↔ Hmo n f N g φ ∧ n = N ∧ ∀ y, y < N → ∃ x, x < n ∧ φ x = y := by
  unfold Isom onto1
  rw [tbm_len]
  constructor
  · rintro ⟨h1, h2, h3⟩
    refine ⟨h1, h3, fun y hy => ?_⟩
    obtain ⟨x, hx, e⟩ := List.mem_map.1 (h2 y hy)
    exact ⟨x, List.mem_range.1 hx, by omega⟩
  · rintro ⟨h1, h2, h3⟩
    refine ⟨h1, fun y hy => ?_, h2⟩
    obtain ⟨x, hx, rfl⟩ := h3 y hy
    exact List.mem_map.2 ⟨x, List.mem_range.2 hx, rfl⟩
theorem lat_pixI {n x : Nat} {p : Nat → Bool} (hx : x < n) (hp : p x = true) : lat n p (pix p x) = x := by
  unfold lat
  rw [(pix_at hx hp).2]; rfl
theorem ptb_opI {n : Nat} {f : Nat → Nat → Nat} {p : Nat → Bool} {i j : Nat} (hi : i < (thl n p).length) (hj : j < (thl n p).length) : op (ptb n f p) (thl n p).length i j = pop n f p i j := tbl_op' _ hi hj

section
variable {n e N d : Nat} {m M : List Int} {φ : Nat → Nat}
/-- NOETHER'S FIRST THEOREM. -/
theorem first_iso (G : Grp n (op m n) e) (GG : Grp N (op M N) d) (h : Hmo n (op m n) N (op M N) φ) (ke im : Nat → Bool) (hke : ke = fun a => decide (φ a = d)) (him : ∀ b, im b = true ↔ ∃ a, a < n ∧ φ a = b) :
    Isom (cst n (dco n (op m n) ke (onp e))).length (op (qtb n (op m n) (dco n (op m n) ke (onp e))) (cst n (dco n (op m n) ke (onp e))).length) (thl N im).length (op (ptb N (op M N) im) (thl N im).length) (fun c => pix im (φ (rpq n (dco n (op m n) ke (onp e)) c))) := by
  subst hke
  have hks := ker_sub G GG h
  have hE := G.dco_eqv hks G.onp_sub
  have himv : ∀ a, a < n → φ a < N ∧ im (φ a) = true := fun a ha => ⟨h.lt a ha, (him _).2 ⟨a, ha, rfl⟩⟩
  have hnum := ker_num G GG h
  have hco : ∀ a b, a < n → b < n → (dco n (op m n) (fun a => decide (φ a = d)) (onp e) a b = true ↔ φ a = φ b) := fun a b ha hb => ker_co G GG h ha hb
  generalize dco n (op m n) (fun a => decide (φ a = d)) (onp e) = r at *
  have hrep : ∀ a, a < n → φ (rpq n r (clq n r a)) = φ a := fun a ha => by
    have h1 := clq_at hE ha
    obtain ⟨r1, r2, _, _⟩ := rpq_at hE h1.1
    exact (hco _ _ r1 ha).1 ((clq_iff hE r1 ha).1 r2)
  rw [isom_iff]
  refine ⟨⟨fun c hc => ?_, fun a b ha hb => ?_⟩, ?_, fun y hy => ?_⟩
  · obtain ⟨i1, i2⟩ := himv _ (rpq_at hE hc).1
    exact (pix_at i1 i2).1
  · have r1 := (rpq_at hE ha).1
    have r2 := (rpq_at hE hb).1
    obtain ⟨a1, a2⟩ := himv _ r1
    obtain ⟨b1, b2⟩ := himv _ r2
    rw [qtb_op ha hb, ptb_opI (pix_at a1 a2).1 (pix_at b1 b2).1]
    unfold qop pop
    rw [hrep _ (G.cl _ _ r1 r2), h.mul _ _ r1 r2, lat_pixI a1 a2, lat_pixI b1 b2]
  · rw [cst_len, thl_len, hnum]
    unfold mem thn'
    refine congrArg List.length (List.filter_congr fun b hb => ?_)
    rw [Bool.eq_iff_iff, him]
    simp
  · obtain ⟨l1, l2, l3, l4⟩ := lat_at hy
    obtain ⟨a, ha, hb⟩ := (him _).1 l2
    exact ⟨clq n r a, (clq_at hE ha).1, by rw [hrep a ha, hb, l4]⟩
end
section
variable {n e N d : Nat} {f g : Nat → Nat → Nat} {φ : Nat → Nat}
theorem Isom.inj (h : Isom n f N g φ) {a b : Nat} (ha : a < n) (hb : b < n) (hab : φ a = φ b) : a = b := by
  obtain ⟨h1, h2, h3⟩ := isom_iff.1 h
  subst h2
  have hc : ∀ y, ∃ x, y < n → x < n ∧ φ x = y := fun y => by
    by_cases hy : y < n
    · obtain ⟨x, hx⟩ := h3 y hy
      exact ⟨x, fun _ => hx⟩
    · exact ⟨0, fun h => absurd h hy⟩
  obtain ⟨ψ, hψ⟩ : ∃ ψ : Nat → Nat, ∀ y, y < n → ψ y < n ∧ φ (ψ y) = y := ⟨fun y => Classical.choose (hc y), fun y hy => Classical.choose_spec (hc y) hy⟩
  have hnd : ((List.range n).map ψ).Nodup := nodup_map List.nodup_range fun y hy z hz hyz => by
    rw [← (hψ y (List.mem_range.1 hy)).2, ← (hψ z (List.mem_range.1 hz)).2, hyz]
  have hall : ∀ a, a < n → ∃ y, y < n ∧ ψ y = a := fun a ha => Classical.byContradiction fun hne => by
    have hn2 : (a :: (List.range n).map ψ).Nodup := List.nodup_cons.2 ⟨fun hm => by
      obtain ⟨y, hy, e⟩ := List.mem_map.1 hm
      exact hne ⟨y, List.mem_range.1 hy, e⟩, hnd⟩
    have := nodup_lt (n := n) hn2 fun x hx => by
      rcases List.mem_cons.1 hx with rfl | hx
      · exact ha
      · obtain ⟨y, hy, rfl⟩ := List.mem_map.1 hx
        exact (hψ y (List.mem_range.1 hy)).1
    simp at this
    omega
  obtain ⟨y, hy, rfl⟩ := hall a ha
  obtain ⟨z, hz, rfl⟩ := hall b hb
  rw [(hψ y hy).2, (hψ z hz).2] at hab
  rw [hab]
open Classical in
theorem Isom.symm (G : Grp n f e) (h : Isom n f N g φ) : ∃ ψ, Isom N g n f ψ := by
  obtain ⟨h1, h2, h3⟩ := isom_iff.1 h
  have hc : ∀ y, ∃ x, y < N → x < n ∧ φ x = y := fun y => by
    by_cases hy : y < N
    · obtain ⟨x, hx⟩ := h3 y hy
      exact ⟨x, fun _ => hx⟩
    · exact ⟨0, fun h => absurd h hy⟩
  refine ⟨fun y => Classical.choose (hc y), isom_iff.2 ⟨⟨fun y hy => (Classical.choose_spec (hc y) hy).1, fun y z hy hz => ?_⟩, h2.symm, fun x hx => ?_⟩⟩
  · obtain ⟨a1, a2⟩ := Classical.choose_spec (hc y) hy
    obtain ⟨b1, b2⟩ := Classical.choose_spec (hc z) hz
    have hgl : g y z < N := by
      have := h1.lt _ (G.cl _ _ a1 b1)
      rwa [h1.mul _ _ a1 b1, a2, b2] at this
    obtain ⟨c1, c2⟩ := Classical.choose_spec (hc (g y z)) hgl
    refine h.inj c1 (G.cl _ _ a1 b1) ?_
    rw [c2, h1.mul _ _ a1 b1, a2, b2]
  · obtain ⟨c1, c2⟩ := Classical.choose_spec (hc (φ x)) (h1.lt x hx)
    exact ⟨φ x, h1.lt x hx, h.inj c1 hx c2⟩
end
end Go.Proofs.YtboadfahlflmhaaDoor

/-
  Walks: the search for an isomorphism. Conditions: none.
-/
set_option linter.all false
namespace Go.Pv
open Go.RowKit
/-- The first that is asked. -/
def prI (f : PV → Bool) (ox : List Int → Prop) : Prot (Option (List Int)) where
  c4 i := match i with
    | none => .nil
    | some v => .list (il v)
  c51 _ := .int .i64 0
  c52 _ := .int .i64 0
  R _ := []
  go _ x := !f x
  nx i x := if f x then (match x with | .list l => some (l.map Go.Proofs.YtboadfahlflmhaaDoor.pvi) | _ => none) else i
  ok i := i = none
  okx x := ∃ v, x = .list (il v) ∧ ox v
  ok_nx i x h _ hg := by
    have hf : f x = false := by simpa using hg
    simp only [hf]; exact h
  ones _ _ := rfl
end Go.Pv
namespace Go.Proofs.YtboadfahlflmhaaDoor
open Go.Pv

section
variable {n e N d : Nat} {m M : List Int} {σ : Type}
theorem prI_nx {f : PV → Bool} {ox : List Int → Prop} {v : List Int} (h : f (.list (il v)) = true) (i : Option (List Int)) : (prI f ox).nx i (.list (il v)) = some v := by
  show (if f (.list (il v)) = true then _ else _) = _
  rw [if_pos h]
  show some ((il v).map pvi) = _
  rw [pvi_il]
theorem prI_nn {f : PV → Bool} {ox : List Int → Prop} {x : PV} (h : f x = false) (i : Option (List Int)) : (prI f ox).nx i x = i := by
  show (if f x = true then _ else _) = _
  rw [h]; rfl
theorem foldI_yes (n : Nat) (ox : List Int → Prop) : ∀ W : List (List Int), (∃ w ∈ W, onto1 w n) → ∃ w ∈ W, onto1 w n ∧ foldS (prI (fA n) ox) none (pls W) = (some w, false)
  | [], h => by obtain ⟨w, hw, _⟩ := h; cases hw
  | w :: W, h => by
    by_cases ho : onto1 w n
    · refine ⟨w, List.mem_cons_self .., ho, ?_⟩
      have hw : fA n (.list (il w)) = true := by rw [fA_il]; exact decide_eq_true ho
      show foldS _ _ (.list (il w) :: pls W) = _
      unfold foldS
      have hg : (prI (fA n) ox).go none (.list (il w)) = false := by show (!fA n _) = false; rw [hw]; rfl
      rw [hg, prI_nx hw]; rfl
    · obtain ⟨w', hw', ho'⟩ := h
      have hm : w' ∈ W := by
        rcases List.mem_cons.1 hw' with rfl | h
        · exact absurd ho' ho
        · exact h
      obtain ⟨u, hu, hu2, hu3⟩ := foldI_yes n ox W ⟨w', hm, ho'⟩
      refine ⟨u, List.mem_cons_of_mem _ hu, hu2, ?_⟩
      have hw : fA n (.list (il w)) = false := by rw [fA_il]; exact decide_eq_false ho
      show foldS _ _ (.list (il w) :: pls W) = _
      unfold foldS
      have hg : (prI (fA n) ox).go none (.list (il w)) = true := by show (!fA n _) = true; rw [hw]; rfl
      rw [hg, if_pos rfl, prI_nn hw]
      exact hu3

/-- How many things have each order. -/
def cnt1 (n : Nat) (f : Nat → Nat → Nat) (e j k : Nat) : Int := ((mem j fun b => decide (ord n f e b = k)).length : Nat)
theorem cnt1_succ (f : Nat → Nat → Nat) (j k : Nat) : cnt1 n f e (j + 1) k = if k = ord n f e j then cnt1 n f e j (ord n f e j) + 1 else cnt1 n f e j k := by
  unfold cnt1 mem
  rw [List.range_succ, List.filter_append]
  by_cases hk : k = ord n f e j
  · subst hk
    simp
  · have : ¬ ord n f e j = k := fun h => hk h.symm
    simp [hk, this]
theorem Isom.cnt {f g : Nat → Nat → Nat} {φ : Nat → Nat} (G : Grp n f e) (K : Grp N g d) (h : Isom n f N g φ) (k : Nat) : cnt1 n f e n k = cnt1 N g d N k := by
  obtain ⟨h1, h2, h3⟩ := isom_iff.1 h
  subst h2
  unfold cnt1
  have ho : ∀ a, a < n → ord n g d (φ a) = ord n f e a := fun a ha => by
    refine Nat.dvd_antisymm (h1.ord G K ha) ?_
    -- the order of a divides that of its image
    rw [← G.pw_eq_one ha]
    refine h.inj (G.pw_lt ha _) G.el ?_
    rw [h1.pw G K ha, K.pw_ord (h1.lt a ha), h1.one G K]
  refine congrArg _ (mem_bij φ (fun x hx hp => ⟨h1.lt x hx, ?_⟩) (fun x y hx hy _ _ e => h.inj hx hy e) fun y hy hp => ?_)
  · simp only [decide_eq_true_eq] at hp ⊢
    rw [ho x hx, hp]
  · obtain ⟨x, hx, rfl⟩ := h3 y hy
    simp only [decide_eq_true_eq] at hp ⊢
    exact ⟨x, hx, by rw [← ho x hx, hp], rfl⟩
theorem isoc_c (h : GT n m n e) : FnC Tryd.prog 93 [gp n m] (.list (il (rgz (n + 1) (cnt1 n (op m n) e n)))) := by
  have hn := h.2.1.big
  have h0 : (rgz (n + 1) fun _ => (0 : Int)) = rgz (n + 1) (cnt1 n (op m n) e 0) := rfl
  have hc : ((n : Nat) : Int) + 1 = ((n + 1 : Nat) : Int) := rfl
  refine fnc_of tab_ok Tryd.func93 rfl (by kernel_rfl) (by rw [Tryd.ntmps93]; exact Nat.le_add_left 1 _) ?_; rw [Tryd.ntmps93]
  refine qm ?_
  refine hk_region fun K hK => runs_eval tab_ok ?_
  simp only [ev0, evA, evB, evP, fl, gp, tab, simprocAttr, reduceCtorEq, reduceIte]
  refine fin_run ?_ (hK _ ?_) <;> clear hK <;> clear K
  · (first | exact trivial | omega | (simp only [In64] at *; omega) | (simp [In64] at *; omega) | (simp_all; done) | skip)
  refine qa (qm ?_)
  refine hk_region fun K hK => runs_eval tab_ok ?_
  simp only [ev0, evA, evB, evP, fl, gp, tab, simprocAttr, reduceCtorEq, reduceIte, hc, makeSliceA.eq_def, rgz_new]
  refine fin_run ?_ (hK _ ?_) <;> clear hK <;> clear K
  · skip
    exact ⟨⟨by omega, by omega⟩, by omega, by omega, by omega, by omega⟩
  refine qa (qm (qm ?_))
  refine hk_region fun K hK => runs_eval tab_ok ?_
  simp only [ev0, evA, evB, evP, fl, gp, tab, simprocAttr, reduceCtorEq, reduceIte]
  refine fin_run ?_ (hK _ ?_) <;> clear hK <;> clear K
  · (first | exact trivial | omega | (simp only [In64] at *; omega) | (simp [In64] at *; omega) | (simp_all; done) | skip)
  refine qa (ql ?_)
  refine hk_loop (ι := Nat) (fun a => ⟨24, [(1, .ptr 0 0), (3, .sl 1 0 (n + 1)), (10, .p (.int .i64 n)), (11, .p (.int .i64 a))], [.own [.p (.int .i64 n), .p (.list (il m))], .own (ol (rgz (n + 1) (cnt1 n (op m n) e a)))]⟩) (fun a => a ≤ n) (fun a => n - a) 0 (Nat.zero_le _) [0, 1] (by simp only [leq, leA, ev0, evA, evB, evP, fl, gp, tab, simprocAttr, reduceCtorEq, reduceIte] <;> first | trivial | exact ⟨rfl, rfl⟩ | (rw [h0, List.take_length]; done) | trace_state) fun a ha => ?_
  have hrl := rgz_len (n + 1) (cnt1 n (op m n) e a)
  refine qm ?_
  refine hk_region fun K hK => runs_eval tab_ok ?_
  simp only [ev0, evA, evB, evP, fl, gp, tab, simprocAttr, reduceCtorEq, reduceIte]
  refine fin_run trivial (hK _ ?_) <;> clear hK <;> clear K
  refine qa (qm ?_)
  refine hk_cond rfl (fun hC1 => ?_) (fun hC1 => ?_)
  · (try simp only [nhs] at hC1)
    have hal : a < n := by omega
    have hol : ord n (op m n) e a < n + 1 := by have := (h.2.2.ord_spec hal).2.1; omega
    have hg := rgz_get (g := cnt1 n (op m n) e a) hol
    have hse : (rgz (n + 1) (cnt1 n (op m n) e a)).set (ord n (op m n) e a) (cnt1 n (op m n) e a (ord n (op m n) e a) + 1) = rgz (n + 1) (cnt1 n (op m n) e (a + 1)) := by
      rw [rgz_set]
      exact rgz_congr fun k hk => (cnt1_succ (op m n) a k).symm
    have hcb : cnt1 n (op m n) e a (ord n (op m n) e a) ≤ n := by
      unfold cnt1 mem
      have h1 := List.length_filter_le (fun b => decide (ord n (op m n) e b = ord n (op m n) e a)) (List.range a)
      rw [List.length_range] at h1
      omega
    have hc0 : 0 ≤ cnt1 n (op m n) e a (ord n (op m n) e a) := Int.natCast_nonneg _
    refine qh (qa (qm (ql (qm ?_))))
    refine hk_region fun K hK => runs_eval tab_ok ?_
    simp only [ev0, evA, evB, evP, fl, gp, tab, simprocAttr, reduceCtorEq, reduceIte]
    refine fin_run trivial (hK _ ?_) <;> clear hK <;> clear K
    refine qa ?_
    refine hk_region fun K hK => runs_eval tab_ok ?_
    simp only [ev0, evA, evB, evP, fl, gp, tab, simprocAttr, reduceCtorEq, reduceIte, ol_length, hrl, ol_get (show ord n (op m n) e a < (rgz (n + 1) (cnt1 n (op m n) e a)).length by omega), hg, ol_set, hse]
    refine fin_stop ?_ (runs_call (orderOf_c h hal) rfl rfl rfl (by simp only [dstOk, Nat.reduceLT]) (by repeat (first | exact trivial | constructor)) (runs_eval tab_ok ?_))
    · (first | exact trivial | omega | (simp only [In64] at *; omega) | (simp [In64] at *; omega) | (simp_all; done) | skip)
    simp only [ev0, evA, evB, evP, fl, gp, tab, simprocAttr, reduceCtorEq, reduceIte, ol_length, hrl, ol_get (show ord n (op m n) e a < (rgz (n + 1) (cnt1 n (op m n) e a)).length by omega), hg, ol_set, hse]
    refine fin_run ?_ (hK _ ?_) <;> clear hK <;> clear K
    · (first | exact trivial | omega | (simp only [In64] at *; omega) | (simp [In64] at *; omega) | (simp_all; done) | skip)
    refine qd (qa ?_)
    refine hk_region fun K hK => runs_eval tab_ok ?_
    simp only [ev0, evA, evB, evP, fl, gp, tab, simprocAttr, reduceCtorEq, reduceIte]
    refine fin_run ?_ (hK _ ?_) <;> clear hK <;> clear K
    · (first | exact trivial | omega | (simp only [In64] at *; omega) | (simp [In64] at *; omega) | (simp_all; done) | skip)
    refine qa ?_
    refine ⟨a + 1, [0, 1], by omega, by omega, ?_⟩
    simp only [leq, leA, ev0, evA, evB, evP, fl, gp, tab, simprocAttr, reduceCtorEq, reduceIte] <;> first | trivial | omega | trace_state
  · (try simp only [nhs] at hC1)
    obtain rfl : a = n := by omega
    refine hk_seal 3 1 (w := rgz (a + 1) (cnt1 a (op m a) e a)) (by rw [hrl]; rfl) rfl ?_
    refine qj (qc (qc (qf (qa (qm ?_)))))
    refine hk_region fun K hK => runs_eval tab_ok ?_
    simp only [ev0, evA, evB, evP, fl, gp, tab, simprocAttr, reduceCtorEq, reduceIte]
    refine fin_run trivial (hK _ ?_) <;> clear hK <;> clear K
    refine qa (qk ?_)
    simp only [Tryd.results93, enA, ev0, evA, evB, evP, fl, gp, tab, simprocAttr, reduceCtorEq, reduceIte]
    all_goals (rfl)

set_option maxHeartbeats 8000000 in
set_option maxRecDepth 20000 in
theorem iso2_c (p : Prot σ) (h : GT n m n e) (h' : GT N M N d) (L : List Nat) (hL : L = gl n (op m n) e n) {rec : Loop} (hrp : rec.params.size = 1) {l : List AV} (hY : RoundsV Tryd.prog p rec l) (hokx : ∀ φ, Hmo n (op m n) N (op M N) φ → p.okx (.list (il (tbm n φ))))
    (hl : l.all (sc1 3) = true) (i : σ) (hi : p.ok i) {j : σ} {b : Bool} (hf : foldS p i (pls (hsq n (op m n) e N (op M N) d L L [])) = (j, b)) :
    FnQ Tryd.prog 3 95 [.yv 2 l rec.tmps, .p (.ptr [.int .i64 n, .list (il m)]), .p (.ptr [.int .i64 N, .list (il M)])] (HV p i (.lp rec)) (.p (.tup [])) (HV p j (.lp (recB b rec))) := by
  have hE := veach_c p h h' L hL hrp hY hokx hl i hi hf
  have hl3 : l.map (ren1 [0, 1, 2]) = l := (List.map_congr_left fun x hx => ren1_range (n := 3) (List.all_eq_true.1 hl x hx)).trans (List.map_id _)
  unfold HV at hE ⊢
  refine fnq_of (q := 3) tab_ok Tryd.func95 rfl (by kernel_rfl) (by rw [Tryd.ntmps95]; exact Nat.le_add_left 3 _) ?_; rw [Tryd.ntmps95]; simp only [ancs, entA, List.length_cons, List.length_nil, List.cons_append, List.nil_append, Nat.reduceAdd, Nat.zero_add]
  refine hk_region fun K hK => runs_eval tab_ok ?_
  simp only [ev0, evA, evB, evP, fl, gp, tab, simprocAttr, reduceCtorEq, reduceIte]
  refine fin_stop ?_ (runs_callQ [0, 1, 2] (hE) rfl rfl ?_ (by simp only [leA, ev0, evA, evB, evP, fl, gp, tab, simprocAttr, reduceCtorEq, reduceIte]; first | trivial | (simp only [ll_takeL]; first | trivial | (repeat constructor; done)) | (repeat constructor)) (by decide) (by first | rfl | (simp only [List.length_cons, List.length_nil, List.length_append]; decide)) (by first | rfl | (simp [scQ, scA, sc1, mpKeep, notAnc, Blk.spc, opl_sc]; done)) (by simp only [dstOk, Nat.reduceLT]) (runs_eval tab_ok ?_))
  · (first | exact trivial | omega | (simp only [In64] at *; omega) | (simp [In64] at *; omega) | (simp_all; done) | skip)
  · (simp only [argsM, argM1, peekG, peekS, scA, sc1, ren, ren1, List.map_cons, List.map_nil, List.append_nil, List.cons_append, List.nil_append, enA, ev0, evA, evB, evP, fl, gp, tab, simprocAttr, reduceCtorEq, reduceIte]; try trivial)
    exact ⟨by rw [hl3], all_up (by decide) hl⟩
  simp only [putM, kills, hset, List.take_succ_cons, List.take_zero, List.drop_succ_cons, List.drop_zero, List.range', Blk.ren, ren, ren1, List.map_cons, List.map_nil, List.cons_append, List.nil_append, List.append_nil, List.length_cons, List.length_nil, ev0, evA, evB, evP, fl, gp, tab, simprocAttr, reduceCtorEq, reduceIte]
  refine fin_run ?_ (hK _ ?_) <;> clear hK <;> clear K
  · (first | exact trivial | omega | (simp only [In64] at *; omega) | (simp [In64] at *; omega) | (simp_all; done) | skip)
  simp only [Tryd.results95, PostG, endG, rvsA, rvA, mkTup, ev0, evA, evB, evP, fl, gp, tab, simprocAttr, reduceCtorEq, reduceIte]
  all_goals (exact ⟨[0, 1, 2, 3, 4, 5], rfl, rfl, by simp only [leq, leA, ev0, evA, evB, evP, fl, gp, tab, simprocAttr, reduceCtorEq, reduceIte] <;> first | trivial | trace_state⟩)
end
end Go.Proofs.YtboadfahlflmhaaDoor

/-
  Walks: an isomorphism is found just where there is one. Conditions: none.
-/
set_option linter.all false
namespace Go.Proofs.YtboadfahlflmhaaDoor
open Go.Pv

section
variable {n e N d : Nat} {m M : List Int}
set_option maxHeartbeats 8000000 in
set_option maxRecDepth 20000 in
theorem iso_run (h : GT n m n e) (h' : GT n M n d) (hm : m.length ≤ 1000000000000000) (hM : M.length ≤ 1000000000000000) (hcn : rgz (n + 1) (cnt1 n (op m n) e n) = rgz (n + 1) (cnt1 n (op M n) d n)) {j : Option (List Int)} {b : Bool}
    (hf : foldS (prI (fA n) (oA n)) none (pls (hmW n m e n M d)) = (j, b)) (hj : (j = none ∧ b = true) ∨ (∃ v, j = some v ∧ b = false)) :
    FnC Tryd.prog 29 [gp n m, gp n M] (.tup [.list (il (j.getD [])), fl (if b then 6 else 0, 0)]) := by
  have hb := homBoth_c n m n M hm hM
  rw [tg_ok h h'] at hb
  have hn := h.2.1.big
  have hl1 := rgz_len (n + 1) (cnt1 n (op m n) e n)
  have hl2 := rgz_len (n + 1) (cnt1 n (op M n) d n)
  refine fnc_ofR tab_ok Tryd.func29 rfl (by kernel_rfl) (by rw [Tryd.ntmps29]; exact Nat.le_add_left 2 _) ?_; rw [Tryd.ntmps29]
  refine hr_seqH ?_
  refine hk_region fun K hK => runs_eval tab_ok ?_
  simp only [ev0, evA, evB, evP, fl, gp, tab, simprocAttr, reduceCtorEq, reduceIte]
  refine fin_run ?_ (hK _ ?_) <;> clear hK <;> clear K
  · (first | exact trivial | omega | (simp only [In64] at *; omega) | (simp [In64] at *; omega) | (simp_all; done) | skip)
  refine qa (hr_seqH (qm ?_))
  refine hk_region fun K hK => runs_eval tab_ok ?_
  simp only [ev0, evA, evB, evP, fl, gp, tab, simprocAttr, reduceCtorEq, reduceIte]
  refine fin_stop trivial (runs_call (hb) rfl rfl rfl (by simp only [dstOk, Nat.reduceLT]) (by repeat (first | exact trivial | constructor)) (runs_eval tab_ok ?_))
  simp only [ev0, evA, evB, evP, fl, gp, tab, simprocAttr, reduceCtorEq, reduceIte]
  refine fin_run ?_ (hK _ ?_) <;> clear hK <;> clear K
  · (first | exact trivial | omega | (simp only [In64] at *; omega) | (simp [In64] at *; omega) | (simp_all; done) | skip)
  refine qa (qm ?_)
  refine hk_region fun K hK => runs_eval tab_ok ?_
  simp only [ev0, evA, evB, evP, fl, gp, tab, simprocAttr, reduceCtorEq, reduceIte]
  refine fin_run ?_ (hK _ ?_) <;> clear hK <;> clear K
  · (first | exact trivial | omega | (simp only [In64] at *; omega) | (simp [In64] at *; omega) | (simp_all; done) | skip)
  refine qa ?_
  refine hk_cond rfl (fun hC1 => ?_) (fun hC1 => ?_)
  · (try simp only [nhs] at hC1)
    simp at hC1
  · (try simp only [nhs] at hC1)
    refine qh (qa (hr_seq (hr_seqH ?_)))
    refine hk_region fun K hK => runs_eval tab_ok ?_
    simp only [ev0, evA, evB, evP, fl, gp, tab, simprocAttr, reduceCtorEq, reduceIte]
    refine fin_run ?_ (hK _ ?_) <;> clear hK <;> clear K
    · (first | exact trivial | omega | (simp only [In64] at *; omega) | (simp [In64] at *; omega) | (simp_all; done) | skip)
    refine qa ?_
    refine hr_cond rfl (fun hC2 => ?_) (fun hC2 => ?_)
    · (try simp only [nhs] at hC2)
      refine hr_seqH ?_
      refine hk_region fun K hK => runs_eval tab_ok ?_
      simp only [ev0, evA, evB, evP, fl, gp, tab, simprocAttr, reduceCtorEq, reduceIte]
      refine fin_run trivial (hK _ ?_) <;> clear hK <;> clear K
      refine qa (hr_seqH ?_)
      refine hk_draw2 mixed fun K hK => runs2_eval tab_ok ?_
      simp only [evD, ev0, evA, evB, evP, fl, gp, tab, simprocAttr, reduceCtorEq, reduceIte]
      refine fin2_stop trivial (runs2_call (isoc_c h) rfl rfl rfl rfl (by simp only [dstOk, Nat.reduceLT]) (by repeat (first | exact trivial | constructor)) (runs2_eval tab_ok ?_))
      simp only [evD, ev0, evA, evB, evP, fl, gp, tab, simprocAttr, reduceCtorEq, reduceIte]
      refine fin2_stop trivial (runs2_call (isoc_c h') rfl rfl rfl rfl (by simp only [dstOk, Nat.reduceLT]) (by repeat (first | exact trivial | constructor)) (runs2_eval tab_ok ?_))
      simp only [evD, ev0, evA, evB, evP, fl, gp, tab, simprocAttr, reduceCtorEq, reduceIte]
      refine fin2_stop trivial (runs2_call (equal_c (rgz (n + 1) (cnt1 n (op m n) e n)) (rgz (n + 1) (cnt1 n (op M n) d n)) (by omega) (by omega)) rfl rfl rfl rfl (by simp only [dstOk, Nat.reduceLT]) (by repeat (first | exact trivial | constructor)) (runs2_eval tab_ok ?_))
      simp only [evD, ev0, evA, evB, evP, fl, gp, tab, simprocAttr, reduceCtorEq, reduceIte]
      refine fin2_run ?_ (hK _ _ (by first | kernel_rfl | rfl) ?_) <;> clear hK <;> clear K
      · (first | exact trivial | omega | (simp only [In64] at *; omega) | (simp [In64] at *; omega) | (simp_all; done) | skip)
      refine qa ?_
      refine hr_cond rfl (fun hC3 => ?_) (fun hC3 => ?_)
      · (try simp only [nhs] at hC3)
        refine hr_seqH ?_
        refine hk_freeze 0 rfl rfl ?_
        refine hk_freeze 1 rfl rfl ?_
        refine hk_pure 2 rfl (Nat.zero_le _) ?_
        refine hk_pure 3 rfl (Nat.zero_le _) ?_
        simp only [hset, List.drop_zero]
        refine hk_region fun K hK => runs_eval tab_ok ?_
        simp only [ev0, evA, evB, evP, fl, gp, tab, simprocAttr, reduceCtorEq, reduceIte]
        refine fin_run ?_ (hK _ ?_) <;> clear hK <;> clear K
        · (first | exact trivial | omega | (simp only [In64] at *; omega) | (simp [In64] at *; omega) | (simp_all; done) | skip)
        refine qa (hr_block ?_)
        refine hr_cl 31 rfl ?_
        refine hr_range (gs := 31) (pp := 32) (κ := 2) (q := 3) (n := 52) (sl := [(2, .p (.ptr [.int .i64 n, .list (il m)])), (3, .p (.ptr [.int .i64 n, .list (il M)])), (4, .ptr 0 0), (5, .ptr 1 0)]) (Hs0 := HV (prI (fA n) (oA n)) none) (Hf := HV (prI (fA n) (oA n)) j) (b := b) (gf := 95) (cap := [.p (.ptr [.int .i64 n, .list (il m)]), .p (.ptr [.int .i64 n, .list (il M)])]) (rv := .p (.tup [])) [2, 3, 5] rfl rfl
          (fun r0 => by simp only [HV, prI]; simp only [leq, leA, ev0, evA, evB, evP, fl, gp, tab, simprocAttr, reduceCtorEq, reduceIte] <;> first | trivial | trace_state) rfl (by decide) ⟨fun _ => rfl, fun _ _ => rfl⟩ ⟨fun _ => rfl, fun _ _ => rfl⟩ (fun r0 => rfl) rfl rfl (fun r0 r1 => by rcases hj with ⟨rfl, rfl⟩ | ⟨v, rfl, rfl⟩ <;> (simp only [HV, prI]; exact (by first | rfl | (simp [scQ, scA, sc1, mpKeep, notAnc, Blk.spc, opl_sc]; done))))
          (fun rec hr => iso2_c (prI (fA n) (oA n)) h h' _ rfl (by rw [hr.params]; rfl) (fun i x hi hx => yld_of hr (by decide) rfl (by decide) (sl1 := (8, .p x) :: [(2, .p (.ptr [.int .i64 n, .list (il m)])), (3, .p (.ptr [.int .i64 n, .list (il M)])), (4, .ptr 0 0), (5, .ptr 1 0)]) (H0 := HV (prI (fA n) (oA n)) i) (H1 := HV (prI (fA n) (oA n)) (Prot.nx (prI (fA n) (oA n)) i x)) ⟨fun _ => rfl, fun _ _ => rfl⟩ ⟨fun _ => rfl, fun _ _ => rfl⟩ (fun r0 => ?_) (fun r0 => ?_)) (fun φ hφ => ⟨_, rfl, tbm_len n φ, fun k hk => ⟨φ k, hφ.lt k hk, tbm_get hk⟩⟩) rfl none rfl hf) ?_ ?_
        · simp only [HV, prI, ancs, List.cons_append, List.nil_append, Nat.reduceAdd, Nat.zero_add]
          refine hk_region fun K hK => runs_eval tab_ok ?_
          simp only [ev0, evA, evB, evP, fl, gp, tab, simprocAttr, reduceCtorEq, reduceIte]
          refine fin_run trivial (hK _ ?_) <;> clear hK <;> clear K
          refine ⟨rfl, [0, 1, 2, 3, 4, 5], ?_⟩
          simp only [leq, leA, ev0, evA, evB, evP, fl, gp, tab, simprocAttr, reduceCtorEq, reduceIte] <;> first | trivial | trace_state
        · obtain ⟨v, rfl, hvl, hvn⟩ := hx
          have hi : i = none := hi
          subst hi
          have hfv : fA n (.list (il v)) = decide (onto1 v n) := fA_il n v
          have hgo : (prI (fA n) (oA n)).go none (.list (il v)) = !decide (onto1 v n) := by show (!fA n _) = _; rw [hfv]
          rw [hgo]
          have hnx : (prI (fA n) (oA n)).nx none (.list (il v)) = if onto1 v n then some v else none := by
            by_cases ho : onto1 v n
            · rw [if_pos ho]; exact prI_nx (by rw [hfv]; exact decide_eq_true ho) none
            · rw [if_neg ho]; exact prI_nn (by rw [hfv]; exact decide_eq_false ho) none
          rw [hnx]
          simp only [HV, prI, ancs, List.cons_append, List.nil_append, Nat.reduceAdd, Nat.zero_add]
          refine ql (qm ?_)
          refine hk_region fun K hK => runs_eval tab_ok ?_
          simp only [ev0, evA, evB, evP, fl, gp, tab, simprocAttr, reduceCtorEq, reduceIte, makeSliceA.eq_def, hbl_new]
          refine fin_run ?_ (hK _ ?_) <;> clear hK <;> clear K
          · omega
          refine qa (qm (qm ?_))
          refine hk_region fun K hK => runs_eval tab_ok ?_
          simp only [ev0, evA, evB, evP, fl, gp, tab, simprocAttr, reduceCtorEq, reduceIte, il_length, hvl]
          refine fin_run trivial (hK _ ?_) <;> clear hK <;> clear K
          refine qa (ql ?_)
          refine hk_loop (ι := Nat) (fun k => ⟨52, [(4, .ptr 0 0), (5, .ptr 1 0), (8, .p (.list (il v))), (9, .sl 6 0 n), (36, .p (.list (il v))), (37, .p (.int .i64 n)), (38, .p (.int .i64 k))], [.own [.p .nil], .own [.p (.int .i64 0), .p (.int .i64 0)], .lp r0, .anc 0 0, .anc 1 1, .anc 2 2, .own (opl (hbl n (hits v k)))]⟩) (fun k => k ≤ n) (fun k => n - k) 0 (Nat.zero_le _) [0, 1, 2, 3, 4, 5, 6] (by simp only [show hits v 0 = fun _ => false from funext (hits_zero _)]; simp only [leq, leA, ev0, evA, evB, evP, fl, gp, tab, simprocAttr, reduceCtorEq, reduceIte] <;> first | trivial | trace_state) fun k hk => ?_
          refine qm ?_
          refine hk_region fun K hK => runs_eval tab_ok ?_
          simp only [ev0, evA, evB, evP, fl, gp, tab, simprocAttr, reduceCtorEq, reduceIte]
          refine fin_run trivial (hK _ ?_) <;> clear hK <;> clear K
          refine qa (qm ?_)
          refine hk_cond rfl (fun hC4 => ?_) (fun hC4 => ?_)
          · (try simp only [nhs] at hC4)
            have hkl : k < n := by omega
            obtain ⟨y, lv, ev⟩ := hvn k hkl
            refine qh (qa (qm (ql (qm ?_))))
            refine hk_region fun K hK => runs_eval tab_ok ?_
            simp only [ev0, evA, evB, evP, fl, gp, tab, simprocAttr, reduceCtorEq, reduceIte, il_get (show k < v.length by omega), ev]
            refine fin_run ?_ (hK _ ?_) <;> clear hK <;> clear K
            · (first | exact trivial | omega | (simp only [In64] at *; omega) | (simp [In64] at *; omega) | (simp_all; done) | skip)
            refine qa ?_
            refine hk_region fun K hK => runs_eval tab_ok ?_
            simp only [ev0, evA, evB, evP, fl, gp, tab, simprocAttr, reduceCtorEq, reduceIte]
            refine fin_run ?_ (hK _ ?_) <;> clear hK <;> clear K
            · rw [hbl_len]; omega
            refine qd (qa ?_)
            rw [hbl_set]
            refine hk_region fun K hK => runs_eval tab_ok ?_
            simp only [ev0, evA, evB, evP, fl, gp, tab, simprocAttr, reduceCtorEq, reduceIte]
            refine fin_run ?_ (hK _ ?_) <;> clear hK <;> clear K
            · (first | exact trivial | omega | (simp only [In64] at *; omega) | (simp [In64] at *; omega) | (simp_all; done) | skip)
            refine qa ?_
            refine ⟨k + 1, [0, 1, 2, 3, 4, 5, 6], by omega, by omega, ?_⟩
            rw [hbl_congr (fun i' _ => hits_succ (l := v) (by omega) ev i')]
            simp only [leq, leA, ev0, evA, evB, evP, fl, gp, tab, simprocAttr, reduceCtorEq, reduceIte] <;> first | trivial | omega
          · (try simp only [nhs] at hC4)
            have hkn : k = n := by omega
            rw [hkn]
            have hon : decide (ixb n (hits v n) ≥ 0) = decide (¬ onto1 v n) := decide_eq_decide.2 (by
              rw [ixb_iff]
              unfold hits onto1
              rw [List.take_of_length_le (by omega)]
              constructor
              · rintro ⟨z, v1, v2⟩ ho
                exact (of_decide_eq_false v2) (ho.1 z v1)
              · intro ho
                by_cases hh : ∃ z, z < n ∧ ¬ ((z : Nat) : Int) ∈ v
                · obtain ⟨z, v1, v2⟩ := hh
                  exact ⟨z, v1, decide_eq_false v2⟩
                · exact absurd ⟨fun z hz => Classical.byContradiction fun h' => hh ⟨z, hz, h'⟩, hvl⟩ ho)
            refine hk_sealp 9 6 (hbl_all n (hits v n)) (by show AV.sl 6 0 n = AV.sl 6 0 _; rw [hbl_len]) rfl ?_
            refine qj (qc (qc (qf (qa (qm ?_)))))
            refine hk_region fun K hK => runs_eval tab_ok ?_
            simp only [ev0, evA, evB, evP, fl, gp, tab, simprocAttr, reduceCtorEq, reduceIte]
            refine fin_stop trivial (runs_call (containsB_c n (hits v n) (by omega)) rfl rfl rfl (by simp only [dstOk, Nat.reduceLT]) (by repeat (first | exact trivial | constructor)) (runs_eval tab_ok ?_))
            simp only [ev0, evA, evB, evP, fl, gp, tab, simprocAttr, reduceCtorEq, reduceIte, hon]
            refine fin_run trivial (hK _ ?_) <;> clear hK <;> clear K
            refine qa ?_
            refine hk_cond rfl (fun hC5 => ?_) (fun hC5 => ?_)
            · (try simp only [nhs] at hC5)
              have ho : onto1 v n := by simpa using hC5
              simp only [ho, decide_true, Bool.not_true, if_true, Bool.false_eq_true, if_false]
              refine qm ?_
              refine hk_region fun K hK => runs_eval tab_ok ?_
              simp only [ev0, evA, evB, evP, fl, gp, tab, simprocAttr, reduceCtorEq, reduceIte]
              refine fin_run ?_ (hK _ ?_) <;> clear hK <;> clear K
              · (first | exact trivial | omega | (simp only [In64] at *; omega) | (simp [In64] at *; omega) | (simp_all; done) | skip)
              refine qa (qk (qe ?_))
              refine ⟨rfl, [0, 1, 2, 3, 4, 5], ?_⟩
              simp only [leq, leA, ev0, evA, evB, evP, fl, gp, tab, simprocAttr, reduceCtorEq, reduceIte] <;> first | trivial | (simp; done) | trace_state
            · (try simp only [nhs] at hC5)
              have ho : ¬ onto1 v n := by simpa using hC5
              simp only [ho, decide_false, Bool.not_false, if_true, Bool.false_eq_true, if_false]
              refine qh (qd ?_)
              refine ⟨rfl, [0, 1, 2, 3, 4, 5], ?_⟩
              simp only [leq, leA, ev0, evA, evB, evP, fl, gp, tab, simprocAttr, reduceCtorEq, reduceIte] <;> first | trivial | (simp; done) | trace_state
        · intro hbt
          obtain ⟨rfl, _⟩ : j = none ∧ b = true := by
            rcases hj with h1 | ⟨v, _, h2⟩
            · exact h1
            · rw [h2] at hbt; cases hbt
          subst hbt
          simp only [HV, prI, ancs, List.cons_append, List.nil_append, Nat.reduceAdd, Nat.zero_add]
          refine qd (qa (hr_seqH ?_))
          refine hk_region fun K hK => runs_eval tab_ok ?_
          simp only [ev0, evA, evB, evP, fl, gp, tab, simprocAttr, reduceCtorEq, reduceIte]
          refine fin_stop trivial (runs_call (homFlt_c 6 0) rfl rfl rfl (by simp only [dstOk, Nat.reduceLT]) (by repeat (first | exact trivial | constructor)) (runs_eval tab_ok ?_))
          simp only [ev0, evA, evB, evP, fl, gp, tab, simprocAttr, reduceCtorEq, reduceIte]
          refine fin_run ?_ (hK _ ?_) <;> clear hK <;> clear K
          · (first | exact trivial | omega | (simp only [In64] at *; omega) | (simp [In64] at *; omega) | (simp_all; done) | skip)
          refine qa (hr_of_hk (qk ?_))
          simp only [Tryd.results29, enA, ev0, evA, evB, evP, fl, gp, tab, simprocAttr, reduceCtorEq, reduceIte]
          all_goals (rfl)
        · intro hbf
          obtain ⟨v, rfl, _⟩ : ∃ v, j = some v ∧ b = false := by
            rcases hj with ⟨_, h1⟩ | h2
            · rw [h1] at hbf; cases hbf
            · exact h2
          subst hbf
          simp only [HV, prI, ancs, List.cons_append, List.nil_append, Nat.reduceAdd, Nat.zero_add]
          refine qe (qb ?_)
          simp only [Tryd.results29, enA, ev0, evA, evB, evP, fl, gp, tab, simprocAttr, reduceCtorEq, reduceIte]
          all_goals (rfl)
      · (try simp only [nhs] at hC3)
        exact absurd hcn (by simpa using hC3)
    · (try simp only [nhs] at hC2)
      simp at hC2

/-- There is one just where groups are alike. -/
theorem iso_yes (h : GT n m n e) (h' : GT N M N d) (hm : m.length ≤ 1000000000000000) (hM : M.length ≤ 1000000000000000) (hex : ∃ φ, Isom n (op m n) N (op M N) φ) : ∃ φ, Isom n (op m n) N (op M N) φ ∧ FnC Tryd.prog 29 [gp n m, gp N M] (.tup [.list (il (tbm n φ)), fl (0, 0)]) := by
  obtain ⟨χ, hχ⟩ := hex
  obtain ⟨_, h2, _⟩ := isom_iff.1 hχ
  subst h2
  have hcn : rgz (n + 1) (cnt1 n (op m n) e n) = rgz (n + 1) (cnt1 n (op M n) d n) := rgz_congr fun k _ => hχ.cnt h.2.2 h'.2.2 k
  obtain ⟨w, hw, ho, hf⟩ := foldI_yes n (oA n) (hmW n m e n M d) ⟨tbm n χ, (hmW_mem h h' _).2 ⟨χ, hχ.1, rfl⟩, hχ.2⟩
  obtain ⟨φ, hφ, rfl⟩ := (hmW_mem h h' w).1 hw
  exact ⟨φ, ⟨hφ, ho⟩, iso_run h h' hm hM hcn hf (.inr ⟨_, rfl, rfl⟩)⟩
end
end Go.Proofs.YtboadfahlflmhaaDoor

/-
  The law QuotFirst. Conditions: none.
-/
set_option linter.all false
namespace Go.Proofs.YtboadfahlflmhaaDoor
open Go.Pv

set_option maxHeartbeats 4000000 in
theorem quotFirst_c (N : Int) (m : List Int) (N' : Int) (m' l : List Int) (hm : m.length ≤ 17592186043904) (hm' : m'.length ≤ 17592186043904) (hl : l.length ≤ 17592186043904) : FnC Tryd.prog 7 [gp N m, gp N' m', .list (il l)] (.bool true) := by
  have hr := homFault_c N m N' m' l (by omega) (by omega)
  refine fnc_of tab_ok Tryd.func7 rfl (by kernel_rfl) (by rw [Tryd.ntmps7]; exact Nat.le_add_left 3 _) ?_; rw [Tryd.ntmps7]
  refine qm ?_
  refine hk_region fun K hK => runs_eval tab_ok ?_
  simp only [ev0, evA, evB, evP, fl, gp, tab, simprocAttr, reduceCtorEq, reduceIte]
  refine fin_run ?_ (hK _ ?_) <;> clear hK <;> clear K
  · (first | exact trivial | omega | (simp only [In64] at *; omega) | (simp [In64] at *; omega) | (simp_all; done) | skip)
  refine qa (qm (qm ?_))
  refine hk_region fun K hK => runs_eval tab_ok ?_
  simp only [ev0, evA, evB, evP, fl, gp, tab, simprocAttr, reduceCtorEq, reduceIte]
  refine fin_stop trivial (runs_call (quotBegun_c) rfl rfl rfl (by simp only [dstOk, Nat.reduceLT]) (by repeat (first | exact trivial | constructor)) (runs_eval tab_ok ?_))
  simp only [ev0, evA, evB, evP, fl, gp, tab, simprocAttr, reduceCtorEq, reduceIte]
  refine fin_run trivial (hK _ ?_) <;> clear hK <;> clear K
  refine qa ?_
  refine hk_cond rfl (fun hC1 => ?_) (fun hC1 => ?_)
  · cases hC1
  · (try simp only [nhs] at hC1)
    refine qh (qa (qm ?_))
    by_cases hf : (homf N m N' m' l).1 = 0
    · obtain ⟨n, e, n', e', h, h', hH, hf⟩ := homf_ok hf
      obtain rfl := h.1
      obtain rfl := h'.1
      have hn := h.2.1.big
      have hn' := h'.2.1.big
      have G := h.2.2
      have GG := h'.2.2
      have hφ := hH.hmo
      have cK := kernel_ok h h' (by omega) (by omega) hH hf
      have cI := image_ok h h' (by omega) (by omega) hH hf
      have hkd : kerp l e' = fun a => decide (hv l a = e') := rfl
      have hks : Sub n (op m n) e (kerp l e') := by rw [hkd]; exact ker_sub G GG hφ
      have hkn : Nml n (op m n) e (kerp l e') := by rw [hkd]; exact ker_nml G GG hφ
      have his : Sub n' (op m' n') e' (imgp l n) := img_sub G GG hφ
      have hI := first_iso G GG hφ (kerp l e') (imgp l n) hkd (fun b => imgp_iff)
      have cQ := quotient_ok h (kerp l e') hks hkn
      have cP := part_ok h' (imgp l n) his
      have hQ := qtb_GT h hks hkn
      have hP := ptb_GT h' his
      have hql := (qtb_GT h hks hkn).2.1.big
      obtain ⟨φ, hφI, cIso⟩ := iso_yes hQ hP (by unfold qtb; rw [tbl_len]; have := sq_le hql; omega) (by unfold ptb; rw [tbl_len]; have := sq_le hP.2.1.big; omega) ⟨_, hI⟩
      have hF := homFault_c ((cst n (dco n (op m n) (kerp l e') (onp e))).length : Nat) (qtb n (op m n) (dco n (op m n) (kerp l e') (onp e))) ((thl n' (imgp l n)).length : Nat) (ptb n' (op m' n') (imgp l n)) (tbm (cst n (dco n (op m n) (kerp l e') (onp e))).length φ) (by unfold qtb; rw [tbl_len]; have := sq_le hql; omega) (by unfold ptb; rw [tbl_len]; have := sq_le hP.2.1.big; omega)
      rw [homf_of hQ hP (hom_of_hmo hQ.2.2 hφI.1)] at hF
      have htl := tbm_len (cst n (dco n (op m n) (kerp l e') (onp e))).length φ
      have hO := oneToOne_r (tbm (cst n (dco n (op m n) (kerp l e') (onp e))).length φ) (thl n' (imgp l n)).length (by omega) (by have := hP.2.1.big; omega)
      rw [decide_eq_true hφI.2] at hO
      refine hk_region fun K hK => runs_eval tab_ok ?_
      simp only [ev0, evA, evB, evP, fl, gp, tab, simprocAttr, reduceCtorEq, reduceIte]
      refine fin_stop trivial (runs_call (cK) rfl rfl rfl (by simp only [dstOk, Nat.reduceLT]) (by repeat (first | exact trivial | constructor)) (runs_eval tab_ok ?_))
      simp only [ev0, evA, evB, evP, fl, gp, tab, simprocAttr, reduceCtorEq, reduceIte]
      refine fin_run ?_ (hK _ ?_) <;> clear hK <;> clear K
      · (first | exact trivial | omega | (simp only [In64] at *; omega) | (simp [In64] at *; omega) | (simp_all; done) | skip)
      refine qa (qm ?_)
      refine hk_region fun K hK => runs_eval tab_ok ?_
      simp only [ev0, evA, evB, evP, fl, gp, tab, simprocAttr, reduceCtorEq, reduceIte]
      refine fin_stop trivial (runs_call (cI) rfl rfl rfl (by simp only [dstOk, Nat.reduceLT]) (by repeat (first | exact trivial | constructor)) (runs_eval tab_ok ?_))
      simp only [ev0, evA, evB, evP, fl, gp, tab, simprocAttr, reduceCtorEq, reduceIte]
      refine fin_run ?_ (hK _ ?_) <;> clear hK <;> clear K
      · (first | exact trivial | omega | (simp only [In64] at *; omega) | (simp [In64] at *; omega) | (simp_all; done) | skip)
      refine qa (qm (qm ?_))
      refine hk_region fun K hK => runs_eval tab_ok ?_
      simp only [ev0, evA, evB, evP, fl, gp, tab, simprocAttr, reduceCtorEq, reduceIte]
      refine fin_run ?_ (hK _ ?_) <;> clear hK <;> clear K
      · (first | exact trivial | omega | (simp only [In64] at *; omega) | (simp [In64] at *; omega) | (simp_all; done) | skip)
      refine qa ?_
      refine hk_cond rfl (fun hC2 => ?_) (fun hC2 => ?_)
      · cases hC2
      · (try simp only [nhs] at hC2)
        refine qh (qa (qm ?_))
        refine hk_region fun K hK => runs_eval tab_ok ?_
        simp only [ev0, evA, evB, evP, fl, gp, tab, simprocAttr, reduceCtorEq, reduceIte]
        refine fin_stop trivial (runs_call (cQ) rfl rfl rfl (by simp only [dstOk, Nat.reduceLT]) (by repeat (first | exact trivial | constructor)) (runs_eval tab_ok ?_))
        simp only [ev0, evA, evB, evP, fl, gp, tab, simprocAttr, reduceCtorEq, reduceIte]
        refine fin_run ?_ (hK _ ?_) <;> clear hK <;> clear K
        · (first | exact trivial | omega | (simp only [In64] at *; omega) | (simp [In64] at *; omega) | (simp_all; done) | skip)
        refine qa (qm ?_)
        refine hk_region fun K hK => runs_eval tab_ok ?_
        simp only [ev0, evA, evB, evP, fl, gp, tab, simprocAttr, reduceCtorEq, reduceIte]
        refine fin_stop trivial (runs_call (cP) rfl rfl rfl (by simp only [dstOk, Nat.reduceLT]) (by repeat (first | exact trivial | constructor)) (runs_eval tab_ok ?_))
        simp only [ev0, evA, evB, evP, fl, gp, tab, simprocAttr, reduceCtorEq, reduceIte]
        refine fin_run ?_ (hK _ ?_) <;> clear hK <;> clear K
        · (first | exact trivial | omega | (simp only [In64] at *; omega) | (simp [In64] at *; omega) | (simp_all; done) | skip)
        refine qa (qm (qm ?_))
        refine hk_region fun K hK => runs_eval tab_ok ?_
        simp only [ev0, evA, evB, evP, fl, gp, tab, simprocAttr, reduceCtorEq, reduceIte]
        refine fin_run ?_ (hK _ ?_) <;> clear hK <;> clear K
        · (first | exact trivial | omega | (simp only [In64] at *; omega) | (simp [In64] at *; omega) | (simp_all; done) | skip)
        refine qa ?_
        refine hk_cond rfl (fun hC3 => ?_) (fun hC3 => ?_)
        · cases hC3
        · (try simp only [nhs] at hC3)
          refine qh (qa (qm ?_))
          refine hk_region fun K hK => runs_eval tab_ok ?_
          simp only [ev0, evA, evB, evP, fl, gp, tab, simprocAttr, reduceCtorEq, reduceIte]
          refine fin_stop trivial (runs_call (cIso) rfl rfl rfl (by simp only [dstOk, Nat.reduceLT]) (by repeat (first | exact trivial | constructor)) (runs_eval tab_ok ?_))
          simp only [ev0, evA, evB, evP, fl, gp, tab, simprocAttr, reduceCtorEq, reduceIte]
          refine fin_run ?_ (hK _ ?_) <;> clear hK <;> clear K
          · (first | exact trivial | omega | (simp only [In64] at *; omega) | (simp [In64] at *; omega) | (simp_all; done) | skip)
          refine qa (qm ?_)
          refine hk_region fun K hK => runs_eval tab_ok ?_
          simp only [ev0, evA, evB, evP, fl, gp, tab, simprocAttr, reduceCtorEq, reduceIte]
          refine fin_stop trivial (runs_call (hF) rfl rfl rfl (by simp only [dstOk, Nat.reduceLT]) (by repeat (first | exact trivial | constructor)) (runs_eval tab_ok ?_))
          simp only [ev0, evA, evB, evP, fl, gp, tab, simprocAttr, reduceCtorEq, reduceIte]
          refine fin_stop trivial (runs_call (hO) rfl rfl rfl (by simp only [dstOk, Nat.reduceLT]) (by repeat (first | exact trivial | constructor)) (runs_eval tab_ok ?_))
          simp only [ev0, evA, evB, evP, fl, gp, tab, simprocAttr, reduceCtorEq, reduceIte]
          refine fin_run ?_ (hK _ ?_) <;> clear hK <;> clear K
          · (first | exact trivial | omega | (simp only [In64] at *; omega) | (simp [In64] at *; omega) | (simp_all; done) | skip)
          refine qa (qk ?_)
          simp only [Tryd.results7, enA, ev0, evA, evB, evP, fl, gp, tab, simprocAttr, reduceCtorEq, reduceIte]
          all_goals (rfl)
    · have cK := kernel_no N m N' m' l (by omega) (by omega) hf
      have cI := image_no N m N' m' l (by omega) (by omega) hf
      refine hk_region fun K hK => runs_eval tab_ok ?_
      simp only [ev0, evA, evB, evP, fl, gp, tab, simprocAttr, reduceCtorEq, reduceIte]
      refine fin_stop trivial (runs_call (cK) rfl rfl rfl (by simp only [dstOk, Nat.reduceLT]) (by repeat (first | exact trivial | constructor)) (runs_eval tab_ok ?_))
      simp only [ev0, evA, evB, evP, fl, gp, tab, simprocAttr, reduceCtorEq, reduceIte]
      refine fin_run ?_ (hK _ ?_) <;> clear hK <;> clear K
      · (first | exact trivial | omega | (simp only [In64] at *; omega) | (simp [In64] at *; omega) | (simp_all; done) | skip)
      refine qa (qm ?_)
      refine hk_region fun K hK => runs_eval tab_ok ?_
      simp only [ev0, evA, evB, evP, fl, gp, tab, simprocAttr, reduceCtorEq, reduceIte]
      refine fin_stop trivial (runs_call (cI) rfl rfl rfl (by simp only [dstOk, Nat.reduceLT]) (by repeat (first | exact trivial | constructor)) (runs_eval tab_ok ?_))
      simp only [ev0, evA, evB, evP, fl, gp, tab, simprocAttr, reduceCtorEq, reduceIte]
      refine fin_run ?_ (hK _ ?_) <;> clear hK <;> clear K
      · (first | exact trivial | omega | (simp only [In64] at *; omega) | (simp [In64] at *; omega) | (simp_all; done) | skip)
      refine qa (qm (qm ?_))
      refine hk_region fun K hK => runs_eval tab_ok ?_
      simp only [ev0, evA, evB, evP, fl, gp, tab, simprocAttr, reduceCtorEq, reduceIte, decide_eq_false hf]
      refine fin_run ?_ (hK _ ?_) <;> clear hK <;> clear K
      · (first | exact trivial | omega | (simp only [In64] at *; omega) | (simp [In64] at *; omega) | (simp_all; done) | skip)
      refine qa ?_
      refine hk_cond rfl (fun hC2 => ?_) (fun hC2 => ?_)
      · refine qm ?_
        refine hk_region fun K hK => runs_eval tab_ok ?_
        simp only [ev0, evA, evB, evP, fl, gp, tab, simprocAttr, reduceCtorEq, reduceIte, decide_eq_false hf]
        refine fin_stop trivial (runs_call (hr) rfl rfl rfl (by simp only [dstOk, Nat.reduceLT]) (by repeat (first | exact trivial | constructor)) (runs_eval tab_ok ?_))
        simp only [ev0, evA, evB, evP, fl, gp, tab, simprocAttr, reduceCtorEq, reduceIte, decide_eq_false hf]
        refine fin_run ?_ (hK _ ?_) <;> clear hK <;> clear K
        · (first | exact trivial | omega | (simp only [In64] at *; omega) | (simp [In64] at *; omega) | (simp_all; done) | skip)
        refine qa (qk (qb ?_))
        simp only [Tryd.results7, enA, ev0, evA, evB, evP, fl, gp, tab, simprocAttr, reduceCtorEq, reduceIte]
        all_goals (rfl)
      · cases hC2
end Go.Proofs.YtboadfahlflmhaaDoor

/-
  What the listed package-level variable gives a walk: a table of numbers. Conditions: none; written by a program of this repo.
-/
set_option linter.all false
namespace Go.Proofs.YtboadfahlflmhaaDoor
open Go.Pv Go.ChangeShapes Go.WideShapes Go.ChangeAt Go.WideElems Go.RowKit

theorem own : ownKnob Tryd.prog.godebug = none := by kernel_rfl
theorem laidOut : laidOutB Tryd.prog = true := by kernel_rfl
theorem gG : Tryd.prog.globalNamed "math/bits.deBruijn64tab" = some 0 := by kernel_rfl
theorem tG : (Tryd.prog.globals[0]?).map (·.type) = some 135 := by kernel_rfl
theorem cG : Tryd.prog.cellsOf 5 = 1 := by kernel_rfl
/-- The door's own heap meets the condition. -/
theorem door_met (os : Os) (args : Array Value) : laidMetH Tryd.prog [("math/bits.deBruijn64tab", Rows.laid_math_bits_deBruijn64tab)] ((World.doorLaid Tryd.prog 4000 os).forCall (fun _ _ => 0) ⟨#[], args, []⟩).memory :=
  laidMetH_of_parts3 (fuel := 8) (laidMet_of_run' 8 (by kernel_rfl) (by kernel_rfl)) (by kernel_rfl) (by kernel_rfl)

def convD : DataW Unit → PV
  | .lit (.int k n) => .int k n
  | _ => .nil
def datum : List (DataW Unit) → List PV := List.map convD
theorem glob_datum : (match (Rows.laid_math_bits_deBruijn64tab : DataW Unit) with | .agg l => datum l | _ => []) = glob0 := rfl

theorem laid_ok {W : World} (h : laidMetH Tryd.prog [("math/bits.deBruijn64tab", Rows.laid_math_bits_deBruijn64tab)] W) : LaidW (fun b => b < W.heap.size) W := by
  refine ⟨fun b h => h, fun g l hg => ?_⟩
  have hg2 : g = 0 ∧ l = glob0 := by
    unfold gv at hg
    by_cases e : g = 0
    · subst e; exact ⟨rfl, (Option.some.inj hg).symm⟩
    · have : (g == 0) = false := by simpa using e
      rw [this] at hg; simp at hg
  obtain ⟨rfl, rfl⟩ := hg2
  rw [MakeChecks.laidMetH_plain _ _ _ (by kernel_rfl)] at h
  obtain ⟨ps, ⟨g0, t0, cs0, f0, p0, q0, hg0, ht0, hv0, hd0, _, _⟩, _, _⟩ := h
  obtain rfl := Option.some.inj (gG.symm.trans hg0)
  obtain rfl := Option.some.inj (tG.symm.trans ht0)
  obtain ⟨xs, m1, rfl, hx1, hlen, hn3, hel⟩ := DataW.trod_array Tryd.underlying135 hd0
  have hd1 : Rows.laid_math_bits_deBruijn64tab = DataW.agg (xs.map (·.1)) := congrArg Prod.fst hx1
  have hgl : glob0 = datum (xs.map (·.1)) := by
    rw [← glob_datum, hd1]
  have key : ∀ c (h : c < glob0.length), W.cell? ⟨0, 0 + c, none⟩ = some ((cs0[c]?).getD undef) ∧ Reads (fun b => b < W.heap.size) W glob0[c] ((cs0[c]?).getD undef) := by
    intro c hc
    have hc2 : c < 64 := Nat.lt_of_lt_of_le hc (by decide)
    have hcx : c < xs.length := by omega
    have h1 := hel c hc2
    rw [List.getElem?_eq_getElem hcx] at h1
    obtain ⟨k, e1, e2, _⟩ := DataW.trod_int Tryd.underlying5 h1
    rw [cG] at e1
    have e3 : cs0.toList[c]? = some (.int .u8 k) := by
      have := congrArg (fun l => l[0]?) e1
      simpa [List.getElem?_take, List.getElem?_drop] using this
    have e4 : cs0[c]? = some (.int .u8 k) := by simpa using e3
    have e5 : glob0[c] = .int .u8 k := by
      have : glob0[c]? = (datum (xs.map (·.1)))[c]? := by rw [hgl]
      rw [List.getElem?_eq_getElem hc] at this
      simp only [datum, List.getElem?_map, List.getElem?_eq_getElem hcx, Option.map_some, Option.some.injEq] at this
      exact this.trans (by rw [e2]; rfl)
    refine ⟨?_, ?_⟩
    · rw [e4, Nat.zero_add, World.var?_cell gG hv0 c, e4]; rfl
    · rw [e4]
      exact e5 ▸ (Reads.int .u8 k)
  refine .ptr _ _ _ (fun c => (cs0[c]?).getD undef) ?_ (fun c hc => (key c hc).1) fun c hc => (key c hc).2
  have := (key 0 (by decide)).1
  unfold World.cell? at this
  rcases Nat.lt_or_ge 0 W.heap.size with h | h
  · exact h
  · exfalso
    rw [Array.getElem?_eq_none h] at this
    simp at this
end Go.Proofs.YtboadfahlflmhaaDoor
