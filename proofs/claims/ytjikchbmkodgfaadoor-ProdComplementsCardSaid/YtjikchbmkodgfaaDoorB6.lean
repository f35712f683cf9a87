/-
  Texts of this proof, one behind the other: what each says stands at its head. Conditions: none.
-/
import Derived.Test.YtjikchbmkodgfaaDoorB5
import Derived.Test.YtjikchbmkodgfaaDoorB3
import Derived.Shelf.SlSortCmp.Whole1
import Derived.Test.YtjikchbmkodgfaaDoorProg
import Derived.Shelf.SlLaysF
import Derived.Test.YtjikchbmkodgfaaDoorB4
import Derived.Maps.RangeRun

/-
  Plain law: all subgroups from cyclic ones on, by what two make; putting in order by changing places. Conditions: none.
-/
set_option linter.all false
namespace Go.Proofs.YtjikchbmkodgfaaDoor
open Go.Pv

section
variable {n e : Nat} {f : Nat → Nat → Nat}
/-- What one thing makes. -/
noncomputable def cyg (n : Nat) (f : Nat → Nat → Nat) (e b : Nat) : Nat → Bool := gn n f e (onp b)
theorem cyg_iff {b : Nat} : ∀ a, a < n → (cyg n f e b a = true ↔ Gen n f e (onp b) a) := gn_iff _
theorem cyg_sub (G : Grp n f e) (b : Nat) : Sub n f e (cyg n f e b) := gen_sub G cyg_iff
theorem cyg_in (G : Grp n f e) {b : Nat} (hb : b < n) : cyg n f e b b = true := (cyg_iff b hb).2 (Gen.mem G hb (onp_iff.2 rfl))
theorem cyg_le (G : Grp n f e) {b : Nat} {p : Nat → Bool} (hp : Sub n f e p) (h : p b = true) {a : Nat} (ha : a < n) (hc : cyg n f e b a = true) : p a = true :=
  ((cyg_iff a ha).1 hc).sub G hp fun x _ hx => by rw [onp_iff] at hx; rw [hx]; exact h
theorem cyg_one (G : Grp n f e) : ∀ a, a < n → cyg n f e e a = onp e a := fun a ha => by
  rw [Bool.eq_iff_iff]
  constructor
  · exact cyg_le G G.onp_sub (onp_iff.2 rfl) ha
  · intro h; rw [onp_iff] at h; rw [h]; exact (cyg_sub G e).one
def oru2 (p q : Nat → Bool) (a : Nat) : Bool := p a || q a
/-- What is closed under joining with cyclic ones has all with one thing more. -/
theorem join_dn (G : Grp n f e) {L : List Nat} {x a : Nat} {p : Nat → Bool} (ha : a < n) (hx : x = bo n p) (h : bo n (gn n f e (oru2 p (cyg n f e a))) ∈ L) : Dn n f e x a L := fun q hq => by
  have : bo n q = bo n (gn n f e (oru2 p (cyg n f e a))) := bo_congr fun y hy => by
    have hpb : ∀ z, z < n → x.testBit z = p z := fun z hz => by rw [hx, bo_bit]; simp [hz]
    rw [Bool.eq_iff_iff, hq y hy, gn_iff _ y hy]
    constructor
    · refine Gen.mono fun b hb hw => ?_
      unfold wta at hw
      rw [Bool.or_eq_true, decide_eq_true_eq, hpb b hb] at hw
      unfold oru2
      rcases hw with hw | hw
      · rw [hw]; rfl
      · rw [hw, cyg_in G ha]; simp
    · intro hg
      have hq2 := gen_sub G hq
      refine (hq y hy).1 (hg.sub G hq2 fun b hb hw => ?_)
      unfold oru2 at hw
      rw [Bool.or_eq_true] at hw
      rcases hw with hw | hw
      · exact (hq b hb).2 (Gen.mem G hb (by unfold wta; rw [hpb b hb, hw]; rfl))
      · exact cyg_le G hq2 ((hq a ha).2 (Gen.mem G ha (by unfold wta; simp))) hb hw
  rw [this]; exact h
theorem join_in (G : Grp n f e) {p c : Nat → Bool} (hp : Sub n f e p) (h : ∀ a, a < n → c a = true → p a = true) : bo n (gn n f e (oru2 p c)) = bo n p := bo_congr fun y hy => by
  rw [Bool.eq_iff_iff, gn_iff _ y hy]
  constructor
  · exact fun hg => hg.sub G hp fun b hb hw => by
      unfold oru2 at hw
      rw [Bool.or_eq_true] at hw
      exact hw.elim id (h b hb)
  · exact fun h1 => Gen.mem G hy (by unfold oru2; rw [h1]; rfl)
end

/-! ### Putting in order -/
def lts (x y : Nat) : Prop := cmpS (stl x) (stl y) < 0
theorem lts_self (x : Nat) : ¬ lts x x := cmpS_self _
theorem lts_trans {x y z : Nat} (h1 : lts x y) (h2 : lts y z) : lts x z := cmpS_trans _ _ _ h1 h2
theorem lts_asym {x y : Nat} (h1 : lts x y) : ¬ lts y x := fun h2 => lts_self _ (lts_trans h1 h2)
/-- Two places changed. -/
def swp (M : List Nat) (i k : Nat) : List Nat := (M.set i (M.getD k 0)).set k (M.getD i 0)
theorem swp_len (M : List Nat) (i k : Nat) : (swp M i k).length = M.length := by simp [swp]
theorem swp_get {M : List Nat} {i k : Nat} (hi : i < M.length) (hk : k < M.length) (j : Nat) (hj : j < M.length) : (swp M i k).getD j 0 = if j = k then M.getD i 0 else if j = i then M.getD k 0 else M.getD j 0 := by
  unfold swp
  rw [List.getD_eq_getElem?_getD, List.getElem?_set]
  by_cases h1 : j = k
  · rw [if_pos h1.symm, if_pos h1]
    simp [hk]
  · rw [if_neg (Ne.symm h1), if_neg h1, List.getElem?_set]
    by_cases h2 : j = i
    · rw [if_pos h2.symm, if_pos h2]
      simp [hi]
    · rw [if_neg (Ne.symm h2), if_neg h2, List.getD_eq_getElem?_getD]
theorem swp_perm {M : List Nat} {i k : Nat} (hi : i < M.length) (hk : k < M.length) : (swp M i k).Perm M := by
  unfold swp
  have h1 : M.getD k 0 = M[k] := by simp [List.getD, List.getElem?_eq_getElem hk]
  have h2 : M.getD i 0 = M[i] := by simp [List.getD, List.getElem?_eq_getElem hi]
  rw [h1, h2]
  exact List.set_set_perm hi hk
structure OrdI (i k : Nat) (M : List Nat) : Prop where
  out : ∀ a b, a < i → a < b → b < M.length → ¬ lts (M.getD b 0) (M.getD a 0)
  inn : ∀ b, i < b → b < k → ¬ lts (M.getD b 0) (M.getD i 0)
theorem OrdI.skip {i k : Nat} {M : List Nat} (h : OrdI i k M) (hl : ¬ lts (M.getD k 0) (M.getD i 0)) : OrdI i (k + 1) M :=
  ⟨h.out, fun b h1 h2 => by
    by_cases hb : b = k
    · rw [hb]; exact hl
    · exact h.inn b h1 (by omega)⟩
theorem OrdI.swap {i k : Nat} {M : List Nat} (h : OrdI i k M) (hik : i < k) (hk : k < M.length) (hl : lts (M.getD k 0) (M.getD i 0)) : OrdI i (k + 1) (swp M i k) := by
  have hi : i < M.length := by omega
  refine ⟨fun a b h1 h2 h3 => ?_, fun b h1 h2 => ?_⟩
  · rw [swp_len] at h3
    rw [swp_get hi hk b h3, swp_get hi hk a (by omega), if_neg (show ¬ a = k by omega), if_neg (show ¬ a = i by omega)]
    by_cases hb : b = k
    · rw [if_pos hb]; exact h.out a i h1 h1 hi
    · rw [if_neg hb]
      by_cases hb2 : b = i
      · rw [if_pos hb2]; exact h.out a k h1 (by omega) hk
      · rw [if_neg hb2]; exact h.out a b h1 h2 h3
  · rw [swp_get hi hk b (by omega), swp_get hi hk i hi, if_neg (show ¬ i = k by omega), if_pos rfl]
    by_cases hb : b = k
    · rw [if_pos hb]; exact lts_asym hl
    · rw [if_neg hb, if_neg (show ¬ b = i by omega)]
      exact fun h3 => h.inn b h1 (by omega) (lts_trans h3 hl)
theorem OrdI.next {i : Nat} {M : List Nat} (h : OrdI i M.length M) : OrdI (i + 1) (i + 2) M :=
  ⟨fun a b h1 h2 h3 => by
    by_cases ha : a = i
    · rw [ha] at h2 ⊢; exact h.inn b h2 h3
    · exact h.out a b (by omega) h2 h3, fun b h1 h2 => by omega⟩
theorem ord_unique {M L : List Nat} (hp : M.Perm L) (hL : L.Pairwise fun x y => lts x y) (hb : ∀ x ∈ L, x < 2 ^ 64) (hM : ∀ a b, a < b → b < M.length → ¬ lts (M.getD b 0) (M.getD a 0)) : M = L := by
  have hnd : L.Nodup := hL.imp fun {x y} h he => by subst he; exact lts_self _ h
  have hMp : M.Pairwise fun x y => ¬ lts y x := by
    rw [List.pairwise_iff_getElem]
    intro a b ha hb' hab
    have := hM a b hab hb'
    simpa [List.getD, List.getElem?_eq_getElem ha, List.getElem?_eq_getElem hb'] using this
  clear hM
  induction M generalizing L with
  | nil => exact (List.nil_perm.1 hp).symm
  | cons x r ih =>
    cases L with
    | nil => exact absurd hp.length_eq (by simp)
    | cons y s =>
      have hxy : x = y := by
        have hx : x ∈ y :: s := hp.subset (by simp)
        have hy : y ∈ x :: r := hp.symm.subset (by simp)
        rcases List.mem_cons.1 hx with hx | hx
        · exact hx
        · rcases List.mem_cons.1 hy with hy | hy
          · exact hy.symm
          · exact absurd ((List.pairwise_cons.1 hL).1 x hx) ((List.pairwise_cons.1 hMp).1 y hy)
      subst hxy
      rw [ih (List.Perm.cons_inv hp) (List.pairwise_cons.1 hL).2 (fun z hz => hb z (by simp [hz])) (List.nodup_cons.1 hnd).2 (List.pairwise_cons.1 hMp).2]
end Go.Proofs.YtjikchbmkodgfaaDoor

/-
  Plain: complements of a normal part (Schur and Zassenhaus, where things are few). Conditions: none.
-/
set_option linter.all false
namespace Go.Proofs.YtjikchbmkodgfaaDoor

section
variable {n e : Nat} {f : Nat → Nat → Nat} {p q : Nat → Bool}
theorem Grp.nml_gen (G : Grp n f e) (hp : Sub n f e p) (hN : Nml n f e p) (hq : Sub n f e q) {x : Nat} (hx : x < n) : Gen n f e (oru2 q p) x ↔ pr2 n f e p q x = true := by
  constructor
  · intro h
    refine Gen.sub G (G.nz_prod hp hq fun a ha _ => G.nml_iff.1 hN a ha) (fun b hb h1 => ?_) h
    unfold oru2 at h1
    rw [Bool.or_eq_true] at h1
    rcases h1 with h1 | h1
    · have := G.pr2_mk (p := p) (q := q) G.el hb hp.one h1; rwa [G.one_l b hb] at this
    · have := G.pr2_mk (p := p) (q := q) hb G.el h1 hq.one; rwa [G.one_r b hb] at this
  · intro h
    obtain ⟨a, b, a1, b1, a2, b2, rfl⟩ := G.pr2_un hx h
    exact Gen.mul G (Gen.mem G a1 (by simp [oru2, a2])) (Gen.mem G b1 (by simp [oru2, b2]))

/-- A complement, as a set's number tells it. -/
def cpb (n : Nat) (p : Nat → Bool) (x : Nat) : Bool := decide ((mem n x.testBit).length * (mem n p).length = n ∧ (mem n fun y => x.testBit y && p y).length = 1)
theorem cpb_bo : cpb n p (bo n q) = decide ((mem n q).length * (mem n p).length = n ∧ (mem n fun y => q y && p y).length = 1) := by
  unfold cpb
  rw [mem_congr (P := (bo n q).testBit) (Q := q) fun a ha => by rw [bo_bit]; simp [ha], mem_congr (P := fun y => (bo n q).testBit y && p y) (Q := fun y => q y && p y) fun a ha => by rw [bo_bit]; simp [ha]]
theorem Grp.cpb_doc (G : Grp n f e) (hp : Sub n f e p) (hN : Nml n f e p) (hq : Sub n f e q) : cpb n p (bo n q) = (decide ((mem n fun y => q y && p y).length = 1) && decide ((mem n (gn n f e (oru2 q p))).length = n)) := by
  rw [cpb_bo, ← Bool.decide_and]
  refine decide_eq_decide.2 ?_
  have h1 := G.prod_count hp hq
  rw [mem_congr (P := fun x => p x && q x) (Q := fun x => q x && p x) fun a _ => Bool.and_comm _ _] at h1
  have h2 : (mem n (gn n f e (oru2 q p))).length = (mem n (pr2 n f e p q)).length := by
    congr 1
    exact mem_congr fun a ha => by rw [Bool.eq_iff_iff, gn_iff _ a ha, G.nml_gen hp hN hq ha]
  rw [h2]
  constructor
  · rintro ⟨h3, h4⟩
    rw [h4, Nat.mul_one] at h1
    exact ⟨h4, by rw [h1, Nat.mul_comm]; exact h3⟩
  · rintro ⟨h3, h4⟩
    rw [h3, Nat.mul_one] at h1
    exact ⟨by rw [Nat.mul_comm, ← h1]; exact h4, h3⟩
theorem Grp.meet_one (G : Grp n f e) (hq : Sub n f e q) (hp : Sub n f e p) : (mem n fun y => q y && p y).length = 1 ↔ bo n (fun y => q y && p y) = bo n (onp e) := by
  rw [G.meet_len hq hp]
  constructor
  · intro h
    refine bo_congr fun a ha => ?_
    rw [Bool.eq_iff_iff, Bool.and_eq_true, onp_iff]
    exact ⟨fun ⟨h1, h2⟩ => h a ha h1 h2, fun h1 => by rw [h1]; exact ⟨hq.one, hp.one⟩⟩
  · intro h a ha h1 h2
    have h3 := congrArg (fun x => x.testBit a) h
    simp only [bo_bit] at h3
    rw [h1, h2] at h3
    have : onp e a = true := by simpa [ha] using h3.symm
    exact onp_iff.1 this

theorem few_powB : ((List.range 13).all fun a => (List.range 13).all fun b => !(decide (2 ≤ a) && decide (2 ≤ b) && decide (a * b ≤ 24) && decide (Nat.gcd a b = 1)) || (List.range 12).any fun P => (List.range 4).any fun k => decide (isPr P) && decide (b = P ^ k) && decide (1 ≤ k)) = true := by decide +kernel
theorem few_pow {a b : Nat} (ha : a < 13) (hb : b < 13) (h1 : 2 ≤ a) (h2 : 2 ≤ b) (h3 : a * b ≤ 24) (h4 : Nat.gcd a b = 1) : ∃ P k, isPr P ∧ b = P ^ k ∧ 1 ≤ k := by
  have h := List.all_eq_true.1 (List.all_eq_true.1 few_powB a (List.mem_range.2 ha)) b (List.mem_range.2 hb)
  simp only [h1, h2, h3, h4, decide_true, Bool.and_true, Bool.not_true, Bool.false_or] at h
  obtain ⟨P, _, h⟩ := List.any_eq_true.1 h
  obtain ⟨k, _, h⟩ := List.any_eq_true.1 h
  simp only [Bool.and_eq_true, decide_eq_true_eq] at h
  exact ⟨P, k, h.1.1, h.1.2, h.2⟩

/-- SCHUR AND ZASSENHAUS: there is a complement. -/
theorem Grp.schur (G : Grp n f e) (hb : n ≤ 24) (hp : Sub n f e p) (hco : Nat.gcd (mem n p).length (n / (mem n p).length) = 1) : ∃ q, Sub n f e q ∧ cpb n p (bo n q) = true := by
  have hdv : (mem n p).length ∣ n := by
    have := hp.dvd G (K := fun _ => true) fun _ _ _ _ _ _ => rfl
    rwa [show (mem n fun _ => true).length = n by unfold mem; rw [List.filter_eq_self.2 fun _ _ => rfl, List.length_range]] at this
  obtain ⟨b, hb2⟩ := hdv
  have hpos := hp.pos G.el
  have hnpos : 0 < n := Nat.lt_of_le_of_lt (Nat.zero_le _) G.el
  have hbq : n / (mem n p).length = b := by
    exact Nat.div_eq_of_eq_mul_right hpos hb2
  rw [hbq] at hco
  have key : ∀ q, Sub n f e q → (mem n q).length = b → ∃ q, Sub n f e q ∧ cpb n p (bo n q) = true := fun q hq hl => by
    refine ⟨q, hq, ?_⟩
    rw [cpb_bo, decide_eq_true_eq]
    refine ⟨by rw [hl, Nat.mul_comm]; exact hb2.symm, ?_⟩
    have h1 := (hq.and hp).dvd G (K := q) fun a c ha hc h1 h2 => hq.mul a c ha hc h1 (by rw [Bool.and_eq_true] at h2; exact h2.1)
    have h2 := (hq.and hp).dvd G (K := p) fun a c ha hc h1 h2 => hp.mul a c ha hc h1 (by rw [Bool.and_eq_true] at h2; exact h2.2)
    rw [hl] at h1
    have := Nat.dvd_gcd h2 h1
    rw [hco] at this
    exact Nat.dvd_one.1 this
  by_cases hb1 : b = 1
  · refine key (onp e) ?_ ?_
    · exact sub_of G (onp_iff.2 rfl) fun x y hx hy h1 h2 => by
        rw [onp_iff] at *
        rw [h1, h2]; exact G.one_l e G.el
    · rw [hb1]; exact mem_one G.el fun a ha => onp_iff
  by_cases ha1 : (mem n p).length = 1
  · refine key (fun _ => true) ?_ ?_
    · exact sub_of G rfl fun _ _ _ _ _ _ => rfl
    · rw [show (mem n fun _ => true).length = n by unfold mem; rw [List.filter_eq_self.2 fun _ _ => rfl, List.length_range]]
      rw [ha1] at hb2; omega
  have hbpos : 0 < b := by
    rcases Nat.eq_zero_or_pos b with h0 | h0
    · rw [h0] at hb2; omega
    · exact h0
  have hle : (mem n p).length * b ≤ 24 := by rw [← hb2]; exact hb
  have l1 : (mem n p).length < 13 := by
    have : (mem n p).length * 2 ≤ (mem n p).length * b := Nat.mul_le_mul_left _ (by omega)
    omega
  have l2 : b < 13 := by
    have : 2 * b ≤ (mem n p).length * b := Nat.mul_le_mul_right _ (by omega)
    omega
  obtain ⟨P, k, hP, hbk, hk1⟩ := few_pow l1 l2 (by omega) (by omega) hle hco
  obtain ⟨K, hK, _⟩ := G.swq_stop (P := P)
  obtain ⟨j, t, hS⟩ := G.swq_syl hP hK
  refine key _ hS.sub ?_
  rw [hS.len, hbk]
  have e1 : k ≤ j := hS.pow_le hP ⟨(mem n p).length, by rw [← hbk, Nat.mul_comm]; exact hb2⟩
  have e2 : P ^ j ∣ P ^ k * (mem n p).length := ⟨t, by rw [← hbk, Nat.mul_comm, ← hb2]; exact hS.num⟩
  have hcp : Nat.Coprime (mem n p).length P := Nat.Coprime.coprime_dvd_right (by rw [hbk]; exact ⟨P ^ (k - 1), by rw [← Nat.pow_succ']; congr 1; omega⟩) (show Nat.Coprime (mem n p).length b from hco)
  have e3 : P ^ j ∣ P ^ k := Nat.Coprime.dvd_of_dvd_mul_right (Nat.Coprime.symm (hcp.pow_right j)) e2
  have e4 := hP.le_of_dvd e3
  have : j = k := by omega
  rw [this]
end
end Go.Proofs.YtjikchbmkodgfaaDoor

/-
  Calls that write what is the caller's own: contracts over blocks. Conditions: none; a library text.
-/
set_option linter.all false
namespace Go.Pv
open Go.RowKit

def ancs : Nat → Nat → Heap
  | _, 0 => []
  | k, n + 1 => .anc k k :: ancs (k + 1) n

theorem ancs_get : ∀ (n k j : Nat) (b : Blk), (ancs k n)[j]? = some b → j < n ∧ b = .anc (k + j) (k + j)
  | 0, k, j, b, h => by simp [ancs] at h
  | n + 1, k, 0, b, h => by simp [ancs] at h; exact ⟨by omega, h.symm⟩
  | n + 1, k, j + 1, b, h => by
    have := ancs_get n (k + 1) j b (by simpa [ancs] using h)
    refine ⟨by omega, ?_⟩
    rw [this.2, show k + 1 + j = k + (j + 1) by omega]

theorem ancs_at : ∀ (n k j : Nat), j < n → (ancs k n)[j]? = some (.anc (k + j) (k + j))
  | n + 1, k, 0, _ => rfl
  | n + 1, k, j + 1, h => by
    rw [show ancs k (n + 1) = .anc k k :: ancs (k + 1) n from rfl, List.getElem?_cons_succ, ancs_at n (k + 1) j (by omega), show k + 1 + j = k + (j + 1) by omega]

def entA : Nat → List AV → List (Nat × AV)
  | _, [] => []
  | k, a :: r => (k, a) :: entA (k + 1) r

theorem entA_lk : ∀ (l : List AV) (k t : Nat), lk (entA k l) t = if k ≤ t then l.getD (t - k) .dead else .dead
  | [], k, t => by simp [entA, lk]
  | a :: r, k, t => by
    simp only [entA, lk]
    by_cases h : k = t
    · subst h; simp
    · rw [show (k == t) = false by simpa using h]
      simp only [cond_false]
      rw [entA_lk r (k + 1) t]
      by_cases hk : k ≤ t
      · rw [if_pos (by omega), if_pos hk, show t - k = (t - (k + 1)) + 1 by omega]; rfl
      · rw [if_neg (by omega), if_neg hk]

theorem app_get {H X : Heap} {k : Nat} {b : Blk} (h : (H ++ X)[k]? = some b) : (k < H.length ∧ H[k]? = some b) ∨ X[k - H.length]? = some b := by
  by_cases hk : k < H.length
  · exact .inl ⟨hk, by rwa [List.getElem?_append_left hk] at h⟩
  · exact .inr (by rwa [List.getElem?_append_right (by omega)] at h)

section
variable {P : Program} {T : TypeId → Option TI} {C : Ctx} {m : Map} {s : St} {tmps : Array Value} {w : World}

theorem Rel.addAnc (R : Rel C m s tmps w) {n : Nat} (hn : n ≤ s.H.length) (ha : ∀ i, i < n → m i = C.anc i) : Rel C m { s with H := s.H ++ ancs 0 n } tmps w := by
  have gen : ∀ (k : Nat) (b : Blk), (∀ i j, b ≠ .anc i j) → (s.H ++ ancs 0 n)[k]? = some b → k < s.H.length ∧ s.H[k]? = some b := by
    intro k b hb h
    rcases app_get h with h | h
    · exact h
    · exact absurd (ancs_get _ _ _ _ h).2 (hb _ _)
  have own : ∀ (k : Nat) (c : List AV), (s.H ++ ancs 0 n)[k]? = some (.own c) → k < s.H.length ∧ s.H[k]? = some (.own c) := fun k c h => gen k _ (fun _ _ h => by cases h) h
  have mps : ∀ (k : Nat) (kk : IntKind) (d : Int → Bool) (v : Int → PV), (s.H ++ ancs 0 n)[k]? = some (Blk.mp kk d v) → k < s.H.length ∧ s.H[k]? = some (Blk.mp kk d v) := fun k _ _ _ h => gen k _ (fun _ _ h => by cases h) h
  have ho : ∀ b, OK C m s.H w b → OK C m (s.H ++ ancs 0 n) w b := fun b h => ⟨h.1, h.2.1, fun k c l hk hl => h.2.2 k c l (own k c hk).2 hl⟩
  have hlen : s.H.length ≤ (s.H ++ ancs 0 n).length := by simp
  have rd : ∀ p v, Reads (OK C m s.H w) w p v → Reads (OK C m (s.H ++ ancs 0 n) w) w p v := fun p v h => h.mono ho
  refine ⟨R.laid.ext rd, R.below, R.base, R.size, fun k k' c c' l l' h1 h2 => R.inj k k' c c' l l' (own k c h1).2 (own k' c' h2).2, fun k c h => (R.blk k c (own k c h).2).ext rd hlen (fun _ _ => rfl) rfl fun _ _ => rfl,
    fun k c h => (R.fro k c (gen k _ (fun _ _ h => by cases h) h).2).ext ho (fun _ _ => rfl) rfl, fun t => (R.slot t).ext rd hlen fun _ _ => rfl, fun k kk d v h => (R.mp.1 k kk d v (mps k kk d v h).2).ext ho (fun _ _ => rfl) rfl fun _ _ => rfl,
    fun k k' kk d v kk' d' v' l l' h1 h2 => R.mp.2.1 k k' kk d v kk' d' v' l l' (mps _ _ _ _ h1).2 (mps _ _ _ _ h2).2, fun k i j h => ?_⟩
  rcases app_get h with h | h
  · obtain ⟨a1, a2⟩ := R.mp.2.2 k i j h.2
    exact ⟨by simp; omega, a2⟩
  · obtain ⟨a1, a2⟩ := ancs_get _ _ _ _ h
    cases a2
    refine ⟨by simp; omega, ?_⟩
    rw [ha _ (by omega)]

/-! ### The contract -/

/-- A CONTRACT OVER BLOCKS: called with values that are so over such blocks of the caller's own, the function returns so, over those blocks as they are then, and new ones. -/
def FnM (P : Program) (f : FuncId) (args : List AV) (H0 : Heap) (r : AV) (H1 : Heap) : Prop :=
  Fun P f ∧ ∀ (C : Ctx) (m : Map) (w : World) (vals : Array Value), Rel C m ⟨args.length, entA 0 args, H0 ++ ancs 0 H0.length⟩ vals w →
    Calls P f vals w fun e w' => ∃ v m', e = .returned v ∧ Rel C m' ⟨1, [(0, r)], H1 ++ ancs 0 H0.length⟩ #[v] w'

theorem fnm_of (hT : ∀ t ti, T t = some ti → tiOf P t = some ti) {f : FuncId} {fn : Func} {c : Code} {args : List AV} {av : AV} {H0 H1 : Heap} (hf : P.funcs[f]? = some fn) (hb : fn.body = some c) (hnm : (fn.name == "runtime.NumGoroutine") = false) (hn : args.length ≤ fn.ntmps)
    (h : Holds P c (PostG T fn.results.toList av (H1 ++ ancs 0 H0.length)) ⟨fn.ntmps, entA 0 args, H0 ++ ancs 0 H0.length⟩) : FnM P f args H0 av H1 := by
  refine ⟨⟨fn, hf, hnm, by rw [hb]; rfl⟩, fun C m w vals R0 => calls_of_wp hf hb ?_⟩
  have hsz : vals.size = args.length := R0.size
  have R : Rel C m ⟨fn.ntmps, entA 0 args, H0 ++ ancs 0 H0.length⟩ (vals ++ Array.replicate (fn.ntmps - vals.size) undef) w := by
    refine ⟨R0.laid, R0.below, R0.base, by simp; omega, R0.inj, R0.blk, R0.fro, fun t => ?_, R0.mp⟩
    have hs := R0.slot t
    by_cases ht : t < vals.size
    · rw [Array.getD_eq_getD_getElem?, Array.getElem?_append_left ht, ← Array.getD_eq_getD_getElem?]
      exact hs
    · have e : lk (entA 0 args) t = .dead := by
        rw [entA_lk, if_pos (Nat.zero_le _), List.getD_eq_getElem?_getD, List.getElem?_eq_none (by omega)]; rfl
      unfold St.get
      simp only
      rw [e]
      exact .dead _
  refine wp_mono (h _ _ { tmps := vals ++ Array.replicate (fn.ntmps - vals.size) undef, defers := [] } w R rfl) fun e a' w' ⟨s', m', h1, h2, h3⟩ => ?_
  have fini : endG T fn.results.toList av (H1 ++ ancs 0 H0.length) s' → a'.defers = [] ∧ ∃ v, (results fn a'.tmps).run P w' = .ok v w' ∧ ∃ v_1 m'', Ending.returned v = .returned v_1 ∧ Rel C m'' ⟨1, [(0, av)], H1 ++ ancs 0 H0.length⟩ #[v_1] w' := by
    intro he
    unfold endG at he
    split at he
    · rename_i p l hl
      obtain ⟨hp, π, hav, hsc, hle⟩ := he
      obtain ⟨vs, e1, e2, e3⟩ := rvsA_run hT h2 fn.results.toList hl hp
      have hv := mkTup_val (w := w') e2 e3
      have R' := h2.weaken hle
      rw [hav] at hv
      have hlen : (H1 ++ ancs 0 H0.length).length = π.length := (hle.2.2.1.get).1.symm
      have ho := OK.weaken (C := C) (m := m') (w := w') hle.2.2.1
      have hv2 := hv.unren (fun p v h => h.mono ho) hlen hsc
      refine ⟨h3, (if h : vs.toArray.size = 1 then vs.toArray[0] else .tuple vs.toArray), ?_, _, _, rfl, R'.laid, R'.below, R'.base, rfl, R'.inj, R'.blk, R'.fro, fun t => ?_, R'.mp⟩
      · rw [results_eq, Array.mapM_eq_mapM_toList]
        simp only [Sem.run_bind, Sem.run_map]
        rw [e1]
        simp only [Result.andThen_ok]
        rfl
      · cases t with
        | zero => exact hv2
        | succ t => exact .dead _
    · exact he.elim
  cases e with
  | normal => exact fini h1
  | ret => exact fini h1
  | _ => exact h1.elim

/-! ### Who calls it -/

theorem AVal.sig {rd rd' : PV → Value → Prop} {m m2 : Map} {H H2 : Heap} {σ : List Nat} (h1 : ∀ p v, rd p v → rd' p v) (hs : ∀ k, k < σ.length → σ.getD k 0 < H2.length ∧ m2 (σ.getD k 0) = m k) {x : AV} {v : Value} (h : AVal rd m H x v)
    (hx : scA σ.length x = true) : AVal rd' m2 H2 (Go.Pv.ren σ x) v := by
  have one : ∀ {x : AV} {v : Value}, AVal rd m H x v → sc1 σ.length x = true → AVal rd' m2 H2 (ren1 σ x) v := by
    intro x v h hsc
    cases h with
    | dead v => exact .dead v
    | p pv v h => exact .p pv v (h1 _ _ h)
    | sl k lo len v hk h =>
      obtain ⟨g1, g2⟩ := hs k (by simpa [sc1] using hsc)
      refine .sl _ lo len v g1 ?_
      unfold SlOk at *
      rw [g2]; exact h
    | ptr k i v hk h =>
      obtain ⟨g1, g2⟩ := hs k (by simpa [sc1] using hsc)
      refine .ptr _ i v g1 ?_
      unfold PtrOk at *
      rw [g2]; exact h
    | agg l vs hl hr => simp [sc1] at hsc
    | tup l vs hl hr => simp [sc1] at hsc
    | cl f l vs hl hr => simp [sc1] at hsc
    | itv r => exact .itv r
    | mptr k v hk h =>
      obtain ⟨g1, g2⟩ := hs k (by simpa [sc1] using hsc)
      refine .mptr _ v g1 ?_
      unfold MptrOk at *
      rw [g2]; exact h
  cases x with
  | agg l =>
    cases h with
    | agg _ vs hl hr =>
      refine .agg _ vs (by simpa using hl) fun c hc => ?_
      rw [List.length_map] at hc
      rw [List.getElem_map]
      exact one (hr c hc) ((List.all_eq_true.1 hx) _ (List.getElem_mem hc))
  | tup l =>
    cases h with
    | tup _ vs hl hr =>
      refine .tup _ vs (by simpa using hl) fun c hc => ?_
      rw [List.length_map] at hc
      rw [List.getElem_map]
      exact one (hr c hc) ((List.all_eq_true.1 hx) _ (List.getElem_mem hc))
  | cl f l =>
    cases h with
    | cl _ _ vs hl hr =>
      refine .cl _ _ vs (by simpa using hl) fun c hc => ?_
      rw [List.length_map] at hc
      rw [List.getElem_map]
      exact one (hr c hc) ((List.all_eq_true.1 hx) _ (List.getElem_mem hc))
  | dead => exact one h hx
  | p pv => exact one h hx
  | sl k lo len => exact one h hx
  | ptr k i => exact one h hx
  | mptr k => exact one h hx
  | itv r => exact one h hx

/-- Blocks put back: those that were lent, in their places; new ones behind. -/
def putM : Heap → List Nat → Heap → Heap
  | H, [], bs => H ++ bs
  | H, _ :: _, [] => H
  | H, k :: ks, b :: bs => putM (hset H k b) ks bs

theorem putM_get : ∀ (ks : List Nat) (bs H : Heap) (k : Nat) (b : Blk), (∀ k ∈ ks, k < H.length) → ks.length ≤ bs.length → (putM H ks bs)[k]? = some b →
    (∃ j : Nat, bs[j]? = some b ∧ (ks ++ List.range' H.length (bs.length - ks.length))[j]? = some k) ∨ (k < H.length ∧ k ∉ ks ∧ H[k]? = some b)
  | [], bs, H, k, b, _, _, h => by
    simp only [putM] at h
    by_cases hk : k < H.length
    · exact .inr ⟨hk, by simp, by rwa [List.getElem?_append_left hk] at h⟩
    · rw [List.getElem?_append_right (by omega)] at h
      · refine .inl ⟨k - H.length, h, ?_⟩
        have := (List.getElem?_eq_some_iff.1 h).1
        simp only [List.nil_append, List.length_nil, Nat.sub_zero]
        rw [List.getElem?_range' this]
        simp; omega
  | k0 :: ks, [], H, k, b, _, hl, _ => by simp at hl
  | k0 :: ks, b0 :: bs, H, k, b, hk, hl, h => by
    simp only [putM] at h
    have h0 := hk k0 (by simp)
    rcases putM_get ks bs (hset H k0 b0) k b (fun k hk' => by rw [hset_length]; exact hk k (by simp [hk'])) (by simpa using hl) h with ⟨j, h1, h2⟩ | ⟨h1, h2, h3⟩
    · rw [hset_length] at h2
      exact .inl ⟨j + 1, by simpa using h1, by simpa using h2⟩
    · rw [hset_get] at h3
      rw [hset_length] at h1
      by_cases e : k = k0
      · subst e
        rw [if_pos ⟨rfl, h0⟩] at h3
        exact .inl ⟨0, by simpa using h3, by simp⟩
      · rw [if_neg (by simp [e])] at h3
        exact .inr ⟨h1, by simp [e, h2], h3⟩

theorem putM_length : ∀ (ks : List Nat) (bs H : Heap), ks.length ≤ bs.length → (putM H ks bs).length = H.length + (bs.length - ks.length)
  | [], bs, H, _ => by simp [putM]
  | k0 :: ks, [], H, hl => by simp at hl
  | k0 :: ks, b0 :: bs, H, hl => by
    simp only [putM]
    rw [putM_length ks bs _ (by simpa using hl), hset_length]; simp

/-- Maps stay maps. -/
def mpKeep : Heap → Heap → Bool
  | .mp _ _ _ :: r, .mp _ _ _ :: t => mpKeep r t
  | .mp _ _ _ :: _, _ => false
  | _ :: r, _ :: t => mpKeep r t
  | [], _ => true
  | _ :: _, [] => false

theorem mpKeep_get : ∀ {H0 H1 : Heap}, mpKeep H0 H1 = true → ∀ (j : Nat) (kk : IntKind) (d : Int → Bool) (v : Int → PV), H0[j]? = some (.mp kk d v) → ∃ kk' d' v', H1[j]? = some (.mp kk' d' v')
  | [], _, _, j, _, _, _, h => by simp at h
  | b :: r, [], hm, _, _, _, _, _ => by cases b <;> simp [mpKeep] at hm
  | b :: r, b' :: t, hm, 0, kk, d, v, h => by
    simp at h; subst h
    cases b' <;> simp [mpKeep] at hm
    exact ⟨_, _, _, rfl⟩
  | b :: r, b' :: t, hm, j + 1, kk, d, v, h => by
    have hm2 : mpKeep r t = true := by cases b <;> cases b' <;> simp [mpKeep] at hm <;> exact hm
    simpa using mpKeep_get hm2 j kk d v (by simpa using h)

def scM (av : AV) (H0 H1 : Heap) : Bool :=
  scA H1.length av && H1.all (fun | .own c => c.all (scA H1.length) | .anc _ _ => false | _ => true) && decide (H0.length ≤ H1.length) && mpKeep H0 H1 && H0.all notAnc

/-- The frame of who is called with blocks that are lent. -/
def subC (C : Ctx) (m : Map) (H : Heap) (ks : List Nat) (H0 : Heap) (w : World) : Ctx :=
  ⟨fun b => OK C m H w b, fun b => w.heap.size ≤ b ∨ ∃ (j : Nat) (b0 : Blk) (l : Loc), H0[j]? = some b0 ∧ b0.wr = true ∧ mren m ks j = some l ∧ l.g = b, w, mren m ks⟩

theorem Rel.wrLt (R : Rel C m s tmps w) {k : Nat} {b : Blk} (hb : s.H[k]? = some b) (hw : b.wr = true) {l : Loc} (hl : m k = some l) : C.B l.g ∧ l.g < w.heap.size := by
  cases b with
  | own c =>
    rcases R.blk k c hb with ⟨_, hn⟩ | ⟨l', cur, e, a1, a2, a3, _⟩
    · rw [hl] at hn; cases hn
    · rw [hl] at a1; cases a1
      exact ⟨a2, (Array.getElem?_eq_some_iff.1 a3).1⟩
  | mp kk d v =>
    obtain ⟨l', ar, clk, vs, a1, a2, a3, _⟩ := R.mp.1 k kk d v hb
    rw [hl] at a1; cases a1
    exact ⟨a2, (Array.getElem?_eq_some_iff.1 a3).1⟩
  | _ => cases hw

theorem Rel.inj2 (R : Rel C m s tmps w) {k k' : Nat} {b b' : Blk} (hb : s.H[k]? = some b) (hw : b.wr = true) (hb' : s.H[k']? = some b') (hw' : b'.wr = true) {l l' : Loc} (hl : m k = some l) (hl' : m k' = some l') (e : l.g = l'.g) : k = k' := by
  cases b with
  | own c =>
    cases b' with
    | own c' => exact R.inj k k' c c' l l' hb hb' hl hl' e
    | mp kk d v => exact absurd e ((R.mpOK hb' hl').2.2 k c l hb hl)
    | _ => cases hw'
  | mp kk d v =>
    cases b' with
    | own c' => exact absurd e.symm ((R.mpOK hb hl).2.2 k' c' l' hb' hl')
    | mp kk' d' v' => exact R.mp.2.1 _ _ _ _ _ _ _ _ _ _ hb hb' hl hl' e
    | _ => cases hw'
  | _ => cases hw

theorem LeH.wr {π : List Nat} {H H1 : Heap} (h3 : LeH π H π H1) {j : Nat} {b0 : Blk} (h : H1[j]? = some b0) (hw : b0.wr = true) : ∃ k' b, π[j]? = some k' ∧ H[k']? = some b ∧ b.wr = true ∧ ((∃ c, b0 = .own c) → ∃ c, b = .own c) ∧ ((∃ kk d v, b0 = .mp kk d v) → ∃ kk d v, b = .mp kk d v) := by
  obtain ⟨g1, g2⟩ := h3.get
  cases b0 with
  | own c =>
    obtain ⟨k', d, a1, a2, _⟩ := LeH.own g2 j c h
    exact ⟨k', _, a1, a2, rfl, (fun _ => ⟨_, rfl⟩), fun ⟨_, _, _, h⟩ => by cases h⟩
  | mp kk d v =>
    obtain ⟨k', a, b⟩ := g2 j _ h
    exact ⟨k', _, a, hget_some b (by simp), rfl, (fun ⟨_, h⟩ => by cases h), fun _ => ⟨_, _, _, rfl⟩⟩
  | _ => cases hw

theorem Rel.joinM (R : Rel C m s tmps w) {ks : List Nat} {H0 H1 : Heap} {r : AV} {w' : World} {v : Value} {m' : Map} (hle : LeH ks s.H ks H0) (hks : ∀ k ∈ ks, k < s.H.length) (R1 : Rel (subC C m s.H ks H0 w) m' ⟨1, [(0, r)], H1 ++ ancs 0 H0.length⟩ #[v] w') (hsc : scM r H0 H1 = true) :
    ∃ m2, Rel C m2 { s with H := putM s.H ks (H1.map (Blk.ren (ks ++ List.range' s.H.length (H1.length - ks.length)))) } tmps w' ∧
      AVal (Reads (OK C m2 (putM s.H ks (H1.map (Blk.ren (ks ++ List.range' s.H.length (H1.length - ks.length))))) w') w') m2 (putM s.H ks (H1.map (Blk.ren (ks ++ List.range' s.H.length (H1.length - ks.length))))) (Go.Pv.ren (ks ++ List.range' s.H.length (H1.length - ks.length)) r) v := by
  obtain ⟨g1, g2⟩ := hle.get
  unfold scM at hsc
  rw [Bool.and_eq_true, Bool.and_eq_true, Bool.and_eq_true, Bool.and_eq_true, decide_eq_true_eq] at hsc
  obtain ⟨⟨⟨⟨s1, s2⟩, s3⟩, s4⟩, s5⟩ := hsc
  have hn : ks.length ≤ H1.length := by omega
  generalize hσe : ks ++ List.range' s.H.length (H1.length - ks.length) = σ
  have hσlen : σ.length = H1.length := by rw [← hσe]; simp; omega
  generalize hH2 : putM s.H ks (H1.map (Blk.ren σ)) = H2
  have hlen2 : H2.length = s.H.length + (H1.length - ks.length) := by rw [← hH2, putM_length _ _ _ (by simpa using hn)]; simp
  -- where the callee's blocks lie
  have hm1 : ∀ j, j < H0.length → m' j = mren m ks j := fun j hj => by
    have h : (H1 ++ ancs 0 H0.length)[H1.length + j]? = some (.anc j j) := by
      rw [List.getElem?_append_right (by omega), Nat.add_sub_cancel_left, ancs_at _ _ _ hj, Nat.zero_add]
    exact (R1.mp.2.2 _ _ _ h).2
  obtain ⟨m2, hm2⟩ : ∃ m2 : Map, m2 = fun k => if k < s.H.length then m k else m' (ks.length + (k - s.H.length)) := ⟨_, rfl⟩
  have hmo : ∀ k, k < s.H.length → m2 k = m k := fun k h => by rw [hm2]; simp [h]
  have hσ : ∀ (j k : Nat), σ[j]? = some k → k < H2.length ∧ m2 k = m' j := by
    intro j k h
    rw [← hσe] at h
    by_cases hj : j < ks.length
    · rw [List.getElem?_append_left hj] at h
      have hk := hks k (List.mem_of_getElem? h)
      refine ⟨by omega, ?_⟩
      rw [hmo k hk, hm1 j (by omega)]
      simp only [mren, h, Option.bind_some]
    · rw [List.getElem?_append_right (by omega)] at h
      have hj2 : j - ks.length < H1.length - ks.length := by
        have := (List.getElem?_eq_some_iff.1 h).1
        simpa using this
      rw [List.getElem?_range' hj2] at h
      simp only [Option.some.injEq, Nat.one_mul] at h
      subst h
      refine ⟨by omega, ?_⟩
      rw [hm2]
      simp only
      rw [if_neg (by omega)]
      congr 1
      omega
  have hσ2 : ∀ k, k < σ.length → σ.getD k 0 < H2.length ∧ m2 (σ.getD k 0) = m' k := fun k hk => by
    have : σ[k]? = some (σ.getD k 0) := by simp [List.getD, List.getElem?_eq_getElem hk]
    exact hσ k _ this
  have hget : ∀ (k : Nat) (b : Blk), H2[k]? = some b → (∃ (j : Nat) (b' : Blk), H1[j]? = some b' ∧ b = b'.ren σ ∧ σ[j]? = some k) ∨ (k < s.H.length ∧ k ∉ ks ∧ s.H[k]? = some b) := by
    intro k b h
    rw [← hH2] at h
    rcases putM_get ks _ s.H k b hks (by simpa using hn) h with ⟨j, h1, h2⟩ | h
    · rw [List.length_map, hσe] at h2
      rw [List.getElem?_map] at h1
      cases e : H1[j]? with
      | none => rw [e] at h1; cases h1
      | some b' => rw [e] at h1; exact .inl ⟨j, b', e, (Option.some.inj h1).symm, h2⟩
    · exact .inr h
  have hHc : ∀ (j : Nat) (b : Blk), H1[j]? = some b → (H1 ++ ancs 0 H0.length)[j]? = some b := fun j b h => by
    rw [List.getElem?_append_left (List.getElem?_eq_some_iff.1 h).1]; exact h
  have hown : ∀ (k : Nat) (c : List AV), H2[k]? = some (.own c) → (∃ (j : Nat) (c' : List AV), H1[j]? = some (.own c') ∧ c = c'.map (Go.Pv.ren σ) ∧ σ[j]? = some k) ∨ (k < s.H.length ∧ k ∉ ks ∧ s.H[k]? = some (.own c)) := by
    intro k c h
    rcases hget k _ h with ⟨j, b', h1, h2, h3⟩ | h
    · cases b' with
      | own c' => simp only [Blk.ren, Blk.own.injEq] at h2; exact .inl ⟨j, c', h1, h2, h3⟩
      | _ => cases h2
    · exact .inr h
  have hmps : ∀ (k : Nat) (kk : IntKind) (d : Int → Bool) (vv : Int → PV), H2[k]? = some (.mp kk d vv) → (∃ j : Nat, H1[j]? = some (.mp kk d vv) ∧ σ[j]? = some k) ∨ (k < s.H.length ∧ k ∉ ks ∧ s.H[k]? = some (.mp kk d vv)) := by
    intro k kk d vv h
    rcases hget k _ h with ⟨j, b', h1, h2, h3⟩ | h
    · cases b' with
      | mp kk' d' v' => simp only [Blk.ren, Blk.mp.injEq] at h2; obtain ⟨rfl, rfl, rfl⟩ := h2; exact .inl ⟨j, h1, h3⟩
      | _ => cases h2
    · exact .inr h
  have hfro : ∀ (k : Nat) (c : List PV), H2[k]? = some (.fro c) → (∃ j : Nat, H1[j]? = some (.fro c) ∧ σ[j]? = some k) ∨ (k < s.H.length ∧ k ∉ ks ∧ s.H[k]? = some (.fro c)) := by
    intro k c h
    rcases hget k _ h with ⟨j, b', h1, h2, h3⟩ | h
    · cases b' with
      | fro c' => simp only [Blk.ren, Blk.fro.injEq] at h2; subst h2; exact .inl ⟨j, h1, h3⟩
      | _ => cases h2
    · exact .inr h
  have lent : ∀ (j : Nat) (b0 : Blk) (l : Loc), H0[j]? = some b0 → b0.wr = true → mren m ks j = some l → ∃ k' b, k' ∈ ks ∧ s.H[k']? = some b ∧ b.wr = true ∧ m k' = some l ∧ ((∃ c, b0 = .own c) → ∃ c, b = .own c) ∧ ((∃ kk d v, b0 = .mp kk d v) → ∃ kk d v, b = .mp kk d v) := by
    intro j b0 l h hw hl
    obtain ⟨k', b, a1, a2, a3, a4, a5⟩ := hle.wr h hw
    simp only [mren, a1, Option.bind_some] at hl
    exact ⟨k', b, List.mem_of_getElem? a1, a2, a3, hl, a4, a5⟩
  have hB1 : ∀ b, (subC C m s.H ks H0 w).B b → C.B b := by
    intro b hb
    rcases hb with hb | ⟨j, b0, l, h1, h2, h3, rfl⟩
    · exact R.base b hb
    · obtain ⟨k', b, _, a2, a3, a4, _⟩ := lent j b0 l h1 h2 h3
      exact (R.wrLt a2 a3 a4).1
  have hBx : ∀ (k : Nat) (b : Blk) (l : Loc), k ∉ ks → s.H[k]? = some b → b.wr = true → m k = some l → ¬ (subC C m s.H ks H0 w).B l.g := by
    intro k b l hk hb hw hl hB
    rcases hB with hB | ⟨j, b0, l0, h1, h2, h3, h4⟩
    · have := (R.wrLt hb hw hl).2
      omega
    · obtain ⟨k', b', a1, a2, a3, a4, _⟩ := lent j b0 l0 h1 h2 h3
      have := R.inj2 hb hw a2 a3 hl a4 h4.symm
      subst this
      exact hk a1
  have hcell : ∀ b o x, OK C m s.H w b → w.cell? ⟨b, o, none⟩ = some x → w'.cell? ⟨b, o, none⟩ = some x := by
    intro b o x hb hc
    by_cases hB : (subC C m s.H ks H0 w).B b
    · exfalso
      rcases hB with hB | ⟨j, b0, l0, h1, h2, h3, h4⟩
      · have := hb.2.1; omega
      · obtain ⟨k', b', a1, a2, a3, a4, _⟩ := lent j b0 l0 h1 h2 h3
        cases b' with
        | own c => exact hb.2.2 k' c l0 a2 a4 h4
        | mp kk d vv =>
          obtain ⟨l', ar, clk, vs, c1, c2, c3, _⟩ := R.mp.1 k' kk d vv a2
          rw [a4] at c1; cases c1
          rw [h4] at c3
          unfold World.cell? at hc
          simp only [c3] at hc
          first | cases hc | simp at hc
        | _ => cases a3
    · rw [World.cell?_of_block (w := w) (R1.below.block b hB)]; exact hc
  have hOK : ∀ b, OK (subC C m s.H ks H0 w) m' (H1 ++ ancs 0 H0.length) w' b → OK C m2 H2 w' b := by
    intro b hb
    refine ⟨?_, hb.2.1, fun k c l h hl => ?_⟩
    · rcases hb.1 with h | h
      · exact h.1
      · exact .inr (hB1 b h)
    · rcases hown k c h with ⟨j, c', h1, _, h3⟩ | ⟨h1, h2, h3⟩
      · rw [(hσ j k h3).2] at hl
        exact hb.2.2 j c' l (hHc _ _ h1) hl
      · rw [hmo k h1] at hl
        rcases hb.1 with h' | h'
        · exact h'.2.2 k c l h3 hl
        · intro e
          exact hBx k _ l h2 h3 rfl hl (by rw [e]; exact h')
  have ho1 : ∀ b, OK C m s.H w b → OK C m2 H2 w' b := by
    intro b hb
    refine ⟨hb.1, Nat.lt_of_lt_of_le hb.2.1 R1.below.size, fun k c l h hl e => ?_⟩
    rcases hown k c h with ⟨j, c', h1, _, h3⟩ | ⟨h1, h2, h3⟩
    · rw [(hσ j k h3).2] at hl
      rcases (R1.wrLt (hHc _ _ h1) rfl hl).1 with hB | ⟨j0, b0, l0, a1, a2, a3, a4⟩
      · have := hb.2.1; omega
      · obtain ⟨k', b', d1, d2, d3, d4, d5, d6⟩ := lent j0 b0 l0 a1 a2 a3
        cases b0 with
        | own c0 =>
          obtain ⟨c1, rfl⟩ := d5 ⟨_, rfl⟩
          exact hb.2.2 k' c1 l0 d2 d4 (by rw [a4, e])
        | mp kk d vv =>
          obtain ⟨kk', d', v', f1⟩ := mpKeep_get s4 j0 kk d vv a1
          have hj0 : j0 < H0.length := (List.getElem?_eq_some_iff.1 a1).1
          have f2 : m' j0 = some l0 := by rw [hm1 j0 hj0]; exact a3
          exact (R1.mpOK (hHc _ _ f1) f2).2.2 j c' l (hHc _ _ h1) hl a4.symm
        | _ => cases a2
    · rw [hmo k h1] at hl
      exact hb.2.2 k c l h3 hl e
  have rd1 : ∀ p x, Reads (OK C m s.H w) w p x → Reads (OK C m2 H2 w') w' p x := fun p x h => h.extc ho1 hcell
  have rd2 : ∀ p x, Reads (OK (subC C m s.H ks H0 w) m' (H1 ++ ancs 0 H0.length) w') w' p x → Reads (OK C m2 H2 w') w' p x := fun p x h => h.mono hOK
  have hlen3 : s.H.length ≤ H2.length := by omega
  have sall : ∀ (j : Nat) (b : Blk), H1[j]? = some b → (match b with | .own c => c.all (scA H1.length) | .anc _ _ => false | _ => true) = true := fun j b h => by
    have := (List.all_eq_true.1 s2) _ (List.mem_of_getElem? h)
    cases b <;> exact this
  refine ⟨m2, ⟨R.laid.ext rd1, R.below.trans ⟨R1.below.os, R1.below.tape, R1.below.output, R1.below.size, fun k hk => R1.below.block k fun h => hk (hB1 k h), R1.below.dr⟩, fun b h => R.base b (Nat.le_trans R1.below.size h), R.size, ?_, ?_, ?_, fun t => ?_, ?_, ?_, ?_⟩, ?_⟩
  · intro k k' c c' l l' h1 h2 h3 h4 h5
    rcases hown k c h1 with ⟨j, d, a1, _, a3⟩ | ⟨a1, a2, a3⟩ <;> rcases hown k' c' h2 with ⟨j', d', b1, _, b3⟩ | ⟨b1, b2, b3⟩
    · rw [(hσ _ _ a3).2] at h3; rw [(hσ _ _ b3).2] at h4
      have := R1.inj j j' d d' l l' (hHc _ _ a1) (hHc _ _ b1) h3 h4 h5
      subst this
      rw [a3] at b3
      exact Option.some.inj b3
    · rw [(hσ _ _ a3).2] at h3; rw [hmo _ b1] at h4
      exact absurd (by rw [← h5]; exact (R1.wrLt (hHc _ _ a1) rfl h3).1) (hBx k' _ l' b2 b3 rfl h4)
    · rw [hmo _ a1] at h3; rw [(hσ _ _ b3).2] at h4
      exact absurd (by rw [h5]; exact (R1.wrLt (hHc _ _ b1) rfl h4).1) (hBx k _ l a2 a3 rfl h3)
    · rw [hmo _ a1] at h3; rw [hmo _ b1] at h4
      exact R.inj k k' c c' l l' a3 b3 h3 h4 h5
  · intro k c h
    rcases hown k c h with ⟨j, c', a1, rfl, a3⟩ | ⟨a1, a2, a3⟩
    · rcases R1.blk j c' (hHc _ _ a1) with ⟨e, hn⟩ | ⟨l, cur, e, b1, b2, b3, b4, b5, b6, b7⟩
      · exact .inl ⟨by rw [e]; rfl, by rw [(hσ _ _ a3).2]; exact hn⟩
      · refine .inr ⟨l, cur, e, by rw [(hσ _ _ a3).2]; exact b1, hB1 _ b2, b3, b4, b5, by simpa using b6, fun i hi => ?_⟩
        rw [List.length_map] at hi
        rw [List.getElem_map]
        have hs : scA σ.length c'[i] = true := by
          rw [hσlen]
          exact (List.all_eq_true.1 (sall j _ a1)) _ (List.getElem_mem hi)
        exact (b7 i hi).sig rd2 hσ2 hs
    · refine (R.blk k c a3).ext rd1 hlen3 hmo (hmo k a1) fun l hl => R1.below.block _ (hBx k _ l a2 a3 rfl hl)
  · intro k c h
    rcases hfro k c h with ⟨j, a1, a3⟩ | ⟨a1, a2, a3⟩
    · rcases R1.fro j c (hHc _ _ a1) with ⟨e1, e2⟩ | ⟨l, vs, e1, e2, e3, e4⟩
      · exact .inl ⟨e1, by rw [(hσ _ _ a3).2]; exact e2⟩
      · exact .inr ⟨l, vs, by rw [(hσ _ _ a3).2]; exact e1, hOK _ e2, e3, fun i hi => ⟨(e4 i hi).1, rd2 _ _ (e4 i hi).2⟩⟩
    · rcases R.fro k c a3 with ⟨e1, e2⟩ | ⟨l, vs, e1, e2, e3, e4⟩
      · exact .inl ⟨e1, by rw [hmo k a1]; exact e2⟩
      · exact .inr ⟨l, vs, by rw [hmo k a1]; exact e1, ho1 _ e2, e3, fun i hi => ⟨hcell _ _ _ e2 (e4 i hi).1, rd1 _ _ (e4 i hi).2⟩⟩
  · exact (R.slot t).ext rd1 hlen3 hmo
  · intro k kk d vv h
    rcases hmps k kk d vv h with ⟨j, a1, a3⟩ | ⟨a1, a2, a3⟩
    · obtain ⟨l, ar, clk, vs, b1, b2, b3, b4, b5, b6, b7⟩ := R1.mp.1 j kk d vv (hHc _ _ a1)
      exact ⟨l, ar, clk, vs, by rw [(hσ _ _ a3).2]; exact b1, hB1 _ b2, b3, b4, b5, b6, fun z hz => rd2 _ _ (b7 z hz)⟩
    · obtain ⟨l, ar, clk, vs, b1, b2, b3, b4, b5, b6, b7⟩ := R.mp.1 k kk d vv a3
      exact ⟨l, ar, clk, vs, by rw [hmo k a1]; exact b1, b2, by rw [R1.below.block _ (hBx k _ l a2 a3 rfl b1)]; exact b3, b4, b5, b6, fun z hz => rd1 _ _ (b7 z hz)⟩
  · intro k k' kk d vv kk' d' v' l l' h1 h2 h3 h4 h5
    rcases hmps k kk d vv h1 with ⟨j, a1, a3⟩ | ⟨a1, a2, a3⟩ <;> rcases hmps k' kk' d' v' h2 with ⟨j', b1, b3⟩ | ⟨b1, b2, b3⟩
    · rw [(hσ _ _ a3).2] at h3; rw [(hσ _ _ b3).2] at h4
      have := R1.mp.2.1 _ _ _ _ _ _ _ _ _ _ (hHc _ _ a1) (hHc _ _ b1) h3 h4 h5
      subst this
      rw [a3] at b3
      exact Option.some.inj b3
    · rw [(hσ _ _ a3).2] at h3; rw [hmo _ b1] at h4
      exact absurd (by rw [← h5]; exact (R1.wrLt (hHc _ _ a1) rfl h3).1) (hBx k' _ l' b2 b3 rfl h4)
    · rw [hmo _ a1] at h3; rw [(hσ _ _ b3).2] at h4
      exact absurd (by rw [h5]; exact (R1.wrLt (hHc _ _ b1) rfl h4).1) (hBx k _ l a2 a3 rfl h3)
    · rw [hmo _ a1] at h3; rw [hmo _ b1] at h4
      exact R.mp.2.1 _ _ _ _ _ _ _ _ _ _ a3 b3 h3 h4 h5
  · intro k i j h
    rcases hget k _ h with ⟨j', b', h1, h2, _⟩ | ⟨a1, a2, a3⟩
    · have := sall j' b' h1
      cases b' with
      | anc _ _ => cases this
      | _ => cases h2
    · obtain ⟨c1, c2⟩ := R.mp.2.2 k i j a3
      exact ⟨by simp only; omega, by rw [hmo j c1]; exact c2⟩
  · have := R1.slot 0
    exact AVal.sig rd2 hσ2 this (by rw [hσlen]; exact s1)

/-! ### The call -/

def argM1 (H : Heap) (ks : List Nat) (x a : AV) : Prop :=
  match a with
  | .p pv => (match peekG H x with | some (p, pv', true) => p ∧ pv' = pv | _ => False)
  | a => x = Go.Pv.ren ks a ∧ scA ks.length a = true

def argsM (H : Heap) (ks : List Nat) : List AV → List AV → Prop
  | x :: xs, a :: avs => argM1 H ks x a ∧ argsM H ks xs avs
  | [], [] => True
  | _, _ => False

theorem argsM_val (R : Rel C m s tmps w) {rd' : PV → Value → Prop} {ks : List Nat} {H0 : Heap} (h1 : ∀ p v, Reads (OK C m s.H w) w p v → rd' p v) (hl : H0.length = ks.length) : ∀ (X avs : List AV) (f : Nat → Value), argsM s.H ks X avs → (∀ i (h : i < X.length), AVal (Reads (OK C m s.H w) w) m s.H X[i] (f i)) →
    avs.length = X.length ∧ ∀ i (h : i < avs.length), AVal rd' (mren m ks) H0 avs[i] (f i)
  | [], [], f, _, _ => ⟨rfl, fun i h => by simp at h⟩
  | x :: xs, a :: avs, f, h, hv => by
    obtain ⟨k1, k2⟩ := argsM_val R h1 hl xs avs (fun i => f (i + 1)) h.2 fun i hi => by have := hv (i + 1) (by simp; omega); rwa [List.getElem_cons_succ] at this
    refine ⟨by simp [k1], fun i hi => ?_⟩
    cases i with
    | succ i => simpa using k2 i (by simpa using hi)
    | zero =>
      have hx := hv 0 (by simp)
      simp only [List.getElem_cons_zero] at hx ⊢
      have h0 := h.1
      unfold argM1 at h0
      split at h0
      · rename_i pv
        split at h0
        · rename_i p pv' hp
          obtain ⟨g1, rfl⟩ := h0
          exact .p _ _ (h1 _ _ ((peekG_val R hx hp g1).2 rfl))
        · exact h0.elim
      · obtain ⟨rfl, hsc⟩ := h0
        exact hx.unren h1 hl hsc
  | [], _ :: _, _, h, _ => h.elim
  | _ :: _, [], _, h, _ => h.elim

theorem call_doesM {o : Oper} {fo : Operand} {args : Array Operand} {ts : Array TypeId} (ho : o.op = .call { callee := .value fo, args := args, argTypes := ts }) {g : FuncId} {cap : List PV} (hfo : s.ev fo = .p (.fn g cap)) {ks : List Nat} {avs : List AV} {H0 H1 : Heap} {r : AV}
    (hc : FnM P g avs H0 r H1) (hargs : argsM s.H ks (args.toList.map s.ev ++ cap.map .p) avs) (hle : LeH ks s.H ks H0) (hnd : ks.Nodup) (hks : ks.all (fun k => decide (k < s.H.length)) = true) (hsc : scM r H0 H1 = true) :
    DoesW P o s (Go.Pv.ren (ks ++ List.range' s.H.length (H1.length - ks.length)) r) (putM s.H ks (H1.map (Blk.ren (ks ++ List.range' s.H.length (H1.length - ks.length))))) := by
  intro C m a w K Q R hK
  have hks' : ∀ k ∈ ks, k < s.H.length := fun k hk => by simpa using (List.all_eq_true.1 hks) k hk
  have hfv := R.ev fo
  rw [hfo] at hfv
  generalize hfe : a.eval fo = fv at hfv
  have hfv := hfv.p_inv
  cases hfv with
  | fn _ _ vs hcl hcr =>
    obtain ⟨⟨fn, hfn, hnm, hbd⟩, hcalls⟩ := hc
    have hrun : (execOp a.eval o).run P w = .ok (.enter g (args.map a.eval ++ vs)) w := by
      have hnm' : ¬ fn.name = "runtime.NumGoroutine" := by simpa using hnm
      have hbd' : ¬ fn.body = none := by intro e; rw [e] at hbd; simp at hbd
      simp [execOp, ho, resolve, hfe, Deferred.ofValue, invoke, callFunc, hfn, hnm', hbd']
    unfold Oper.wp
    rw [hrun]
    simp only [Oper.upon]
    obtain ⟨g1, g2⟩ := hle.get
    have ho1 : ∀ b, OK C m s.H w b → OK (subC C m s.H ks H0 w) (mren m ks) H0 w b := by
      refine fun b h => ⟨.inl h, h.2.1, fun k c l hk hl => ?_⟩
      obtain ⟨k', d, a1, a2, _⟩ := LeH.own g2 k c hk
      simp only [mren, a1, Option.bind_some] at hl
      exact h.2.2 k' _ l a2 hl
    obtain ⟨e1, e2⟩ := argsM_val R (rd' := Reads (OK (subC C m s.H ks H0 w) (mren m ks) H0 w) w) (H0 := H0) (fun p v h => h.mono ho1) g1.symm _ avs (fun i => (args.map a.eval ++ vs).getD i undef) hargs fun i hi => by
      simp only [List.length_append, List.length_map, Array.length_toList] at hi
      by_cases hip : i < args.size
      · rw [List.getElem_append_left (by simpa using hip)]
        simp only [Array.getD_eq_getD_getElem?]
        rw [Array.getElem?_append_left (by simpa using hip)]
        have := R.ev args[i]
        simpa [Array.getElem?_eq_getElem hip] using this
      · rw [List.getElem_append_right (by simp; omega)]
        simp only [Array.getD_eq_getD_getElem?]
        rw [Array.getElem?_append_right (by simp; omega)]
        simp only [List.getElem_map, List.length_map, Array.length_toList, Array.size_map]
        have := hcr (i - args.size) (by omega)
        rw [Array.getD_eq_getD_getElem?] at this
        exact .p _ _ this
    have hsz : (args.map a.eval ++ vs).size = avs.length := by
      rw [e1]; simp; omega
    have s5 : H0.all notAnc = true := by
      unfold scM at hsc
      rw [Bool.and_eq_true] at hsc
      exact hsc.2
    have R0 : Rel (subC C m s.H ks H0 w) (mren m ks) ⟨avs.length, entA 0 avs, H0⟩ (args.map a.eval ++ vs) w := by
      refine R.weakenC (s1 := ⟨avs.length, entA 0 avs, H0⟩) hsz hnd hle ho1 (BelowP.refl _ _) (fun b h => .inl h) (fun k b l h hw hl _ => .inr ⟨k, b, l, h, hw, hl, rfl⟩) (fun k i j h => ?_) fun t => ?_
      · exact absurd rfl (notAnc_spec ((List.all_eq_true.1 s5) _ (List.mem_of_getElem? h)) i j)
      · unfold St.get
        simp only
        rw [entA_lk, if_pos (Nat.zero_le _), Nat.sub_zero]
        by_cases ht : t < avs.length
        · have := e2 t ht
          simpa [List.getD, List.getElem?_eq_getElem ht] using this
        · rw [List.getD_eq_getElem?_getD, List.getElem?_eq_none (by omega)]
          exact .dead _
    have R0' := R0.addAnc (n := H0.length) (Nat.le_refl _) fun i _ => rfl
    refine (hcalls _ _ w _ R0').mono fun e w' ⟨v, m', he, R1⟩ => ?_
    subst he
    obtain ⟨m2, R2, hv⟩ := R.joinM hle hks' R1 hsc
    exact hK v m2 w' R2 hv

/-- THE WORD OF THE WALK: a call that is lent blocks. -/
theorem runs_callM {all : Array Oper} {rest : List Oper} {K : St → Prop} {dst : Option Tmp} {ty : TypeId} {pos : String} {aft : Array Edge} {gd : Option (Nat × Bool)} {fo : Operand} {args : Array Operand} {ts : Array TypeId} {g : FuncId} {avs : List AV} {H0 H1 : Heap} {r : AV} (ks : List Nat)
    (hc : FnM P g avs H0 r H1) {cap : List PV} (hfo : s.ev fo = .p (.fn g cap)) (hg : guardA all s { dst := dst, op := .call { callee := .value fo, args := args, argTypes := ts }, type := ty, pos := pos, after := aft, guard := gd } = some true)
    (hargs : argsM s.H ks (args.toList.map s.ev ++ cap.map .p) avs) (hle : LeH ks s.H ks H0) (hnd : ks.Nodup) (hks : ks.all (fun k => decide (k < s.H.length)) = true) (hsc : scM r H0 H1 = true) (hd : dstOk s dst)
    (h : Runs P false all rest K (({ s with H := putM s.H ks (H1.map (Blk.ren (ks ++ List.range' s.H.length (H1.length - ks.length)))) } : St).put dst (Go.Pv.ren (ks ++ List.range' s.H.length (H1.length - ks.length)) r))) :
    Runs P false all ({ dst := dst, op := .call { callee := .value fo, args := args, argTypes := ts }, type := ty, pos := pos, after := aft, guard := gd } :: rest) K s := by
  obtain ⟨s', hr, hK⟩ := h
  exact ⟨s', .cons (.op s _ _ hg (dstOk_spec hd) (call_doesM rfl hfo hc hargs hle hnd hks hsc) fun h => by cases h) hr, hK⟩

/-! ### How much stands in a map -/

open Classical in
noncomputable def mpLen (d : Int → Bool) : Nat := if h : ∃ l : List Int, l.Nodup ∧ ∀ z, z ∈ l ↔ d z = true then h.choose.length else 0

def keyInt : Value → Int
  | .int _ z => z
  | _ => 0

end

end Go.Pv

/-
  Steps of a region beside those that are evaluated: literal rows as one's own, entries of literal maps. Conditions: none; a library text.
-/
set_option linter.all false

namespace Go.Pv
open Go.RowKit
section
variable {P : Program} {T : TypeId → Option TI} {s : St}
/-- A literal row, as a block of the call's own. -/
theorem buildOwn_does (hT : ∀ t ti, T t = some ti → tiOf P t = some ti) {o : Oper} {t : TypeId} {n : Nat} {parts : Array (Nat × Operand)} (ho : o.op = .buildSlice t n parts) {ti te : TI} (ht : T t = some ti) {e : TypeId} (hk : ti.kind = .slice e) (hte : T e = some te) (hsz : te.size = 1) (hzl : te.zero.length = 1)
    {p : Prop} {l : List PV} (hp : partsA 1 0 (parts.toList.map fun q => (q.1, s.ev q.2)) = some (p, l)) (hvc : p) (hl : l.length = n) (hn : n ≤ 16777216) (hone : l.all PV.one = true) : DoesW P o s (.sl s.H.length 0 n) (s.H ++ [.own (opl l)]) := by
  intro C m a w K Q R hK
  have hu := ti_slice (hT _ _ ht) hk
  obtain ⟨i, d, z, h1, h2, h3, h4, h5, h6, h7, h8⟩ := tiOf_parts (hT _ _ hte)
  have key : ∀ z0 : Array Value, ∃ cs', (∀ x ∈ l, x.cells.length = 1) ∧ Instr.fill (fun i => some (i * 1, 1)) ((Array.range (n * 1)).map (z0[· % z0.size]!)) (parts.toList.map fun q => (q.1, a.eval q.2)) = some cs' ∧ cs'.size = n * 1 ∧
      ∀ c (h : c < (flat l).length), Reads (OK C m s.H w) w (flat l)[c] (cs'.getD c undef) := by
    intro z0
    obtain ⟨k1, cs', k2, k3, _, k5⟩ := partsA_run R 1 parts.toList 0 (cs := (Array.range (n * 1)).map (z0[· % z0.size]!)) hp hvc (by simp [hl])
    exact ⟨cs', k1, k2, by rw [k3]; simp, fun c hc => by have := k5 c hc; rwa [Nat.zero_mul, Nat.zero_add] at this⟩
  obtain ⟨cs', k1, k2, k3, k5⟩ := key (if n * 1 = 0 then #[] else z.cells)
  have hss := ti_size (hT _ _ hte) w
  rw [hsz] at hss
  have hfl0 := flat_length_eq 1 l k1
  have hfl : flat l = l := flat_all_one hone
  have hrun : (execOp a.eval o).run P w = .ok (.value (.slice (some ⟨w.heap.size, 0, none⟩) n n)) (w.alloc (.cells cs' e)) := by
    have hpt : (parts.map fun q => (q.1, a.eval q.2)).toList = parts.toList.map fun q => (q.1, a.eval q.2) := by simp
    have hne : ¬ (n * 1 > 2 ^ 24) := by omega
    by_cases hz : n * 1 = 0
    · rw [if_pos hz] at k2
      simp only [execOp, ho, Instr.buildSlice, Sem.run_bind, run_underlying hu, Result.andThen_ok, hss, Sem.run_ite, hz, if_true, Sem.run_pure, newRow] at k2 ⊢
      simp only [hpt, k2, Sem.run_bind, run_newObj, Result.andThen_ok, Sem.run_pure]
      rfl
    · rw [if_neg hz] at k2
      simp only [execOp, ho, Instr.buildSlice, Sem.run_bind, run_underlying hu, Result.andThen_ok, hss, Sem.run_ite, hne, if_false, hz, zeroValue, typeInfo, run_program, h1, h3, Sem.run_pure, newRow] at k2 ⊢
      simp only [hpt, k2, Sem.run_bind, run_newObj, Result.andThen_ok, Sem.run_pure]
      rfl
  have hrel := R.newBlk (below_alloc _) (cur := cs') (e := e) (heap_alloc_new w _) (by rw [k3]; unfold maxLen; omega) (c := opl l) (by rw [opl_length, k3]; omega) (by
    intro j hj
    rw [opl_length] at hj
    have := k5 j (by rw [hfl]; exact hj)
    simp only [hfl] at this
    simp only [opl, List.getElem_map]
    exact .p _ _ this)
  unfold Oper.wp
  rw [hrun]
  exact hK _ _ _ hrel (.sl _ _ _ _ (by simp) <| .inr ⟨⟨w.heap.size, 0, cs'.size⟩, n, by simp [mput], by simp, Nat.le_refl _, by simp only; omega⟩)

/-- An entry of a literal map. -/
theorem insert_does (hT : ∀ t ti, T t = some ti → tiOf P t = some ti) {o : Oper} {t : TypeId} {x y z : Operand} (ho : o.op = .insert t x y z) {ti : TI} (ht : T t = some ti) {r : OV} (h : mapUpdateA T ti s.H (s.ev x) (s.ev y) (s.ev z) = some r) (hvc : r.vc) : DoesW P o s r.av r.H := by
  intro C m a w K Q R hK
  obtain ⟨v, w', m', hy, R', hv⟩ := mapUpdateA_does hT R (o := { o with op := .mapUpdate t x y z }) rfl ht h hvc
  have := hK v m' w' R' hv
  have e : execOp a.eval o = execOp a.eval { o with op := .mapUpdate t x y z } := by
    simp only [execOp, ho]
  rcases hy with hr | ⟨hr, rfl⟩
  · unfold Oper.wp; rw [e, hr]; exact this
  · unfold Oper.wp; rw [e, hr]; exact this
section
variable {C : Ctx} {m : Map} {tmps : Array Value} {w : World}
theorem call_doesMc {o : Oper} {fo : Operand} {args : Array Operand} {ts : Array TypeId} (ho : o.op = .call { callee := .value fo, args := args, argTypes := ts }) {g : FuncId} {cap : List AV} (hfo : s.ev fo = .cl g cap) {ks : List Nat} {avs : List AV} {H0 H1 : Heap} {r : AV}
    (hc : FnM P g avs H0 r H1) (hargs : argsM s.H ks (args.toList.map s.ev ++ cap) avs) (hle : LeH ks s.H ks H0) (hnd : ks.Nodup) (hks : ks.all (fun k => decide (k < s.H.length)) = true) (hsc : scM r H0 H1 = true) :
    DoesW P o s (Go.Pv.ren (ks ++ List.range' s.H.length (H1.length - ks.length)) r) (putM s.H ks (H1.map (Blk.ren (ks ++ List.range' s.H.length (H1.length - ks.length))))) := by
  intro C m a w K Q R hK
  have hks' : ∀ k ∈ ks, k < s.H.length := fun k hk => by simpa using (List.all_eq_true.1 hks) k hk
  have hfv := R.ev fo
  rw [hfo] at hfv
  generalize hfe : a.eval fo = fv at hfv
  cases hfv with
  | cl _ _ vs hcl hcr =>
    obtain ⟨⟨fn, hfn, hnm, hbd⟩, hcalls⟩ := hc
    have hrun : (execOp a.eval o).run P w = .ok (.enter g (args.map a.eval ++ vs)) w := by
      have hnm' : ¬ fn.name = "runtime.NumGoroutine" := by simpa using hnm
      have hbd' : ¬ fn.body = none := by intro e; rw [e] at hbd; simp at hbd
      simp [execOp, ho, resolve, hfe, Deferred.ofValue, invoke, callFunc, hfn, hnm', hbd']
    unfold Oper.wp
    rw [hrun]
    simp only [Oper.upon]
    obtain ⟨g1, g2⟩ := hle.get
    have ho1 : ∀ b, OK C m s.H w b → OK (subC C m s.H ks H0 w) (mren m ks) H0 w b := by
      refine fun b h => ⟨.inl h, h.2.1, fun k c l hk hl => ?_⟩
      obtain ⟨k', d, a1, a2, _⟩ := LeH.own g2 k c hk
      simp only [mren, a1, Option.bind_some] at hl
      exact h.2.2 k' _ l a2 hl
    obtain ⟨e1, e2⟩ := argsM_val R (rd' := Reads (OK (subC C m s.H ks H0 w) (mren m ks) H0 w) w) (H0 := H0) (fun p v h => h.mono ho1) g1.symm _ avs (fun i => (args.map a.eval ++ vs).getD i undef) hargs fun i hi => by
      simp only [List.length_append, List.length_map, Array.length_toList] at hi
      by_cases hip : i < args.size
      · rw [List.getElem_append_left (by simpa using hip)]
        simp only [Array.getD_eq_getD_getElem?]
        rw [Array.getElem?_append_left (by simpa using hip)]
        have := R.ev args[i]
        simpa [Array.getElem?_eq_getElem hip] using this
      · rw [List.getElem_append_right (by simp; omega)]
        simp only [Array.getD_eq_getD_getElem?]
        rw [Array.getElem?_append_right (by simp; omega)]
        simp only [List.length_map, Array.length_toList, Array.size_map]
        have := hcr (i - args.size) (by omega)
        rw [Array.getD_eq_getD_getElem?] at this
        exact this
    have hsz : (args.map a.eval ++ vs).size = avs.length := by
      rw [e1]; simp; omega
    have s5 : H0.all notAnc = true := by
      unfold scM at hsc
      rw [Bool.and_eq_true] at hsc
      exact hsc.2
    have R0 : Rel (subC C m s.H ks H0 w) (mren m ks) ⟨avs.length, entA 0 avs, H0⟩ (args.map a.eval ++ vs) w := by
      refine R.weakenC (s1 := ⟨avs.length, entA 0 avs, H0⟩) hsz hnd hle ho1 (BelowP.refl _ _) (fun b h => .inl h) (fun k b l h hw hl _ => .inr ⟨k, b, l, h, hw, hl, rfl⟩) (fun k i j h => ?_) fun t => ?_
      · exact absurd rfl (notAnc_spec ((List.all_eq_true.1 s5) _ (List.mem_of_getElem? h)) i j)
      · unfold St.get
        simp only
        rw [entA_lk, if_pos (Nat.zero_le _), Nat.sub_zero]
        by_cases ht : t < avs.length
        · have := e2 t ht
          simpa [List.getD, List.getElem?_eq_getElem ht] using this
        · rw [List.getD_eq_getElem?_getD, List.getElem?_eq_none (by omega)]
          exact .dead _
    have R0' := R0.addAnc (n := H0.length) (Nat.le_refl _) fun i _ => rfl
    refine (hcalls _ _ w _ R0').mono fun e w' ⟨v, m', he, R1⟩ => ?_
    subst he
    obtain ⟨m2, R2, hv⟩ := R.joinM hle hks' R1 hsc
    exact hK v m2 w' R2 hv

/-- THE WORD OF THE WALK: a call of a function with captured values that is lent blocks. -/
theorem runs_callMc {all : Array Oper} {rest : List Oper} {K : St → Prop} {dst : Option Tmp} {ty : TypeId} {pos : String} {aft : Array Edge} {gd : Option (Nat × Bool)} {fo : Operand} {args : Array Operand} {ts : Array TypeId} {g : FuncId} {avs : List AV} {H0 H1 : Heap} {r : AV} (ks : List Nat)
    (hc : FnM P g avs H0 r H1) {cap : List AV} (hfo : s.ev fo = .cl g cap) (hg : guardA all s { dst := dst, op := .call { callee := .value fo, args := args, argTypes := ts }, type := ty, pos := pos, after := aft, guard := gd } = some true)
    (hargs : argsM s.H ks (args.toList.map s.ev ++ cap) avs) (hle : LeH ks s.H ks H0) (hnd : ks.Nodup) (hks : ks.all (fun k => decide (k < s.H.length)) = true) (hsc : scM r H0 H1 = true) (hd : dstOk s dst)
    (h : Runs P false all rest K (({ s with H := putM s.H ks (H1.map (Blk.ren (ks ++ List.range' s.H.length (H1.length - ks.length)))) } : St).put dst (Go.Pv.ren (ks ++ List.range' s.H.length (H1.length - ks.length)) r))) :
    Runs P false all ({ dst := dst, op := .call { callee := .value fo, args := args, argTypes := ts }, type := ty, pos := pos, after := aft, guard := gd } :: rest) K s := by
  obtain ⟨s', hr, hK⟩ := h
  exact ⟨s', .cons (.op s _ _ hg (dstOk_spec hd) (call_doesMc rfl hfo hc hargs hle hnd hks hsc) fun h => by cases h) hr, hK⟩

end
end
/-- A function with captured values, of whatever make. -/
theorem mkCl_does {P : Program} {s : St} {o : Oper} {f : FuncId} {first : Array Operand} {caps : Array Operand} (ho : o.op = .makeFunc (.func f) first caps) (hf : first.isEmpty = true) : DoesW P o s (.cl f (caps.toList.map s.ev)) s.H := by
  intro C m a w K Q R hK
  have hfe : first = #[] := by simpa using hf
  have hrun : (execOp a.eval o).run P w = .ok (.value (.func (.func f) #[] (caps.map a.eval))) w := by
    simp [execOp, ho, hfe, Instr.makeFunc]
  unfold Oper.wp
  rw [hrun]
  refine hK _ m w R (.cl _ _ _ (by simp) fun c hc => ?_)
  have hc' : c < caps.size := by simpa using hc
  have e1 : (caps.map a.eval).getD c undef = a.eval caps[c] := by simp [Array.getD_eq_getD_getElem?, hc']
  have e2 : (caps.toList.map s.ev)[c] = s.ev caps[c] := by simp
  rw [e1, e2]
  exact R.ev _
end Go.Pv

/-
  The library's sort by a comparison, over a row of the caller's own: what it leaves. Conditions: none; a library text.
-/
set_option linter.all false
namespace Go.Pv
open Go.RowKit

theorem below_grow {w w' : World} (h : Below w.heap.size w w') : ∃ q os, w' = Go.Sort.grow (w.drewN q) os := by
  refine ⟨w'.drawn - w.drawn, w'.heap.extract w.heap.size w'.heap.size, ?_⟩
  obtain ⟨h1, h2, h3, h4, h5, h6⟩ := h
  cases w with
  | mk heap tape drawn os output =>
    cases w' with
    | mk heap' tape' drawn' os' output' =>
      simp only at h1 h2 h3 h4 h5 h6
      subst h1 h2 h3
      have hh : heap' = heap ++ heap'.extract heap.size heap'.size := by
        apply Array.ext_getElem?
        intro k
        by_cases hk : k < heap.size
        · rw [Array.getElem?_append_left hk]; exact h5 k hk
        · rw [Array.getElem?_append_right (by omega), Array.getElem?_extract]
          by_cases hk2 : k < heap'.size
          · rw [if_pos (by simp; omega), show heap.size + (k - heap.size) = k by omega]
          · rw [if_neg (by simp; omega), Array.getElem?_eq_none (by omega)]
      have hd : drawn' = drawn + (drawn' - drawn) := by omega
      show World.mk heap' tape' drawn' os' output' = World.mk (heap ++ heap'.extract heap.size heap'.size) tape' (drawn + (drawn' - drawn)) os' output'
      rw [← hh, ← hd]

theorem below_sortWorld {α : Type} [Inhabited α] (enc : α → Value) (w : World) (blk off m : Nat) (dk : Array α) (os : Array Obj) : ∀ b, b ≠ blk → b < w.heap.size → (Go.Proofs.sortWorld enc w blk off m dk os).heap[b]? = w.heap[b]? := by
  intro b hb hs
  unfold Go.Proofs.sortWorld
  rw [Go.Sort.heap_grow_old _ _ (by simpa using hs)]
  simp only [Go.Sort.putRow, Go.Sort.mapBlock, Array.getElem?_modify]
  rw [if_neg (Ne.symm hb)]
  rfl

theorem perm_sorted_unique {lt : PV → PV → Prop} : ∀ (xs ys : List PV), xs.Perm ys → (∀ x ∈ xs, ∀ y ∈ xs, ¬ lt x y → ¬ lt y x → x = y) → xs.Pairwise (fun x y => ¬ lt y x) → ys.Pairwise (fun x y => ¬ lt y x) → xs = ys
  | [], ys, h, _, _, _ => by simpa using h.symm.eq_nil.symm
  | x :: r, [], h, _, _, _ => by simpa using h.eq_nil
  | x :: r, y :: s, h, ha, h1, h2 => by
    have hxy : x = y := by
      have hx : x ∈ y :: s := h.mem_iff.1 (by simp)
      have hy : y ∈ x :: r := h.mem_iff.2 (by simp)
      rcases List.mem_cons.1 hx with hx | hx
      · exact hx
      · rcases List.mem_cons.1 hy with hy' | hy'
        · exact hy'.symm
        · have a1 := (List.pairwise_cons.1 h1).1 y hy'
          have a2 := (List.pairwise_cons.1 h2).1 x hx
          exact ha x (by simp) y hy a2 a1
    subst hxy
    rw [perm_sorted_unique r s (List.Perm.cons_inv h) (fun a ha' b hb' => ha a (by simp [ha']) b (by simp [hb'])) (List.pairwise_cons.1 h1).2 (List.pairwise_cons.1 h2).2]

section
variable {P : Program} {ρ : Go.Shelf.Ren}

/-- slices.SortFunc: a row of the caller's own; a pure comparison that parts whatever two things; behind it the row holds the one list that rises. -/
theorem sort_m (L : Go.Proofs.SlLaysF.n6 P ρ) {g : FuncId} {cap : List PV} (xs ys : List PV) (cf : PV → PV → Int) (hne : xs ≠ []) (hone : ∀ x ∈ xs, x.one = true)
    (irr : ∀ x ∈ xs, ¬ cf x x < 0) (tr : ∀ x ∈ xs, ∀ y ∈ xs, ∀ z ∈ xs, cf x y < 0 → cf y z < 0 → cf x z < 0) (ntr : ∀ x ∈ xs, ∀ y ∈ xs, ∀ z ∈ xs, ¬ cf x y < 0 → ¬ cf y z < 0 → ¬ cf x z < 0)
    (anti : ∀ x ∈ xs, ∀ y ∈ xs, ¬ cf x y < 0 → ¬ cf y x < 0 → x = y) (hc : ∀ x ∈ xs, ∀ y ∈ xs, FnC P g (x :: y :: cap) (.int .i64 (cf x y)))
    (hperm : xs.Perm ys) (hs : ys.Pairwise fun x y => ¬ cf y x < 0) (hlen : xs.length < 4611686018427387904) :
    FnM P (ρ.f 6) [.sl 0 0 xs.length, .p (.fn g cap)] [.own (opl xs)] (.p (.tup [])) [.own (opl ys)] := by
  have hpos : 0 < xs.length := List.length_pos_iff.2 hne
  refine ⟨?_, fun C m w vals R => ?_⟩
  · obtain ⟨nm, h1, h2⟩ := L.f6
    exact ⟨_, h2, h1, rfl⟩
  have hsz : vals.size = 2 := R.size
  have s0 := R.slot 0
  have s1 := R.slot 1
  simp only [St.get, entA, lk, BEq.rfl, cond_true, show ((0 : Nat) == 1) = false from rfl, cond_false] at s0 s1
  generalize hv0 : vals.getD 0 undef = v0 at s0
  generalize hv1 : vals.getD 1 undef = v1 at s1
  have hvals : vals = #[v0, v1] := by
    apply Array.ext
    · simpa using hsz
    · intro i h1 h2
      simp only [Array.getD_eq_getD_getElem?] at hv0 hv1
      match i, h2 with
      | 0, _ => rw [Array.getElem?_eq_getElem h1] at hv0; simpa using hv0
      | 1, _ => rw [Array.getElem?_eq_getElem h1] at hv1; simpa using hv1
  subst hvals
  have s1 := s1.p_inv
  cases s1 with
  | fn _ _ vs hcl hcr =>
  cases s0 with
  | sl _ _ _ _ hk0 h0 =>
  rcases h0 with ⟨h0, _⟩ | ⟨l, cp, hm, rfl, hle, hlo⟩
  · omega
  rcases R.blk 0 (opl xs) rfl with ⟨hx, _⟩ | ⟨l', cur, e, hm', hB, hg, hcs, hmx, hol, hcell⟩
  · exact absurd (show xs = [] by simpa [opl] using hx) hne
  rw [hm] at hm'; cases hm'
  rw [opl_length] at hol
  generalize hok : OK C m ([.own (opl xs)] ++ ancs 0 [Blk.own (opl xs)].length) w = ok at *
  have hokne : ∀ b, ok b → b ≠ l.g := fun b hb => by
    subst hok
    exact fun e => hb.2.2 0 _ l rfl hm e.symm
  have hoklt : ∀ b, ok b → b < w.heap.size := fun b hb => by subst hok; exact hb.2.1
  have hblk : l.g < w.heap.size := (Array.getElem?_eq_some_iff.1 hg).1
  have hrd : ∀ j (h : j < xs.length), Reads ok w xs[j] (cur.getD (l.o + j) undef) := fun j h => by
    have := hcell j (by rw [opl_length]; exact h)
    simp only [opl, List.getElem_map] at this
    subst hok
    exact this.p_inv
  let α := {p : PV × Value // p.1 ∈ xs ∧ Reads ok w p.1 p.2}
  have inh : α := ⟨(xs[0], cur.getD (l.o + 0) undef), List.getElem_mem hpos, hrd 0 hpos⟩
  letI : Inhabited α := ⟨inh⟩
  let enc : α → Value := fun x => x.1.2
  let cf' : α → α → Int := fun x y => cf x.1.1 y.1.1
  let d : Array α := Array.ofFn fun j : Fin xs.length => (⟨(xs[j], cur.getD (l.o + j) undef), List.getElem_mem j.2, hrd j j.2⟩ : α)
  have hd : d.size = xs.length := by simp [d]
  have hdj : ∀ j (h : j < xs.length), d[j]! = (⟨(xs[j], cur.getD (l.o + j) undef), List.getElem_mem h, hrd j h⟩ : α) := fun j h => by
    rw [getElem!_pos d j (by omega)]
    simp [d]
  have h1 : Go.Proofs.OneCell enc := fun x => (Reads.one x.2.2 (hone _ x.2.1)).1
  have hO : Go.Sort.SWO (Go.Proofs.ltOf cf') := by
    refine ⟨fun x => ?_, fun x y z h1 h2 => ?_, fun x y z h1 h2 => ?_⟩
    · exact decide_eq_false (irr _ x.2.1)
    · exact decide_eq_true (tr _ x.2.1 _ y.2.1 _ z.2.1 (of_decide_eq_true h1) (of_decide_eq_true h2))
    · exact decide_eq_false (ntr _ x.2.1 _ y.2.1 _ z.2.1 (of_decide_eq_false h1) (of_decide_eq_false h2))
  have hH : Go.Sort.Holds enc w l.g (l.o + 0) d := fun j hj => by
    rw [hd] at hj
    have hjc : l.o + j < cur.size := by omega
    refine ⟨?_, ?_⟩
    · rw [hdj j hj]
      show w.cell? ⟨l.g, l.o + 0 + j, none⟩ = some (cur.getD (l.o + j) undef)
      simp only [World.cell?, hg, Nat.add_zero]
      simp [Array.getD_eq_getD_getElem?, Array.getElem?_eq_getElem hjc]
    · simp [World.frozen?, hg]
  have eg : ∀ args w, (callFunc g args).run P w = .ok (.enter g args) w := by
    obtain ⟨fn, f1, f2, f3⟩ := (hc _ (List.getElem_mem hpos) _ (List.getElem_mem hpos)).1
    obtain ⟨c, hcb⟩ := Option.ne_none_iff_exists'.1 (show fn.body ≠ none by intro e; rw [e] at f3; simp at f3)
    exact Go.Proofs.enters_of f1 f2 hcb
  have hcmp : Go.Proofs.CmpLays1 P g vs enc cf' l.g (l.o + 0) d.size w := fun m1 os dk hs x y => by
    have hheap : ∀ b, ok b → (Go.Proofs.sortWorld enc w l.g (l.o + 0) m1 dk os).heap[b]? = w.heap[b]? := fun b hb => below_sortWorld enc w l.g _ m1 dk os b (hokne b hb) (hoklt b hb)
    have hsw : w.heap.size ≤ (Go.Proofs.sortWorld enc w l.g (l.o + 0) m1 dk os).heap.size := by simp [Go.Proofs.sortWorld]
    refine ((hc _ x.2.1 _ y.2.1).2 ok _ (#[enc x, enc y] ++ vs) ⟨fun b hb => Nat.lt_of_lt_of_le (hoklt b hb) hsw, fun gg ll hgg => ?_⟩ (by simp [hcl]; omega) fun i hi => ?_).mono fun e' w2 ⟨v, he, hbl, hv⟩ => ?_
    · have := R.laid gg ll hgg
      rw [hok] at this
      exact this.ext (fun _ h => h) hheap
    · match i, hi with
      | 0, _ =>
        have e0 : (#[enc x, enc y] ++ vs).getD 0 undef = enc x := by simp [Array.getD_eq_getD_getElem?, Array.getElem?_append]
        rw [e0]
        exact x.2.2.ext (fun _ h => h) hheap
      | 1, _ =>
        have e0 : (#[enc x, enc y] ++ vs).getD 1 undef = enc y := by simp [Array.getD_eq_getD_getElem?, Array.getElem?_append]
        rw [e0]
        exact y.2.2.ext (fun _ h => h) hheap
      | i + 2, hi =>
        have hi' : i < cap.length := by simpa using hi
        have e2 : (#[enc x, enc y] ++ vs).getD (i + 2) undef = vs.getD i undef := by
          simp only [Array.getD_eq_getD_getElem?]
          rw [Array.getElem?_append_right (by simp)]
          simp
        rw [e2]
        exact (hcr i hi').ext (fun _ h => h) hheap
    · subst he
      cases hv
      exact ⟨rfl, below_grow hbl⟩
  have hcall := Go.Proofs.Any.slices_SortFunc L enc h1 cf' hO g vs l.g (l.o + 0) cp d w eg hcmp hH hblk (by omega)
  rw [hd] at hcall
  refine hcall.mono fun e2 w2 ⟨he, d', n, os, hp, hso, hw⟩ => ?_
  subst he
  refine ⟨.tuple #[], m, rfl, ?_⟩
  have hs' : d'.size = xs.length := by rw [hp.1, hd]
  have hdl : d.toList.map (fun x => x.1.1) = xs := by
    apply List.ext_getElem
    · simp [d]
    · intro i h1 h2
      simp [d]
  have hperm2 : (d'.toList.map fun x => x.1.1).Perm xs := by
    have := hp.2.2
    rw [← hd, Array.extract_size] at this
    have h3 : d'.extract 0 d.size = d' := by rw [hd, ← hs', Array.extract_size]
    rw [h3] at this
    have h4 := this.map (fun x : α => x.1.1)
    rwa [hdl] at h4
  have hys : d'.toList.map (fun x => x.1.1) = ys := by
    refine perm_sorted_unique (lt := fun x y => cf x y < 0) _ _ (hperm2.trans hperm) (fun x hx y hy => anti x (hperm2.mem_iff.1 hx) y (hperm2.mem_iff.1 hy)) ?_ hs
    rw [List.pairwise_iff_getElem]
    intro i j hi hj hij
    simp only [List.length_map, Array.length_toList] at hi hj
    have := hso i j (Nat.zero_le _) hij (by omega)
    rw [getElem!_pos d' i hi, getElem!_pos d' j hj] at this
    simpa using of_decide_eq_false this
  have hyl : ys.length = xs.length := hperm.length_eq.symm
  -- the row as it stands behind the sort
  have R1 : Rel C m ⟨2, entA 0 [.sl 0 0 xs.length, .p (.fn g cap)], hset ([.own (opl xs)] ++ ancs 0 [Blk.own (opl xs)].length) 0 (.own (opl ys))⟩ #[.slice (some ⟨l.g, l.o + 0, none⟩) xs.length cp, .func (.func g) #[] vs] (Go.Sort.putRow enc (Go.Sort.ahead w n) l.g (l.o + 0) d') := by
    refine R.setBlk (a := { tmps := #[.slice (some ⟨l.g, l.o + 0, none⟩) xs.length cp, .func (.func g) #[] vs], defers := [] }) (c := opl xs) rfl hm ⟨rfl, rfl, rfl, by simp, fun k hk => ?_, by simp⟩ (fun b hb => ?_) (cur := Go.Sort.putCells enc (l.o + 0) d' cur) (e := e) ?_ (by simp [Go.Sort.putCells, hcs]) (by rw [opl_length]; omega) fun j hj => ?_
    · simp only [Go.Sort.putRow, Go.Sort.mapBlock, Array.getElem?_modify]
      rw [if_neg (fun e => hk (by rw [← e]; exact hB))]; rfl
    · simp only [Go.Sort.putRow, Go.Sort.mapBlock, Array.getElem?_modify]
      rw [if_neg (Ne.symm hb)]; rfl
    · simp only [Go.Sort.putRow, Go.Sort.mapBlock, Array.getElem?_modify]
      rw [if_pos trivial]
      show Option.map _ (w.heap[l.g]?) = _
      rw [hg]; rfl
    · rw [opl_length] at hj
      have hjd : j < d'.size := by omega
      have hjc : l.o + j < cur.size := by omega
      have e3 : (Go.Sort.putCells enc (l.o + 0) d' cur).getD (l.o + j) undef = enc d'[j] := by
        simp only [Go.Sort.putCells, Array.getD_eq_getD_getElem?, Array.getElem?_mapIdx, Array.getElem?_eq_getElem hjc, Option.map_some, Option.getD_some]
        rw [if_pos ⟨by omega, by omega⟩, show l.o + j - (l.o + 0) = j by omega, getElem!_pos d' j hjd]
      rw [e3]
      have e4 : ys[j] = d'[j].1.1 := by
        have := hys
        subst this
        simp
      have e5 : (opl ys)[j]'(by rw [opl_length]; exact hj) = .p ys[j] := by simp [opl]
      rw [e5, e4]
      have h6 := d'[j].2.2
      refine .p _ _ ?_
      show Reads (OK C m ([.own (opl xs)] ++ ancs 0 [Blk.own (opl xs)].length) w) w _ _
      rw [hok]
      exact h6
  have R2 := R1.later (w' := w2) (by
    rw [hw]
    refine ⟨rfl, rfl, rfl, by simp [Go.Proofs.sortWorld], fun k hk => ?_, Nat.le_refl _⟩
    unfold Go.Proofs.sortWorld
    exact Go.Sort.heap_grow_old _ _ hk)
  exact ⟨R2.laid, R2.below, R2.base, rfl, R2.inj, R2.blk, R2.fro, fun t => by
    cases t with
    | zero => exact .p _ _ (.tup [] #[] rfl fun c h => absurd h (by simp))
    | succ t => exact .dead _, R2.mp⟩

end
end Go.Pv

/-
  Contracts of the library, laid at this dump: numbers, and that each body is the same. Conditions: none; written by a program of this repo out of the kit's own tool.
-/
set_option linter.all false
namespace Go.Proofs
open Go.Shelf
def Tryd.sortS_ren : Go.Shelf.Ren := ⟨fun | 6 => 108 | 15 => 124 | 14 => 130 | 28 => 145 | 29 => 146 | 20 => 148 | 21 => 149 | 22 => 150 | 23 => 151 | 24 => 152 | 25 => 153 | 26 => 154 | 27 => 155 | 46 => 162 | 47 => 158 | 48 => 159 | 49 => 163 | 50 => 164 | 57 => 166 | n => n, fun | 22 => 68 | 24 => 71 | 25 => 95 | 3 => 3 | 39 => 102 | 0 => 0 | 53 => 118 | 55 => 70 | 4 => 4 | 46 => 111 | 45 => 110 | 50 => 115 | 5 => 5 | 9 => 9 | 66 => 125 | 70 => 129 | 76 => 133 | 77 => 134 | n => n, fun | n => n⟩
theorem Tryd.sortS : Go.Proofs.SlLaysF.n6 Tryd.prog Tryd.sortS_ren := {
  mixed := by kernel_rfl
  f6 := ⟨Tryd.f108.name, by decide, Tryd.func108.trans (congrArg some (by kernel_rfl))⟩
  f14 := ⟨Tryd.f130.name, by decide, Tryd.func130.trans (congrArg some (by kernel_rfl))⟩
  f15 := Tryd.func124.trans (congrArg some (by kernel_rfl))
  f20 := ⟨Tryd.f148.name, by decide, Tryd.func148.trans (congrArg some (by kernel_rfl))⟩
  f21 := ⟨Tryd.f149.name, by decide, Tryd.func149.trans (congrArg some (by kernel_rfl))⟩
  f22 := ⟨Tryd.f150.name, by decide, Tryd.func150.trans (congrArg some (by kernel_rfl))⟩
  f23 := ⟨Tryd.f151.name, by decide, Tryd.func151.trans (congrArg some (by kernel_rfl))⟩
  f24 := ⟨Tryd.f152.name, by decide, Tryd.func152.trans (congrArg some (by kernel_rfl))⟩
  f25 := ⟨Tryd.f153.name, by decide, Tryd.func153.trans (congrArg some (by kernel_rfl))⟩
  f26 := ⟨Tryd.f154.name, by decide, Tryd.func154.trans (congrArg some (by kernel_rfl))⟩
  f27 := ⟨Tryd.f155.name, by decide, Tryd.func155.trans (congrArg some (by kernel_rfl))⟩
  f28 := Tryd.func145.trans (congrArg some (by kernel_rfl))
  f29 := Tryd.func146.trans (congrArg some (by kernel_rfl))
  f46 := ⟨Tryd.f162.name, by decide, Tryd.func162.trans (congrArg some (by kernel_rfl))⟩
  f47 := Tryd.func158.trans (congrArg some (by kernel_rfl))
  f48 := Tryd.func159.trans (congrArg some (by kernel_rfl))
  f49 := ⟨Tryd.f163.name, by decide, Tryd.func163.trans (congrArg some (by kernel_rfl))⟩
  f50 := ⟨Tryd.f164.name, by decide, Tryd.func164.trans (congrArg some (by kernel_rfl))⟩
  f57 := ⟨Tryd.f166.name, by decide, Tryd.func166.trans (congrArg some (by kernel_rfl))⟩
  t0 := Tryd.underlying0
  a0 := Tryd.isAgg0
  z0 := Tryd.sizeOf0
  v0 := Tryd.zeroValue0
  t3 := Tryd.underlying3
  a3 := Tryd.isAgg3
  z3 := Tryd.sizeOf3
  v3 := Tryd.zeroValue3
  t4 := Tryd.underlying4
  a4 := Tryd.isAgg4
  z4 := Tryd.sizeOf4
  v4 := Tryd.zeroValue4
  t5 := Tryd.underlying5
  a5 := Tryd.isAgg5
  z5 := Tryd.sizeOf5
  v5 := Tryd.zeroValue5
  t9 := Tryd.underlying9
  a9 := Tryd.isAgg9
  z9 := Tryd.sizeOf9
  v9 := Tryd.zeroValue9
  t22 := Tryd.underlying68
  a22 := Tryd.isAgg68
  z22 := Tryd.sizeOf68
  v22 := Tryd.zeroValue68
  a24 := Tryd.isAgg71
  z24 := Tryd.sizeOf71
  t25 := Tryd.underlying95
  a25 := Tryd.isAgg95
  z25 := Tryd.sizeOf95
  v25 := Tryd.zeroValue95
  t39 := Tryd.underlying102
  a39 := Tryd.isAgg102
  z39 := Tryd.sizeOf102
  v39 := Tryd.zeroValue102
  t45 := Tryd.underlying110
  a45 := Tryd.isAgg110
  z45 := Tryd.sizeOf110
  v45 := Tryd.zeroValue110
  t46 := Tryd.underlying111
  a46 := Tryd.isAgg111
  z46 := Tryd.sizeOf111
  v46 := Tryd.zeroValue111
  t50 := Tryd.underlying115
  a50 := Tryd.isAgg115
  z50 := Tryd.sizeOf115
  v50 := Tryd.zeroValue115
  t53 := Tryd.underlying118
  a53 := Tryd.isAgg118
  z53 := Tryd.sizeOf118
  v53 := Tryd.zeroValue118
  t55 := Tryd.underlying70
  a55 := Tryd.isAgg70
  z55 := Tryd.sizeOf70
  v55 := Tryd.zeroValue70
  t66 := Tryd.underlying125
  a66 := Tryd.isAgg125
  z66 := Tryd.sizeOf125
  v66 := Tryd.zeroValue125
  t70 := Tryd.underlying129
  a70 := Tryd.isAgg129
  z70 := Tryd.sizeOf129
  v70 := Tryd.zeroValue129
  t76 := Tryd.underlying133
  a76 := Tryd.isAgg133
  z76 := Tryd.sizeOf133
  v76 := Tryd.zeroValue133
  t77 := Tryd.underlying134
  a77 := Tryd.isAgg134
  z77 := Tryd.sizeOf134
  v77 := Tryd.zeroValue134 }
def Tryd.sortL_ren : Go.Shelf.Ren := ⟨fun | 6 => 91 | 15 => 124 | 14 => 123 | 28 => 145 | 29 => 146 | 20 => 137 | 21 => 138 | 22 => 139 | 23 => 140 | 24 => 141 | 25 => 142 | 26 => 143 | 27 => 144 | 46 => 157 | 47 => 158 | 48 => 159 | 49 => 160 | 50 => 161 | 57 => 165 | n => n, fun | 22 => 25 | 24 => 22 | 25 => 87 | 3 => 3 | 39 => 102 | 0 => 0 | 53 => 118 | 55 => 70 | 4 => 4 | 46 => 111 | 45 => 110 | 50 => 115 | 5 => 5 | 9 => 9 | 66 => 125 | 70 => 129 | 76 => 133 | 77 => 134 | n => n, fun | n => n⟩
end Go.Proofs

/-
  All subgroups, as the program has them: AllOf, All, Frattini. Conditions: none.
-/
set_option linter.all false
namespace Go.Proofs.YtjikchbmkodgfaaDoor
open Go.Pv

def ul (L : List Nat) : List PV := L.map fun (x : Nat) => PV.int .u64 (x : Int)
theorem ul_length (L : List Nat) : (ul L).length = L.length := by simp [ul]
theorem ul_get {L : List Nat} {i : Nat} (h : i < L.length) : (ul L).getD i default = .int .u64 ((L.getD i 0 : Nat) : Int) := by
  simp [ul, List.getD, List.getElem?_eq_getElem h]
theorem oul_get {L : List Nat} {i : Nat} (h : i < L.length) (d : AV) : (opl (ul L)).getD i d = .p (.int .u64 ((L.getD i 0 : Nat) : Int)) := by
  simp [opl, ul, List.getD, List.getElem?_eq_getElem h]
theorem ul_one (L : List Nat) : ∀ x ∈ ul L, x.one = true := fun x hx => by
  obtain ⟨y, _, rfl⟩ := List.mem_map.1 hx; rfl
theorem ul_all (L : List Nat) : (ul L).all PV.one = true := List.all_eq_true.2 (ul_one L)
theorem oul_ok (L : List Nat) : (opl (ul L)).all cellOk = true := opl_ok (ul_all L)
theorem ul_snoc (L : List Nat) (x : Nat) : ul L ++ [.int .u64 (x : Int)] = ul (L ++ [x]) := by simp [ul]
theorem oul_snoc (L : List Nat) (x : Nat) : opl (ul L) ++ [.p (.int .u64 (x : Int))] = opl (ul (L ++ [x])) := by simp [ul, opl]
theorem oul_take (L : List Nat) : (opl (ul L)).take L.length = opl (ul L) := List.take_of_length_le (by rw [opl_length, ul_length]; exact Nat.le_refl _)
/-- Keys. -/
def kl (L : List Nat) : List Int := L.map fun (x : Nat) => (x : Int)
theorem mem_kl {L : List Nat} {x : Nat} : (x : Int) ∈ kl L ↔ x ∈ L := by
  unfold kl
  rw [List.mem_map]
  constructor
  · rintro ⟨y, hy, he⟩
    have : y = x := by omega
    rwa [this] at hy
  · exact fun h => ⟨x, h, rfl⟩
theorem kl_snoc (L : List Nat) (x : Nat) : kl (L ++ [x]) = kl L ++ [(x : Int)] := by simp [kl]
def tt : Int → PV := fun _ => .bool true

def cfA : PV → PV → Int
  | .int _ x, .int _ y => cmpS (stl x.toNat) (stl y.toNat)
  | _, _ => 0
theorem getD_snoc {L : List Nat} {x j : Nat} (hj : j < L.length) : (L ++ [x]).getD j 0 = L.getD j 0 := by
  rw [List.getD_eq_getElem?_getD, List.getElem?_append_left hj, ← List.getD_eq_getElem?_getD]
theorem getD_memN {L : List Nat} {j : Nat} (hj : j < L.length) : L.getD j 0 ∈ L := by
  rw [List.getD_eq_getElem?_getD, List.getElem?_eq_getElem hj]; exact List.getElem_mem hj
theorem mem_getDN {L : List Nat} {x : Nat} (hx : x ∈ L) : ∃ j, j < L.length ∧ L.getD j 0 = x := by
  obtain ⟨j, hj, rfl⟩ := List.getElem_of_mem hx
  exact ⟨j, hj, by rw [List.getD_eq_getElem?_getD, List.getElem?_eq_getElem hj]; rfl⟩

section
variable {n e : Nat} {m : List Int}

/-- Where the search stands: at row i, things below a are done. -/
structure Srch (n : Nat) (f : Nat → Nat → Nat) (e : Nat) (i : Nat) (L : List Nat) : Prop where
  inv : AllI n f e L
  done : ∀ j, j < i → ∀ a, a < n → Dn n f e (L.getD j 0) a L

set_option maxHeartbeats 4000000 in
set_option maxRecDepth 100000 in
theorem allOf_c (h : GT n m n e) (hn : n ≤ 24) {SL : List Nat} (hS : AllS n (op m n) e SL) : FnC Tryd.prog 67 [gp n m] (.list (ul SL)) := by
  have G := h.2.2
  have hb := h.2.1.big
  have hbt : ∀ p, bo n p < 2 ^ 64 := fun p => bo_lt64 hb p
  have h24 : 2 ^ n ≤ 16777216 := Nat.le_trans (Nat.pow_le_pow_right (by omega) hn) (by decide)
  have hd0 := mpd_set [] ((bo n (onp e) : Nat) : Int)
  have hv0 := mpv_set [] ((bo n (onp e) : Nat) : Int) tt
  rw [← mpd_nil] at hd0
  rw [← mpv_nil] at hv0
  have hk0 : kl [bo n (onp e)] = [] ++ [((bo n (onp e) : Nat) : Int)] := rfl
  refine fnc_of tab_ok Tryd.func67 rfl (by kernel_rfl) (by rw [Tryd.ntmps67]; exact Nat.le_add_left 1 _) ?_; rw [Tryd.ntmps67]
  refine qm ?_
  refine hk_region fun K hK => runs_eval tab_ok ?_
  simp only [ev0, evA, evB, evP, fl, gp, tab, simprocAttr, reduceCtorEq, reduceIte]
  refine fin_run ?_ (hK _ ?_) <;> clear hK <;> clear K
  · (first | exact trivial | omega | (simp only [In64] at *; omega) | (simp [In64] at *; omega) | (simp_all; done) | skip)
  refine qa (qm ?_)
  refine hk_region fun K hK => runs_eval tab_ok ?_
  simp only [ev0, evA, evB, evP, fl, gp, tab, simprocAttr, reduceCtorEq, reduceIte]
  refine fin_stop trivial (runs_call (grow_c h 0 (Nat.pow_pos (by omega)) (onp e) onp_gen) rfl rfl rfl (by simp only [dstOk, Nat.reduceLT]) (by repeat (first | exact trivial | constructor)) (runs_op (buildOwn_does (n := 1) (l := [.int .u64 ((bo n (onp e) : Nat) : Int)]) tab_ok rfl rfl rfl rfl rfl rfl rfl ⟨⟨rfl, rfl, rfl⟩, trivial⟩ rfl (by decide) rfl) rfl (show (10 : Nat) < 56 by decide) (runs_eval tab_ok ?_)))
  simp only [ev0, evA, evB, evP, fl, gp, tab, simprocAttr, reduceCtorEq, reduceIte]
  refine fin_run ?_ (hK _ ?_) <;> clear hK <;> clear K
  · trivial
  refine qa (qm ?_)
  refine hk_region fun K hK => runs_eval tab_ok ?_
  simp only [ev0, evA, evB, evP, fl, gp, tab, simprocAttr, reduceCtorEq, reduceIte, (show ∀ d : AV, (opl [PV.int .u64 ((bo n (onp e) : Nat) : Int)]).getD 0 d = .p (.int .u64 ((bo n (onp e) : Nat) : Int)) from fun _ => rfl)]
  refine fin_stop ?_ (runs_op (insert_does tab_ok rfl rfl rfl (by exact ⟨rfl, rfl⟩)) rfl (by simp only [dstOk, Nat.reduceLT]) (runs_eval tab_ok ?_))
  · (first | exact trivial | omega | (simp only [In64] at *; omega) | (simp [In64] at *; omega) | (simp_all; done) | skip)
  simp only [ev0, evA, evB, evP, fl, gp, tab, simprocAttr, reduceCtorEq, reduceIte, (show ∀ d : AV, (opl [PV.int .u64 ((bo n (onp e) : Nat) : Int)]).getD 0 d = .p (.int .u64 ((bo n (onp e) : Nat) : Int)) from fun _ => rfl)]
  refine fin_run ?_ (hK _ ?_) <;> clear hK <;> clear K
  · (first | exact trivial | omega | (simp only [In64] at *; omega) | (simp [In64] at *; omega) | (simp_all; done) | skip)
  refine qa (qm (qm ?_))
  refine hk_region fun K hK => runs_eval tab_ok ?_
  simp only [ev0, evA, evB, evP, fl, gp, tab, simprocAttr, reduceCtorEq, reduceIte]
  refine fin_run trivial (hK _ ?_) <;> clear hK <;> clear K
  refine qa (ql ?_)
  refine hk_loop (ι := Nat × List Nat) (fun p => ⟨56, [(1, .ptr 0 0), (3, .sl 1 0 p.2.length), (4, .mptr 2), (5, .p (.int .i64 p.1))], [.own [.p (.int .i64 n), .p (.list (il m))], .own (opl (ul p.2)), .mp .u64 (mpd (kl p.2)) (mpv (kl p.2) tt)]⟩) (fun p => p.1 ≤ p.2.length ∧ Srch n (op m n) e p.1 p.2) (fun p => 2 ^ n - p.1) (0, [bo n (onp e)]) ⟨Nat.zero_le _, ⟨by simp, fun x hx => by rw [List.mem_singleton] at hx; exact ⟨_, G.onp_sub, hx⟩, by simp⟩, fun j hj => by omega⟩ [0, 1, 2] (by simp only [hk0, ← hd0, ← hv0]; simp only [leq, leA, ev0, evA, evB, evP, fl, gp, tab, simprocAttr, reduceCtorEq, reduceIte] <;> first | trivial | exact ⟨rfl, rfl⟩ | rfl) fun p hp => ?_
  obtain ⟨i, L⟩ := p
  obtain ⟨hi, hI, hD⟩ := hp
  simp only at hi hI hD
  have hLn := hI.len
  refine qm (qm ?_)
  refine hk_region fun K hK => runs_eval tab_ok ?_
  simp only [ev0, evA, evB, evP, fl, gp, tab, simprocAttr, reduceCtorEq, reduceIte]
  refine fin_run trivial (hK _ ?_) <;> clear hK <;> clear K
  refine qa ?_
  refine hk_cond rfl (fun hC1 => ?_) (fun hC1 => ?_)
  · (try simp only [nhs] at hC1)
    have hlt : i < L.length := by omega
    have hxm := getD_memN hlt
    obtain ⟨p, hp, hx⟩ := hI.subs _ hxm
    refine qh (qa (qm (ql (qm ?_))))
    refine hk_region fun K hK => runs_eval tab_ok ?_
    simp only [ev0, evA, evB, evP, fl, gp, tab, simprocAttr, reduceCtorEq, reduceIte]
    refine fin_run ?_ (hK _ ?_) <;> clear hK <;> clear K
    · (first | exact trivial | omega | (simp only [In64] at *; omega) | (simp [In64] at *; omega) | (simp_all; done) | skip)
    refine qa (ql ?_)
    refine hk_loop (ι := Nat × List Nat) (fun q => ⟨56, [(1, .ptr 0 0), (3, .sl 1 0 q.2.length), (4, .mptr 2), (5, .p (.int .i64 i)), (23, .p (.int .i64 n)), (24, .p (.int .i64 q.1))], [.own [.p (.int .i64 n), .p (.list (il m))], .own (opl (ul q.2)), .mp .u64 (mpd (kl q.2)) (mpv (kl q.2) tt)]⟩) (fun q => q.1 ≤ n ∧ i < q.2.length ∧ q.2.getD i 0 = bo n p ∧ Srch n (op m n) e i q.2 ∧ ∀ b, b < q.1 → Dn n (op m n) e (bo n p) b q.2) (fun q => n - q.1) (0, L) ⟨Nat.zero_le _, hlt, hx, ⟨hI, hD⟩, fun b hb => by omega⟩ [0, 1, 2] (by simp only [leq, leA, ev0, evA, evB, evP, fl, gp, tab, simprocAttr, reduceCtorEq, reduceIte] <;> trivial) fun q hq => ?_
    obtain ⟨a, M⟩ := q
    obtain ⟨ha, hiM, hxM, ⟨hIM, hDM⟩, hdone⟩ := hq
    simp only at ha hiM hxM hIM hDM hdone
    have hMn := hIM.len
    refine qm ?_
    refine hk_region fun K hK => runs_eval tab_ok ?_
    simp only [ev0, evA, evB, evP, fl, gp, tab, simprocAttr, reduceCtorEq, reduceIte]
    refine fin_run trivial (hK _ ?_) <;> clear hK <;> clear K
    refine qa (qm ?_)
    refine hk_cond rfl (fun hC2 => ?_) (fun hC2 => ?_)
    · (try simp only [nhs] at hC2)
      have hal : a < n := by omega
      have hbit : (bo n p).testBit a = p a := by rw [bo_bit]; simp [hal]
      refine qh (qa (qm (ql (qm ?_))))
      refine hk_region fun K hK => runs_eval tab_ok ?_
      simp only [ev0, evA, evB, evP, fl, gp, tab, simprocAttr, reduceCtorEq, reduceIte]
      refine fin_run trivial (hK _ ?_) <;> clear hK <;> clear K
      refine qa (qm (qm ?_))
      refine hk_region fun K hK => runs_eval tab_ok ?_
      simp only [ev0, evA, evB, evP, fl, gp, tab, simprocAttr, reduceCtorEq, reduceIte, oul_get hiM, hxM, ul_length]
      refine fin_stop ?_ (runs_call (has_s (bo n p) a (hbt _) (by omega)) rfl rfl rfl (by simp only [dstOk, Nat.reduceLT]) (by repeat (first | exact trivial | constructor)) (runs_eval tab_ok ?_))
      · (first | exact trivial | omega | (simp only [In64] at *; omega) | (simp [In64] at *; omega) | (simp_all; done) | skip)
      simp only [ev0, evA, evB, evP, fl, gp, tab, simprocAttr, reduceCtorEq, reduceIte, hbit, oul_get hiM, hxM, ul_length]
      refine fin_run ?_ (hK _ ?_) <;> clear hK <;> clear K
      · (first | exact trivial | omega | (simp only [In64] at *; omega) | (simp [In64] at *; omega) | (simp_all; done) | skip)
      refine qa ?_
      refine hk_cond rfl (fun hC3 => ?_) (fun hC3 => ?_)
      · (try simp only [nhs] at hC3)
        have hdn : Dn n (op m n) e (bo n p) a M := fun q hq => by
          have : bo n q = bo n p := bo_congr fun y hy => by
            rw [Bool.eq_iff_iff, hq y hy, hp.gen G hy]
            constructor
            · exact fun hg => (hg.sub G hp fun b hb2 hw => by
                unfold wta at hw
                rw [bo_bit, Bool.or_eq_true, Bool.and_eq_true, decide_eq_true_eq, decide_eq_true_eq] at hw
                rcases hw with hw | hw
                · exact hw.2
                · rw [hw]; exact hC3) |> (hp.gen G hy).1
            · exact fun hg => Gen.mono (fun b hb2 hw => by unfold wta; rw [bo_bit]; simp [hb2, hw]) hg
          rw [this, ← hxM]; exact getD_memN hiM
        refine qj (qc (qf (qa ?_)))
        refine hk_region fun K hK => runs_eval tab_ok ?_
        simp only [ev0, evA, evB, evP, fl, gp, tab, simprocAttr, reduceCtorEq, reduceIte]
        refine fin_run ?_ (hK _ ?_) <;> clear hK <;> clear K
        · (first | exact trivial | omega | (simp only [In64] at *; omega) | (simp [In64] at *; omega) | (simp_all; done) | skip)
        refine qa ?_
        refine ⟨(a + 1, M), [0, 1, 2], ⟨show a + 1 ≤ n by omega, hiM, hxM, ⟨hIM, hDM⟩, fun b hb => ?_⟩, show n - (a + 1) < n - a by omega, ?_⟩
        · by_cases hba : b = a
          · rw [hba]; exact hdn
          · exact hdone b (by have : b < a + 1 := hb
                              omega)
        · simp only [leq, leA, ev0, evA, evB, evP, fl, gp, tab, simprocAttr, reduceCtorEq, reduceIte] <;> omega
      · (try simp only [nhs] at hC3)
        have hpw := pow_lt64 (b := a) (by omega)
        have hw := bo_wta p hal
        obtain ⟨q, hq⟩ := gen_ex n (op m n) e (wta p a)
        have hqs := gen_sub G hq
        have hdq : ∀ M', bo n q ∈ M' → Dn n (op m n) e (bo n p) a M' := fun M' hm r hr => by
          have : bo n r = bo n q := bo_congr fun y hy => by
            rw [Bool.eq_iff_iff, hr y hy, hq y hy]
            refine ⟨fun hg => Gen.mono (fun b hb2 hw => ?_) hg, fun hg => Gen.mono (fun b hb2 hw => ?_) hg⟩
            · unfold wta at hw ⊢; rw [bo_bit] at hw; simpa [hb2] using hw
            · unfold wta at hw ⊢; rw [bo_bit]; simpa [hb2] using hw
          rw [this]; exact hm
        refine qh (qa (qm ?_))
        refine hk_draw mixed (by kernel_rfl) fun K hK => runs_eval tab_ok ?_
        simp only [ev0, evA, evB, evP, fl, gp, tab, simprocAttr, reduceCtorEq, reduceIte, oul_get hiM, hxM, ul_length, shl_one (show a < 64 by omega), bv_or (hbt p) hpw, hw]
        refine fin_stop ?_ (runs_call (grow_c h (bo n (wta p a)) (bo_lt n _) q (fun b hb2 => by rw [gen_bo]; exact hq b hb2)) rfl rfl rfl (by simp only [dstOk, Nat.reduceLT]) (by repeat (first | exact trivial | constructor)) (runs_eval tab_ok ?_))
        · (first | exact trivial | omega | (simp only [In64] at *; omega) | (simp [In64] at *; omega) | (simp_all; done) | skip)
        simp only [ev0, evA, evB, evP, fl, gp, tab, simprocAttr, reduceCtorEq, reduceIte, oul_get hiM, hxM, ul_length, shl_one (show a < 64 by omega), bv_or (hbt p) hpw, hw]
        refine fin_run ?_ (hK _ ?_) <;> clear hK <;> clear K
        · (first | exact trivial | omega | (simp only [In64] at *; omega) | (simp [In64] at *; omega) | (simp_all; done) | skip)
        refine qa (qm ?_)
        by_cases hin : bo n q ∈ M
        · have hkin := mpd_in (mem_kl.2 hin)
          have hvin := mpv_in tt (mem_kl.2 hin)
          refine hk_region fun K hK => runs_eval tab_ok ?_
          simp only [ev0, evA, evB, evP, fl, gp, tab, simprocAttr, reduceCtorEq, reduceIte, hkin, hvin, cond_true, (show tt ((bo n q : Nat) : Int) = .bool true from rfl)]
          refine fin_run ?_ (hK _ ?_) <;> clear hK <;> clear K
          · (first | exact trivial | omega | (simp only [In64] at *; omega) | (simp [In64] at *; omega) | (simp_all; done) | skip)
          refine qa ?_
          refine hk_cond rfl (fun hC4 => ?_) (fun hC4 => ?_)
          · cases hC4
          · (try simp only [nhs] at hC4)
            refine qh (qd (qa ?_))
            refine hk_region fun K hK => runs_eval tab_ok ?_
            simp only [ev0, evA, evB, evP, fl, gp, tab, simprocAttr, reduceCtorEq, reduceIte]
            refine fin_run ?_ (hK _ ?_) <;> clear hK <;> clear K
            · (first | exact trivial | omega | (simp only [In64] at *; omega) | (simp [In64] at *; omega) | (simp_all; done) | skip)
            refine qa ?_
            refine ⟨(a + 1, M), [0, 1, 2], ⟨show a + 1 ≤ n by omega, hiM, hxM, ⟨hIM, hDM⟩, fun b hb => ?_⟩, show n - (a + 1) < n - a by omega, ?_⟩
            · by_cases hba : b = a
              · rw [hba]; exact hdq M hin
              · exact hdone b (by have : b < a + 1 := hb
                                  omega)
            · simp only [leq, leA, ev0, evA, evB, evP, fl, gp, tab, simprocAttr, reduceCtorEq, reduceIte] <;> omega
        · have hkin : mpd (kl M) ((bo n q : Nat) : Int) = false := decide_eq_false fun hh => hin (mem_kl.1 hh)
          refine hk_region fun K hK => runs_eval tab_ok ?_
          simp only [ev0, evA, evB, evP, fl, gp, tab, simprocAttr, reduceCtorEq, reduceIte, hkin, cond_false]
          refine fin_run ?_ (hK _ ?_) <;> clear hK <;> clear K
          · (first | exact trivial | omega | (simp only [In64] at *; omega) | (simp [In64] at *; omega) | (simp_all; done) | skip)
          refine qa ?_
          refine hk_cond rfl (fun hC4 => ?_) (fun hC4 => ?_)
          · (try simp only [nhs] at hC4)
            have hMl : (ul M).length = M.length := ul_length M
            have hd1 : (fun u => decide (u = ((bo n q : Nat) : Int)) || mpd (kl M) u) = mpd (kl (M ++ [bo n q])) := by rw [kl_snoc]; exact mpd_set _ _
            have hv1 : (fun u => bif decide (u = ((bo n q : Nat) : Int)) then PV.bool true else mpv (kl M) tt u) = mpv (kl (M ++ [bo n q])) tt := by rw [kl_snoc]; exact mpv_set (kl M) _ tt
            have hsub : ∀ y ∈ M, y ∈ M ++ [bo n q] := fun y hy => by simp [hy]
            have htk : List.take M.length (ul M) = ul M := List.take_of_length_le (by rw [ul_length]; exact Nat.le_refl _)
            refine qm ?_
            refine hk_region fun K hK => runs_eval tab_ok ?_
            simp only [ev0, evA, evB, evP, fl, gp, tab, simprocAttr, reduceCtorEq, reduceIte]
            refine fin_run ?_ (hK _ ?_) <;> clear hK <;> clear K
            · (first | exact trivial | omega | (simp only [In64] at *; omega) | (simp [In64] at *; omega) | (simp_all; done) | skip)
            refine qa ?_
            refine hk_region fun K hK => runs_eval tab_ok ?_
            simp only [ev0, evA, evB, evP, fl, gp, tab, simprocAttr, reduceCtorEq, reduceIte, oul_take, oul_snoc, oul_ok, ul_length, htk]
            refine fin_run ?_ (hK _ ?_) <;> clear hK <;> clear K
            · simp [cellOk, PV.one, ul_length]
              omega
            refine qd (qa ?_)
            refine hk_region fun K hK => runs_eval tab_ok ?_
            simp only [ev0, evA, evB, evP, fl, gp, tab, simprocAttr, reduceCtorEq, reduceIte]
            refine fin_run ?_ (hK _ ?_) <;> clear hK <;> clear K
            · (first | exact trivial | omega | (simp only [In64] at *; omega) | (simp [In64] at *; omega) | (simp_all; done) | skip)
            refine qa ?_
            refine ⟨(a + 1, M ++ [bo n q]), [0, 3, 2], ⟨show a + 1 ≤ n by omega, by simp only [List.length_append, List.length_singleton]; omega, by rw [getD_snoc hiM]; exact hxM, ⟨⟨?_, ?_, by simp [hIM.one]⟩, fun j hj b hb => ?_⟩, fun b hb => ?_⟩, show n - (a + 1) < n - a by omega, ?_⟩
            · exact List.nodup_append.2 ⟨hIM.nodup, by simp, fun x hx y hy he => by rw [List.mem_singleton] at hy; rw [he, hy] at hx; exact hin hx⟩
            · intro x hx
              rcases List.mem_append.1 hx with hx | hx
              · exact hIM.subs x hx
              · rw [List.mem_singleton] at hx; exact ⟨q, hqs, hx⟩
            · rw [getD_snoc (by omega)]; exact (hDM j hj b hb).mono hsub
            · by_cases hba : b = a
              · rw [hba]; exact hdq _ (by simp)
              · exact (hdone b (by have : b < a + 1 := hb
                                   omega)).mono hsub
            · simp only [← hd1, ← hv1]
              simp only [leq, leA, ev0, evA, evB, evP, fl, gp, tab, simprocAttr, reduceCtorEq, reduceIte] <;> first | trivial | omega | (simp only [List.length_append, List.length_singleton]; omega) | exact ⟨rfl, rfl⟩ | (rw [ul_snoc, List.take_length])
          · cases hC4
    · (try simp only [nhs] at hC2)
      have han : a = n := by omega
      refine qj (qc (qc (qf (qd (qa ?_)))))
      refine hk_region fun K hK => runs_eval tab_ok ?_
      simp only [ev0, evA, evB, evP, fl, gp, tab, simprocAttr, reduceCtorEq, reduceIte]
      refine fin_run ?_ (hK _ ?_) <;> clear hK <;> clear K
      · (first | exact trivial | omega | (simp only [In64] at *; omega) | (simp [In64] at *; omega) | (simp_all; done) | skip)
      refine qa ?_
      refine ⟨(i + 1, M), [0, 1, 2], ⟨show i + 1 ≤ M.length by omega, ⟨hIM, fun j hj b hb => ?_⟩⟩, show 2 ^ n - (i + 1) < 2 ^ n - i by omega, ?_⟩
      · by_cases hji : j = i
        · rw [hji, hxM]; exact hdone b (by omega)
        · exact hDM j (by have : j < i + 1 := hj
                          omega) b hb
      · simp only [leq, leA, ev0, evA, evB, evP, fl, gp, tab, simprocAttr, reduceCtorEq, reduceIte] <;> first | trivial | omega
  · (try simp only [nhs] at hC1)
    have hin : i = L.length := by omega
    have hdall : ∀ x ∈ L, ∀ a, a < n → Dn n (op m n) e x a L := fun x hx a ha => by
      obtain ⟨j, hj, rfl⟩ := mem_getDN hx
      exact hD j (by omega) a ha
    have hperm := hS.perm G hI hdall
    have hlen := hperm.length_eq
    have hul : ∀ x ∈ ul L, ∃ y, y < 2 ^ 64 ∧ x = .int .u64 ((y : Nat) : Int) := fun x hx => by
      obtain ⟨y, hy, rfl⟩ := List.mem_map.1 hx
      obtain ⟨p, _, rfl⟩ := hI.subs y hy
      exact ⟨_, hbt p, rfl⟩
    have hsort : FnM Tryd.prog 108 [.sl 0 0 (ul L).length, .p (.fn 109 [])] [.own (opl (ul L))] (.p (.tup [])) [.own (opl (ul SL))] :=
      sort_m Go.Proofs.Tryd.sortS (ul L) (ul SL) cfA (by intro hh; have := congrArg List.length hh; rw [ul_length] at this; have h1 := List.length_pos_of_mem hI.one; simp at this; rw [this] at h1; simp at h1) (ul_one L)
        (fun x hx => by obtain ⟨a, _, rfl⟩ := hul x hx; exact cmpS_self _)
        (fun x hx y hy z hz h1 h2 => by obtain ⟨a, _, rfl⟩ := hul x hx; obtain ⟨b, _, rfl⟩ := hul y hy; obtain ⟨c, _, rfl⟩ := hul z hz; exact cmpS_trans _ _ _ h1 h2)
        (fun x hx y hy z hz h1 h2 => by obtain ⟨a, _, rfl⟩ := hul x hx; obtain ⟨b, _, rfl⟩ := hul y hy; obtain ⟨c, _, rfl⟩ := hul z hz; exact cmpS_ntrans _ _ _ h1 h2)
        (fun x hx y hy h1 h2 => by
          obtain ⟨a, a1, rfl⟩ := hul x hx; obtain ⟨b, b1, rfl⟩ := hul y hy
          have := stl_inj a1 b1 (cmpS_tot _ _ h1 h2)
          rw [this])
        (fun x hx y hy => by obtain ⟨a, a1, rfl⟩ := hul x hx; obtain ⟨b, b1, rfl⟩ := hul y hy; exact allOf1_c a b a1 b1)
        (hperm.map _) (by
          unfold ul
          rw [List.pairwise_map]
          exact hS.rise.imp fun {x y} hxy h2 => cmpS_self _ (cmpS_trans _ _ _ hxy h2)) (by rw [ul_length]; omega)
    rw [ul_length] at hsort
    refine qj (qc (qc (qf (qa (qm ?_)))))
    refine hk_region fun K hK => runs_eval tab_ok ?_
    simp only [ev0, evA, evB, evP, fl, gp, tab, simprocAttr, reduceCtorEq, reduceIte]
    refine fin_stop ?_ (runs_callM [1] (hsort) rfl rfl ?_ (by simp only [leA, ev0, evA, evB, evP, fl, gp, tab, simprocAttr, reduceCtorEq, reduceIte]; first | trivial | (simp only [ll_takeL]; first | trivial | (repeat constructor; done)) | (repeat constructor)) (by decide) (by first | rfl | (simp only [List.length_cons, List.length_nil, List.length_append]; decide)) (by first | rfl | (simp only [scM, opl_sc, List.all_cons, List.all_nil, List.length_cons, List.length_nil]; first | rfl | decide) | (simp [scM, scA, sc1, mpKeep, notAnc]; done)) (by simp only [dstOk, Nat.reduceLT]) (runs_eval tab_ok ?_))
    · (first | exact trivial | omega | (simp only [In64] at *; omega) | (simp [In64] at *; omega) | (simp_all; done) | skip)
    · (simp only [argsM, argM1, peekG, peekS, scA, sc1, ren, ren1, List.map_cons, List.map_nil, List.append_nil, List.cons_append, List.nil_append, enA, ev0, evA, evB, evP, fl, gp, tab, simprocAttr, reduceCtorEq, reduceIte]; try trivial)
    simp only [putM, hset, List.range', Blk.ren, ren, ren1, List.map_cons, List.map_nil, List.cons_append, List.nil_append, List.append_nil, List.length_cons, List.length_nil, ev0, evA, evB, evP, fl, gp, tab, simprocAttr, reduceCtorEq, reduceIte]
    refine fin_run trivial (hK _ ?_) <;> clear hK <;> clear K
    refine qa (qm ?_)
    rw [hlen, ← ul_length SL]
    refine hk_sealp 3 1 (ul_all SL) rfl rfl ?_
    refine hk_region fun K hK => runs_eval tab_ok ?_
    simp only [ev0, evA, evB, evP, fl, gp, tab, simprocAttr, reduceCtorEq, reduceIte]
    refine fin_run trivial (hK _ ?_) <;> clear hK <;> clear K
    refine qa (qk ?_)
    simp only [Tryd.results67, enA, ev0, evA, evB, evP, fl, gp, tab, simprocAttr, reduceCtorEq, reduceIte]
    all_goals ((first | exact rfl | exact ⟨rfl, rfl⟩ | exact ⟨rfl, rfl, rfl⟩ | exact ⟨trivial, rfl⟩ | exact ⟨Nat.le_refl _, rfl⟩ | trivial | (simp; done)))
end
end Go.Proofs.YtjikchbmkodgfaaDoor

/-
  All subgroups in lists: All; what no set needs: Frattini. Conditions: none.
-/
set_option linter.all false
namespace Go.Proofs.YtjikchbmkodgfaaDoor
open Go.Pv

def sll (SL : List Nat) : List (List Int) := SL.map stl
theorem sll_len (SL : List Nat) : (sll SL).length = SL.length := by simp [sll]
theorem sll_get {SL : List Nat} {i : Nat} (hi : i < SL.length) : (sll SL).getD i [] = stl (SL.getD i 0) := by
  simp [sll, List.getD, List.getElem?_eq_getElem hi]
/-- The fault of a group that is to be small. -/
def sml (N : Int) (m : List Int) : Int × Int := bif decide ((gf N m).1 = 0) then (bif decide (N > 24) then (2, 0) else (0, 0)) else gf N m
section
variable {n e : Nat} {m : List Int}
end
end Go.Proofs.YtjikchbmkodgfaaDoor

/-
  What no set needs: Frattini. Conditions: none.
-/
set_option linter.all false
namespace Go.Proofs.YtjikchbmkodgfaaDoor
open Go.Pv

def andn (a b : Nat) : Nat := (BitVec.ofInt 64 (a : Int) &&& ~~~(BitVec.ofInt 64 (b : Int))).toNat
theorem andn_zero {a b : Nat} (ha : a < 2 ^ 64) (hb : b < 2 ^ 64) : andn a b = 0 ↔ ∀ i, a.testBit i = true → b.testBit i = true := by
  have key : ∀ i, i < 64 → (andn a b).testBit i = (a.testBit i && !b.testBit i) := fun i hi => by
    unfold andn
    rw [BitVec.testBit_toNat, BitVec.getLsbD_and, BitVec.getLsbD_not, ← BitVec.testBit_toNat, ← BitVec.testBit_toNat, ofInt_n ha, ofInt_n hb]
    simp [hi]
  constructor
  · intro h i hi
    have hl := bit_lt ha hi
    have := key i hl
    rw [h, Nat.zero_testBit, hi] at this
    simpa using this
  · intro h
    refine Nat.eq_of_testBit_eq fun i => ?_
    rw [Nat.zero_testBit]
    by_cases hl : i < 64
    · rw [key i hl]
      cases ha' : a.testBit i with
      | false => rfl
      | true => rw [h i ha']; rfl
    · exact Nat.testBit_lt_two_pow (Nat.lt_of_lt_of_le (BitVec.isLt _) (Nat.pow_le_pow_right (by omega) (Nat.le_of_not_lt hl)))

/-! ### Rows of sets -/

def uix (p : Nat → Bool) (l : List Nat) : Int := match fst' (fun i => p (l.getD i 0)) l.length with | some i => (i : Int) | none => -1
/-! ### Frattini -/

/-- t is another set that has all of s. -/
def ovr (s t : Nat) : Bool := decide (¬ s = t) && decide (andn s t = 0)
/-- Row i has no other one over it, but the last. -/
def mxr (SL : List Nat) (i : Nat) : Bool := !decide (∃ j, j < SL.length - 1 ∧ (i < j ∧ ovr (SL.getD i 0) (SL.getD j 0) = true))
def frp (SL : List Nat) (k x : Nat) : Bool := decide (∀ i, i < k → mxr SL i = true → (SL.getD i 0).testBit x = true)
section
variable {n e : Nat} {m : List Int}
end
end Go.Proofs.YtjikchbmkodgfaaDoor

/-
  Walks: the law SubProducts. Conditions: none.
-/
set_option linter.all false
namespace Go.Proofs.YtjikchbmkodgfaaDoor
open Go.Pv

/-- In one of two. -/
def orB (p q : Nat → Bool) (a : Nat) : Bool := p a || q a
end Go.Proofs.YtjikchbmkodgfaaDoor

/-
  Walks: the law SubMeets. Conditions: none.
-/
set_option linter.all false
namespace Go.Proofs.YtjikchbmkodgfaaDoor
open Go.Pv

theorem AllS.len {n e : Nat} {f : Nat → Nat → Nat} {SL : List Nat} (h : AllS n f e SL) (hn : n ≤ 24) : SL.length ≤ 16777216 := by
  have h1 : SL.length ≤ 2 ^ n := nodup_lt h.nodup fun x hx => by
    obtain ⟨p, _, rfl⟩ := h.subs x hx
    exact bo_lt n p
  have h24 : 2 ^ n ≤ 16777216 := Nat.le_trans (Nat.pow_le_pow_right (by omega) hn) (by decide)
  omega
theorem AllS.row {n e : Nat} {f : Nat → Nat → Nat} {SL : List Nat} (h : AllS n f e SL) (hn : n ≤ 60) {i : Nat} (hi : i < SL.length) : ∃ p, Sub n f e p ∧ (sll SL).getD i [] = thl n p := by
  obtain ⟨p, hp, hx⟩ := h.subs _ (getD_memN hi)
  exact ⟨p, hp, by rw [sll_get hi, hx, stl_bo hn]⟩
theorem AllS.at {n e : Nat} {f : Nat → Nat → Nat} {SL : List Nat} (h : AllS n f e SL) (hn : n ≤ 60) {p : Nat → Bool} (hp : Sub n f e p) : ∃ i, i < SL.length ∧ (sll SL).getD i [] = thl n p := by
  obtain ⟨i, hi, hx⟩ := mem_getDN (h.all p hp)
  exact ⟨i, hi, by rw [sll_get hi, hx, stl_bo hn]⟩
section
variable {n e : Nat} {m : List Int}
end
end Go.Proofs.YtjikchbmkodgfaaDoor

/-
  Walks: the law SubNeedless. Conditions: none.
-/
set_option linter.all false
namespace Go.Proofs.YtjikchbmkodgfaaDoor
open Go.Pv

theorem AllS.pos {n e : Nat} {f : Nat → Nat → Nat} {SL : List Nat} (G : Grp n f e) (h : AllS n f e SL) : 0 < SL.length := List.length_pos_of_mem (h.all _ G.onp_sub)
theorem AllS.pair {n e : Nat} {f : Nat → Nat → Nat} {SL : List Nat} (h : AllS n f e SL) {i j : Nat} (hij : i < j) (hj : j < SL.length) : cmpS (stl (SL.getD i 0)) (stl (SL.getD j 0)) < 0 := by
  have := (List.pairwise_iff_getElem.1 h.rise) i j (by omega) hj hij
  simpa [List.getD, List.getElem?_eq_getElem hj, List.getElem?_eq_getElem (show i < SL.length by omega)] using this
theorem all_len (n : Nat) : (thl n fun _ => true).length = n := by rw [thl_len]; unfold thn'; rw [List.filter_eq_self.2 fun _ _ => rfl, List.length_range]
theorem len_all {n : Nat} {p : Nat → Bool} (h : ¬ (thl n p).length < n) : ∀ y, y < n → p y = true := by
  intro y hy
  cases hp : p y with
  | true => rfl
  | false =>
    exfalso
    have := mem_lt (n := n) (p := fun _ => true) (q := p) (fun _ _ _ => rfl) (fun hh => by have := hh y hy; rw [hp] at this; cases this)
    have e1 : (thl n p).length = (mem n p).length := thl_len _ _
    have e2 : (mem n fun _ => true).length = n := by unfold mem; rw [List.filter_eq_self.2 fun _ _ => rfl, List.length_range]
    omega
theorem AllS.last {n e : Nat} {f : Nat → Nat → Nat} {SL : List Nat} (G : Grp n f e) (h : AllS n f e SL) (hn : n ≤ 60) : SL.getD (SL.length - 1) 0 = bo n fun _ => true := by
  have hpos := h.pos G
  obtain ⟨t, ht, hx⟩ := mem_getDN (h.all _ G.all_sub)
  by_cases htl : t = SL.length - 1
  · rw [← htl]; exact hx
  · exfalso
    have hp := h.pair (i := t) (j := SL.length - 1) (by omega) (by omega)
    obtain ⟨p, _, hpl⟩ := h.subs _ (getD_memN (show SL.length - 1 < SL.length by omega))
    rw [hx, hpl, stl_bo hn, stl_bo hn, cmpS_lt, all_len] at hp
    have := thl_le n p
    rcases hp with hp | ⟨hp, hp2⟩
    · omega
    · have : thl n p = thl n fun _ => true := thl_congr fun y hy => len_all (by omega) y hy
      rw [this, cmpL_self] at hp2; omega
theorem ovr_bo {n : Nat} (hn : n ≤ 60) (p q : Nat → Bool) : ovr (bo n p) (bo n q) = true ↔ (¬ ∀ a, a < n → p a = q a) ∧ ∀ a, a < n → p a = true → q a = true := by
  unfold ovr
  rw [Bool.and_eq_true, decide_eq_true_eq, decide_eq_true_eq, andn_zero (bo_lt64 hn p) (bo_lt64 hn q)]
  refine and_congr (not_congr ⟨fun h a ha => bo_inj h ha, fun h => bo_congr h⟩) ⟨fun h a ha hp => ?_, fun h i hi => ?_⟩
  · have := h a (by rw [bo_bit]; simp [ha, hp])
    rw [bo_bit] at this; simpa [ha] using this
  · rw [bo_bit, Bool.and_eq_true, decide_eq_true_eq] at hi ⊢
    exact ⟨hi.1, h i hi.1 hi.2⟩

section
variable {n e : Nat} {m : List Int}
/-- A subgroup that is not all stands in one that nothing but all stands over. -/
theorem AllS.max {f : Nat → Nat → Nat} {SL : List Nat} (G : Grp n f e) (h : AllS n f e SL) (hn : n ≤ 60) {r : Nat → Bool} (hr : Sub n f e r) (hne : ¬ ∀ a, a < n → r a = true) :
    ∃ i p, i < SL.length - 1 ∧ SL.getD i 0 = bo n p ∧ Sub n f e p ∧ mxr SL i = true ∧ (∀ a, a < n → r a = true → p a = true) ∧ ¬ ∀ a, a < n → p a = true := by
  have hpos := h.pos G
  have hlast := h.last G hn
  have notlast : ∀ i p, i < SL.length → SL.getD i 0 = bo n p → (¬ ∀ a, a < n → p a = true) → i < SL.length - 1 := fun i p hi hx hp => by
    by_cases hil : i = SL.length - 1
    · exfalso
      rw [hil, hlast] at hx
      exact hp fun a ha => (bo_inj hx ha).symm
    · omega
  have go : ∀ c i p, SL.length - i ≤ c → i < SL.length → SL.getD i 0 = bo n p → Sub n f e p → (∀ a, a < n → r a = true → p a = true) → (¬ ∀ a, a < n → p a = true) →
      ∃ i p, i < SL.length - 1 ∧ SL.getD i 0 = bo n p ∧ Sub n f e p ∧ mxr SL i = true ∧ (∀ a, a < n → r a = true → p a = true) ∧ ¬ ∀ a, a < n → p a = true := by
    intro c
    induction c with
    | zero => intro i p hc hi; omega
    | succ c ih =>
      intro i p hc hi hx hp hrp hpn
      cases hm : mxr SL i with
      | true => exact ⟨i, p, notlast i p hi hx hpn, hx, hp, hm, hrp, hpn⟩
      | false =>
        unfold mxr at hm
        rw [Bool.not_eq_false', decide_eq_true_eq] at hm
        obtain ⟨j, j1, j2, j3⟩ := hm
        obtain ⟨q, hq, hqx⟩ := h.subs _ (getD_memN (show j < SL.length by omega))
        rw [hx, hqx, ovr_bo hn] at j3
        refine ih j q (by omega) (by omega) hqx hq (fun a ha h1 => j3.2 a ha (hrp a ha h1)) fun hall => ?_
        have : j = SL.length - 1 := by
          by_cases hjl : j < SL.length - 1
          · exfalso
            have hpq := h.pair (i := j) (j := SL.length - 1) hjl (by omega)
            rw [hlast, hqx, bo_congr (q := fun _ => true) (fun a ha => hall a ha)] at hpq
            exact cmpS_self _ hpq
          · omega
        omega
  obtain ⟨i, hi, hx⟩ := mem_getDN (h.all r hr)
  exact go _ i r (Nat.le_refl _) hi hx hr (fun a _ h => h) hne
def dif (p q : Nat → Bool) (x : Nat) : Bool := p x && !q x
end
end Go.Proofs.YtjikchbmkodgfaaDoor

/-
  All subgroups as the document has them: from cyclic ones on, by what two make; put in order. Conditions: none.
-/
set_option linter.all false
namespace Go.Proofs.YtjikchbmkodgfaaDoor
open Go.Pv

theorem oll_get {ls : List (List Int)} {i : Nat} (hlt : i < ls.length) (d : AV) : (opl (ll ls)).getD i d = .p (.list (il (ls.getD i []))) := by simp [opl, ll, List.getD, List.getElem?_eq_getElem hlt]
theorem mem_getDL {ls : List (List Int)} {l : List Int} (h : l ∈ ls) : ∃ j, j < ls.length ∧ ls.getD j [] = l := by
  obtain ⟨j, hj, rfl⟩ := List.getElem_of_mem h
  exact ⟨j, hj, by simp [List.getD, List.getElem?_eq_getElem hj]⟩
theorem getD_memL {ls : List (List Int)} {j : Nat} (hj : j < ls.length) : ls.getD j [] ∈ ls := by
  simp only [List.getD, List.getElem?_eq_getElem hj, Option.getD_some]; exact List.getElem_mem hj
theorem add_in (ls : List (List Int)) (l : List Int) (hl : ls.length ≤ 16777217) (hr : ∀ w ∈ ls, w.length ≤ 60) (hin : l ∈ ls) : FnM Tryd.prog 76 [.p (.list (il l)), .ptr 0 0] [.own [.sl 1 0 ls.length], .own (opl (ll ls))] (.p (.bool false)) [.own [.sl 1 0 ls.length], .own (opl (ll ls))] := by
  have hll := ll_length ls
  refine fnm_of tab_ok Tryd.func76 rfl (by kernel_rfl) (by rw [Tryd.ntmps76]; exact Nat.le_add_left 2 _) ?_; rw [Tryd.ntmps76]; simp only [ancs, entA, List.length_cons, List.length_nil, List.cons_append, List.nil_append, Nat.reduceAdd, Nat.zero_add]
  refine qm ?_
  refine hk_region fun K hK => runs_eval tab_ok ?_
  simp only [ev0, evA, evB, evP, fl, gp, tab, simprocAttr, reduceCtorEq, reduceIte]
  refine fin_run trivial (hK _ ?_) <;> clear hK <;> clear K
  refine qa (qm (qm ?_))
  refine hk_region fun K hK => runs_eval tab_ok ?_
  simp only [ev0, evA, evB, evP, fl, gp, tab, simprocAttr, reduceCtorEq, reduceIte]
  refine fin_run trivial (hK _ ?_) <;> clear hK <;> clear K
  refine qa (ql ?_)
  refine hk_loop (ι := Nat) (fun i => ⟨21, [(0, .p (.list (il l))), (1, .ptr 0 0), (4, .p (.int .i64 i))], [.own [.sl 1 0 ls.length], .own (opl (ll ls)), .anc 0 0, .anc 1 1]⟩) (fun i => i ≤ ls.length ∧ ∀ j, j < i → ¬ ls.getD j [] = l) (fun i => ls.length - i) 0 ⟨Nat.zero_le _, fun j hj => by omega⟩ [0, 1, 2, 3] (by simp only [leq, leA, ev0, evA, evB, evP, fl, gp, tab, simprocAttr, reduceCtorEq, reduceIte, ll_takeL] <;> trivial) fun i hi => ?_
  obtain ⟨hi1, hi2⟩ := hi
  refine qm (qm ?_)
  refine hk_region fun K hK => runs_eval tab_ok ?_
  simp only [ev0, evA, evB, evP, fl, gp, tab, simprocAttr, reduceCtorEq, reduceIte]
  refine fin_run ?_ (hK _ ?_) <;> clear hK <;> clear K
  · (first | exact trivial | omega | (simp only [In64] at *; omega) | (simp [In64] at *; omega) | (simp_all; done) | skip)
  refine qa ?_
  refine hk_cond rfl (fun hC1 => ?_) (fun hC1 => ?_)
  · (try simp only [nhs] at hC1)
    have hlt : i < ls.length := by omega
    have hg := fun d => oll_get hlt d
    have hwl := hr _ (getD_memL hlt)
    refine qh (qa (qm (ql (qm ?_))))
    refine hk_region fun K hK => runs_eval tab_ok ?_
    simp only [ev0, evA, evB, evP, fl, gp, tab, simprocAttr, reduceCtorEq, reduceIte, hg, ll_length]
    refine fin_stop ?_ (runs_call (ints_c (ls.getD i []) l (by omega)) rfl rfl rfl (by simp only [dstOk, Nat.reduceLT]) (by repeat (first | exact trivial | constructor)) (runs_eval tab_ok ?_))
    · (first | exact trivial | omega | (simp only [In64] at *; omega) | (simp [In64] at *; omega) | (simp_all; done) | skip)
    simp only [ev0, evA, evB, evP, fl, gp, tab, simprocAttr, reduceCtorEq, reduceIte, hg, ll_length]
    refine fin_run ?_ (hK _ ?_) <;> clear hK <;> clear K
    · (first | exact trivial | omega | (simp only [In64] at *; omega) | (simp [In64] at *; omega) | (simp_all; done) | skip)
    refine qa ?_
    refine hk_cond rfl (fun hC2 => ?_) (fun hC2 => ?_)
    · (try simp only [nhs] at hC2)
      refine qm ?_
      refine hk_region fun K hK => runs_eval tab_ok ?_
      simp only [ev0, evA, evB, evP, fl, gp, tab, simprocAttr, reduceCtorEq, reduceIte]
      refine fin_run trivial (hK _ ?_) <;> clear hK <;> clear K
      refine qa (qk (qe (qb (qb (qe (qb ?_))))))
      simp only [Tryd.results76, PostG, endG, rvsA, rvA, mkTup, ev0, evA, evB, evP, fl, gp, tab, simprocAttr, reduceCtorEq, reduceIte]
      all_goals (exact ⟨[0, 1, 2, 3], rfl, rfl, by simp only [leq, leA, ev0, evA, evB, evP, fl, gp, tab, simprocAttr, reduceCtorEq, reduceIte, ll_takeL] <;> trivial⟩)
    · (try simp only [nhs] at hC2)
      refine qh (qd (qa ?_))
      refine hk_region fun K hK => runs_eval tab_ok ?_
      simp only [ev0, evA, evB, evP, fl, gp, tab, simprocAttr, reduceCtorEq, reduceIte]
      refine fin_run ?_ (hK _ ?_) <;> clear hK <;> clear K
      · (first | exact trivial | omega | (simp only [In64] at *; omega) | (simp [In64] at *; omega) | (simp_all; done) | skip)
      refine qa ?_
      refine ⟨i + 1, [0, 1, 2, 3], ⟨by omega, fun j hj => ?_⟩, by omega, ?_⟩
      · by_cases hji : j = i
        · rw [hji]; exact hC2
        · exact hi2 j (by omega)
      · simp only [leq, leA, ev0, evA, evB, evP, fl, gp, tab, simprocAttr, reduceCtorEq, reduceIte, ll_takeL] <;> first | trivial | omega
  · (try simp only [nhs] at hC1)
    obtain ⟨j, hj, he⟩ := mem_getDL hin
    exact absurd he (hi2 j (by omega))
theorem add_new (ls : List (List Int)) (l : List Int) (hl : ls.length ≤ 16777217) (hr : ∀ w ∈ ls, w.length ≤ 60) (hin : l ∉ ls) : FnM Tryd.prog 76 [.p (.list (il l)), .ptr 0 0] [.own [.sl 1 0 ls.length], .own (opl (ll ls))] (.p (.bool true)) [.own [.sl 2 0 (ls ++ [l]).length], .dead, .own (opl (ll (ls ++ [l])))] := by
  have hll := ll_length ls
  refine fnm_of tab_ok Tryd.func76 rfl (by kernel_rfl) (by rw [Tryd.ntmps76]; exact Nat.le_add_left 2 _) ?_; rw [Tryd.ntmps76]; simp only [ancs, entA, List.length_cons, List.length_nil, List.cons_append, List.nil_append, Nat.reduceAdd, Nat.zero_add]
  refine qm ?_
  refine hk_region fun K hK => runs_eval tab_ok ?_
  simp only [ev0, evA, evB, evP, fl, gp, tab, simprocAttr, reduceCtorEq, reduceIte]
  refine fin_run trivial (hK _ ?_) <;> clear hK <;> clear K
  refine qa (qm (qm ?_))
  refine hk_region fun K hK => runs_eval tab_ok ?_
  simp only [ev0, evA, evB, evP, fl, gp, tab, simprocAttr, reduceCtorEq, reduceIte]
  refine fin_run trivial (hK _ ?_) <;> clear hK <;> clear K
  refine qa (ql ?_)
  refine hk_loop (ι := Nat) (fun i => ⟨21, [(0, .p (.list (il l))), (1, .ptr 0 0), (4, .p (.int .i64 i))], [.own [.sl 1 0 ls.length], .own (opl (ll ls)), .anc 0 0, .anc 1 1]⟩) (fun i => i ≤ ls.length) (fun i => ls.length - i) 0 (Nat.zero_le _) [0, 1, 2, 3] (by simp only [leq, leA, ev0, evA, evB, evP, fl, gp, tab, simprocAttr, reduceCtorEq, reduceIte, ll_takeL] <;> trivial) fun i hi => ?_
  refine qm (qm ?_)
  refine hk_region fun K hK => runs_eval tab_ok ?_
  simp only [ev0, evA, evB, evP, fl, gp, tab, simprocAttr, reduceCtorEq, reduceIte]
  refine fin_run ?_ (hK _ ?_) <;> clear hK <;> clear K
  · (first | exact trivial | omega | (simp only [In64] at *; omega) | (simp [In64] at *; omega) | (simp_all; done) | skip)
  refine qa ?_
  refine hk_cond rfl (fun hC1 => ?_) (fun hC1 => ?_)
  · (try simp only [nhs] at hC1)
    have hlt : i < ls.length := by omega
    have hg := fun d => oll_get hlt d
    have hmem := getD_memL hlt
    have hwl := hr _ hmem
    refine qh (qa (qm (ql (qm ?_))))
    refine hk_region fun K hK => runs_eval tab_ok ?_
    simp only [ev0, evA, evB, evP, fl, gp, tab, simprocAttr, reduceCtorEq, reduceIte, hg, ll_length]
    refine fin_stop ?_ (runs_call (ints_c (ls.getD i []) l (by omega)) rfl rfl rfl (by simp only [dstOk, Nat.reduceLT]) (by repeat (first | exact trivial | constructor)) (runs_eval tab_ok ?_))
    · (first | exact trivial | omega | (simp only [In64] at *; omega) | (simp [In64] at *; omega) | (simp_all; done) | skip)
    simp only [ev0, evA, evB, evP, fl, gp, tab, simprocAttr, reduceCtorEq, reduceIte, hg, ll_length]
    refine fin_run ?_ (hK _ ?_) <;> clear hK <;> clear K
    · (first | exact trivial | omega | (simp only [In64] at *; omega) | (simp [In64] at *; omega) | (simp_all; done) | skip)
    refine qa ?_
    refine hk_cond rfl (fun hC2 => ?_) (fun hC2 => ?_)
    · (try simp only [nhs] at hC2)
      rw [hC2] at hmem
      exact absurd hmem hin
    · (try simp only [nhs] at hC2)
      refine qh (qd (qa ?_))
      refine hk_region fun K hK => runs_eval tab_ok ?_
      simp only [ev0, evA, evB, evP, fl, gp, tab, simprocAttr, reduceCtorEq, reduceIte]
      refine fin_run ?_ (hK _ ?_) <;> clear hK <;> clear K
      · (first | exact trivial | omega | (simp only [In64] at *; omega) | (simp [In64] at *; omega) | (simp_all; done) | skip)
      refine qa ?_
      refine ⟨i + 1, [0, 1, 2, 3], by omega, by omega, ?_⟩
      simp only [leq, leA, ev0, evA, evB, evP, fl, gp, tab, simprocAttr, reduceCtorEq, reduceIte, ll_takeL] <;> first | trivial | omega
  · (try simp only [nhs] at hC1)
    refine qj (qc (qc (qf (qa (qm ?_)))))
    refine hk_region fun K hK => runs_eval tab_ok ?_
    simp only [ev0, evA, evB, evP, fl, gp, tab, simprocAttr, reduceCtorEq, reduceIte, ll_takeL, oll_ok, ll_snoc]
    refine fin_run ?_ (hK _ ?_) <;> clear hK <;> clear K
    · first | (simp [cellOk, PV.one]; done) | (simp [cellOk, PV.one]; omega)
    refine qa (qm ?_)
    refine hk_region fun K hK => runs_eval tab_ok ?_
    simp only [ev0, evA, evB, evP, fl, gp, tab, simprocAttr, reduceCtorEq, reduceIte]
    refine fin_run trivial (hK _ ?_) <;> clear hK <;> clear K
    refine qa (qk ?_)
    simp only [Tryd.results76, PostG, endG, rvsA, rvA, mkTup, ev0, evA, evB, evP, fl, gp, tab, simprocAttr, reduceCtorEq, reduceIte]
    all_goals (exact ⟨[0, 1, 4, 2, 3], rfl, rfl, by simp only [leq, leA, ev0, evA, evB, evP, fl, gp, tab, simprocAttr, reduceCtorEq, reduceIte, ll_takeL, ll_snoc, ll_takeS] <;> first | trivial | (simp; done)⟩)
end Go.Proofs.YtjikchbmkodgfaaDoor

/-
  A region that draws its order, whose last step stands behind all the others: the last step may write what it likes. Conditions: none; a library text.
-/
set_option linter.all false
namespace Go.Pv
open Go.RowKit

def lastOK (L : List Oper) (n : Nat) : Bool :=
  decide (L.length = n + 1) && (L.take n).all (fun o => match o.guard with | some (g, _) => decide (g < n) | none => true) && (List.range n).all (fun i => ((anc L.toArray).getD n 0).testBit i) &&
    (opAt L.toArray n).after.toList.all (fun e => !Region.binds .any e || decide (e.on < n))

section
variable {P : Program}

theorem wp_exits {o : Oper} {a : Act} {w : World} {K : Act → World → Prop} {Q1 Q2 : Exit → Act → World → Prop} (hp : ∀ ch a w, Q2 (.panic ch) a w → Q1 (.panic ch) a w) (ho : ∀ a w, Q2 .outgrown a w → Q1 .outgrown a w) (h : o.wp P a w K Q2) : o.wp P a w K Q1 := by
  unfold Oper.wp at *
  generalize (execOp a.eval o).run P w = r at *
  cases r with
  | ok n w' =>
    cases n <;> simp only [Oper.upon] at h ⊢ <;>
      first
        | exact h
        | exact Calls.mono h (fun e w'' he => by
            cases e with
            | returned v => exact he
            | panicked ch => exact hp _ _ _ he
            | outgrown => obtain ⟨a', w', h'⟩ := he; exact ⟨a', w', ho _ _ h'⟩)
  | halt x w' => cases x <;> simp only [Oper.upon] at h ⊢ <;> first | exact h | exact hp _ _ _ h

end
end Go.Pv

/-
  A region that draws its order, by footprints, whose last step stands behind all the others: the last step may write what it likes. Conditions: none; a library text.
-/
set_option linter.all false
namespace Go.Pv
open Go.RowKit

section
variable {P : Program}
theorem hk_draw2L {id : Nat} {L : List Oper} (n : Nat) {Q : Exit → St → Prop} {s : St} (hm : P.follows .mixedOrders = true) (hok3 : lastOK L n = true)
    (h : ∀ K : St → Prop, (∀ s', Q .normal s' → K s') → ∀ K2 : St → List I2 → Prop, (∀ s' xs, draw2OK (L.take n).toArray xs = true → Runs P false L.toArray (L.drop n) K s' → K2 s' xs) → Runs2 P (L.take n).toArray (L.take n) K2 s []) : Holds P (.region id L.toArray true) Q s := by
  intro C m a w R hd
  unfold lastOK at hok3
  rw [Bool.and_eq_true, Bool.and_eq_true, Bool.and_eq_true, decide_eq_true_eq] at hok3
  obtain ⟨⟨⟨hlen, hgs⟩, hanc⟩, hlast⟩ := hok3
  obtain ⟨s1, xs, hr, hok2, hrest⟩ := h (Q .normal) (fun _ h => h) (fun s' xs => draw2OK (L.take n).toArray xs = true ∧ Runs P false L.toArray (L.drop n) (Q .normal) s') fun _ _ h1 h2 => ⟨h1, h2⟩
  rw [List.nil_append] at hok2
  refine wp_region_any hm ?_
  have hsz : L.toArray.size = n + 1 := by simpa using hlen
  have hsz' : (L.take n).toArray.size = n := by simp; omega
  have hget : ∀ j, j < n → (L.take n).toArray[j]? = L.toArray[j]? := fun j hj => by simp [hj]
  obtain ⟨o, ho⟩ : ∃ o, L.toArray[n]? = some o := ⟨L[n]'(by omega), by simp [List.getElem?_eq_getElem (show n < L.length by omega)]⟩
  have hdrop : L.drop n = [o] := by
    have h1 := List.drop_eq_getElem_cons (l := L) (i := n) (by omega)
    rw [List.drop_eq_nil_of_le (show L.length ≤ n + 1 by omega)] at h1
    rw [h1]
    have : L[n]? = some o := by simpa using ho
    rw [List.getElem?_eq_getElem (by omega)] at this
    rw [Option.some.inj this]
  rw [hdrop] at hrest
  obtain ⟨hedge, _⟩ := draw2OK_spec hok2
  have hedgeN : ∀ e ∈ o.after.toList, Region.binds .any e = true → e.on < n := fun e he hb => by
    rw [opAt_of ho] at hlast
    have := (List.all_eq_true.1 hlast) e he
    rw [hb] at this; simpa using this
  let Q1 : Exit → Act → World → Prop := fun e a' w' => ∃ s' m', Q e s' ∧ Rel C m' s' a'.tmps w' ∧ a'.defers = []
  let Q2 : Exit → Act → World → Prop := fun e a' w' => match e with
    | .normal => wpOp P L.toArray Q1 n (fun a w => Q1 .normal a w) a' w'
    | e => Q1 e a' w'
  have pre : wpAny P .any (L.take n).toArray Q2 (L.take n).toArray.size (Array.replicate (L.take n).toArray.size false) a w.drew := by
    refine draw2_sound hok2 (by simpa using hr) (R.later (w' := w.drew) ⟨rfl, rfl, rfl, Nat.le_refl _, fun _ _ => rfl, Nat.le_succ _⟩) hd fun m' a' w' R' hd' => ?_
    · obtain ⟨s', h1, hK⟩ := hrest
      show wpOp P L.toArray Q1 n (fun a w => Q1 .normal a w) a' w'
      unfold wpOp
      rw [ho]
      cases h1 with
      | cons h1 hnil =>
        cases hnil
        cases h1 with
        | skip hg hlt =>
          have hw := guardA_wanted (P := P) R' hg
          simp only
          rw [if_neg (by simpa using hw)]
          exact ⟨_, m', hK, R'.put hlt (.p _ _ reads_un), by rw [put_defers]; exact hd'⟩
        | op av H' hg hlt h2 hl =>
          have hw := guardA_wanted (P := P) R' hg
          simp only
          rw [if_pos hw]
          exact .inl (h2 C m' a' w' _ Q1 R' fun v m2 w2 R2 hv => ⟨_, m2, hK, R2.put hlt hv, by rw [put_defers]; exact hd'⟩)
  have conv : ∀ i K' K a w, i < n → (∀ a w, K' a w → K a w) → wpOp P (L.take n).toArray Q2 i K' a w → wpOp P L.toArray Q1 i K a w := by
    intro i K' K a w hi hK hh
    have hi' := hget i hi
    obtain ⟨oi, hoi⟩ : ∃ oi, L.toArray[i]? = some oi := ⟨L[i]'(by omega), by simp [List.getElem?_eq_getElem (show i < L.length by omega)]⟩
    unfold wpOp at hh ⊢
    rw [hi', hoi] at hh
    rw [hoi]
    simp only at hh ⊢
    have hmem : oi ∈ L.take n := by
      have : (L.take n)[i]? = some oi := by
        have := hi'.trans hoi
        simpa using this
      exact List.mem_of_getElem? this
    have hyw : Region.wanted oi (yielded L.toArray a.tmps) = Region.wanted oi (yielded (L.take n).toArray a.tmps) := by
      unfold Region.wanted
      have hg := (List.all_eq_true.1 hgs) oi hmem
      cases hgu : oi.guard with
      | none => rfl
      | some gb =>
        obtain ⟨g, b⟩ := gb
        rw [hgu] at hg
        have hgn : g < n := by simpa using hg
        simp only
        unfold yielded
        rw [hget g hgn]
    rw [hyw]
    split at hh
    · rename_i hw
      rw [if_pos hw]
      rcases hh with hh | ⟨h1, h2⟩
      · exact .inl (wp_exits (fun _ _ _ h => h) (fun _ _ h => h) (Oper.wp_mono hK hh))
      · obtain ⟨a', w', h3⟩ := h2
        exact .inr ⟨h1, a', w', h3⟩
    · rename_i hw
      rw [if_neg hw]
      exact hK _ _ hh
  have pg : ∀ (x : Array Bool) (j : Nat) (d : Bool), x.size = n → j < n → (x.push false).getD j d = x.getD j d := fun x j d hx hj => by
    simp only [Array.getD_eq_getD_getElem?]
    rw [Array.getElem?_push, if_neg (by omega)]
  have pgn : ∀ (x : Array Bool) (d : Bool), x.size = n → (x.push false).getD n d = false := fun x d hx => by
    simp only [Array.getD_eq_getD_getElem?]
    rw [Array.getElem?_push, if_pos hx.symm]; rfl
  have lift : ∀ fuel (listed : Array Bool) a w, listed.size = n → (List.range n).countP (fun i => !listed.getD i true) = fuel →
      (∀ j o, listed.getD j false = true → L.toArray[j]? = some o → ∀ e ∈ o.after.toList, Region.binds .any e = true → listed.getD e.on false = true) →
      wpAny P .any (L.take n).toArray Q2 fuel listed a w → wpAny P .any L.toArray Q1 (fuel + 1) (listed.push false) a w := by
    intro fuel
    induction fuel with
    | zero =>
      intro listed a w hls hcnt hcl hh
      have hall : ∀ i, i < n → listed.getD i true = true := fun i hi => by
        have := List.countP_eq_zero.1 hcnt i (by simpa using hi)
        simpa using this
      have hallf : ∀ i, i < n → listed.getD i false = true := fun i hi => by
        have := hall i hi
        simp only [Array.getD_eq_getD_getElem?, Array.getElem?_eq_getElem (show i < listed.size by omega)] at this ⊢
        exact this
      have hnr : n ∈ Region.ready .any L.toArray (listed.push false) := by
        unfold Region.ready
        rw [List.mem_filter]
        refine ⟨by simp; omega, ?_⟩
        rw [pgn listed true hls, ho]
        simp only [Bool.not_false, Bool.true_and, Option.map_some, Option.getD_some]
        rw [Array.all_eq_true_iff_forall_mem]
        intro e he
        cases hb : Region.binds .any e with
        | false => simp
        | true =>
          have hlt := hedgeN e (by simpa using he) hb
          rw [pg listed _ _ hls hlt, hallf _ hlt]; simp
      refine ⟨fun hnil => by rw [hnil] at hnr; simp at hnr, fun i hi => ?_⟩
      have hin : i = n := by
        unfold Region.ready at hi
        rw [List.mem_filter] at hi
        obtain ⟨h1, h2⟩ := hi
        have h1 : i < n + 1 := by rw [← hsz]; simpa using h1
        by_cases hin : i < n
        · rw [pg listed _ _ hls hin, hall i hin] at h2; simp at h2
        · omega
      subst hin
      refine wpOp_mono (fun a w hq => ?_) hh.2
      refine ⟨?_, hq⟩
      unfold Region.ready
      rw [List.filter_eq_nil_iff]
      intro j hj
      have hj : j < i + 1 := by rw [← hsz]; simpa using hj
      have : ((listed.push false).setIfInBounds i true).getD j true = true := by
        simp only [Array.getD_eq_getD_getElem?]
        by_cases hji : i = j
        · subst hji
          rw [Array.getElem?_setIfInBounds_self_of_lt (by simp; omega)]; rfl
        · rw [Array.getElem?_setIfInBounds_ne hji]
          have := pg listed j true hls (by omega)
          simp only [Array.getD_eq_getD_getElem?] at this
          rw [this]
          have := hall j (by omega)
          simpa [Array.getD_eq_getD_getElem?] using this
      rw [this]; simp
    | succ fuel ih =>
      intro listed a w hls hcnt hcl hh
      have hex : ∃ i, i < n ∧ listed.getD i true = false := by
        have : 0 < (List.range n).countP (fun i => !listed.getD i true) := by omega
        obtain ⟨i, hi, h⟩ := List.countP_pos_iff.1 this
        exact ⟨i, by simpa using hi, by simpa using h⟩
      have tf : ∀ i, i < n → listed.getD i true = listed.getD i false := fun i hi => by
        simp [Array.getD_eq_getD_getElem?, Array.getElem?_eq_getElem (show i < listed.size by omega)]
      have hmin : ∃ i, i < n ∧ listed.getD i true = false ∧ ∀ k, k < i → listed.getD k true = true := by
        obtain ⟨i, hi, h⟩ := hex
        induction i using Nat.strongRecOn with
        | _ i ihh =>
          by_cases hall : ∀ k, k < i → listed.getD k true = true
          · exact ⟨i, hi, h, hall⟩
          · simp only [Classical.not_forall] at hall
            obtain ⟨k, hk, hkn⟩ := hall
            exact ihh k hk (by omega) (by simpa using hkn)
      obtain ⟨hh1, hh2⟩ := hh
      have same : ∀ i, i < n → (i ∈ Region.ready .any L.toArray (listed.push false) ↔ i ∈ Region.ready .any (L.take n).toArray listed) := by
        intro i hi
        unfold Region.ready
        rw [List.mem_filter, List.mem_filter]
        have e1 : i ∈ List.range L.toArray.size ↔ i ∈ List.range (L.take n).toArray.size := by
          rw [hsz, hsz', List.mem_range, List.mem_range]; omega
        rw [e1, pg listed _ _ hls hi, hget i hi]
        refine and_congr_right fun _ => ?_
        have e2 : ((L.toArray[i]?).map (·.after.all fun e => !Region.binds .any e || (listed.push false).getD e.on false)).getD false = ((L.toArray[i]?).map (·.after.all fun e => !Region.binds .any e || listed.getD e.on false)).getD false := by
          cases hoi : L.toArray[i]? with
          | none => rfl
          | some oi =>
            simp only [Option.map_some, Option.getD_some]
            rw [Bool.eq_iff_iff, Array.all_eq_true_iff_forall_mem, Array.all_eq_true_iff_forall_mem]
            refine forall_congr' fun e => forall_congr' fun he => ?_
            cases hb : Region.binds .any e with
            | false => simp
            | true =>
              have hlt := hedge i oi (by rw [hget i hi]; exact hoi) e (by simpa using he) hb
              rw [pg listed _ _ hls (by omega)]
        rw [e2]
      refine ⟨fun hnil => ?_, fun i hi => ?_⟩
      · exfalso
        obtain ⟨i, hi, hli, hbelow⟩ := hmin
        have hmem : i ∈ Region.ready .any L.toArray (listed.push false) := by
          unfold Region.ready
          rw [List.mem_filter]
          obtain ⟨oi, hoi⟩ : ∃ oi, L.toArray[i]? = some oi := ⟨L[i]'(by omega), by simp [List.getElem?_eq_getElem (show i < L.length by omega)]⟩
          refine ⟨by rw [hsz, List.mem_range]; omega, ?_⟩
          rw [pg listed _ _ hls hi, hli, hoi]
          simp only [Bool.not_false, Bool.true_and, Option.map_some, Option.getD_some]
          rw [Array.all_eq_true_iff_forall_mem]
          intro e he
          cases hb : Region.binds .any e with
          | false => simp
          | true =>
            have hlt := hedge i oi (by rw [hget i hi]; exact hoi) e (by simpa using he) hb
            rw [pg listed _ _ hls (by omega), ← tf _ (by omega), hbelow _ hlt]; simp
        rw [hnil] at hmem; simp at hmem
      · have hin : i < n := by
          have h1 : i < n + 1 := by
            have := hi
            unfold Region.ready at this
            rw [List.mem_filter] at this
            have := this.1
            rw [hsz, List.mem_range] at this; exact this
          by_cases hin : i = n
          · exfalso
            subst hin
            have hpre : ∀ e ∈ o.after.toList, Region.binds .any e = true → listed.getD e.on false = true := by
              intro e he hb
              unfold Region.ready at hi
              rw [List.mem_filter] at hi
              have h2 := hi.2
              rw [ho] at h2
              simp only [Option.map_some, Option.getD_some, Bool.and_eq_true] at h2
              have h3 := (Array.all_eq_true_iff_forall_mem.1 h2.2) e (by simpa using he)
              rw [hb] at h3
              have h4 := hedgeN e he hb
              rw [pg listed _ _ hls h4] at h3
              simpa using h3
            obtain ⟨k, hk, hkl⟩ := hex
            have hb := (List.all_eq_true.1 hanc) k (by simpa using hk)
            have := anc_in (D := fun i => listed.getD i false = true) hcl i i o (Nat.le_refl _) ho hpre k hb
            have h5 := tf k hk
            rw [hkl] at h5
            have this : listed.getD k false = true := this
            rw [this] at h5; cases h5
          · omega
        have hi' := (same i hin).1 hi
        refine conv i _ _ a w hin (fun a w hk => ?_) (hh2 i hi')
        have e3 : (listed.push false).setIfInBounds i true = (listed.setIfInBounds i true).push false := by
          apply Array.ext_getElem?
          intro k
          by_cases hki : i = k
          · subst hki
            rw [Array.getElem?_setIfInBounds_self_of_lt (by simp; omega), Array.getElem?_push, if_neg (by simp; omega), Array.getElem?_setIfInBounds_self_of_lt (by omega)]
          · rw [Array.getElem?_setIfInBounds_ne hki, Array.getElem?_push, Array.getElem?_push, Array.getElem?_setIfInBounds_ne hki]
            simp
        rw [e3]
        have hni : listed.getD i true = false := by
          unfold Region.ready at hi'
          rw [List.mem_filter] at hi'
          have := hi'.2
          rw [Bool.and_eq_true] at this
          simpa using this.1
        have hil : i < listed.size := by omega
        have hlist : ∀ k d, (listed.setIfInBounds i true).getD k d = if k = i then true else listed.getD k d := by
          intro k d
          simp only [Array.getD_eq_getD_getElem?]
          by_cases hki : k = i
          · subst hki; rw [Array.getElem?_setIfInBounds_self_of_lt hil, if_pos rfl]; rfl
          · rw [Array.getElem?_setIfInBounds_ne (Ne.symm hki), if_neg hki]
        refine ih _ a w (by simpa using hls) ?_ (fun j oj hj hoj e he hb => ?_) hk
        · have hsplit : ∀ (l : List Nat), l.Nodup → i ∈ l → l.countP (fun i => !listed.getD i true) = l.countP (fun k => !(listed.setIfInBounds i true).getD k true) + 1 := by
            intro l
            induction l with
            | nil => intro _ h; simp at h
            | cons x r ihl =>
              intro hnd hmem
              rw [List.nodup_cons] at hnd
              by_cases hxi : x = i
              · subst hxi
                rw [List.countP_cons, List.countP_cons, hni, hlist, if_pos rfl]
                have : r.countP (fun i => !listed.getD i true) = r.countP (fun k => !(listed.setIfInBounds x true).getD k true) := by
                  apply List.countP_congr
                  intro k hk
                  rw [hlist k true, if_neg (show ¬ k = x from fun e => hnd.1 (e ▸ hk))]
                simp only [this, Bool.not_false, Bool.not_true, if_true, Bool.false_eq_true, if_false, Nat.add_zero]
              · rw [List.countP_cons, List.countP_cons, hlist x, if_neg hxi, ihl hnd.2 (by rcases List.mem_cons.1 hmem with h | h; exact absurd h.symm hxi; exact h)]
                omega
          have := hsplit (List.range n) List.nodup_range (by simpa using hin)
          omega
        · rw [hlist] at hj ⊢
          by_cases hji : j = i
          · subst hji
            have hpre : listed.getD e.on false = true := by
              unfold Region.ready at hi'
              rw [List.mem_filter] at hi'
              have h2 := hi'.2
              rw [hget j hin, hoj] at h2
              simp only [Option.map_some, Option.getD_some, Bool.and_eq_true] at h2
              have h3 := (Array.all_eq_true_iff_forall_mem.1 h2.2) e (by simpa using he)
              rw [hb] at h3; simpa using h3
            rw [hpre]; simp
          · rw [if_neg hji] at hj
            rw [hcl j oj hj hoj e he hb]; simp
  rw [hsz]
  have hrep : Array.replicate (n + 1) false = (Array.replicate n false).push false := by
    rw [Array.replicate_succ]
  rw [hrep]
  refine lift n _ a _ (by simp) ?_ (fun j o hj _ _ _ _ => ?_) (by rw [hsz'] at pre; exact pre)
  · rw [List.countP_eq_length.2 fun i hi => ?_, List.length_range]
    have : i < n := by simpa using hi
    simp [Array.getD_eq_getD_getElem?, this]
  · exfalso
    simp only [Array.getD_eq_getD_getElem?, Array.getElem?_replicate] at hj
    split at hj <;> simp at hj
end

/-- append to nothing, in a region that draws its order: a row that is new. -/
theorem runs2_appendNil {P : Program} {T : TypeId → Option TI} {s : St} (hT : ∀ t ti, T t = some ti → tiOf P t = some ti) {all : Array Oper} {rest : List Oper} {K : St → List I2 → Prop} {acc : List I2} {dst : Option Tmp} {ty : TypeId} {pos : String} {aft : Array Edge} {gd : Option (Nat × Bool)} {t : TypeId} {x y : Operand}
    {ti te : TI} {e : TypeId} {l : List PV} (ht : T t = some ti) (hk : ti.kind = .slice e) (hte : T e = some te) (hsz : te.size = 1 ∧ te.zero.length = 1) (hx : s.ev x = .p .nil) (hy : s.ev y = .p (.list l))
    (hg : guardA all s { dst := dst, op := .call { callee := .builtin .append, args := #[x, y], argTypes := #[t, t] }, type := ty, pos := pos, after := aft, guard := gd } = some true) (hd : dstOk s dst) (hl : l.all PV.one = true) (hb : l.length * te.bytes ≤ 140737488355328 ∧ l.length ≤ 9223372036854775807)
    (h : Runs2 P all rest K (({ s with H := s.H ++ [.own (opl l)] } : St).put dst (.sl s.H.length 0 l.length)) (acc ++ [⟨.nw s.H.length, .sl s.H.length 0 l.length, .own (opl l), true⟩])) :
    Runs2 P all ({ dst := dst, op := .call { callee := .builtin .append, args := #[x, y], argTypes := #[t, t] }, type := ty, pos := pos, after := aft, guard := gd } :: rest) K s acc := by
  obtain ⟨s', xs, hr, hK⟩ := h
  have pure : ∀ (q : Nat) (hq : q < (opl l).length), ∃ v, (opl l)[q] = .p v := fun q hq => ⟨l[q]'(by simpa [opl] using hq), by simp [opl]⟩
  refine ⟨s', ⟨.nw s.H.length, .sl s.H.length 0 l.length, .own (opl l), true⟩ :: xs, .op hg (dstOk_spec hd) ⟨rfl, ?_⟩ (fun _ c hc q hq κ => by
    cases hc
    obtain ⟨v, e⟩ := pure q hq
    rw [e]
    exact .p _) hr, by rw [List.append_assoc] at hK; exact hK⟩
  intro s2 hn ha hdd n1 n2 n3
  have hx2 : s2.ev x = .p .nil := by rw [← hx]; exact ha x (by simp [Op.operands, Call.operands])
  have hy2 : s2.ev y = .p (.list l) := by rw [← hy]; exact ha y (by simp [Op.operands, Call.operands])
  have hm : ∃ vx : Prop, vx ∧ appendA T ti s2.H (s2.ev x) (s2.ev y) = some ⟨(te.size = 1 ∧ te.zero.length = 1) ∧ vx ∧ (opl l).all cellOk = true ∧ (opl l).length * te.bytes ≤ 140737488355328 ∧ (opl l).length ≤ 9223372036854775807, .sl s2.H.length 0 (opl l).length, s2.H ++ [.own (opl l)]⟩ := by
    rw [hx2, hy2]
    refine ⟨_, ?_, by simp only [appendA, hk, hte, elemsA]; rfl⟩
    trivial
  obtain ⟨vx, hvx, hm⟩ := hm
  have hol : (opl l).length = l.length := opl_length l
  refine Does.wp fun C m a w R => ?_
  obtain ⟨v, w', m', hyi, R', hv⟩ := appendA_does hT R (o := { dst := dst, op := .call { callee := .builtin .append, args := #[x, y], argTypes := #[t, t] }, type := ty, pos := pos, after := aft, guard := gd }) rfl ht hm ⟨hsz, hvx, opl_ok hl, by rw [hol]; exact hb.1, by rw [hol]; exact hb.2⟩
  obtain ⟨g1, _, g2⟩ := Rel.move R (b := .own (opl l)) R' hdd n3 (fun _ _ h => by cases h) n1 n2 fun c hc i hi => by
    cases hc
    obtain ⟨v, e⟩ := pure i hi
    rw [e]
    exact ⟨.p _, .p _⟩
  have h3 := g2 _ _ v hv
  rw [hol] at h3
  exact ⟨v, w', _, hyi, g1, h3⟩
end Go.Pv

/-
  A call that takes a row of the call's own for good. Conditions: none; a library text.
-/
set_option linter.all false
namespace Go.Pv
open Go.RowKit

section
variable {P : Program}
theorem peekG_hget {H H2 : Heap} {k : Nat} {x : AV} (hx : isPk k x = true) (h : hget H2 k = hget H k) : peekG H2 x = peekG H x := by
  cases x with
  | p v => rfl
  | sl j lo len =>
    have hj : j = k := by simpa [isPk] using hx
    subst hj
    simp only [peekG, peekS, h]
  | _ => simp [isPk] at hx

/-- A call that takes a row of the call's own for good: the row is frozen behind it. -/
theorem runs2_callK {all : Array Oper} {rest : List Oper} {K : St → List I2 → Prop} {acc : List I2} {s : St} {dst : Option Tmp} {ty : TypeId} {pos : String} {aft : Array Edge} {gd : Option (Nat × Bool)} {fo : Operand} {args : Array Operand} {ts : Array TypeId} {g : FuncId} {avs : List PV} {p : Prop} {r : PV} (k : Nat) {c : List AV} {ps : List PV}
    (hc : FnC P g avs r) (hg : guardA all s { dst := dst, op := .call { callee := .value fo, args := args, argTypes := ts }, type := ty, pos := pos, after := aft, guard := gd } = some true)
    (hown : hget s.H k = .own c) (hall : allP c = some ps)
    (hcall : callA ({ s with H := hset s.H k (.fro ps) } : St) fo args = some (g, avs, p, true)) (hpure : args.toList.all (fun x => isPk k (s.ev x)) = true) (hd : dstOk s dst) (hp : p)
    (h : Runs2 P all rest K (({ s with H := hset s.H k (.fro ps) } : St).put dst (.p r)) (acc ++ [⟨.st k, .p r, .fro ps, false⟩])) :
    Runs2 P all ({ dst := dst, op := .call { callee := .value fo, args := args, argTypes := ts }, type := ty, pos := pos, after := aft, guard := gd } :: rest) K s acc := by
  obtain ⟨s', xs, hr, hK⟩ := h
  have hk : k < s.H.length := (List.getElem?_eq_some_iff.1 (hget_mut hown)).1
  refine ⟨s', ⟨.st k, .p r, .fro ps, false⟩ :: xs, .op hg (dstOk_spec hd) ⟨hk, ?_⟩ (fun h => by cases h) hr, by rw [List.append_assoc] at hK; exact hK⟩
  intro s2 hn ha hH
  have hown2 : hget s2.H k = .own c := hH.trans hown
  have hk2 : k < s2.H.length := (List.getElem?_eq_some_iff.1 (hget_mut hown2)).1
  have he : hget (hset s2.H k (.fro ps)) k = hget (hset s.H k (.fro ps)) k := by
    rw [hset_hget, hset_hget, if_pos ⟨rfl, hk2⟩, if_pos ⟨rfl, hk⟩]
  have hcall2 : callA ({ s2 with H := hset s2.H k (.fro ps) } : St) fo args = some (g, avs, p, true) := by
    rw [← hcall]
    exact callA_pure (s := { s with H := hset s.H k (.fro ps) }) (s2 := { s2 with H := hset s2.H k (.fro ps) }) ts (fun x hx => ha x hx) fun x hx => peekG_hget ((List.all_eq_true.1 hpure) x hx) he
  have hdo := call_does (P := P) (s := { s2 with H := hset s2.H k (.fro ps) }) (o := { dst := dst, op := .call { callee := .value fo, args := args, argTypes := ts }, type := ty, pos := pos, after := aft, guard := gd }) rfl hc hcall2 hp (by simp)
  intro C m a w K Q R hK
  exact hdo C m a w K Q (R.freeze hown2 hall) fun v m' w' R' hv => hK v m' w' R' hv
end
end Go.Pv

/-
  Sylow's subgroups, as the program has them: look, Cauchy, one. Conditions: none.
-/
set_option linter.all false
namespace Go.Proofs.YtjikchbmkodgfaaDoor
open Go.Pv

/-- The fault of a group and a prime. -/
def syf (N : Int) (m : List Int) (p : Int) : Int × Int := bif decide ((gf N m).1 = 0) then (bif decide (isPr p.toNat) then (0, 0) else (3, 1)) else gf N m
def orp (n : Nat) (f : Nat → Nat → Nat) (e P a : Nat) : Bool := decide (ord n f e a = P)
section
variable {n e P : Nat} {m : List Int}
end
end Go.Proofs.YtjikchbmkodgfaaDoor

/-
  Sylow's subgroups, as the program grows one. Conditions: none.
-/
set_option linter.all false
namespace Go.Proofs.YtjikchbmkodgfaaDoor
open Go.Pv

section
variable {n e P : Nat} {m : List Int}
end
end Go.Proofs.YtjikchbmkodgfaaDoor

/-
  Plain law: conjugated sets in a list that rises. Conditions: none.
-/
set_option linter.all false
namespace Go.Proofs.YtjikchbmkodgfaaDoor
open Go.Pv

/-- Put into a list that rises, letter by letter. -/
def insL (x : Nat) : List Nat → List Nat
  | [] => [x]
  | y :: r => if cmpL (stl x) (stl y) < 0 then x :: y :: r else y :: insL x r
/-- All sets that a set is conjugated to, in their order. -/
structure SyS (n : Nat) (f : Nat → Nat → Nat) (e : Nat) (s : Nat → Bool) (SL : List Nat) : Prop where
  all : ∀ x, x ∈ SL ↔ ∃ a, a < n ∧ x = bo n (shf n f e s a)
  rise : SL.Pairwise fun x y => cmpL (stl x) (stl y) < 0
section
variable {n e : Nat} {f : Nat → Nat → Nat} {s : Nat → Bool} {SL : List Nat}
theorem SyS.nodup (h : SyS n f e s SL) : SL.Nodup := h.rise.imp fun {x y} hxy he => by
  subst he; rw [cmpL_self] at hxy; exact absurd hxy (by decide)
theorem SyS.pos (h : SyS n f e s SL) (G : Grp n f e) : 0 < SL.length := List.length_pos_of_mem ((h.all _).2 ⟨e, G.el, rfl⟩)
theorem SyS.len (h : SyS n f e s SL) : SL.length ≤ n := by
  have h1 := List.Nodup.length_le_of_subset h.nodup (l₂ := (List.range n).map fun a => bo n (shf n f e s a)) fun x hx => by
    obtain ⟨a, h1, h2⟩ := (h.all x).1 hx
    exact List.mem_map.2 ⟨a, List.mem_range.2 h1, h2.symm⟩
  simpa using h1
theorem SyS.num (h : SyS n f e s SL) (G : Grp n f e) (hs : Sub n f e s) : SL.length * (mem n (nzr n f e s)).length = n :=
  G.conj_num hs (code := bo n) (fun p q => ⟨fun he y hy => by
    have := congrArg (fun x => Nat.testBit x y) he
    simpa [bo_bit, hy] using this, fun he => bo_congr he⟩) h.nodup h.all
end
end Go.Proofs.YtjikchbmkodgfaaDoor

/-
  A loop over a map of one's own: its entries come in whatever order. Conditions: none; a library text.
-/
set_option linter.all false
namespace Go.Pv
open Go.RowKit

section
variable {P : Program} {C : Ctx} {m : Map} {s : St} {tmps : Array Value} {w : World}

/-- The frame where some blocks are left alone. -/
def holdC (C : Ctx) (X : Nat → Prop) (w : World) : Ctx := ⟨fun b => C.okA b ∨ C.B b, fun b => C.B b ∧ ¬ X b, w, C.anc⟩

theorem holdC_ok (C : Ctx) (X : Nat → Prop) (w0 : World) (m : Map) (H : Heap) (w : World) : OK (holdC C X w0) m H w = OK C m H w := by
  funext b
  unfold OK holdC
  refine propext ⟨fun h => ⟨?_, h.2⟩, fun h => ⟨.inl h.1, h.2⟩⟩
  rcases h.1 with h1 | h1
  · exact h1
  · exact .inr h1.1

theorem Rel.hold (R : Rel C m s tmps w) (X : Nat → Prop) (hX : ∀ b, X b → b < w.heap.size ∧ ∀ cur e sh, w.heap[b]? ≠ some (.cells cur e sh))
    (hmp : ∀ (k : Nat) (kk : IntKind) (d : Int → Bool) (v : Int → PV) (l : Loc), s.H[k]? = some (Blk.mp kk d v) → m k = some l → ¬ X l.g) : Rel (holdC C X w) m s tmps w := by
  have e := holdC_ok C X w m s.H w
  refine ⟨by rw [e]; exact R.laid, BelowP.refl _ _, fun b hb => ⟨R.base b hb, fun hx => by have := (hX b hx).1; omega⟩, R.size, R.inj, fun k c h => ?_, by rw [e]; exact R.fro, by rw [e]; exact R.slot, fun k kk d v h => ?_, R.mp.2.1, R.mp.2.2⟩
  · rw [e]
    rcases R.blk k c h with h1 | ⟨l, cur, ee, a1, a2, a3, a4⟩
    · exact .inl h1
    · exact .inr ⟨l, cur, ee, a1, ⟨a2, fun hx => (hX _ hx).2 _ _ _ a3⟩, a3, a4⟩
  · rw [e]
    obtain ⟨l, ar, clk, vs, a1, a2, a3⟩ := R.mp.1 k kk d v h
    exact ⟨l, ar, clk, vs, a1, ⟨a2, hmp k kk d v l h a1⟩, a3⟩

/-! ### The loop -/

/-- Where the loop stands: which keys have come. -/
def ItOk (ar : Array MapEntry) (clk bm r : Nat) (L : List Int) (w : World) : Prop :=
  w.heap[bm]? = some (.map ar clk) ∧ ∃ (seen : Array Nat) (vis : List MapEntry), w.heap[r]? = some (.mapIter (some bm) clk seen clk) ∧ (∀ e ∈ vis, e ∈ ar.toList) ∧ seen.toList = vis.map MapEntry.born ∧ L = vis.map (fun e => keyInt e.key) ∧ L.Nodup

def itLeft (ar : Array MapEntry) (r : Nat) (w : World) : Nat :=
  match w.heap[r]? with
  | some (.mapIter _ _ seen _) => (leftOf ar seen).size
  | _ => 0

end
end Go.Pv

/-
  All of Sylow's subgroups, as the program has them. Conditions: none.
-/
set_option linter.all false
namespace Go.Proofs.YtjikchbmkodgfaaDoor
open Go.Pv

def sql (SL : List Nat) : List (List Int) := SL.map stl
theorem sql_get {SL : List Nat} {i : Nat} (hi : i < SL.length) : (sql SL).getD i [] = stl (SL.getD i 0) := by
  simp [sql, List.getD, List.getElem?_eq_getElem hi]
def slz (L : List Int) : List (List Int) := L.map fun z => stl z.toNat
def pvi : PV → Int
  | .int _ x => x
  | _ => 0
def cfL : PV → PV → Int
  | .list a, .list b => cmpL (a.map pvi) (b.map pvi)
  | _, _ => 0
section
variable {n e P : Nat} {m : List Int}
/-- Keys that have been laid. -/
def kys (n : Nat) (f : Nat → Nat → Nat) (e : Nat) (s : Nat → Bool) (a : Nat) : List Int := (List.range a).map fun b => ((bo n (shf n f e s b) : Nat) : Int)
end
end Go.Proofs.YtjikchbmkodgfaaDoor

/-
  What all of Sylow's subgroups have; the document's example; numbers of a power of p. Conditions: none.
-/
set_option linter.all false
namespace Go.Proofs.YtjikchbmkodgfaaDoor
open Go.Pv

section
variable {n e P : Nat} {m : List Int}
/-- What the sets have, up to a place. -/
def cor (SL : List Nat) (i y : Nat) : Bool := (SL.getD 0 0).testBit y && decide (∀ j, j < i → (SL.getD j 0).testBit y = true)
theorem getD_memK {L : List Nat} {j : Nat} (hj : j < L.length) : L.getD j 0 ∈ L := by
  rw [List.getD_eq_getElem?_getD, List.getElem?_eq_getElem hj]; exact List.getElem_mem hj
theorem SyS.at {f : Nat → Nat → Nat} {s : Nat → Bool} {SL : List Nat} (h : SyS n f e s SL) (hn : n ≤ 60) {i : Nat} (hi : i < SL.length) : ∃ a, a < n ∧ SL.getD i 0 = bo n (shf n f e s a) ∧ (sql SL).getD i [] = thl n (shf n f e s a) := by
  obtain ⟨a, h1, h2⟩ := (h.all _).1 (getD_memK hi)
  exact ⟨a, h1, h2, by rw [sql_get hi, h2, stl_bo hn]⟩
theorem SyS.idx {f : Nat → Nat → Nat} {s : Nat → Bool} {SL : List Nat} (h : SyS n f e s SL) (hn : n ≤ 60) {a : Nat} (ha : a < n) : ∃ i, i < SL.length ∧ SL.getD i 0 = bo n (shf n f e s a) ∧ (sql SL).getD i [] = thl n (shf n f e s a) := by
  obtain ⟨i, h1, h2⟩ := List.getElem_of_mem ((h.all _).2 ⟨a, ha, rfl⟩)
  have h3 : SL.getD i 0 = bo n (shf n f e s a) := by rw [List.getD_eq_getElem?_getD, List.getElem?_eq_getElem h1, Option.getD_some, h2]
  exact ⟨i, h1, h3, by rw [sql_get h1, h3, stl_bo hn]⟩
theorem SyS.cor {f : Nat → Nat → Nat} {s : Nat → Bool} {SL : List Nat} (h : SyS n f e s SL) (G : Grp n f e) (hn : n ≤ 60) {y : Nat} (hy : y < n) : Go.Proofs.YtjikchbmkodgfaaDoor.cor SL SL.length y = crp n f e s y := by
  have hp := h.pos G
  have hb : ∀ p : Nat → Bool, (bo n p).testBit y = p y := fun p => by rw [bo_bit]; simp [hy]
  rw [Bool.eq_iff_iff, G.crp_back hy]
  unfold Go.Proofs.YtjikchbmkodgfaaDoor.cor
  rw [Bool.and_eq_true, decide_eq_true_eq]
  constructor
  · rintro ⟨_, h2⟩
    have h3 : ∀ a, a < n → shf n f e s a y = true := fun a ha => by
      obtain ⟨i, i1, i2, _⟩ := h.idx hn ha
      have := h2 i i1
      rwa [i2, hb] at this
    refine ⟨?_, h3⟩
    have := h3 e G.el
    rw [G.shf_back G.el hy, G.iv_one, G.cjr_e hy] at this
    exact this
  · rintro ⟨_, h2⟩
    have h3 : ∀ i, i < SL.length → (SL.getD i 0).testBit y = true := fun i hi => by
      obtain ⟨a, a1, a2, _⟩ := h.at hn hi
      rw [a2, hb]; exact h2 a a1
    exact ⟨h3 0 hp, h3⟩

end
end Go.Proofs.YtjikchbmkodgfaaDoor

/-
  What all of Sylow's subgroups have: what the laws need. Conditions: none.
-/
set_option linter.all false
namespace Go.Proofs.YtjikchbmkodgfaaDoor
open Go.Pv

section
variable {n e P : Nat} {f : Nat → Nat → Nat} {s : Nat → Bool} {SL : List Nat}
theorem Grp.shf_shf (G : Grp n f e) {a b y : Nat} (ha : a < n) (hb : b < n) (hy : y < n) : shf n f e (shf n f e s a) b y = shf n f e s (f a b) y := by
  have ib := G.iv_lt hb
  rw [G.shf_back hb hy, G.shf_back ha (G.cjr_lt hy ib), G.shf_back (G.cl _ _ ha hb) hy, G.iv_prod ha hb, G.cjr_cjr hy ib (G.iv_lt ha)]
theorem SyS.shf (h : SyS n f e s SL) (G : Grp n f e) {a : Nat} (ha : a < n) : SyS n f e (Go.Proofs.YtjikchbmkodgfaaDoor.shf n f e s a) SL where
  rise := h.rise
  all x := by
    rw [h.all x]
    constructor
    · rintro ⟨b, hb, rfl⟩
      exact ⟨f (iv n f e a) b, G.cl _ _ (G.iv_lt ha) hb, bo_congr fun y hy => by
        rw [G.shf_shf ha (G.cl _ _ (G.iv_lt ha) hb) hy, ← G.assoc a _ b ha (G.iv_lt ha) hb, G.mul_iv ha, G.one_l b hb]⟩
    · rintro ⟨b, hb, rfl⟩
      exact ⟨f a b, G.cl _ _ ha hb, bo_congr fun y hy => G.shf_shf ha hb hy⟩
theorem bo_eqs {p q : Nat → Bool} (h : bo n p = bo n q) : ∀ y, y < n → p y = q y := fun y hy => by
  have := congrArg (fun x => Nat.testBit x y) h
  simpa [bo_bit, hy] using this
/-- One alone is normal. -/
theorem SyS.one_nml (h : SyS n f e s SL) (G : Grp n f e) (hs : Sub n f e s) (hp : 0 < SL.length) : SL.length = 1 ↔ Nml n f e s := by
  have hse : ∀ y, y < n → Go.Proofs.YtjikchbmkodgfaaDoor.shf n f e s e y = s y := fun y hy => by rw [G.shf_back G.el hy, G.iv_one, G.cjr_e hy]
  constructor
  · intro h1
    obtain ⟨x, hx⟩ := List.length_eq_one_iff.1 h1
    have hm : ∀ a, a < n → bo n (Go.Proofs.YtjikchbmkodgfaaDoor.shf n f e s a) = x := fun a ha => by
      have := (h.all _).2 ⟨a, ha, rfl⟩
      rw [hx, List.mem_singleton] at this; exact this
    refine G.nml_iff.2 fun a ha => nzr_iff.2 fun y hy => ?_
    rw [bo_eqs ((hm a ha).trans (hm e G.el).symm) y hy, hse y hy]
  · intro h1
    have hall : ∀ x ∈ SL, x = bo n s := fun x hx => by
      obtain ⟨a, ha, rfl⟩ := (h.all x).1 hx
      exact bo_congr fun y hy => nzr_iff.1 (G.nml_iff.1 h1 a ha) y hy
    have := List.Nodup.length_le_of_subset h.nodup (l₂ := [bo n s]) fun x hx => by rw [List.mem_singleton]; exact hall x hx
    simp at this
    omega
end

section
variable {n e P : Nat} {m : List Int}
end
end Go.Proofs.YtjikchbmkodgfaaDoor

/-
  Walks: the law SylowAll. Conditions: none.
-/
set_option linter.all false
namespace Go.Proofs.YtjikchbmkodgfaaDoor
open Go.Pv

/-- Less, letter by letter. -/
def lsb : List Int → List Int → Bool
  | a :: r, b :: t => bif decide (a = b) then lsb r t else decide (a < b)
  | _, _ => false
theorem lsb_at {v w : List Int} : ∀ {i : Nat}, (∀ j, j < i → v.getD j 0 = w.getD j 0) → i < v.length → i < w.length → ¬ v.getD i 0 = w.getD i 0 → lsb v w = decide (v.getD i 0 < w.getD i 0) := by
  intro i
  induction i generalizing v w with
  | zero =>
    intro _ hv hw hne
    cases v with
    | nil => simp at hv
    | cons a r =>
      cases w with
      | nil => simp at hw
      | cons b t =>
        have hne' : ¬ a = b := by simpa using hne
        unfold lsb; rw [decide_eq_false hne']; simp
  | succ i ih =>
    intro hall hv hw hne
    cases v with
    | nil => simp at hv
    | cons a r =>
      cases w with
      | nil => simp at hw
      | cons b t =>
        have hab : a = b := by simpa using hall 0 (by omega)
        unfold lsb; rw [decide_eq_true hab]
        have := ih (v := r) (w := t) (fun j hj => by simpa using hall (j + 1) (by omega)) (by simpa using hv) (by simpa using hw) (by simpa using hne)
        simpa using this
theorem lsb_eq {v w : List Int} (hall : ∀ j, j < v.length → v.getD j 0 = w.getD j 0) : lsb v w = false := by
  induction v generalizing w with
  | nil => rfl
  | cons a r ih =>
    cases w with
    | nil => rfl
    | cons b t =>
      have hab : a = b := by simpa using hall 0 (by simp)
      unfold lsb; rw [decide_eq_true hab]
      exact ih fun j hj => by simpa using hall (j + 1) (by simpa using hj)
theorem less_r (v w : List Int) (hv : v.length ≤ 1000000) (hl : w.length = v.length) : FnC Tryd.prog 50 [.list (il v), .list (il w)] (.bool (lsb v w)) := by
  refine fnc_of tab_ok Tryd.func50 rfl (by kernel_rfl) (by rw [Tryd.ntmps50]; exact Nat.le_add_left 2 _) ?_; rw [Tryd.ntmps50]
  refine qm ?_
  refine hk_region fun K hK => runs_eval tab_ok ?_
  simp only [ev0, evA, evB, evP, fl, gp, tab, simprocAttr, reduceCtorEq, reduceIte]
  refine fin_run trivial (hK _ ?_) <;> clear hK <;> clear K
  refine qa (qm (qm ?_))
  refine hk_region fun K hK => runs_eval tab_ok ?_
  simp only [ev0, evA, evB, evP, fl, gp, tab, simprocAttr, reduceCtorEq, reduceIte]
  refine fin_run trivial (hK _ ?_) <;> clear hK <;> clear K
  refine qa (ql ?_)
  refine hk_loop (ι := Nat) (fun i => ⟨30, [(0, .p (.list (il v))), (1, .p (.list (il w))), (5, .p (.int .i64 i))], []⟩) (fun i => i ≤ v.length ∧ ∀ j, j < i → v.getD j 0 = w.getD j 0) (fun i => v.length - i) 0 ⟨Nat.zero_le _, fun j hj => by omega⟩ [] (by simp only [leq, leA, ev0, evA, evB, evP, fl, gp, tab, simprocAttr, reduceCtorEq, reduceIte] <;> trivial) fun i hi => ?_
  obtain ⟨hi1, hi2⟩ := hi
  refine qm (qm ?_)
  refine hk_region fun K hK => runs_eval tab_ok ?_
  simp only [ev0, evA, evB, evP, fl, gp, tab, simprocAttr, reduceCtorEq, reduceIte]
  refine fin_run trivial (hK _ ?_) <;> clear hK <;> clear K
  refine qa ?_
  refine hk_cond rfl (fun hC1 => ?_) (fun hC1 => ?_)
  · (try simp only [nhs] at hC1)
    have hlt : i < v.length := by omega
    have hlw : i < w.length := by omega
    refine qh (qa (qm (ql (qm ?_))))
    refine hk_draw mixed (by kernel_rfl) fun K hK => runs_eval tab_ok ?_
    simp only [ev0, evA, evB, evP, fl, gp, tab, simprocAttr, reduceCtorEq, reduceIte, il_get hlt, il_get hlw]
    refine fin_run ?_ (hK _ ?_) <;> clear hK <;> clear K
    · (first | exact trivial | omega | (simp only [In64] at *; omega) | (simp [In64] at *; omega) | (simp_all; done) | skip)
    refine qa ?_
    refine hk_cond rfl (fun hC2 => ?_) (fun hC2 => ?_)
    · (try simp only [nhs] at hC2)
      refine qm ?_
      refine hk_draw mixed (by kernel_rfl) fun K hK => runs_eval tab_ok ?_
      simp only [ev0, evA, evB, evP, fl, gp, tab, simprocAttr, reduceCtorEq, reduceIte, il_get hlt, il_get hlw]
      refine fin_run ?_ (hK _ ?_) <;> clear hK <;> clear K
      · (first | exact trivial | omega | (simp only [In64] at *; omega) | (simp [In64] at *; omega) | (simp_all; done) | skip)
      refine qa (qk (qe (qb (qb (qe (qb ?_))))))
      simp only [Tryd.results50, enA, ev0, evA, evB, evP, fl, gp, tab, simprocAttr, reduceCtorEq, reduceIte]
      all_goals (rw [lsb_at hi2 hlt hlw hC2])
    · (try simp only [nhs] at hC2)
      refine qh (qd (qa ?_))
      refine hk_region fun K hK => runs_eval tab_ok ?_
      simp only [ev0, evA, evB, evP, fl, gp, tab, simprocAttr, reduceCtorEq, reduceIte]
      refine fin_run ?_ (hK _ ?_) <;> clear hK <;> clear K
      · (first | exact trivial | omega | (simp only [In64] at *; omega) | (simp [In64] at *; omega) | (simp_all; done) | skip)
      refine qa ?_
      refine ⟨i + 1, [], ⟨by omega, fun j hj => ?_⟩, by omega, ?_⟩
      · by_cases hj : j = i
        · subst hj; exact hC2
        · exact hi2 j (by omega)
      · simp only [leq, leA, ev0, evA, evB, evP, fl, gp, tab, simprocAttr, reduceCtorEq, reduceIte] <;> omega
  · (try simp only [nhs] at hC1)
    refine qj (qc (qc (qf (qa (qm ?_)))))
    refine hk_region fun K hK => runs_eval tab_ok ?_
    simp only [ev0, evA, evB, evP, fl, gp, tab, simprocAttr, reduceCtorEq, reduceIte]
    refine fin_run trivial (hK _ ?_) <;> clear hK <;> clear K
    refine qa (qk ?_)
    simp only [Tryd.results50, enA, ev0, evA, evB, evP, fl, gp, tab, simprocAttr, reduceCtorEq, reduceIte]
    all_goals (rw [lsb_eq fun j hj => hi2 j (by omega)])
theorem lsb_cmp {v w : List Int} (hl : v.length = w.length) (h : cmpL v w < 0) : lsb v w = true := by
  induction v generalizing w with
  | nil =>
    cases w with
    | nil => rw [cmpL_self] at h; exact absurd h (by decide)
    | cons b t => simp at hl
  | cons a r ih =>
    cases w with
    | nil => simp at hl
    | cons b t =>
      unfold lsb
      rcases cmpL_cons_lt.1 h with h1 | ⟨h1, h2⟩
      · rw [decide_eq_false (by omega), decide_eq_true h1]; rfl
      · rw [decide_eq_true h1]; exact ih (by simpa using hl) h2

section
variable {n e P : Nat} {m : List Int}
end
end Go.Proofs.YtjikchbmkodgfaaDoor

/-
  All subgroups as the document has them. Conditions: none.
-/
set_option linter.all false
namespace Go.Proofs.YtjikchbmkodgfaaDoor
open Go.Pv

section
variable {n e : Nat} {m : List Int}
/-- Lists of codes of subgroups. -/
structure SgL (n : Nat) (f : Nat → Nat → Nat) (e : Nat) (L : List Nat) : Prop where
  nodup : L.Nodup
  subs : ∀ x ∈ L, ∃ p, Sub n f e p ∧ x = bo n p
theorem SgL.len {f : Nat → Nat → Nat} {L : List Nat} (h : SgL n f e L) (hn : n ≤ 24) : L.length ≤ 2 ^ n ∧ 2 ^ n ≤ 16777216 :=
  ⟨nodup_lt h.nodup fun x hx => by obtain ⟨p, _, rfl⟩ := h.subs x hx; exact bo_lt n p, Nat.le_trans (Nat.pow_le_pow_right (by omega) hn) (by decide)⟩
theorem SgL.rows {f : Nat → Nat → Nat} {L : List Nat} (h : SgL n f e L) (hn : n ≤ 24) : ∀ w ∈ sll L, w.length ≤ 60 := fun w hw => by
  obtain ⟨x, hx, rfl⟩ := List.mem_map.1 hw
  obtain ⟨p, _, rfl⟩ := h.subs x hx
  rw [stl_bo (by omega)]
  have := thl_le n p
  omega
theorem SgL.mem {f : Nat → Nat → Nat} {L : List Nat} (h : SgL n f e L) (hn : n ≤ 24) (p : Nat → Bool) : thl n p ∈ sll L ↔ bo n p ∈ L := by
  constructor
  · intro hm
    obtain ⟨x, hx, hxp⟩ := List.mem_map.1 hm
    obtain ⟨q, _, rfl⟩ := h.subs x hx
    rw [stl_bo (by omega)] at hxp
    have : bo n q = bo n p := bo_congr fun a ha => thl_inj hxp ha
    rwa [this] at hx
  · exact fun hm => List.mem_map.2 ⟨_, hm, stl_bo (by omega) p⟩
theorem SgL.put {f : Nat → Nat → Nat} {L : List Nat} (h : SgL n f e L) {p : Nat → Bool} (hp : Sub n f e p) (hin : bo n p ∉ L) : SgL n f e (L ++ [bo n p]) :=
  ⟨List.nodup_append.2 ⟨h.nodup, by simp, fun x hx y hy he => by rw [List.mem_singleton] at hy; rw [he, hy] at hx; exact hin hx⟩, fun x hx => by
    rcases List.mem_append.1 hx with hx | hx
    · exact h.subs x hx
    · rw [List.mem_singleton] at hx; exact ⟨p, hp, hx⟩⟩
theorem sll_app (L : List Nat) (p : Nat → Bool) (hn : n ≤ 60) : sll (L ++ [bo n p]) = sll L ++ [thl n p] := by simp [sll, stl_bo hn]

theorem tst_one (a z : Nat) : onp a z = tst [(a : Int)] z := by
  unfold onp tst
  rw [decide_eq_decide, List.mem_singleton]
  omega
/-- What two lists make is there. -/
def Jn (n : Nat) (f : Nat → Nat → Nat) (e : Nat) (x y : Nat) (M : List Nat) : Prop := ∀ p c : Nat → Bool, x = bo n p → y = bo n c → bo n (gn n f e (oru2 p c)) ∈ M
theorem gn_congr {f : Nat → Nat → Nat} {p q : Nat → Bool} (h : ∀ a, a < n → p a = q a) : bo n (gn n f e p) = bo n (gn n f e q) := bo_congr fun a ha => by
  rw [Bool.eq_iff_iff, gn_iff _ a ha, gn_iff _ a ha]
  exact Gen.congr h
theorem bo_eq2 {p q : Nat → Bool} (h : bo n p = bo n q) : ∀ y, y < n → p y = q y := fun y hy => by
  have := congrArg (fun x => Nat.testBit x y) h
  simpa [bo_bit, hy] using this
theorem Jn.of {f : Nat → Nat → Nat} {x y : Nat} {M : List Nat} {p c : Nat → Bool} (hx : x = bo n p) (hy : y = bo n c) (h : bo n (gn n f e (oru2 p c)) ∈ M) : Jn n f e x y M := fun p' c' h1 h2 => by
  have : bo n (gn n f e (oru2 p' c')) = bo n (gn n f e (oru2 p c)) := gn_congr fun a ha => by
    unfold oru2
    rw [bo_eq2 (h1.symm.trans hx) a ha, bo_eq2 (h2.symm.trans hy) a ha]
  rw [this]; exact h
theorem Jn.mono {f : Nat → Nat → Nat} {x y : Nat} {M M' : List Nat} (h : Jn n f e x y M) (hs : ∀ z ∈ M, z ∈ M') : Jn n f e x y M' := fun p c h1 h2 => hs _ (h p c h1 h2)
theorem getD_app {L R : List Nat} {j : Nat} (hj : j < L.length) : (L ++ R).getD j 0 = L.getD j 0 := by
  rw [List.getD_eq_getElem?_getD, List.getElem?_append_left hj, ← List.getD_eq_getElem?_getD]
theorem SgL.at {f : Nat → Nat → Nat} {L : List Nat} (h : SgL n f e L) (hn : n ≤ 60) {i : Nat} (hi : i < L.length) : ∃ p, Sub n f e p ∧ L.getD i 0 = bo n p ∧ (sll L).getD i [] = thl n p := by
  obtain ⟨p, hp, hx⟩ := h.subs _ (getD_memN hi)
  exact ⟨p, hp, hx, by rw [sll_get hi, hx, stl_bo hn]⟩
theorem tst_app (p c : Nat → Bool) {a : Nat} (ha : a < n) : tst (thl n p ++ thl n c) a = oru2 p c a := by
  unfold tst oru2
  rw [Bool.eq_iff_iff, decide_eq_true_eq, List.mem_append, mem_thl_n ha, mem_thl_n ha, Bool.or_eq_true]
theorem jn_rng (p c : Nat → Bool) : ∀ x ∈ thl n p ++ thl n c, ∃ a, a < n ∧ x = ((a : Nat) : Int) := fun x hx => by
  rcases List.mem_append.1 hx with hx | hx
  · exact thl_rng2 x hx
  · exact thl_rng2 x hx
theorem set_swp {U : List Nat} {i k : Nat} {p q : Nat → Bool} (hn : n ≤ 60) (hi : U.getD i 0 = bo n p) (hk : U.getD k 0 = bo n q) : opl (ll (sll (swp U i k))) = ((opl (ll (sll U))).set i (.p (.list (il (thl n q))))).set k (.p (.list (il (thl n p)))) := by
  unfold swp
  rw [hi, hk]
  simp only [sll, ll, opl, List.map_set, stl_bo hn]
theorem cmp_lsb {v w : List Int} (hl : v.length = w.length) (h : lsb v w = true) : cmpL v w < 0 := by
  induction v generalizing w with
  | nil => cases h
  | cons a r ih =>
    cases w with
    | nil => simp at hl
    | cons b t =>
      unfold lsb at h
      by_cases hab : a = b
      · rw [decide_eq_true hab] at h
        exact cmpL_cons_lt.2 (.inr ⟨hab, ih (by simpa using hl) h⟩)
      · rw [decide_eq_false hab] at h
        exact cmpL_cons_lt.2 (.inl (of_decide_eq_true h))
set_option maxHeartbeats 4000000 in
set_option maxRecDepth 100000 in
theorem subgroups_t (h : GT n m n e) (hn : n ≤ 24) {SL : List Nat} (hS : AllS n (op m n) e SL) : FnC Tryd.prog 20 [gp n m] (.list (ll (sll SL))) := by
  have G := h.2.2
  have hb := h.2.1.big
  have h24 : 2 ^ n ≤ 16777216 := Nat.le_trans (Nat.pow_le_pow_right (by omega) hn) (by decide)
  refine fnc_of tab_ok Tryd.func20 rfl (by kernel_rfl) (by rw [Tryd.ntmps20]; exact Nat.le_add_left 1 _) ?_; rw [Tryd.ntmps20]
  refine qm ?_
  refine hk_region fun K hK => runs_eval tab_ok ?_
  simp only [ev0, evA, evB, evP, fl, gp, tab, simprocAttr, reduceCtorEq, reduceIte]
  refine fin_run ?_ (hK _ ?_) <;> clear hK <;> clear K
  · (first | exact trivial | omega | (simp only [In64] at *; omega) | (simp [In64] at *; omega) | (simp_all; done) | skip)
  refine qa (qm ?_)
  refine hk_region fun K hK => runs_eval tab_ok ?_
  simp only [ev0, evA, evB, evP, fl, gp, tab, simprocAttr, reduceCtorEq, reduceIte]
  refine fin_run ?_ (hK _ ?_) <;> clear hK <;> clear K
  · (first | exact trivial | omega | (simp only [In64] at *; omega) | (simp [In64] at *; omega) | (simp_all; done) | skip)
  refine qa (qm ?_)
  refine hk_own0c 1 0 rfl rfl ?_
  simp only [hset, List.cons_append, List.nil_append, List.set, List.length_cons, List.length_nil]
  refine hk_region fun K hK => runs_eval tab_ok ?_
  simp only [ev0, evA, evB, evP, fl, gp, tab, simprocAttr, reduceCtorEq, reduceIte]
  refine fin_stop ?_ (runs_op (mkCl_does rfl rfl) rfl (by simp only [dstOk, Nat.reduceLT]) (runs_eval tab_ok ?_))
  · (first | exact trivial | omega | (simp only [In64] at *; omega) | (simp [In64] at *; omega) | (simp_all; done) | skip)
  simp only [ev0, evA, evB, evP, fl, gp, tab, simprocAttr, reduceCtorEq, reduceIte]
  refine fin_run ?_ (hK _ ?_) <;> clear hK <;> clear K
  · (first | exact trivial | omega | (simp only [In64] at *; omega) | (simp [In64] at *; omega) | (simp_all; done) | skip)
  refine qa (qm (qm ?_))
  refine hk_region fun K hK => runs_eval tab_ok ?_
  simp only [ev0, evA, evB, evP, fl, gp, tab, simprocAttr, reduceCtorEq, reduceIte]
  refine fin_run trivial (hK _ ?_) <;> clear hK <;> clear K
  refine qa (ql ?_)
  refine hk_loop (ι := Nat × List Nat) (fun p => ⟨125, [(1, .ptr 0 0), (3, .ptr 1 0), (4, .cl 76 [.ptr 1 0]), (5, .p (.int .i64 p.1))], [.own [.p (.int .i64 n), .p (.list (il m))], .own [.sl 2 0 (sll p.2).length], .own (opl (ll (sll p.2)))]⟩) (fun p => p.1 ≤ n ∧ SgL n (op m n) e p.2 ∧ ∀ b, b < p.1 → bo n (cyg n (op m n) e b) ∈ p.2) (fun p => n - p.1) (0, []) ⟨Nat.zero_le _, ⟨List.nodup_nil, by simp⟩, fun b hb => absurd hb (Nat.not_lt_zero _)⟩ [0, 1, 2] (by simp only [leq, leA, ev0, evA, evB, evP, fl, gp, tab, simprocAttr, reduceCtorEq, reduceIte] <;> first | trivial | simp [sll, ll, opl]) fun p hp => ?_
  obtain ⟨a, L⟩ := p
  obtain ⟨ha, hI, hD⟩ := hp
  simp only at ha hI hD
  have hlen := hI.len hn
  have hsl := sll_len L
  refine qm (qm ?_)
  refine hk_region fun K hK => runs_eval tab_ok ?_
  simp only [ev0, evA, evB, evP, fl, gp, tab, simprocAttr, reduceCtorEq, reduceIte]
  refine fin_run ?_ (hK _ ?_) <;> clear hK <;> clear K
  · (first | exact trivial | omega | (simp only [In64] at *; omega) | (simp [In64] at *; omega) | (simp_all; done) | skip)
  refine qa ?_
  refine hk_cond rfl (fun hC1 => ?_) (fun hC1 => ?_)
  · (try simp only [nhs] at hC1)
    have hal : a < n := by omega
    have hcs := cyg_sub G a
    have hlc := thl_le n (cyg n (op m n) e a)
    refine qh (qa (qm (ql ?_)))
    by_cases hin : bo n (cyg n (op m n) e a) ∈ L
    · refine hk_region fun K hK => runs_eval tab_ok ?_
      simp only [ev0, evA, evB, evP, fl, gp, tab, simprocAttr, reduceCtorEq, reduceIte]
      refine fin_stop ?_ (runs_call (FnC.sub (args' := [gp n m, .nn (il [(a : Int)])]) (span_c h [(a : Int)] (by simp) (fun x hx => ⟨a, hal, by simpa using hx⟩) (cyg n (op m n) e a) (fun y hy => by rw [cyg_iff y hy]; exact Gen.congr fun z _ => tst_one a z)) (And.intro (.same _) (And.intro (.nn _) trivial))) rfl rfl rfl (by simp only [dstOk, Nat.reduceLT]) (by repeat (first | exact trivial | constructor)) (runs_eval tab_ok ?_))
      · (first | exact trivial | omega | (simp only [In64] at *; omega) | (simp [In64] at *; omega) | (simp_all; done) | skip)
      simp only [ev0, evA, evB, evP, fl, gp, tab, simprocAttr, reduceCtorEq, reduceIte]
      refine fin_stop ?_ (runs_callMc [1, 2] (add_in (sll L) (thl n (cyg n (op m n) e a)) (by omega) (hI.rows hn) ((hI.mem hn _).2 hin)) rfl rfl ?_ (by simp only [leA, ev0, evA, evB, evP, fl, gp, tab, simprocAttr, reduceCtorEq, reduceIte]; first | trivial | (simp only [ll_takeL]; first | trivial | (repeat constructor; done)) | (repeat constructor)) (by decide) (by first | rfl | (simp only [List.length_cons, List.length_nil, List.length_append]; decide)) (by first | rfl | (simp only [scM, opl_sc, List.all_cons, List.all_nil, List.length_cons, List.length_nil]; first | rfl | decide) | (simp [scM, scA, sc1, mpKeep, notAnc]; done)) (by simp only [dstOk, Nat.reduceLT]) (runs_eval tab_ok ?_))
      · (first | exact trivial | omega | (simp only [In64] at *; omega) | (simp [In64] at *; omega) | (simp_all; done) | skip)
      · (simp only [argsM, argM1, peekG, peekS, scA, sc1, ren, ren1, List.map_cons, List.map_nil, List.append_nil, List.cons_append, List.nil_append, enA, ev0, evA, evB, evP, fl, gp, tab, simprocAttr, reduceCtorEq, reduceIte]; try trivial)
      simp only [putM, hset, List.range', Blk.ren, ren, ren1, List.map_cons, List.map_nil, List.cons_append, List.nil_append, List.append_nil, List.length_cons, List.length_nil, ev0, evA, evB, evP, fl, gp, tab, simprocAttr, reduceCtorEq, reduceIte]
      refine fin_run ?_ (hK _ ?_) <;> clear hK <;> clear K
      · (first | exact trivial | omega | (simp only [In64] at *; omega) | (simp [In64] at *; omega) | (simp_all; done) | skip)
      refine qd (qa ?_)
      refine hk_region fun K hK => runs_eval tab_ok ?_
      simp only [ev0, evA, evB, evP, fl, gp, tab, simprocAttr, reduceCtorEq, reduceIte]
      refine fin_run ?_ (hK _ ?_) <;> clear hK <;> clear K
      · (first | exact trivial | omega | (simp only [In64] at *; omega) | (simp [In64] at *; omega) | (simp_all; done) | skip)
      refine qa ?_
      refine ⟨(a + 1, L), [0, 1, 2], ⟨show a + 1 ≤ n by omega, hI, fun b hb2 => ?_⟩, show n - (a + 1) < n - a by omega, ?_⟩
      · by_cases hba : b = a
        · rw [hba]; exact hin
        · exact hD b (by have : b < a + 1 := hb2
                         omega)
      · simp only [leq, leA, ev0, evA, evB, evP, fl, gp, tab, simprocAttr, reduceCtorEq, reduceIte, ll_takeL] <;> first | trivial | omega
    · refine hk_region fun K hK => runs_eval tab_ok ?_
      simp only [ev0, evA, evB, evP, fl, gp, tab, simprocAttr, reduceCtorEq, reduceIte]
      refine fin_stop ?_ (runs_call (FnC.sub (args' := [gp n m, .nn (il [(a : Int)])]) (span_c h [(a : Int)] (by simp) (fun x hx => ⟨a, hal, by simpa using hx⟩) (cyg n (op m n) e a) (fun y hy => by rw [cyg_iff y hy]; exact Gen.congr fun z _ => tst_one a z)) (And.intro (.same _) (And.intro (.nn _) trivial))) rfl rfl rfl (by simp only [dstOk, Nat.reduceLT]) (by repeat (first | exact trivial | constructor)) (runs_eval tab_ok ?_))
      · (first | exact trivial | omega | (simp only [In64] at *; omega) | (simp [In64] at *; omega) | (simp_all; done) | skip)
      simp only [ev0, evA, evB, evP, fl, gp, tab, simprocAttr, reduceCtorEq, reduceIte]
      refine fin_stop ?_ (runs_callMc [1, 2] (add_new (sll L) (thl n (cyg n (op m n) e a)) (by omega) (hI.rows hn) (fun hh => hin ((hI.mem hn _).1 hh))) rfl rfl ?_ (by simp only [leA, ev0, evA, evB, evP, fl, gp, tab, simprocAttr, reduceCtorEq, reduceIte]; first | trivial | (simp only [ll_takeL]; first | trivial | (repeat constructor; done)) | (repeat constructor)) (by decide) (by first | rfl | (simp only [List.length_cons, List.length_nil, List.length_append]; decide)) (by first | rfl | (simp only [scM, opl_sc, List.all_cons, List.all_nil, List.length_cons, List.length_nil]; first | rfl | decide) | (simp [scM, scA, sc1, mpKeep, notAnc]; done)) (by simp only [dstOk, Nat.reduceLT]) (runs_eval tab_ok ?_))
      · (first | exact trivial | omega | (simp only [In64] at *; omega) | (simp [In64] at *; omega) | (simp_all; done) | skip)
      · (simp only [argsM, argM1, peekG, peekS, scA, sc1, ren, ren1, List.map_cons, List.map_nil, List.append_nil, List.cons_append, List.nil_append, enA, ev0, evA, evB, evP, fl, gp, tab, simprocAttr, reduceCtorEq, reduceIte]; try trivial)
      simp only [putM, hset, List.range', Blk.ren, ren, ren1, List.map_cons, List.map_nil, List.cons_append, List.nil_append, List.append_nil, List.length_cons, List.length_nil, ev0, evA, evB, evP, fl, gp, tab, simprocAttr, reduceCtorEq, reduceIte]
      refine fin_run ?_ (hK _ ?_) <;> clear hK <;> clear K
      · (first | exact trivial | omega | (simp only [In64] at *; omega) | (simp [In64] at *; omega) | (simp_all; done) | skip)
      refine qd (qa ?_)
      refine hk_region fun K hK => runs_eval tab_ok ?_
      simp only [ev0, evA, evB, evP, fl, gp, tab, simprocAttr, reduceCtorEq, reduceIte]
      refine fin_run ?_ (hK _ ?_) <;> clear hK <;> clear K
      · (first | exact trivial | omega | (simp only [In64] at *; omega) | (simp [In64] at *; omega) | (simp_all; done) | skip)
      refine qa ?_
      refine ⟨(a + 1, L ++ [bo n (cyg n (op m n) e a)]), [0, 1, 3], ⟨show a + 1 ≤ n by omega, hI.put hcs hin, fun b hb2 => ?_⟩, show n - (a + 1) < n - a by omega, ?_⟩
      · by_cases hba : b = a
        · rw [hba]; simp
        · exact List.mem_append_left _ (hD b (by have : b < a + 1 := hb2
                                                 omega))
      · rw [sll_app L _ hb]
        simp only [leq, leA, ev0, evA, evB, evP, fl, gp, tab, simprocAttr, reduceCtorEq, reduceIte, ll_takeL, ll_snoc, ll_takeS] <;> first | trivial | omega | (simp; done)
  · (try simp only [nhs] at hC1)
    have han : a = n := by omega
    subst han
    refine qj (qc (qc (qf (qa (qm ?_)))))
    refine hk_region fun K hK => runs_eval tab_ok ?_
    simp only [ev0, evA, evB, evP, fl, gp, tab, simprocAttr, reduceCtorEq, reduceIte]
    refine fin_run ?_ (hK _ ?_) <;> clear hK <;> clear K
    · (first | exact trivial | omega | (simp only [In64] at *; omega) | (simp [In64] at *; omega) | (simp_all; done) | skip)
    refine qa (qm (qm ?_))
    refine hk_region fun K hK => runs_eval tab_ok ?_
    simp only [ev0, evA, evB, evP, fl, gp, tab, simprocAttr, reduceCtorEq, reduceIte]
    refine fin_run trivial (hK _ ?_) <;> clear hK <;> clear K
    refine qa (ql ?_)
    refine hk_loop (ι := Nat × List Nat) (fun p => ⟨125, [(1, .ptr 0 0), (3, .ptr 1 0), (4, .cl 76 [.ptr 1 0]), (6, .p (.int .i64 (sll L).length)), (7, .p (.int .i64 p.1))], [.own [.p (.int .i64 a), .p (.list (il m))], .own [.sl 2 0 (sll p.2).length], .own (opl (ll (sll p.2)))]⟩) (fun p => p.1 ≤ p.2.length ∧ SgL a (op m a) e p.2 ∧ (∃ R, p.2 = L ++ R) ∧ ∀ j, j < p.1 → ∀ k, k < L.length → Jn a (op m a) e (p.2.getD j 0) (L.getD k 0) p.2) (fun p => 2 ^ a - p.1) (0, L) ⟨Nat.zero_le _, hI, ⟨[], by simp⟩, fun j hj => absurd hj (Nat.not_lt_zero _)⟩ [0, 1, 2] (by simp only [leq, leA, ev0, evA, evB, evP, fl, gp, tab, simprocAttr, reduceCtorEq, reduceIte, ll_takeL] <;> first | trivial | omega) fun p hp => ?_
    obtain ⟨i, M⟩ := p
    obtain ⟨hi, hM, ⟨R, hR⟩, hJ⟩ := hp
    simp only at hi hM hR hJ
    have hMlen := hM.len hn
    have hMl := sll_len M
    refine qm (qm ?_)
    refine hk_region fun K hK => runs_eval tab_ok ?_
    simp only [ev0, evA, evB, evP, fl, gp, tab, simprocAttr, reduceCtorEq, reduceIte]
    refine fin_run ?_ (hK _ ?_) <;> clear hK <;> clear K
    · (first | exact trivial | omega | (simp only [In64] at *; omega) | (simp [In64] at *; omega) | (simp_all; done) | skip)
    refine qa ?_
    refine hk_cond rfl (fun hC2 => ?_) (fun hC2 => ?_)
    · (try simp only [nhs] at hC2)
      have hil : i < M.length := by omega
      refine qh (qa (qm (ql (qm ?_))))
      refine hk_region fun K hK => runs_eval tab_ok ?_
      simp only [ev0, evA, evB, evP, fl, gp, tab, simprocAttr, reduceCtorEq, reduceIte]
      refine fin_run trivial (hK _ ?_) <;> clear hK <;> clear K
      refine qa (ql ?_)
      refine hk_loop (ι := Nat × List Nat) (fun p => ⟨125, [(1, .ptr 0 0), (3, .ptr 1 0), (4, .cl 76 [.ptr 1 0]), (6, .p (.int .i64 (sll L).length)), (7, .p (.int .i64 i)), (8, .p (.int .i64 p.1))], [.own [.p (.int .i64 a), .p (.list (il m))], .own [.sl 2 0 (sll p.2).length], .own (opl (ll (sll p.2)))]⟩) (fun p => p.1 ≤ L.length ∧ i < p.2.length ∧ SgL a (op m a) e p.2 ∧ (∃ R, p.2 = L ++ R) ∧ (∀ j, j < i → ∀ k, k < L.length → Jn a (op m a) e (p.2.getD j 0) (L.getD k 0) p.2) ∧ ∀ k, k < p.1 → Jn a (op m a) e (p.2.getD i 0) (L.getD k 0) p.2) (fun p => L.length - p.1) (0, M) ⟨Nat.zero_le _, hil, hM, ⟨R, hR⟩, hJ, fun k hk => absurd hk (Nat.not_lt_zero _)⟩ [0, 1, 2] (by simp only [leq, leA, ev0, evA, evB, evP, fl, gp, tab, simprocAttr, reduceCtorEq, reduceIte, ll_takeL] <;> first | trivial | omega) fun p hp => ?_
      obtain ⟨k, W⟩ := p
      obtain ⟨hk, hiW, hW, ⟨RW, hRW⟩, hJW, hJk⟩ := hp
      simp only at hk hiW hW hRW hJW hJk
      have hWlen := hW.len hn
      have hWl := sll_len W
      refine qm (qm ?_)
      refine hk_region fun K hK => runs_eval tab_ok ?_
      simp only [ev0, evA, evB, evP, fl, gp, tab, simprocAttr, reduceCtorEq, reduceIte]
      refine fin_run trivial (hK _ ?_) <;> clear hK <;> clear K
      refine qa ?_
      refine hk_cond rfl (fun hC3 => ?_) (fun hC3 => ?_)
      · (try simp only [nhs] at hC3)
        have hkl : k < L.length := by omega
        have hkW : k < W.length := by rw [hRW, List.length_append]; omega
        obtain ⟨pi, hpi, hvi, hri⟩ := hW.at hb hiW
        obtain ⟨pk, hpk, hvk, hrk⟩ := hW.at hb hkW
        have hvL : L.getD k 0 = bo a pk := by rw [← hvk, hRW, getD_app hkl]
        have hgi := fun d => oll_get (ls := sll W) (i := i) (by omega) d
        have hgk := fun d => oll_get (ls := sll W) (i := k) (by omega) d
        rw [hri] at hgi
        rw [hrk] at hgk
        have hli := thl_le a pi
        have hlk := thl_le a pk
        refine qh (qa (qm (ql (qm ?_))))
        refine hk_draw mixed (by kernel_rfl) fun K hK => runs_eval tab_ok ?_
        simp only [ev0, evA, evB, evP, fl, gp, tab, simprocAttr, reduceCtorEq, reduceIte, hgi, hgk, ll_length]
        refine fin_stop ?_ (runs_call (parted_r a pk pi hb (decide (∀ y, y < a → pk y = true → pi y = true)) decide_eq_true_iff) rfl rfl rfl (by simp only [dstOk, Nat.reduceLT]) (by repeat (first | exact trivial | constructor)) (runs_eval tab_ok ?_))
        · (first | exact trivial | omega | (simp only [In64] at *; omega) | (simp [In64] at *; omega) | (simp_all; done) | skip)
        simp only [ev0, evA, evB, evP, fl, gp, tab, simprocAttr, reduceCtorEq, reduceIte, hgi, hgk, ll_length]
        refine fin_run ?_ (hK _ ?_) <;> clear hK <;> clear K
        · (first | exact trivial | omega | (simp only [In64] at *; omega) | (simp [In64] at *; omega) | (simp_all; done) | skip)
        refine qa ?_
        refine hk_cond rfl (fun hC4 => ?_) (fun hC4 => ?_)
        · (try simp only [nhs] at hC4)
          by_cases hin : bo a (gn a (op m a) e (oru2 pi pk)) ∈ W
          · have hrng := jn_rng (n := a) pi pk
            refine hk_draw2L 13 mixed (by kernel_rfl) fun K hK K2 hK2 => runs2_eval tab_ok ?_
            simp only [List.take_succ_cons, List.take_zero, List.drop_succ_cons, List.drop_zero]
            simp only [evD, ev0, evA, evB, evP, fl, gp, tab, simprocAttr, reduceCtorEq, reduceIte, hgi, hgk, ll_length, il_length]
            refine fin2_stop ?_ (runs2_appendNil tab_ok rfl rfl rfl ⟨rfl, rfl⟩ rfl rfl rfl (by simp only [dstOk, Nat.reduceLT]) (il_all _) ?_ (runs2_eval tab_ok ?_))
            · (first | exact trivial | omega | (simp only [In64] at *; omega) | (simp [In64] at *; omega) | (simp_all; done) | skip)
            · refine ⟨?_, ?_⟩
              · rw [il_length]; show _ * 8 ≤ _; omega
              · rw [il_length]; omega
            simp only [evD, ev0, evA, evB, evP, fl, gp, tab, simprocAttr, reduceCtorEq, reduceIte, hgi, hgk, ll_length, il_length]
            refine fin2_stop ?_ (runs2_callK 4 (span_c h (thl a pi ++ thl a pk) (by rw [List.length_append]; omega) hrng (gn a (op m a) e (oru2 pi pk)) (fun y hy => by rw [gn_iff _ y hy]; exact Gen.congr fun z hz => (tst_app pi pk hz).symm)) rfl rfl (by rw [ol_opl, opl_append, il_append]; exact opl_allP _) (by simp only [callA, List.map_cons, List.map_nil, enA, ev0, evA, evB, evP, fl, gp, tab, simprocAttr, reduceCtorEq, reduceIte, List.drop_zero, il_append, il_take, take_app2, il_length, il_all]; rfl) rfl (by simp only [dstOk, Nat.reduceLT]) (by repeat (first | exact trivial | (simp [il_length, List.length_append]; done) | constructor)) (runs2_eval tab_ok ?_))
            · refine ⟨⟨⟨by omega, by omega⟩, by omega⟩, opl_ok (il_all _), Nat.le_refl _, by omega, by omega⟩
            (try simp only [evD, ev0, evA, evB, evP, fl, gp, tab, simprocAttr, reduceCtorEq, reduceIte, hgi, hgk, ll_length, il_length])
            refine fin2_run ?_ (hK2 _ _ (by first | kernel_rfl | rfl) ?_) <;> clear hK2 <;> clear K2
            · (first | exact trivial | omega | (simp only [In64] at *; omega) | (simp [In64] at *; omega) | (simp_all; done) | skip)
            simp only [List.take_succ_cons, List.take_zero, List.drop_succ_cons, List.drop_zero]
            refine runs_eval tab_ok ?_
            (try simp only [ev0, evA, evB, evP, fl, gp, tab, simprocAttr, reduceCtorEq, reduceIte])
            refine fin_stop ?_ (runs_callMc [1, 2] (add_in (sll W) (thl a (gn a (op m a) e (oru2 pi pk))) (by omega) (hW.rows hn) ((hW.mem hn _).2 hin)) rfl rfl ?_ (by simp only [leA, ev0, evA, evB, evP, fl, gp, tab, simprocAttr, reduceCtorEq, reduceIte]; first | trivial | (simp only [ll_takeL]; first | trivial | (repeat constructor; done)) | (repeat constructor)) (by decide) (by first | rfl | (simp only [List.length_cons, List.length_nil, List.length_append]; decide)) (by first | rfl | (simp only [scM, opl_sc, List.all_cons, List.all_nil, List.length_cons, List.length_nil]; first | rfl | decide) | (simp [scM, scA, sc1, mpKeep, notAnc]; done)) (by simp only [dstOk, Nat.reduceLT]) (runs_eval tab_ok ?_))
            · (first | exact trivial | omega | (simp only [In64] at *; omega) | (simp [In64] at *; omega) | (simp_all; done) | skip)
            · (simp only [argsM, argM1, peekG, peekS, scA, sc1, ren, ren1, List.map_cons, List.map_nil, List.append_nil, List.cons_append, List.nil_append, enA, ev0, evA, evB, evP, fl, gp, tab, simprocAttr, reduceCtorEq, reduceIte]; try trivial)
            simp only [putM, hset, List.range', Blk.ren, ren, ren1, List.map_cons, List.map_nil, List.cons_append, List.nil_append, List.append_nil, List.length_cons, List.length_nil, ev0, evA, evB, evP, fl, gp, tab, simprocAttr, reduceCtorEq, reduceIte]
            refine fin_run ?_ (hK _ ?_) <;> clear hK <;> clear K
            · (first | exact trivial | omega | (simp only [In64] at *; omega) | (simp [In64] at *; omega) | (simp_all; done) | skip)
            refine qd (qa ?_)
            refine hk_region fun K hK => runs_eval tab_ok ?_
            simp only [ev0, evA, evB, evP, fl, gp, tab, simprocAttr, reduceCtorEq, reduceIte]
            refine fin_run ?_ (hK _ ?_) <;> clear hK <;> clear K
            · (first | exact trivial | omega | (simp only [In64] at *; omega) | (simp [In64] at *; omega) | (simp_all; done) | skip)
            refine qa ?_
            refine ⟨(k + 1, W), [0, 1, 2], ⟨show k + 1 ≤ L.length by omega, hiW, hW, ⟨RW, hRW⟩, hJW, fun k' hk' => ?_⟩, show L.length - (k + 1) < L.length - k by omega, ?_⟩
            · by_cases hkk : k' = k
              · rw [hkk]; exact Jn.of hvi hvL hin
              · exact hJk k' (by have : k' < k + 1 := hk'
                                 omega)
            · simp only [leq, leA, ev0, evA, evB, evP, fl, gp, tab, simprocAttr, reduceCtorEq, reduceIte, ll_takeL] <;> first | trivial | omega
          · have hrng := jn_rng (n := a) pi pk
            refine hk_draw2L 13 mixed (by kernel_rfl) fun K hK K2 hK2 => runs2_eval tab_ok ?_
            simp only [List.take_succ_cons, List.take_zero, List.drop_succ_cons, List.drop_zero]
            simp only [evD, ev0, evA, evB, evP, fl, gp, tab, simprocAttr, reduceCtorEq, reduceIte, hgi, hgk, ll_length, il_length]
            refine fin2_stop ?_ (runs2_appendNil tab_ok rfl rfl rfl ⟨rfl, rfl⟩ rfl rfl rfl (by simp only [dstOk, Nat.reduceLT]) (il_all _) ?_ (runs2_eval tab_ok ?_))
            · (first | exact trivial | omega | (simp only [In64] at *; omega) | (simp [In64] at *; omega) | (simp_all; done) | skip)
            · refine ⟨?_, ?_⟩
              · rw [il_length]; show _ * 8 ≤ _; omega
              · rw [il_length]; omega
            simp only [evD, ev0, evA, evB, evP, fl, gp, tab, simprocAttr, reduceCtorEq, reduceIte, hgi, hgk, ll_length, il_length]
            refine fin2_stop ?_ (runs2_callK 4 (span_c h (thl a pi ++ thl a pk) (by rw [List.length_append]; omega) hrng (gn a (op m a) e (oru2 pi pk)) (fun y hy => by rw [gn_iff _ y hy]; exact Gen.congr fun z hz => (tst_app pi pk hz).symm)) rfl rfl (by rw [ol_opl, opl_append, il_append]; exact opl_allP _) (by simp only [callA, List.map_cons, List.map_nil, enA, ev0, evA, evB, evP, fl, gp, tab, simprocAttr, reduceCtorEq, reduceIte, List.drop_zero, il_append, il_take, take_app2, il_length, il_all]; rfl) rfl (by simp only [dstOk, Nat.reduceLT]) (by repeat (first | exact trivial | (simp [il_length, List.length_append]; done) | constructor)) (runs2_eval tab_ok ?_))
            · refine ⟨⟨⟨by omega, by omega⟩, by omega⟩, opl_ok (il_all _), Nat.le_refl _, by omega, by omega⟩
            (try simp only [evD, ev0, evA, evB, evP, fl, gp, tab, simprocAttr, reduceCtorEq, reduceIte, hgi, hgk, ll_length, il_length])
            refine fin2_run ?_ (hK2 _ _ (by first | kernel_rfl | rfl) ?_) <;> clear hK2 <;> clear K2
            · (first | exact trivial | omega | (simp only [In64] at *; omega) | (simp [In64] at *; omega) | (simp_all; done) | skip)
            simp only [List.take_succ_cons, List.take_zero, List.drop_succ_cons, List.drop_zero]
            refine runs_eval tab_ok ?_
            (try simp only [ev0, evA, evB, evP, fl, gp, tab, simprocAttr, reduceCtorEq, reduceIte])
            refine fin_stop ?_ (runs_callMc [1, 2] (add_new (sll W) (thl a (gn a (op m a) e (oru2 pi pk))) (by omega) (hW.rows hn) (fun hh => hin ((hW.mem hn _).1 hh))) rfl rfl ?_ (by simp only [leA, ev0, evA, evB, evP, fl, gp, tab, simprocAttr, reduceCtorEq, reduceIte]; first | trivial | (simp only [ll_takeL]; first | trivial | (repeat constructor; done)) | (repeat constructor)) (by decide) (by first | rfl | (simp only [List.length_cons, List.length_nil, List.length_append]; decide)) (by first | rfl | (simp only [scM, opl_sc, List.all_cons, List.all_nil, List.length_cons, List.length_nil]; first | rfl | decide) | (simp [scM, scA, sc1, mpKeep, notAnc]; done)) (by simp only [dstOk, Nat.reduceLT]) (runs_eval tab_ok ?_))
            · (first | exact trivial | omega | (simp only [In64] at *; omega) | (simp [In64] at *; omega) | (simp_all; done) | skip)
            · (simp only [argsM, argM1, peekG, peekS, scA, sc1, ren, ren1, List.map_cons, List.map_nil, List.append_nil, List.cons_append, List.nil_append, enA, ev0, evA, evB, evP, fl, gp, tab, simprocAttr, reduceCtorEq, reduceIte]; try trivial)
            simp only [putM, hset, List.range', Blk.ren, ren, ren1, List.map_cons, List.map_nil, List.cons_append, List.nil_append, List.append_nil, List.length_cons, List.length_nil, ev0, evA, evB, evP, fl, gp, tab, simprocAttr, reduceCtorEq, reduceIte]
            refine fin_run ?_ (hK _ ?_) <;> clear hK <;> clear K
            · (first | exact trivial | omega | (simp only [In64] at *; omega) | (simp [In64] at *; omega) | (simp_all; done) | skip)
            refine qd (qa ?_)
            refine hk_region fun K hK => runs_eval tab_ok ?_
            simp only [ev0, evA, evB, evP, fl, gp, tab, simprocAttr, reduceCtorEq, reduceIte]
            refine fin_run ?_ (hK _ ?_) <;> clear hK <;> clear K
            · (first | exact trivial | omega | (simp only [In64] at *; omega) | (simp [In64] at *; omega) | (simp_all; done) | skip)
            refine qa ?_
            have hsub : ∀ z ∈ W, z ∈ W ++ [bo a (gn a (op m a) e (oru2 pi pk))] := fun z hz => List.mem_append_left _ hz
            refine ⟨(k + 1, W ++ [bo a (gn a (op m a) e (oru2 pi pk))]), [0, 1, 5], ⟨show k + 1 ≤ L.length by omega, show i < (W ++ [bo a (gn a (op m a) e (oru2 pi pk))]).length by rw [List.length_append]; omega, hW.put (gen_sub G (gn_iff _)) hin, ⟨RW ++ [bo a (gn a (op m a) e (oru2 pi pk))], by rw [show (k + 1, W ++ [bo a (gn a (op m a) e (oru2 pi pk))]).2 = W ++ [bo a (gn a (op m a) e (oru2 pi pk))] from rfl]; conv => { lhs; rw [hRW] }; rw [List.append_assoc]⟩, fun j hj k' hk' => ?_, fun k' hk' => ?_⟩, show L.length - (k + 1) < L.length - k by omega, ?_⟩
            · show Jn a (op m a) e ((W ++ [_]).getD j 0) _ _
              rw [getD_snoc (by omega)]
              exact (hJW j hj k' hk').mono hsub
            · show Jn a (op m a) e ((W ++ [_]).getD i 0) _ _
              rw [getD_snoc hiW]
              by_cases hkk : k' = k
              · rw [hkk]; exact Jn.of hvi hvL (by simp)
              · exact (hJk k' (by have : k' < k + 1 := hk'
                                  omega)).mono hsub
            · rw [show sll (k + 1, W ++ [bo a (gn a (op m a) e (oru2 pi pk))]).2 = sll W ++ [thl a (gn a (op m a) e (oru2 pi pk))] from sll_app W _ hb]
              simp only [leq, leA, ev0, evA, evB, evP, fl, gp, tab, simprocAttr, reduceCtorEq, reduceIte, ll_takeL, ll_snoc, ll_takeS] <;> first | trivial | omega | (simp; done)
        · (try simp only [nhs] at hC4)
          refine qh (qd (qa ?_))
          refine hk_region fun K hK => runs_eval tab_ok ?_
          simp only [ev0, evA, evB, evP, fl, gp, tab, simprocAttr, reduceCtorEq, reduceIte]
          refine fin_run ?_ (hK _ ?_) <;> clear hK <;> clear K
          · (first | exact trivial | omega | (simp only [In64] at *; omega) | (simp [In64] at *; omega) | (simp_all; done) | skip)
          refine qa ?_
          refine ⟨(k + 1, W), [0, 1, 2], ⟨show k + 1 ≤ L.length by omega, hiW, hW, ⟨RW, hRW⟩, hJW, fun k' hk' => ?_⟩, show L.length - (k + 1) < L.length - k by omega, ?_⟩
          · by_cases hkk : k' = k
            · rw [hkk]
              refine Jn.of hvi hvL ?_
              rw [join_in G hpi hC4, ← hvi]
              exact getD_memN hiW
            · exact hJk k' (by have : k' < k + 1 := hk'
                               omega)
          · simp only [leq, leA, ev0, evA, evB, evP, fl, gp, tab, simprocAttr, reduceCtorEq, reduceIte, ll_takeL] <;> first | trivial | omega
      · (try simp only [nhs] at hC3)
        have hkn : k = L.length := by omega
        refine qj (qc (qc (qf (qd (qa ?_)))))
        refine hk_region fun K hK => runs_eval tab_ok ?_
        simp only [ev0, evA, evB, evP, fl, gp, tab, simprocAttr, reduceCtorEq, reduceIte]
        refine fin_run ?_ (hK _ ?_) <;> clear hK <;> clear K
        · (first | exact trivial | omega | (simp only [In64] at *; omega) | (simp [In64] at *; omega) | (simp_all; done) | skip)
        refine qa ?_
        refine ⟨(i + 1, W), [0, 1, 2], ⟨show i + 1 ≤ W.length by omega, hW, ⟨RW, hRW⟩, fun j hj k' hk' => ?_⟩, show 2 ^ a - (i + 1) < 2 ^ a - i by omega, ?_⟩
        · by_cases hji : j = i
          · rw [hji]; exact hJk k' (by omega)
          · exact hJW j (by have : j < i + 1 := hj
                            omega) k' hk'
        · simp only [leq, leA, ev0, evA, evB, evP, fl, gp, tab, simprocAttr, reduceCtorEq, reduceIte, ll_takeL] <;> first | trivial | omega
    · (try simp only [nhs] at hC2)
      have hin : i = M.length := by omega
      have hall : AllI a (op m a) e M := ⟨hM.nodup, hM.subs, by
        rw [← bo_congr (cyg_one G), hR]
        exact List.mem_append_left _ (hD e G.el)⟩
      have hperm := hS.perm G hall fun x hx b hbl => by
        obtain ⟨j, hj, rfl⟩ := mem_getDN hx
        obtain ⟨p, hp, hxp⟩ := hM.subs _ (getD_memN hj)
        obtain ⟨k, hk, hkb⟩ := mem_getDN (hD b hbl)
        exact join_dn G hbl hxp (hJ j (by omega) k hk p _ hxp hkb)
      refine qj (qc (qc (qf (qa (qm (qm ?_))))))
      refine hk_region fun K hK => runs_eval tab_ok ?_
      simp only [ev0, evA, evB, evP, fl, gp, tab, simprocAttr, reduceCtorEq, reduceIte]
      refine fin_run trivial (hK _ ?_) <;> clear hK <;> clear K
      refine qa (ql ?_)
      refine hk_loop (ι := Nat × List Nat) (fun p => ⟨125, [(3, .ptr 0 0), (9, .p (.int .i64 p.1))], [.own [.sl 1 0 (sll p.2).length], .own (opl (ll (sll p.2)))]⟩) (fun p => p.1 ≤ p.2.length ∧ p.2.Perm SL ∧ OrdI p.1 (p.1 + 1) p.2) (fun p => p.2.length - p.1) (0, M) ⟨Nat.zero_le _, hperm, ⟨fun a b h1 => absurd h1 (Nat.not_lt_zero _), fun b h1 h2 => by have : b < 0 + 1 := h2; omega⟩⟩ [1, 2] (by simp only [leq, leA, ev0, evA, evB, evP, fl, gp, tab, simprocAttr, reduceCtorEq, reduceIte, ll_takeL] <;> first | trivial | omega) fun p hp => ?_
      obtain ⟨i2, V⟩ := p
      obtain ⟨hi2, hVp, hVo⟩ := hp
      simp only at hi2 hVp hVo
      have hVl := sll_len V
      have hVs : SgL a (op m a) e V := ⟨hVp.symm.nodup hS.nodup, fun x hx => hS.subs x (hVp.subset hx)⟩
      have hVlen := hVs.len hn
      refine qm (qm ?_)
      refine hk_region fun K hK => runs_eval tab_ok ?_
      simp only [ev0, evA, evB, evP, fl, gp, tab, simprocAttr, reduceCtorEq, reduceIte]
      refine fin_run ?_ (hK _ ?_) <;> clear hK <;> clear K
      · (first | exact trivial | omega | (simp only [In64] at *; omega) | (simp [In64] at *; omega) | (simp_all; done) | skip)
      refine qa ?_
      refine hk_cond rfl (fun hC5 => ?_) (fun hC5 => ?_)
      · (try simp only [nhs] at hC5)
        have hil2 : i2 < V.length := by omega
        refine qh (qa (qm (ql (qm ?_))))
        refine hk_region fun K hK => runs_eval tab_ok ?_
        simp only [ev0, evA, evB, evP, fl, gp, tab, simprocAttr, reduceCtorEq, reduceIte]
        refine fin_run ?_ (hK _ ?_) <;> clear hK <;> clear K
        · (first | exact trivial | omega | (simp only [In64] at *; omega) | (simp [In64] at *; omega) | (simp_all; done) | skip)
        refine qa (ql ?_)
        refine hk_loop (ι := Nat × List Nat) (fun p => ⟨125, [(3, .ptr 0 0), (9, .p (.int .i64 i2)), (10, .p (.int .i64 p.1))], [.own [.sl 1 0 (sll p.2).length], .own (opl (ll (sll p.2)))]⟩) (fun p => i2 < p.1 ∧ p.1 ≤ p.2.length ∧ p.2.length = V.length ∧ p.2.Perm SL ∧ OrdI i2 p.1 p.2) (fun p => p.2.length - p.1) (i2 + 1, V) ⟨Nat.lt_succ_self _, hil2, rfl, hVp, hVo⟩ [0, 1] (by simp only [leq, leA, ev0, evA, evB, evP, fl, gp, tab, simprocAttr, reduceCtorEq, reduceIte, ll_takeL] <;> first | trivial | omega) fun p hp => ?_
        obtain ⟨k2, U⟩ := p
        obtain ⟨hk2, hk3, hUV, hUp, hUo⟩ := hp
        simp only at hk2 hk3 hUV hUp hUo
        have hUl := sll_len U
        have hUs : SgL a (op m a) e U := ⟨hUp.symm.nodup hS.nodup, fun x hx => hS.subs x (hUp.subset hx)⟩
        refine qm (qm ?_)
        refine hk_region fun K hK => runs_eval tab_ok ?_
        simp only [ev0, evA, evB, evP, fl, gp, tab, simprocAttr, reduceCtorEq, reduceIte]
        refine fin_run ?_ (hK _ ?_) <;> clear hK <;> clear K
        · (first | exact trivial | omega | (simp only [In64] at *; omega) | (simp [In64] at *; omega) | (simp_all; done) | skip)
        refine qa ?_
        refine hk_cond rfl (fun hC6 => ?_) (fun hC6 => ?_)
        · (try simp only [nhs] at hC6)
          have hkl2 : k2 < U.length := by omega
          have hiU : i2 < U.length := by omega
          obtain ⟨pi, hpi, hvi, hri⟩ := hUs.at hb hiU
          obtain ⟨pk, hpk, hvk, hrk⟩ := hUs.at hb hkl2
          have hgi := fun d => oll_get (ls := sll U) (i := i2) (by omega) d
          have hgk := fun d => oll_get (ls := sll U) (i := k2) (by omega) d
          rw [hri] at hgi
          rw [hrk] at hgk
          have hli := thl_le a pi
          have hlk := thl_le a pk
          have hlt : lts (U.getD k2 0) (U.getD i2 0) ↔ (thl a pk).length < (thl a pi).length ∨ (thl a pk).length = (thl a pi).length ∧ cmpL (thl a pk) (thl a pi) < 0 := by
            unfold lts
            rw [hvi, hvk, stl_bo hb, stl_bo hb, cmpS_lt]
          refine qh (qa (qm (ql (qm ?_))))
          rcases Nat.lt_trichotomy (thl a pk).length (thl a pi).length with hle | hle | hle
          · refine hk_draw mixed (by kernel_rfl) fun K hK => runs_eval tab_ok ?_
            simp only [ev0, evA, evB, evP, fl, gp, tab, simprocAttr, reduceCtorEq, reduceIte, hgi, hgk, ll_length, il_length, decide_eq_true (show ((thl a pk).length : Int) < ((thl a pi).length : Int) by omega)]
            refine fin_run ?_ (hK _ ?_) <;> clear hK <;> clear K
            · (first | exact trivial | omega | (simp only [In64] at *; omega) | (simp [In64] at *; omega) | (simp_all; done) | skip)
            refine qa ?_
            refine hk_cond rfl (fun hC7 => ?_) (fun hC7 => ?_)
            · refine hk_draw2 mixed fun K hK => runs2_eval tab_ok ?_
              simp only [evD, ev0, evA, evB, evP, fl, gp, tab, simprocAttr, reduceCtorEq, reduceIte, hgi, hgk, ll_length]
              refine fin2_run ?_ (hK _ _ (by first | kernel_rfl | rfl) ?_) <;> clear hK <;> clear K
              · simp only [List.length_set, opl_length, ll_length]; omega
              refine qd (qa ?_)
              refine hk_region fun K hK => runs_eval tab_ok ?_
              simp only [ev0, evA, evB, evP, fl, gp, tab, simprocAttr, reduceCtorEq, reduceIte]
              refine fin_run ?_ (hK _ ?_) <;> clear hK <;> clear K
              · (first | exact trivial | omega | (simp only [In64] at *; omega) | (simp [In64] at *; omega) | (simp_all; done) | skip)
              refine qa ?_
              refine ⟨(k2 + 1, swp U i2 k2), [0, 1], ⟨show i2 < k2 + 1 by omega, show k2 + 1 ≤ (swp U i2 k2).length by rw [swp_len]; omega, (swp_len U i2 k2).trans hUV, (swp_perm hiU hkl2).trans hUp, OrdI.swap hUo hk2 hkl2 (hlt.2 (.inl hle))⟩, show (swp U i2 k2).length - (k2 + 1) < U.length - k2 by rw [swp_len]; omega, ?_⟩
              rw [show sll (k2 + 1, swp U i2 k2).2 = sll (swp U i2 k2) from rfl, ← set_swp (n := a) hb hvi hvk, show (sll U).length = (sll (swp U i2 k2)).length by rw [sll_len, sll_len, swp_len]]
              simp only [leq, leA, ev0, evA, evB, evP, fl, gp, tab, simprocAttr, reduceCtorEq, reduceIte, ll_takeL] <;> first | trivial | omega
            · cases hC7
          · refine hk_draw mixed (by kernel_rfl) fun K hK => runs_eval tab_ok ?_
            simp only [ev0, evA, evB, evP, fl, gp, tab, simprocAttr, reduceCtorEq, reduceIte, hgi, hgk, ll_length, il_length, decide_eq_false (show ¬ ((thl a pk).length : Int) < ((thl a pi).length : Int) by omega), decide_eq_true (show ((thl a pk).length : Int) = ((thl a pi).length : Int) by omega)]
            refine fin_stop ?_ (runs_call (less_r (thl a pk) (thl a pi) (by omega) (by omega)) rfl rfl rfl (by simp only [dstOk, Nat.reduceLT]) (by repeat (first | exact trivial | constructor)) (runs_eval tab_ok ?_))
            · (first | exact trivial | omega | (simp only [In64] at *; omega) | (simp [In64] at *; omega) | (simp_all; done) | skip)
            simp only [ev0, evA, evB, evP, fl, gp, tab, simprocAttr, reduceCtorEq, reduceIte, hgi, hgk, ll_length, il_length, decide_eq_false (show ¬ ((thl a pk).length : Int) < ((thl a pi).length : Int) by omega), decide_eq_true (show ((thl a pk).length : Int) = ((thl a pi).length : Int) by omega)]
            refine fin_run ?_ (hK _ ?_) <;> clear hK <;> clear K
            · (first | exact trivial | omega | (simp only [In64] at *; omega) | (simp [In64] at *; omega) | (simp_all; done) | skip)
            refine qa ?_
            refine hk_cond rfl (fun hC7 => ?_) (fun hC7 => ?_)
            · (try simp only [nhs] at hC7)
              refine hk_draw2 mixed fun K hK => runs2_eval tab_ok ?_
              simp only [evD, ev0, evA, evB, evP, fl, gp, tab, simprocAttr, reduceCtorEq, reduceIte, hgi, hgk, ll_length]
              refine fin2_run ?_ (hK _ _ (by first | kernel_rfl | rfl) ?_) <;> clear hK <;> clear K
              · simp only [List.length_set, opl_length, ll_length]; omega
              refine qd (qa ?_)
              refine hk_region fun K hK => runs_eval tab_ok ?_
              simp only [ev0, evA, evB, evP, fl, gp, tab, simprocAttr, reduceCtorEq, reduceIte]
              refine fin_run ?_ (hK _ ?_) <;> clear hK <;> clear K
              · (first | exact trivial | omega | (simp only [In64] at *; omega) | (simp [In64] at *; omega) | (simp_all; done) | skip)
              refine qa ?_
              refine ⟨(k2 + 1, swp U i2 k2), [0, 1], ⟨show i2 < k2 + 1 by omega, show k2 + 1 ≤ (swp U i2 k2).length by rw [swp_len]; omega, (swp_len U i2 k2).trans hUV, (swp_perm hiU hkl2).trans hUp, OrdI.swap hUo hk2 hkl2 (hlt.2 (.inr ⟨hle, cmp_lsb hle hC7⟩))⟩, show (swp U i2 k2).length - (k2 + 1) < U.length - k2 by rw [swp_len]; omega, ?_⟩
              rw [show sll (k2 + 1, swp U i2 k2).2 = sll (swp U i2 k2) from rfl, ← set_swp (n := a) hb hvi hvk, show (sll U).length = (sll (swp U i2 k2)).length by rw [sll_len, sll_len, swp_len]]
              simp only [leq, leA, ev0, evA, evB, evP, fl, gp, tab, simprocAttr, reduceCtorEq, reduceIte, ll_takeL] <;> first | trivial | omega
            · (try simp only [nhs] at hC7)
              refine qh (qd (qa ?_))
              refine hk_region fun K hK => runs_eval tab_ok ?_
              simp only [ev0, evA, evB, evP, fl, gp, tab, simprocAttr, reduceCtorEq, reduceIte]
              refine fin_run ?_ (hK _ ?_) <;> clear hK <;> clear K
              · (first | exact trivial | omega | (simp only [In64] at *; omega) | (simp [In64] at *; omega) | (simp_all; done) | skip)
              refine qa ?_
              refine ⟨(k2 + 1, U), [0, 1], ⟨show i2 < k2 + 1 by omega, show k2 + 1 ≤ U.length by omega, hUV, hUp, OrdI.skip hUo fun hh => (by
                rcases hlt.1 hh with h1 | ⟨_, h1⟩
                · omega
                · rw [lsb_cmp hle h1] at hC7; cases hC7)⟩, show U.length - (k2 + 1) < U.length - k2 by omega, ?_⟩
              simp only [leq, leA, ev0, evA, evB, evP, fl, gp, tab, simprocAttr, reduceCtorEq, reduceIte, ll_takeL] <;> first | trivial | omega
          · refine hk_draw mixed (by kernel_rfl) fun K hK => runs_eval tab_ok ?_
            simp only [ev0, evA, evB, evP, fl, gp, tab, simprocAttr, reduceCtorEq, reduceIte, hgi, hgk, ll_length, il_length, decide_eq_false (show ¬ ((thl a pk).length : Int) < ((thl a pi).length : Int) by omega), decide_eq_false (show ¬ ((thl a pk).length : Int) = ((thl a pi).length : Int) by omega)]
            refine fin_run ?_ (hK _ ?_) <;> clear hK <;> clear K
            · (first | exact trivial | omega | (simp only [In64] at *; omega) | (simp [In64] at *; omega) | (simp_all; done) | skip)
            refine qa ?_
            refine hk_cond rfl (fun hC7 => ?_) (fun hC7 => ?_)
            · cases hC7
            · refine qh (qd (qa ?_))
              refine hk_region fun K hK => runs_eval tab_ok ?_
              simp only [ev0, evA, evB, evP, fl, gp, tab, simprocAttr, reduceCtorEq, reduceIte]
              refine fin_run ?_ (hK _ ?_) <;> clear hK <;> clear K
              · (first | exact trivial | omega | (simp only [In64] at *; omega) | (simp [In64] at *; omega) | (simp_all; done) | skip)
              refine qa ?_
              refine ⟨(k2 + 1, U), [0, 1], ⟨show i2 < k2 + 1 by omega, show k2 + 1 ≤ U.length by omega, hUV, hUp, OrdI.skip hUo fun hh => (by
                rcases hlt.1 hh with h1 | ⟨h1, _⟩ <;> omega)⟩, show U.length - (k2 + 1) < U.length - k2 by omega, ?_⟩
              simp only [leq, leA, ev0, evA, evB, evP, fl, gp, tab, simprocAttr, reduceCtorEq, reduceIte, ll_takeL] <;> first | trivial | omega
        · (try simp only [nhs] at hC6)
          have hkn2 : k2 = U.length := by omega
          refine qj (qc (qc (qf (qd (qa ?_)))))
          refine hk_region fun K hK => runs_eval tab_ok ?_
          simp only [ev0, evA, evB, evP, fl, gp, tab, simprocAttr, reduceCtorEq, reduceIte]
          refine fin_run ?_ (hK _ ?_) <;> clear hK <;> clear K
          · (first | exact trivial | omega | (simp only [In64] at *; omega) | (simp [In64] at *; omega) | (simp_all; done) | skip)
          refine qa ?_
          refine ⟨(i2 + 1, U), [0, 1], ⟨show i2 + 1 ≤ U.length by omega, hUp, OrdI.next (hkn2 ▸ hUo)⟩, show U.length - (i2 + 1) < V.length - i2 by omega, ?_⟩
          simp only [leq, leA, ev0, evA, evB, evP, fl, gp, tab, simprocAttr, reduceCtorEq, reduceIte, ll_takeL] <;> first | trivial | omega
      · (try simp only [nhs] at hC5)
        have hin2 : i2 = V.length := by omega
        have hVS : V = SL := ord_unique hVp hS.rise (fun x hx => by obtain ⟨p, _, rfl⟩ := hS.subs x hx; exact bo_lt64 hb p) fun c d h1 h2 => hVo.out c d (by omega) h1 h2
        subst hVS
        refine qj (qc (qc (qf (qa (qm ?_)))))
        refine hk_freeze 1 rfl (opl_allP _) ?_
        refine hk_purec 0 0 rfl rfl rfl ⟨by rw [ll_length]; omega, ?_⟩ ?_
        · rw [List.drop_zero, List.take_of_length_le (by rw [ll_length]; omega)]; exact ll_all _
        simp only [hset, List.set, List.drop_zero]
        rw [List.take_of_length_le (by rw [ll_length]; omega)]
        refine hk_region fun K hK => runs_eval tab_ok ?_
        simp only [ev0, evA, evB, evP, fl, gp, tab, simprocAttr, reduceCtorEq, reduceIte]
        refine fin_run ?_ (hK _ ?_) <;> clear hK <;> clear K
        · (first | exact trivial | omega | (simp only [In64] at *; omega) | (simp [In64] at *; omega) | (simp_all; done) | skip)
        refine qa (qk ?_)
        simp only [Tryd.results20, enA, ev0, evA, evB, evP, fl, gp, tab, simprocAttr, reduceCtorEq, reduceIte]
        all_goals ((first | exact rfl | exact ⟨rfl, rfl⟩ | exact ⟨rfl, rfl, rfl⟩ | exact ⟨trivial, rfl⟩ | exact ⟨Nat.le_refl _, rfl⟩ | trivial | (simp; done)))
end
end Go.Proofs.YtjikchbmkodgfaaDoor

/-
  Walks: maps of groups: the fault of a map. Conditions: none.
-/
set_option linter.all false
namespace Go.Proofs.YtjikchbmkodgfaaDoor
open Go.Pv

/-- The fault of two groups. -/
def tg (N : Int) (m : List Int) (N' : Int) (m' : List Int) : Int × Int := if (gf N m).1 = 0 then gf N' m' else gf N m

theorem tg_zero {N N' : Int} {m m' : List Int} (h : (tg N m N' m').1 = 0) : (gf N m).1 = 0 ∧ (gf N' m').1 = 0 := by
  unfold tg at h
  by_cases h1 : (gf N m).1 = 0
  · rw [if_pos h1] at h; exact ⟨h1, h⟩
  · rw [if_neg h1] at h; exact absurd h h1

theorem homBoth_c (N : Int) (m : List Int) (N' : Int) (m' : List Int) (hm : m.length ≤ 1000000000000000) (hm' : m'.length ≤ 1000000000000000) : FnC Tryd.prog 134 [gp N m, gp N' m'] (fl (tg N m N' m')) := by
  refine fnc_of tab_ok Tryd.func134 rfl (by kernel_rfl) (by rw [Tryd.ntmps134]; exact Nat.le_add_left 2 _) ?_; rw [Tryd.ntmps134]
  refine qm ?_
  refine hk_region fun K hK => runs_eval tab_ok ?_
  simp only [ev0, evA, evB, evP, fl, gp, tab, simprocAttr, reduceCtorEq, reduceIte]
  refine fin_run ?_ (hK _ ?_) <;> clear hK <;> clear K
  · (first | exact trivial | omega | (simp only [In64] at *; omega) | (simp [In64] at *; omega) | (simp_all; done) | skip)
  refine qa (qm (qm ?_))
  refine hk_region fun K hK => runs_eval tab_ok ?_
  simp only [ev0, evA, evB, evP, fl, gp, tab, simprocAttr, reduceCtorEq, reduceIte]
  refine fin_stop trivial (runs_call (check_c N m hm) rfl rfl rfl (by simp only [dstOk, Nat.reduceLT]) (by repeat (first | exact trivial | constructor)) (runs_eval tab_ok ?_))
  simp only [ev0, evA, evB, evP, fl, gp, tab, simprocAttr, reduceCtorEq, reduceIte]
  refine fin_run ?_ (hK _ ?_) <;> clear hK <;> clear K
  · (first | exact trivial | omega | (simp only [In64] at *; omega) | (simp [In64] at *; omega) | (simp_all; done) | skip)
  refine qa (qm ?_)
  refine hk_region fun K hK => runs_eval tab_ok ?_
  simp only [ev0, evA, evB, evP, fl, gp, tab, simprocAttr, reduceCtorEq, reduceIte]
  refine fin_run ?_ (hK _ ?_) <;> clear hK <;> clear K
  · (first | exact trivial | omega | (simp only [In64] at *; omega) | (simp [In64] at *; omega) | (simp_all; done) | skip)
  refine qa ?_
  refine hk_cond rfl (fun hC1 => ?_) (fun hC1 => ?_)
  · (try simp only [nhs] at hC1)
    refine qm ?_
    refine hk_region fun K hK => runs_eval tab_ok ?_
    simp only [ev0, evA, evB, evP, fl, gp, tab, simprocAttr, reduceCtorEq, reduceIte]
    refine fin_run ?_ (hK _ ?_) <;> clear hK <;> clear K
    · (first | exact trivial | omega | (simp only [In64] at *; omega) | (simp [In64] at *; omega) | (simp_all; done) | skip)
    refine qa (qk (qb ?_))
    simp only [Tryd.results134, enA, ev0, evA, evB, evP, fl, gp, tab, simprocAttr, reduceCtorEq, reduceIte]
    all_goals (unfold tg; rw [if_neg hC1]; simp)
  · (try simp only [nhs] at hC1)
    refine qh (qa (qm ?_))
    refine hk_region fun K hK => runs_eval tab_ok ?_
    simp only [ev0, evA, evB, evP, fl, gp, tab, simprocAttr, reduceCtorEq, reduceIte]
    refine fin_stop trivial (runs_call (check_c N' m' hm') rfl rfl rfl (by simp only [dstOk, Nat.reduceLT]) (by repeat (first | exact trivial | constructor)) (runs_eval tab_ok ?_))
    simp only [ev0, evA, evB, evP, fl, gp, tab, simprocAttr, reduceCtorEq, reduceIte]
    refine fin_run ?_ (hK _ ?_) <;> clear hK <;> clear K
    · (first | exact trivial | omega | (simp only [In64] at *; omega) | (simp [In64] at *; omega) | (simp_all; done) | skip)
    refine qa (qk ?_)
    simp only [Tryd.results134, enA, ev0, evA, evB, evP, fl, gp, tab, simprocAttr, reduceCtorEq, reduceIte]
    all_goals (unfold tg; rw [if_pos hC1]; simp)

theorem homFlt_c (c a : Int) : FnC Tryd.prog 135 [.int .i64 c, .int .i64 a] (fl (c, a)) := by
  refine fnc_of tab_ok Tryd.func135 rfl (by kernel_rfl) (by rw [Tryd.ntmps135]; exact Nat.le_add_left 2 _) ?_; rw [Tryd.ntmps135]
  refine qm ?_
  refine hk_region fun K hK => runs_eval tab_ok ?_
  simp only [ev0, evA, evB, evP, fl, gp, tab, simprocAttr, reduceCtorEq, reduceIte]
  refine fin_run ?_ (hK _ ?_) <;> clear hK <;> clear K
  · (first | exact trivial | omega | (simp only [In64] at *; omega) | (simp [In64] at *; omega) | (simp_all; done) | skip)
  refine qa (qm ?_)
  refine hk_region fun K hK => runs_eval tab_ok ?_
  simp only [ev0, evA, evB, evP, fl, gp, tab, simprocAttr, reduceCtorEq, reduceIte]
  refine fin_run ?_ (hK _ ?_) <;> clear hK <;> clear K
  · (first | exact trivial | omega | (simp only [In64] at *; omega) | (simp [In64] at *; omega) | (simp_all; done) | skip)
  refine qa (qk ?_)
  simp only [Tryd.results135, enA, ev0, evA, evB, evP, fl, gp, tab, simprocAttr, reduceCtorEq, reduceIte]
  all_goals (rfl)

/-- The value of a map. -/
def hv (l : List Int) (a : Nat) : Nat := (l.getD a 0).toNat
def hgood (m m' l : List Int) (n n' a : Nat) : Prop := ∀ b, b < n → op m' n' (hv l a) (hv l b) = hv l (op m n a b)
instance (m m' l : List Int) (n n' a : Nat) : Decidable (hgood m m' l n n' a) := by unfold hgood; infer_instance
def homf2 (m m' l : List Int) (n n' : Nat) : Int × Int :=
  match fst' (fun a => decide (¬ hgood m m' l n n' a)) n with
  | some a => (7, (a : Int))
  | none => (0, 0)
/-- THE FAULT of a map of groups. -/
def homf (N : Int) (m : List Int) (N' : Int) (m' l : List Int) : Int × Int :=
  if ¬ (tg N m N' m').1 = 0 then tg N m N' m'
  else if ¬ (l.length : Int) = N then (8, 0)
  else match fst' (bad N' l) l.length with
    | some i => (3, (i : Int))
    | none => homf2 m m' l N.toNat N'.toNat

theorem homf_tg {N N' : Int} {m m' l : List Int} (h : ¬ (tg N m N' m').1 = 0) : homf N m N' m' l = tg N m N' m' := by unfold homf; rw [if_pos h]
theorem homf_8 {N N' : Int} {m m' l : List Int} (h : (tg N m N' m').1 = 0) (h2 : ¬ (l.length : Int) = N) : homf N m N' m' l = (8, 0) := by unfold homf; rw [if_neg (by simpa using h), if_pos h2]
theorem homf_3 {N N' : Int} {m m' l : List Int} (h : (tg N m N' m').1 = 0) (h2 : (l.length : Int) = N) {i : Nat} (hi : i < l.length) (hb : bad N' l i = true) (hj : ∀ j, j < i → bad N' l j = false) : homf N m N' m' l = (3, (i : Int)) := by
  unfold homf; rw [if_neg (by simpa using h), if_neg (by simpa using h2), fst_some hi hb hj]
theorem homf_2 {n n' : Nat} {m m' l : List Int} (h : (tg n m n' m').1 = 0) (h2 : (l.length : Int) = n) (hj : ∀ j, j < l.length → bad n' l j = false) : homf n m n' m' l = homf2 m m' l n n' := by
  unfold homf; rw [if_neg (by simpa using h), if_neg (by simpa using h2), fst_none hj]
  rfl
theorem homf2_7 {n n' : Nat} {m m' l : List Int} {a : Nat} (ha : a < n) (hn : ¬ hgood m m' l n n' a) (hj : ∀ j, j < a → hgood m m' l n n' j) : homf2 m m' l n n' = (7, (a : Int)) := by
  have : fst' (fun a => decide (¬ hgood m m' l n n' a)) n = some a := fst_some ha (decide_eq_true hn) fun j h => decide_eq_false fun h' => h' (hj j h)
  unfold homf2; rw [this]
theorem homf2_0 {n n' : Nat} {m m' l : List Int} (hj : ∀ j, j < n → hgood m m' l n n' j) : homf2 m m' l n n' = (0, 0) := by
  have : fst' (fun a => decide (¬ hgood m m' l n n' a)) n = none := fst_none fun j h => decide_eq_false fun h' => h' (hj j h)
  unfold homf2; rw [this]
theorem hv_at {n' : Nat} {l : List Int} {a : Nat} (h : bad n' l a = false) : l.getD a 0 = ((hv l a : Nat) : Int) ∧ hv l a < n' := by
  have := of_decide_eq_false h
  unfold hv
  omega

/-- A map of groups. -/
def Hom (m m' l : List Int) (n n' : Nat) : Prop := l.length = n ∧ (∀ a, a < n → l.getD a 0 = ((hv l a : Nat) : Int) ∧ hv l a < n') ∧ ∀ a, a < n → hgood m m' l n n' a
theorem homf_ok {N N' : Int} {m m' l : List Int} (h : (homf N m N' m' l).1 = 0) : ∃ n e n' e' : Nat, GT N m n e ∧ GT N' m' n' e' ∧ Hom m m' l n n' ∧ homf N m N' m' l = (0, 0) := by
  by_cases h1 : (tg N m N' m').1 = 0
  · obtain ⟨z1, z2⟩ := tg_zero h1
    obtain ⟨n, e, g, _⟩ := gf_ok z1
    obtain ⟨n', e', g', _⟩ := gf_ok z2
    obtain rfl := g.1
    obtain rfl := g'.1
    by_cases h2 : (l.length : Int) = n
    · cases h3 : fst' (bad n' l) l.length with
      | some i =>
        obtain ⟨s1, s2, s3⟩ := fst_spec h3
        rw [homf_3 h1 h2 s1 s2 s3] at h
        simp at h
      | none =>
        have hb := fst_spec0 h3
        rw [homf_2 h1 h2 hb] at h ⊢
        cases h4 : fst' (fun a => decide (¬ hgood m m' l n n' a)) n with
        | some a =>
          unfold homf2 at h
          rw [h4] at h
          simp at h
        | none =>
          have hg : ∀ a, a < n → hgood m m' l n n' a := fun a ha => Classical.not_not.1 (of_decide_eq_false (fst_spec0 h4 a ha))
          exact ⟨n, e, n', e', g, g', ⟨by omega, fun a ha => hv_at (hb a (by omega)), hg⟩, homf2_0 hg⟩
    · rw [homf_8 h1 h2] at h; simp at h
  · rw [homf_tg h1] at h; exact absurd h h1

set_option maxHeartbeats 2000000 in
theorem homCheck_c (N : Int) (m : List Int) (N' : Int) (m' l : List Int) (hm : m.length ≤ 1000000000000000) (hm' : m'.length ≤ 1000000000000000) : FnC Tryd.prog 117 [gp N m, gp N' m', .list (il l)] (fl (homf N m N' m' l)) := by
  refine fnc_of tab_ok Tryd.func117 rfl (by kernel_rfl) (by rw [Tryd.ntmps117]; exact Nat.le_add_left 3 _) ?_; rw [Tryd.ntmps117]
  refine qm ?_
  refine hk_region fun K hK => runs_eval tab_ok ?_
  simp only [ev0, evA, evB, evP, fl, gp, tab, simprocAttr, reduceCtorEq, reduceIte]
  refine fin_run ?_ (hK _ ?_) <;> clear hK <;> clear K
  · (first | exact trivial | omega | (simp only [In64] at *; omega) | (simp [In64] at *; omega) | (simp_all; done) | skip)
  refine qa (qm (qm ?_))
  refine hk_region fun K hK => runs_eval tab_ok ?_
  simp only [ev0, evA, evB, evP, fl, gp, tab, simprocAttr, reduceCtorEq, reduceIte]
  refine fin_stop trivial (runs_call (homBoth_c N m N' m' hm hm') rfl rfl rfl (by simp only [dstOk, Nat.reduceLT]) (by repeat (first | exact trivial | constructor)) (runs_eval tab_ok ?_))
  simp only [ev0, evA, evB, evP, fl, gp, tab, simprocAttr, reduceCtorEq, reduceIte]
  refine fin_run ?_ (hK _ ?_) <;> clear hK <;> clear K
  · (first | exact trivial | omega | (simp only [In64] at *; omega) | (simp [In64] at *; omega) | (simp_all; done) | skip)
  refine qa (qm ?_)
  refine hk_region fun K hK => runs_eval tab_ok ?_
  simp only [ev0, evA, evB, evP, fl, gp, tab, simprocAttr, reduceCtorEq, reduceIte]
  refine fin_run ?_ (hK _ ?_) <;> clear hK <;> clear K
  · (first | exact trivial | omega | (simp only [In64] at *; omega) | (simp [In64] at *; omega) | (simp_all; done) | skip)
  refine qa ?_
  refine hk_cond rfl (fun hC1 => ?_) (fun hC1 => ?_)
  · (try simp only [nhs] at hC1)
    refine qm ?_
    refine hk_region fun K hK => runs_eval tab_ok ?_
    simp only [ev0, evA, evB, evP, fl, gp, tab, simprocAttr, reduceCtorEq, reduceIte]
    refine fin_run ?_ (hK _ ?_) <;> clear hK <;> clear K
    · (first | exact trivial | omega | (simp only [In64] at *; omega) | (simp [In64] at *; omega) | (simp_all; done) | skip)
    refine qa (qk (qb ?_))
    simp only [Tryd.results117, enA, ev0, evA, evB, evP, fl, gp, tab, simprocAttr, reduceCtorEq, reduceIte]
    all_goals (rw [homf_tg hC1]; simp)
  · (try simp only [nhs] at hC1)
    obtain ⟨z1, z2⟩ := tg_zero hC1
    obtain ⟨n, e, g, _⟩ := gf_ok z1
    obtain ⟨n', e', g', _⟩ := gf_ok z2
    obtain rfl := g.1
    obtain rfl := g'.1
    have T := g.2.1
    have T' := g'.2.1
    have hb := T.big
    refine qh (qa (qm (qm ?_)))
    refine hk_region fun K hK => runs_eval tab_ok ?_
    simp only [ev0, evA, evB, evP, fl, gp, tab, simprocAttr, reduceCtorEq, reduceIte]
    refine fin_run ?_ (hK _ ?_) <;> clear hK <;> clear K
    · (first | exact trivial | omega | (simp only [In64] at *; omega) | (simp [In64] at *; omega) | (simp_all; done) | skip)
    refine qa ?_
    refine hk_cond rfl (fun hC2 => ?_) (fun hC2 => ?_)
    · (try simp only [nhs] at hC2)
      refine qm ?_
      refine hk_region fun K hK => runs_eval tab_ok ?_
      simp only [ev0, evA, evB, evP, fl, gp, tab, simprocAttr, reduceCtorEq, reduceIte]
      refine fin_stop trivial (runs_call (homFlt_c 8 0) rfl rfl rfl (by simp only [dstOk, Nat.reduceLT]) (by repeat (first | exact trivial | constructor)) (runs_eval tab_ok ?_))
      simp only [ev0, evA, evB, evP, fl, gp, tab, simprocAttr, reduceCtorEq, reduceIte]
      refine fin_run ?_ (hK _ ?_) <;> clear hK <;> clear K
      · (first | exact trivial | omega | (simp only [In64] at *; omega) | (simp [In64] at *; omega) | (simp_all; done) | skip)
      refine qa (qk (qb ?_))
      simp only [Tryd.results117, enA, ev0, evA, evB, evP, fl, gp, tab, simprocAttr, reduceCtorEq, reduceIte]
      all_goals (rw [homf_8 hC1 hC2]; simp)
    · (try simp only [nhs] at hC2)
      refine qh (qa (qm (qm ?_)))
      refine hk_region fun K hK => runs_eval tab_ok ?_
      simp only [ev0, evA, evB, evP, fl, gp, tab, simprocAttr, reduceCtorEq, reduceIte]
      refine fin_run trivial (hK _ ?_) <;> clear hK <;> clear K
      refine qa (ql ?_)
      refine hk_loop (ι := Nat) (fun i => ⟨76, [(2, .p (.list (il l))), (3, .ptr 0 0), (4, .ptr 1 0), (6, .ptr 2 0), (25, .p (.list (il l))), (26, .p (.int .i64 l.length)), (27, .p (.int .i64 i))], [.own [.p (.int .i64 n), .p (.list (il m))], .own [.p (.int .i64 n'), .p (.list (il m'))], .own [.p (.int .i64 0), .p (.int .i64 0)]]⟩) (fun i => i ≤ l.length ∧ ∀ j, j < i → bad n' l j = false) (fun i => l.length - i) 0 ⟨Nat.zero_le _, fun j hj => by omega⟩ [0, 1, 2] (by simp only [leq, leA, ev0, evA, evB, evP, fl, gp, tab, simprocAttr, reduceCtorEq, reduceIte] <;> trivial) fun i hi => ?_
      obtain ⟨hi1, hi2⟩ := hi
      refine qm ?_
      refine hk_region fun K hK => runs_eval tab_ok ?_
      simp only [ev0, evA, evB, evP, fl, gp, tab, simprocAttr, reduceCtorEq, reduceIte]
      refine fin_run trivial (hK _ ?_) <;> clear hK <;> clear K
      refine qa (qm ?_)
      refine hk_cond rfl (fun hC3 => ?_) (fun hC3 => ?_)
      · (try simp only [nhs] at hC3)
        have hlt : i < l.length := by omega
        refine qh (qa (qm (ql (qm ?_))))
        refine hk_region fun K hK => runs_eval tab_ok ?_
        simp only [ev0, evA, evB, evP, fl, gp, tab, simprocAttr, reduceCtorEq, reduceIte, il_get hlt]
        refine fin_run ?_ (hK _ ?_) <;> clear hK <;> clear K
        · (first | exact trivial | omega | (simp only [In64] at *; omega) | (simp [In64] at *; omega) | (simp_all; done) | skip)
        refine qa (qm ?_)
        by_cases g9a : l.getD i 0 < 0
        · refine hk_region fun K hK => runs_eval tab_ok ?_
          simp only [ev0, evA, evB, evP, fl, gp, tab, simprocAttr, reduceCtorEq, reduceIte, decide_eq_true g9a]
          refine fin_run trivial (hK _ ?_) <;> clear hK <;> clear K
          refine qa ?_
          refine hk_cond rfl (fun hC4 => ?_) (fun hC4 => ?_)
          · refine qm ?_
            refine hk_region fun K hK => runs_eval tab_ok ?_
            simp only [ev0, evA, evB, evP, fl, gp, tab, simprocAttr, reduceCtorEq, reduceIte]
            refine fin_stop trivial (runs_call (homFlt_c 3 i) rfl rfl rfl (by simp only [dstOk, Nat.reduceLT]) (by repeat (first | exact trivial | constructor)) (runs_eval tab_ok ?_))
            simp only [ev0, evA, evB, evP, fl, gp, tab, simprocAttr, reduceCtorEq, reduceIte]
            refine fin_run ?_ (hK _ ?_) <;> clear hK <;> clear K
            · (first | exact trivial | omega | (simp only [In64] at *; omega) | (simp [In64] at *; omega) | (simp_all; done) | skip)
            refine qa (qk (qe (qb (qb (qe (qb ?_))))))
            simp only [Tryd.results117, enA, ev0, evA, evB, evP, fl, gp, tab, simprocAttr, reduceCtorEq, reduceIte]
            all_goals (rw [homf_3 hC1 hC2 hlt (decide_eq_true (.inl g9a)) hi2]; simp)
          · cases hC4
        · refine hk_region fun K hK => runs_eval tab_ok ?_
          simp only [ev0, evA, evB, evP, fl, gp, tab, simprocAttr, reduceCtorEq, reduceIte, decide_eq_false g9a]
          refine fin_run ?_ (hK _ ?_) <;> clear hK <;> clear K
          · (first | exact trivial | omega | (simp only [In64] at *; omega) | (simp [In64] at *; omega) | (simp_all; done) | skip)
          refine qa ?_
          refine hk_cond rfl (fun hC4 => ?_) (fun hC4 => ?_)
          · (try simp only [nhs] at hC4)
            refine qm ?_
            refine hk_region fun K hK => runs_eval tab_ok ?_
            simp only [ev0, evA, evB, evP, fl, gp, tab, simprocAttr, reduceCtorEq, reduceIte]
            refine fin_stop trivial (runs_call (homFlt_c 3 i) rfl rfl rfl (by simp only [dstOk, Nat.reduceLT]) (by repeat (first | exact trivial | constructor)) (runs_eval tab_ok ?_))
            simp only [ev0, evA, evB, evP, fl, gp, tab, simprocAttr, reduceCtorEq, reduceIte]
            refine fin_run ?_ (hK _ ?_) <;> clear hK <;> clear K
            · (first | exact trivial | omega | (simp only [In64] at *; omega) | (simp [In64] at *; omega) | (simp_all; done) | skip)
            refine qa (qk (qe (qb (qb (qe (qb ?_))))))
            simp only [Tryd.results117, enA, ev0, evA, evB, evP, fl, gp, tab, simprocAttr, reduceCtorEq, reduceIte]
            all_goals (rw [homf_3 hC1 hC2 hlt (decide_eq_true (.inr hC4)) hi2]; simp)
          · (try simp only [nhs] at hC4)
            refine qh (qd (qa ?_))
            refine hk_region fun K hK => runs_eval tab_ok ?_
            simp only [ev0, evA, evB, evP, fl, gp, tab, simprocAttr, reduceCtorEq, reduceIte]
            refine fin_run ?_ (hK _ ?_) <;> clear hK <;> clear K
            · (first | exact trivial | omega | (simp only [In64] at *; omega) | (simp [In64] at *; omega) | (simp_all; done) | skip)
            refine qa ?_
            refine ⟨i + 1, [0, 1, 2], ⟨by omega, fun j hj => ?_⟩, by omega, ?_⟩
            · by_cases hj : j = i
              · subst hj; exact decide_eq_false (by omega)
              · exact hi2 j (by omega)
            · simp only [leq, leA, ev0, evA, evB, evP, fl, gp, tab, simprocAttr, reduceCtorEq, reduceIte] <;> omega
      · (try simp only [nhs] at hC3)
        have hall : ∀ j, j < l.length → bad n' l j = false := fun j hj => hi2 j (by omega)
        have hvv : ∀ a, a < n → l.getD a 0 = ((hv l a : Nat) : Int) ∧ hv l a < n' := fun a ha => hv_at (hall a (by omega))
        refine qj (qc (qc (qf (qa (qm (qm ?_))))))
        refine hk_region fun K hK => runs_eval tab_ok ?_
        simp only [ev0, evA, evB, evP, fl, gp, tab, simprocAttr, reduceCtorEq, reduceIte]
        refine fin_run ?_ (hK _ ?_) <;> clear hK <;> clear K
        · (first | exact trivial | omega | (simp only [In64] at *; omega) | (simp [In64] at *; omega) | (simp_all; done) | skip)
        refine qa (ql ?_)
        refine hk_loop (ι := Nat) (fun a => ⟨76, [(2, .p (.list (il l))), (3, .ptr 0 0), (4, .ptr 1 0), (6, .ptr 2 0), (44, .p (.int .i64 n)), (45, .p (.int .i64 a))], [.own [.p (.int .i64 n), .p (.list (il m))], .own [.p (.int .i64 n'), .p (.list (il m'))], .own [.p (.int .i64 0), .p (.int .i64 0)]]⟩) (fun a => a ≤ n ∧ ∀ j, j < a → hgood m m' l n n' j) (fun a => n - a) 0 ⟨Nat.zero_le _, fun j hj => by omega⟩ [0, 1, 2] (by simp only [leq, leA, ev0, evA, evB, evP, fl, gp, tab, simprocAttr, reduceCtorEq, reduceIte] <;> trivial) fun a ha => ?_
        obtain ⟨ha1, ha2⟩ := ha
        refine qm ?_
        refine hk_region fun K hK => runs_eval tab_ok ?_
        simp only [ev0, evA, evB, evP, fl, gp, tab, simprocAttr, reduceCtorEq, reduceIte]
        refine fin_run trivial (hK _ ?_) <;> clear hK <;> clear K
        refine qa (qm ?_)
        refine hk_cond rfl (fun hC5 => ?_) (fun hC5 => ?_)
        · (try simp only [nhs] at hC5)
          have hal : a < n := by omega
          refine qh (qa (qm (ql (qm ?_))))
          refine hk_region fun K hK => runs_eval tab_ok ?_
          simp only [ev0, evA, evB, evP, fl, gp, tab, simprocAttr, reduceCtorEq, reduceIte]
          refine fin_run trivial (hK _ ?_) <;> clear hK <;> clear K
          refine qa (qm ?_)
          refine hk_region fun K hK => runs_eval tab_ok ?_
          simp only [ev0, evA, evB, evP, fl, gp, tab, simprocAttr, reduceCtorEq, reduceIte]
          refine fin_run ?_ (hK _ ?_) <;> clear hK <;> clear K
          · (first | exact trivial | omega | (simp only [In64] at *; omega) | (simp [In64] at *; omega) | (simp_all; done) | skip)
          refine qa (ql ?_)
          refine hk_loop (ι := Nat) (fun b => ⟨76, [(2, .p (.list (il l))), (3, .ptr 0 0), (4, .ptr 1 0), (6, .ptr 2 0), (10, .p (.int .i64 a)), (44, .p (.int .i64 n)), (45, .p (.int .i64 a)), (49, .p (.int .i64 n)), (50, .p (.int .i64 b))], [.own [.p (.int .i64 n), .p (.list (il m))], .own [.p (.int .i64 n'), .p (.list (il m'))], .own [.p (.int .i64 0), .p (.int .i64 0)]]⟩) (fun b => b ≤ n ∧ ∀ j, j < b → op m' n' (hv l a) (hv l j) = hv l (op m n a j)) (fun b => n - b) 0 ⟨Nat.zero_le _, fun j hj => by omega⟩ [0, 1, 2] (by simp only [leq, leA, ev0, evA, evB, evP, fl, gp, tab, simprocAttr, reduceCtorEq, reduceIte] <;> trivial) fun b hb => ?_
          obtain ⟨hb1, hb2⟩ := hb
          refine qm ?_
          refine hk_region fun K hK => runs_eval tab_ok ?_
          simp only [ev0, evA, evB, evP, fl, gp, tab, simprocAttr, reduceCtorEq, reduceIte]
          refine fin_run trivial (hK _ ?_) <;> clear hK <;> clear K
          refine qa (qm ?_)
          refine hk_cond rfl (fun hC6 => ?_) (fun hC6 => ?_)
          · (try simp only [nhs] at hC6)
            have hbl : b < n := by omega
            have hab := T.lt hal hbl
            obtain ⟨ea, la⟩ := hvv a hal
            obtain ⟨eb, lb⟩ := hvv b hbl
            obtain ⟨ec, lc⟩ := hvv _ hab
            refine qh (qa (qm (ql (qm ?_))))
            refine hk_region fun K hK => runs_eval tab_ok ?_
            simp only [ev0, evA, evB, evP, fl, gp, tab, simprocAttr, reduceCtorEq, reduceIte]
            refine fin_run trivial (hK _ ?_) <;> clear hK <;> clear K
            refine qa (qm ?_)
            refine hk_draw mixed (by kernel_rfl) fun K hK => runs_eval tab_ok ?_
            simp only [ev0, evA, evB, evP, fl, gp, tab, simprocAttr, reduceCtorEq, reduceIte, il_get (show a < l.length by omega), il_get (show b < l.length by omega), il_get (show op m n a b < l.length by omega), ea, eb, ec]
            refine fin_stop trivial (runs_call (of_c T hal hbl) rfl rfl rfl (by simp only [dstOk, Nat.reduceLT]) (by repeat (first | exact trivial | constructor)) (runs_eval tab_ok ?_))
            simp only [ev0, evA, evB, evP, fl, gp, tab, simprocAttr, reduceCtorEq, reduceIte, il_get (show a < l.length by omega), il_get (show b < l.length by omega), il_get (show op m n a b < l.length by omega), ea, eb, ec]
            refine fin_stop ?_ (runs_call (of_c T' la lb) rfl rfl rfl (by simp only [dstOk, Nat.reduceLT]) (by repeat (first | exact trivial | constructor)) (runs_eval tab_ok ?_))
            · (first | exact trivial | omega | (simp only [In64] at *; omega) | (simp [In64] at *; omega) | (simp_all; done) | skip)
            simp only [ev0, evA, evB, evP, fl, gp, tab, simprocAttr, reduceCtorEq, reduceIte, il_get (show a < l.length by omega), il_get (show b < l.length by omega), il_get (show op m n a b < l.length by omega), ea, eb, ec]
            refine fin_run ?_ (hK _ ?_) <;> clear hK <;> clear K
            · (first | exact trivial | omega | (simp only [In64] at *; omega) | (simp [In64] at *; omega) | (simp_all; done) | skip)
            refine qa ?_
            refine hk_cond rfl (fun hC7 => ?_) (fun hC7 => ?_)
            · (try simp only [nhs] at hC7)
              refine qm ?_
              refine hk_region fun K hK => runs_eval tab_ok ?_
              simp only [ev0, evA, evB, evP, fl, gp, tab, simprocAttr, reduceCtorEq, reduceIte]
              refine fin_stop trivial (runs_call (homFlt_c 7 a) rfl rfl rfl (by simp only [dstOk, Nat.reduceLT]) (by repeat (first | exact trivial | constructor)) (runs_eval tab_ok ?_))
              simp only [ev0, evA, evB, evP, fl, gp, tab, simprocAttr, reduceCtorEq, reduceIte]
              refine fin_run ?_ (hK _ ?_) <;> clear hK <;> clear K
              · (first | exact trivial | omega | (simp only [In64] at *; omega) | (simp [In64] at *; omega) | (simp_all; done) | skip)
              refine qa (qk (qe (qb (qb (qe (qe (qb (qb (qe (qb ?_))))))))))
              simp only [Tryd.results117, enA, ev0, evA, evB, evP, fl, gp, tab, simprocAttr, reduceCtorEq, reduceIte]
              all_goals (rw [homf_2 hC1 hC2 hall, homf2_7 hal (fun h => hC7 (by rw [h b hbl])) ha2]; simp)
            · (try simp only [nhs] at hC7)
              refine qh (qd (qa ?_))
              refine hk_region fun K hK => runs_eval tab_ok ?_
              simp only [ev0, evA, evB, evP, fl, gp, tab, simprocAttr, reduceCtorEq, reduceIte]
              refine fin_run ?_ (hK _ ?_) <;> clear hK <;> clear K
              · (first | exact trivial | omega | (simp only [In64] at *; omega) | (simp [In64] at *; omega) | (simp_all; done) | skip)
              refine qa ?_
              refine ⟨b + 1, [0, 1, 2], ⟨by omega, fun j hj => ?_⟩, by omega, ?_⟩
              · by_cases hj : j = b
                · subst hj; omega
                · exact hb2 j (by omega)
              · simp only [leq, leA, ev0, evA, evB, evP, fl, gp, tab, simprocAttr, reduceCtorEq, reduceIte] <;> omega
          · (try simp only [nhs] at hC6)
            refine qj (qc (qc (qf (qd (qa ?_)))))
            refine hk_region fun K hK => runs_eval tab_ok ?_
            simp only [ev0, evA, evB, evP, fl, gp, tab, simprocAttr, reduceCtorEq, reduceIte]
            refine fin_run ?_ (hK _ ?_) <;> clear hK <;> clear K
            · (first | exact trivial | omega | (simp only [In64] at *; omega) | (simp [In64] at *; omega) | (simp_all; done) | skip)
            refine qa ?_
            refine ⟨a + 1, [0, 1, 2], ⟨by omega, fun j hj => ?_⟩, by omega, ?_⟩
            · by_cases hj : j = a
              · subst hj; exact fun c' hc' => hb2 c' (by omega)
              · exact ha2 j (by omega)
            · simp only [leq, leA, ev0, evA, evB, evP, fl, gp, tab, simprocAttr, reduceCtorEq, reduceIte] <;> omega
        · (try simp only [nhs] at hC5)
          refine qj (qc (qc (qf (qa (qm ?_)))))
          refine hk_region fun K hK => runs_eval tab_ok ?_
          simp only [ev0, evA, evB, evP, fl, gp, tab, simprocAttr, reduceCtorEq, reduceIte]
          refine fin_run ?_ (hK _ ?_) <;> clear hK <;> clear K
          · (first | exact trivial | omega | (simp only [In64] at *; omega) | (simp [In64] at *; omega) | (simp_all; done) | skip)
          refine qa (qk ?_)
          simp only [Tryd.results117, enA, ev0, evA, evB, evP, fl, gp, tab, simprocAttr, reduceCtorEq, reduceIte]
          all_goals (rw [homf_2 hC1 hC2 hall, homf2_0 (fun j hj => ha2 j (by omega))]; simp)
end Go.Proofs.YtjikchbmkodgfaaDoor

/-
  Walks: lists of lists, one to one, one map then another. Conditions: none.
-/
set_option linter.all false
namespace Go.Proofs.YtjikchbmkodgfaaDoor
open Go.Pv

/-- A list of so many things has each of them. -/
def onto1 (l : List Int) (n : Nat) : Prop := (∀ i, i < n → ((i : Nat) : Int) ∈ l) ∧ l.length = n
instance (l : List Int) (n : Nat) : Decidable (onto1 l n) := by unfold onto1; infer_instance

/-- One map, then another. -/
def cmpl (p q : List Int) : List Int := p.map fun x => q.getD x.toNat 0

end Go.Proofs.YtjikchbmkodgfaaDoor
