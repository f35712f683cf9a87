
/-
  All subgroups of a group, in their order. Conditions: none.
-/
import Derived.Test.YtjikchbmkodgfaaDoorS16
import Derived.Test.YtjikchbmkodgfaaDoorS9
import Derived.Test.YtjikchbmkodgfaaDoorG26
import Derived.Test.YtjikchbmkodgfaaDoorG20
set_option linter.all false
namespace Go.Proofs.YtjikchbmkodgfaaDoor
open Go.Pv

def wta (p : Nat → Bool) (a x : Nat) : Bool := p x || decide (x = a)
theorem bo_wta {n a : Nat} (p : Nat → Bool) (ha : a < n) : bo n p ||| 2 ^ a = bo n (wta p a) := by
  refine Nat.eq_of_testBit_eq fun i => ?_
  rw [Nat.testBit_or, bo_bit, bo_bit, Nat.testBit_two_pow]
  unfold wta
  by_cases hi : i < n
  · simp [hi, eq_comm]
  · have : ¬ a = i := by omega
    simp [hi, this]
theorem bo_self {n x : Nat} (hx : x < 2 ^ n) : bo n x.testBit = x := by
  refine Nat.eq_of_testBit_eq fun i => ?_
  rw [bo_bit]
  by_cases hi : i < n
  · simp [hi]
  · have := Nat.testBit_lt_two_pow (Nat.lt_of_lt_of_le hx (Nat.pow_le_pow_right (by omega) (Nat.le_of_not_lt hi)))
    simp [hi, this]
theorem onp_gen {n e : Nat} {f : Nat → Nat → Nat} : ∀ a, a < n → (onp e a = true ↔ Gen n f e (Nat.testBit 0) a) := fun a ha => by
  rw [onp_iff]
  constructor
  · rintro rfl; exact .one
  · intro hg
    exact Gen.least (H := fun a => a = e) rfl (fun a b _ _ hb _ => by simp at hb) hg

section
variable {n e : Nat} {f : Nat → Nat → Nat}

/-- With one thing more, what is made is there. -/
def Dn (n : Nat) (f : Nat → Nat → Nat) (e x a : Nat) (L : List Nat) : Prop := ∀ q : Nat → Bool, (∀ y, y < n → (q y = true ↔ Gen n f e (wta x.testBit a) y)) → bo n q ∈ L
theorem Dn.mono {x a : Nat} {L L' : List Nat} (h : Dn n f e x a L) (hs : ∀ y ∈ L, y ∈ L') : Dn n f e x a L' := fun q hq => hs _ (h q hq)

/-- All subgroups; each once. -/
structure AllI (n : Nat) (f : Nat → Nat → Nat) (e : Nat) (L : List Nat) : Prop where
  nodup : L.Nodup
  subs : ∀ x ∈ L, ∃ p, Sub n f e p ∧ x = bo n p
  one : bo n (onp e) ∈ L
theorem AllI.lt {L : List Nat} (h : AllI n f e L) : ∀ x ∈ L, x < 2 ^ n := fun x hx => by
  obtain ⟨p, _, rfl⟩ := h.subs x hx
  exact bo_lt n p
theorem AllI.len {L : List Nat} (h : AllI n f e L) : L.length ≤ 2 ^ n := nodup_lt h.nodup h.lt
theorem AllI.all {L : List Nat} (G : Grp n f e) (h : AllI n f e L) (hd : ∀ x ∈ L, ∀ a, a < n → Dn n f e x a L) : ∀ p, Sub n f e p → bo n p ∈ L := by
  intro q hq
  -- from what is there, inside q, up
  have go : ∀ c (p : Nat → Bool), Sub n f e p → bo n p ∈ L → (∀ y, y < n → p y = true → q y = true) → (mem n q).length - (mem n p).length ≤ c → bo n q ∈ L := by
    intro c
    induction c with
    | zero =>
      intro p hp hL hle hc
      have hall : ∀ y, y < n → q y = p y := by
        refine Classical.byContradiction fun hh => ?_
        have := mem_lt (p := q) (q := p) hle (fun h2 => hh fun y hy => (h2 y hy).symm)
        omega
      rw [bo_congr hall]; exact hL
    | succ c ih =>
      intro p hp hL hle hc
      by_cases hall : ∀ y, y < n → q y = p y
      · rw [bo_congr hall]; exact hL
      · have hex : ∃ a, a < n ∧ q a = true ∧ p a = false := by
          refine Classical.byContradiction fun hh => hall fun y hy => ?_
          cases hpy : p y with
          | true => exact hle y hy hpy
          | false =>
            cases hqy : q y with
            | false => rfl
            | true => exact absurd ⟨y, hy, hqy, hpy⟩ hh
        obtain ⟨a, ha, qa, pa⟩ := hex
        obtain ⟨r, hr⟩ := gen_ex n f e (wta (bo n p).testBit a)
        have hrL := hd _ hL a ha r hr
        have hin : ∀ b, b < n → wta (bo n p).testBit a b = true → q b = true := fun b hb hw => by
          unfold wta at hw
          rw [bo_bit, Bool.or_eq_true, Bool.and_eq_true, decide_eq_true_eq, decide_eq_true_eq] at hw
          rcases hw with hw | hw
          · exact hle b hb hw.2
          · rw [hw]; exact qa
        have hrq : ∀ y, y < n → r y = true → q y = true := fun y hy h1 => ((hr y hy).1 h1).sub G hq hin
        have hpr : ∀ y, y < n → p y = true → r y = true := fun y hy h1 => (hr y hy).2 (Gen.mem G hy (by unfold wta; rw [bo_bit]; simp [hy, h1]))
        have hra : r a = true := (hr a ha).2 (Gen.mem G ha (by unfold wta; simp))
        have hlt := mem_lt (p := r) (q := p) hpr (fun h2 => by have := h2 a ha; rw [pa, hra] at this; cases this)
        exact ih r (gen_sub G hr) hrL hrq (by omega)
  exact go _ (onp e) G.onp_sub h.one (fun y hy h1 => by rw [onp_iff] at h1; rw [h1]; exact hq.one) (Nat.le_refl _)

/-- .. in their order. -/
structure AllS (n : Nat) (f : Nat → Nat → Nat) (e : Nat) (L : List Nat) : Prop where
  subs : ∀ x ∈ L, ∃ p, Sub n f e p ∧ x = bo n p
  all : ∀ p, Sub n f e p → bo n p ∈ L
  rise : L.Pairwise fun x y => cmpS (stl x) (stl y) < 0
theorem AllS.nodup {L : List Nat} (h : AllS n f e L) : L.Nodup := h.rise.imp fun {x y} hxy he => by
  subst he; exact cmpS_self _ hxy
theorem AllS.perm {L M : List Nat} (G : Grp n f e) (h : AllS n f e L) (hi : AllI n f e M) (hd : ∀ x ∈ M, ∀ a, a < n → Dn n f e x a M) : M.Perm L := by
  refine (List.perm_ext_iff_of_nodup hi.nodup h.nodup).2 fun x => ⟨fun hx => ?_, fun hx => ?_⟩
  · obtain ⟨p, hp, rfl⟩ := hi.subs x hx; exact h.all p hp
  · obtain ⟨p, hp, rfl⟩ := h.subs x hx; exact hi.all G hd p hp
theorem stl_inj {x y : Nat} (hx : x < 2 ^ 64) (hy : y < 2 ^ 64) (h : stl x = stl y) : x = y := by
  refine Nat.eq_of_testBit_eq fun i => ?_
  by_cases hi : i < 64
  · exact thl_inj h hi
  · have h1 := Nat.testBit_lt_two_pow (Nat.lt_of_lt_of_le hx (Nat.pow_le_pow_right (by omega) (Nat.le_of_not_lt hi)))
    have h2 := Nat.testBit_lt_two_pow (Nat.lt_of_lt_of_le hy (Nat.pow_le_pow_right (by omega) (Nat.le_of_not_lt hi)))
    rw [h1, h2]
/-- Put into a list that rises. -/
def insS (x : Nat) : List Nat → List Nat
  | [] => [x]
  | y :: r => if cmpS (stl x) (stl y) < 0 then x :: y :: r else y :: insS x r
theorem mem_insS {x z : Nat} : ∀ {L : List Nat}, z ∈ insS x L ↔ z = x ∨ z ∈ L
  | [] => by simp [insS]
  | y :: r => by
    unfold insS
    by_cases h : cmpS (stl x) (stl y) < 0
    · rw [if_pos h]; simp
    · rw [if_neg h, List.mem_cons, mem_insS, List.mem_cons]
      constructor
      · rintro (h | h | h)
        · exact .inr (.inl h)
        · exact .inl h
        · exact .inr (.inr h)
      · rintro (h | h | h)
        · exact .inr (.inl h)
        · exact .inl h
        · exact .inr (.inr h)
theorem rise_insS {x : Nat} : ∀ {L : List Nat}, L.Pairwise (fun x y => cmpS (stl x) (stl y) < 0) → (∀ y ∈ L, stl x ≠ stl y) → (insS x L).Pairwise fun x y => cmpS (stl x) (stl y) < 0
  | [], _, _ => by simp [insS]
  | y :: r, h, hne => by
    obtain ⟨h1, h2⟩ := List.pairwise_cons.1 h
    unfold insS
    by_cases hc : cmpS (stl x) (stl y) < 0
    · rw [if_pos hc]
      refine List.pairwise_cons.2 ⟨fun z hz => ?_, h⟩
      rcases List.mem_cons.1 hz with rfl | hz
      · exact hc
      · exact cmpS_trans _ _ _ hc (h1 z hz)
    · rw [if_neg hc]
      refine List.pairwise_cons.2 ⟨fun z hz => ?_, rise_insS h2 fun z hz => hne z (by simp [hz])⟩
      rcases mem_insS.1 hz with rfl | hz
      · refine Classical.byContradiction fun hh => ?_
        exact hne y (by simp) (cmpS_tot _ _ hc hh)
      · exact h1 z hz
theorem alls_ex (G : Grp n f e) (hn : n ≤ 60) : ∃ L, AllS n f e L := by
  have hd : ∀ M : List Nat, M.Nodup → (∀ x ∈ M, x < 2 ^ n) → ∃ L : List Nat, (∀ x, x ∈ L ↔ x ∈ M) ∧ L.Pairwise fun x y => cmpS (stl x) (stl y) < 0 := by
    intro M
    induction M with
    | nil => exact fun _ _ => ⟨[], by simp, by simp⟩
    | cons x r ih =>
      intro hnd hlt
      obtain ⟨h1, h2⟩ := List.nodup_cons.1 hnd
      obtain ⟨L, l1, l2⟩ := ih h2 fun y hy => hlt y (by simp [hy])
      have hp : 2 ^ n ≤ 2 ^ 64 := Nat.pow_le_pow_right (by omega) (by omega)
      refine ⟨insS x L, fun z => by rw [mem_insS, l1]; simp, rise_insS l2 fun y hy hxy => ?_⟩
      have hyr := (l1 y).1 hy
      have h3 := hlt x (by simp)
      have h4 := hlt y (by simp [hyr])
      have := stl_inj (by omega) (by omega) hxy
      rw [this] at h1; exact h1 hyr
  have hf : ∃ M : List Nat, M.Nodup ∧ ∀ x, x ∈ M ↔ x < 2 ^ n ∧ Sub n f e x.testBit := by
    have : ∀ N, ∃ M : List Nat, M.Nodup ∧ ∀ x, x ∈ M ↔ x < N ∧ Sub n f e x.testBit := by
      intro N
      induction N with
      | zero => exact ⟨[], List.nodup_nil, by simp⟩
      | succ N ih =>
        obtain ⟨M, m1, m2⟩ := ih
        by_cases hN : Sub n f e N.testBit
        · refine ⟨N :: M, List.nodup_cons.2 ⟨fun h => by have := ((m2 N).1 h).1; omega, m1⟩, fun x => ?_⟩
          rw [List.mem_cons, m2]
          constructor
          · rintro (rfl | h)
            · exact ⟨by omega, hN⟩
            · exact ⟨by omega, h.2⟩
          · rintro ⟨h1, h2⟩
            by_cases hx : x = N
            · exact .inl hx
            · exact .inr ⟨by omega, h2⟩
        · refine ⟨M, m1, fun x => ?_⟩
          rw [m2]
          constructor
          · exact fun h => ⟨by omega, h.2⟩
          · rintro ⟨h1, h2⟩
            refine ⟨?_, h2⟩
            by_cases hx : x = N
            · rw [hx] at h2; exact absurd h2 hN
            · omega
    exact this _
  obtain ⟨M, m1, m2⟩ := hf
  obtain ⟨L, l1, l2⟩ := hd M m1 fun x hx => ((m2 x).1 hx).1
  refine ⟨L, fun x hx => ?_, fun p hp => ?_, l2⟩
  · obtain ⟨h1, h2⟩ := (m2 x).1 ((l1 x).1 hx)
    exact ⟨x.testBit, h2, (bo_self h1).symm⟩
  · refine (l1 _).2 ((m2 _).2 ⟨bo_lt n p, ?_⟩)
    have : ∀ a, a < n → (bo n p).testBit a = p a := fun a ha => by rw [bo_bit]; simp [ha]
    refine sub_of G (by rw [this e G.el]; exact hp.one) fun a b ha hb h1 h2 => ?_
    rw [this a ha] at h1
    rw [this b hb] at h2
    rw [this _ (G.cl a b ha hb)]
    exact hp.mul a b ha hb h1 h2
end
end Go.Proofs.YtjikchbmkodgfaaDoor
