
/-
  Plain law: a group on a list of things is a group on numbers; a subgroup's Lagrange. Conditions: none.
-/
import Derived.Test.YtjikchbmkodgfaaDoorG1
set_option linter.all false
namespace Go.Proofs.YtjikchbmkodgfaaDoor
open Go.Pv

/-- A group on a list of things. -/
structure GS (S : List Nat) (f : Nat → Nat → Nat) (e : Nat) : Prop where
  nd : S.Nodup
  cl : ∀ a b, a ∈ S → b ∈ S → f a b ∈ S
  el : e ∈ S
  one_l : ∀ a, a ∈ S → f e a = a
  one_r : ∀ a, a ∈ S → f a e = a
  assoc : ∀ a b c, a ∈ S → b ∈ S → c ∈ S → f (f a b) c = f a (f b c)
  inv : ∀ a, a ∈ S → ∃ b, b ∈ S ∧ f a b = e ∧ f b a = e

/-- The place of a thing. -/
def plc (S : List Nat) (x : Nat) : Nat := (fst' (fun i => decide (S.getD i 0 = x)) S.length).getD 0

theorem plc_spec {S : List Nat} {x : Nat} (hx : x ∈ S) : plc S x < S.length ∧ S.getD (plc S x) 0 = x := by
  unfold plc
  cases h : fst' (fun i => decide (S.getD i 0 = x)) S.length with
  | none =>
    obtain ⟨i, hi, he⟩ := List.getElem_of_mem hx
    have := fst_spec0 h i hi
    simp [List.getD, List.getElem?_eq_getElem hi, he] at this
  | some a =>
    obtain ⟨h1, h2, _⟩ := fst_spec h
    exact ⟨h1, by simpa using h2⟩
theorem at_mem {S : List Nat} {i : Nat} (hi : i < S.length) : S.getD i 0 ∈ S := by
  simp [List.getD, List.getElem?_eq_getElem hi]
theorem at_inj {S : List Nat} (h : S.Nodup) {i j : Nat} (hi : i < S.length) (hj : j < S.length) (he : S.getD i 0 = S.getD j 0) : i = j := by
  simp only [List.getD, List.getElem?_eq_getElem hi, List.getElem?_eq_getElem hj, Option.getD_some] at he
  rcases Nat.lt_trichotomy i j with hl | hl | hl
  · exact absurd he (List.pairwise_iff_getElem.1 h i j hi hj hl)
  · exact hl
  · exact absurd he.symm (List.pairwise_iff_getElem.1 h j i hj hi hl)
theorem plc_at {S : List Nat} (h : S.Nodup) {i : Nat} (hi : i < S.length) : plc S (S.getD i 0) = i :=
  at_inj h (plc_spec (at_mem hi)).1 hi (plc_spec (at_mem hi)).2

def idf (S : List Nat) (f : Nat → Nat → Nat) (i j : Nat) : Nat := plc S (f (S.getD i 0) (S.getD j 0))

section
variable {S : List Nat} {f : Nat → Nat → Nat} {e : Nat}
theorem GS.at_idf (G : GS S f e) {i j : Nat} (hi : i < S.length) (hj : j < S.length) : S.getD (idf S f i j) 0 = f (S.getD i 0) (S.getD j 0) :=
  (plc_spec (G.cl _ _ (at_mem hi) (at_mem hj))).2
theorem GS.idf_lt (G : GS S f e) {i j : Nat} (hi : i < S.length) (hj : j < S.length) : idf S f i j < S.length :=
  (plc_spec (G.cl _ _ (at_mem hi) (at_mem hj))).1
theorem GS.grp (G : GS S f e) : Grp S.length (idf S f) (plc S e) where
  pos := List.length_pos_of_mem G.el
  cl a b ha hb := G.idf_lt ha hb
  el := (plc_spec G.el).1
  one_l a ha := by unfold idf; rw [(plc_spec G.el).2, G.one_l _ (at_mem ha), plc_at G.nd ha]
  one_r a ha := by unfold idf; rw [(plc_spec G.el).2, G.one_r _ (at_mem ha), plc_at G.nd ha]
  assoc a b c ha hb hc := by
    show plc S (f (S.getD (idf S f a b) 0) (S.getD c 0)) = plc S (f (S.getD a 0) (S.getD (idf S f b c) 0))
    rw [G.at_idf ha hb, G.at_idf hb hc, G.assoc _ _ _ (at_mem ha) (at_mem hb) (at_mem hc)]
  inv a ha := by
    obtain ⟨b, hb, h1, h2⟩ := G.inv _ (at_mem ha)
    exact ⟨plc S b, (plc_spec hb).1, by unfold idf; rw [(plc_spec hb).2, h1], by unfold idf; rw [(plc_spec hb).2, h2]⟩
theorem GS.pw_mem (G : GS S f e) {a : Nat} (ha : a ∈ S) : ∀ k, pw f e a k ∈ S
  | 0 => G.el
  | k + 1 => G.cl _ _ (G.pw_mem ha k) ha
theorem GS.at_pw (G : GS S f e) {i : Nat} (hi : i < S.length) : ∀ k, S.getD (pw (idf S f) (plc S e) i k) 0 = pw f e (S.getD i 0) k
  | 0 => (plc_spec G.el).2
  | k + 1 => by
    have hl : pw (idf S f) (plc S e) i k < S.length := G.grp.pw_lt hi k
    show S.getD (idf S f (pw (idf S f) (plc S e) i k) i) 0 = f (pw f e (S.getD i 0) k) (S.getD i 0)
    rw [G.at_idf hl hi, G.at_pw hi k]
theorem GS.pw_iff (G : GS S f e) {i : Nat} (hi : i < S.length) (k : Nat) : pw (idf S f) (plc S e) i k = plc S e ↔ pw f e (S.getD i 0) k = e := by
  constructor
  · intro h
    rw [← G.at_pw hi k, h, (plc_spec G.el).2]
  · intro h
    refine at_inj G.nd (G.grp.pw_lt hi k) (plc_spec G.el).1 ?_
    rw [G.at_pw hi k, h, (plc_spec G.el).2]
/-- As many places as things. -/
theorem range_at (S : List Nat) : (List.range S.length).map (fun i => S.getD i 0) = S := by
  refine List.ext_getElem (by simp) fun i h1 h2 => ?_
  simp [List.getD, List.getElem?_eq_getElem h2]
theorem count_at (S : List Nat) (p : Nat → Bool) : ((List.range S.length).filter (fun i => p (S.getD i 0))).length = (S.filter p).length := by
  have h := congrArg (fun l => (l.filter p).length) (range_at S)
  simp only [List.filter_map, List.length_map] at h
  exact h
end

/-! ### Subgroups of a group -/

section
variable {n : Nat} {f : Nat → Nat → Nat} {e : Nat}

/-- A subgroup, as a test. -/
structure Sub (n : Nat) (f : Nat → Nat → Nat) (e : Nat) (H : Nat → Bool) : Prop where
  one : H e = true
  mul : ∀ a b, a < n → b < n → H a = true → H b = true → H (f a b) = true
  inv : ∀ a, a < n → H a = true → H (iv n f e a) = true

def mem (n : Nat) (H : Nat → Bool) : List Nat := (List.range n).filter H
theorem mem_mem {H : Nat → Bool} {a : Nat} : a ∈ mem n H ↔ a < n ∧ H a = true := by simp [mem]

theorem Sub.gs {H : Nat → Bool} (G : Grp n f e) (h : Sub n f e H) : GS (mem n H) f e where
  nd := List.nodup_range.filter _
  cl a b ha hb := by
    obtain ⟨a1, a2⟩ := mem_mem.1 ha
    obtain ⟨b1, b2⟩ := mem_mem.1 hb
    exact mem_mem.2 ⟨G.cl a b a1 b1, h.mul a b a1 b1 a2 b2⟩
  el := mem_mem.2 ⟨G.el, h.one⟩
  one_l a ha := G.one_l a (mem_mem.1 ha).1
  one_r a ha := G.one_r a (mem_mem.1 ha).1
  assoc a b c ha hb hc := G.assoc a b c (mem_mem.1 ha).1 (mem_mem.1 hb).1 (mem_mem.1 hc).1
  inv a ha := by
    obtain ⟨a1, a2⟩ := mem_mem.1 ha
    exact ⟨iv n f e a, mem_mem.2 ⟨G.iv_lt a1, h.inv a a1 a2⟩, G.mul_iv a1, G.iv_mul a1⟩

/-- LAGRANGE for a subgroup, within a greater one: left cosets are as many things each. -/
theorem Sub.dvd {H K : Nat → Bool} (G : Grp n f e) (h : Sub n f e H) (hK : ∀ a b, a < n → b < n → K a = true → H b = true → K (f a b) = true) : (mem n H).length ∣ (mem n K).length := by
  have key : ∀ a b, a < n → b < n → f (iv n f e b) a = iv n f e (f (iv n f e a) b) := by
    intro a b ha hb
    rw [G.iv_prod (G.iv_lt ha) hb, G.iv_iv ha]
  refine classes (r := fun a b => H (f (iv n f e a) b)) _ _ rfl (List.nodup_range.filter _) ?_ ?_ ?_ ?_
  · intro a ha
    obtain ⟨a1, _⟩ := mem_mem.1 ha
    show H (f (iv n f e a) a) = true
    rw [G.iv_mul a1]; exact h.one
  · intro a ha b hb hab
    obtain ⟨a1, _⟩ := mem_mem.1 ha
    obtain ⟨b1, _⟩ := mem_mem.1 hb
    show H (f (iv n f e b) a) = true
    rw [key a b a1 b1]
    exact h.inv _ (G.cl _ _ (G.iv_lt a1) b1) hab
  · intro a ha b hb c hc hab hbc
    obtain ⟨a1, _⟩ := mem_mem.1 ha
    obtain ⟨b1, _⟩ := mem_mem.1 hb
    obtain ⟨c1, _⟩ := mem_mem.1 hc
    show H (f (iv n f e a) c) = true
    have : f (iv n f e a) c = f (f (iv n f e a) b) (f (iv n f e b) c) := by
      rw [G.assoc _ _ _ (G.iv_lt a1) b1 (G.cl _ _ (G.iv_lt b1) c1), ← G.assoc b _ c b1 (G.iv_lt b1) c1, G.mul_iv b1, G.one_l c c1]
    rw [this]
    exact h.mul _ _ (G.cl _ _ (G.iv_lt a1) b1) (G.cl _ _ (G.iv_lt b1) c1) hab hbc
  · intro a ha
    obtain ⟨a1, a2⟩ := mem_mem.1 ha
    have hlm : ((mem n H).map (fun x => f a x)).length = (mem n H).length := by simp
    rw [← hlm]
    refine same_len ((List.nodup_range.filter _).filter _) (nodup_map (List.nodup_range.filter _) fun x hx y hy he => G.cancel_l a1 (mem_mem.1 hx).1 (mem_mem.1 hy).1 he) fun y => ?_
    constructor
    · intro hy
      obtain ⟨hy1, hy2⟩ := List.mem_filter.1 hy
      have y1 := (mem_mem.1 hy1).1
      refine List.mem_map.2 ⟨f (iv n f e a) y, mem_mem.2 ⟨G.cl _ _ (G.iv_lt a1) y1, hy2⟩, ?_⟩
      show f a (f (iv n f e a) y) = y
      rw [← G.assoc a _ y a1 (G.iv_lt a1) y1, G.mul_iv a1, G.one_l y y1]
    · intro hy
      obtain ⟨x, hx, rfl⟩ := List.mem_map.1 hy
      obtain ⟨x1, x2⟩ := mem_mem.1 hx
      refine List.mem_filter.2 ⟨mem_mem.2 ⟨G.cl a x a1 x1, hK a x a1 x1 a2 x2⟩, ?_⟩
      show H (f (iv n f e a) (f a x)) = true
      rw [← G.assoc _ a x (G.iv_lt a1) a1 x1, G.iv_mul a1, G.one_l x x1]
      exact x2
end
end Go.Proofs.YtjikchbmkodgfaaDoor
