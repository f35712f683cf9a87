
/-
  Groups as tables: plain laws, with no program in sight. Conditions: none.
-/
import Derived.Test.YtjikchbmkodgfaaDoorPvZ
set_option linter.all false
namespace Go.Proofs.YtjikchbmkodgfaaDoor
open Go.Pv

/-! ### The first number of which something holds -/

def fst' (p : Nat → Bool) (n : Nat) : Option Nat := (List.range n).find? p

theorem fst_some {p : Nat → Bool} {n a : Nat} (ha : a < n) (hp : p a = true) (hj : ∀ j, j < a → p j = false) : fst' p n = some a := by
  unfold fst'
  rw [List.find?_range_eq_some]
  exact ⟨hp, by simp [ha], fun j hj' => by simp [hj j hj']⟩
theorem fst_none {p : Nat → Bool} {n : Nat} (hj : ∀ j, j < n → p j = false) : fst' p n = none := by
  unfold fst'
  rw [List.find?_eq_none]
  intro x hx
  simp [hj x (by simpa using hx)]
theorem fst_spec {p : Nat → Bool} {n a : Nat} (h : fst' p n = some a) : a < n ∧ p a = true ∧ ∀ j, j < a → p j = false := by
  unfold fst' at h
  rw [List.find?_range_eq_some] at h
  exact ⟨by simpa using h.2.1, h.1, fun j hj => by simpa using h.2.2 j hj⟩
theorem fst_spec0 {p : Nat → Bool} {n : Nat} (h : fst' p n = none) : ∀ j, j < n → p j = false := by
  unfold fst' at h
  rw [List.find?_eq_none] at h
  intro j hj
  simpa using h j (by simpa using hj)

/-! ### Counting -/

theorem nodup_lt {l : List Nat} {n : Nat} (h : l.Nodup) (hl : ∀ x ∈ l, x < n) : l.length ≤ n := by
  have := List.Nodup.length_le_of_subset h (l₂ := List.range n) fun x hx => by simpa using hl x hx
  simpa using this

theorem nodup_map {α β : Type} {f : α → β} {l : List α} (h : l.Nodup) (hf : ∀ x ∈ l, ∀ y ∈ l, f x = f y → x = y) : (l.map f).Nodup := by
  induction l with
  | nil => simp
  | cons a r ih =>
    rw [List.nodup_cons] at h
    rw [List.map_cons, List.nodup_cons]
    refine ⟨fun hm => ?_, ih h.2 fun x hx y hy => hf x (by simp [hx]) y (by simp [hy])⟩
    obtain ⟨y, hy, e⟩ := List.mem_map.1 hm
    have := hf y (by simp [hy]) a (by simp) e
    subst this
    exact h.1 hy

theorem same_len {α : Type} {l1 l2 : List α} (h1 : l1.Nodup) (h2 : l2.Nodup) (h : ∀ x, x ∈ l1 ↔ x ∈ l2) : l1.length = l2.length :=
  ((List.perm_ext_iff_of_nodup h1 h2).2 h).length_eq

/-- One to one among so many numbers: onto. -/
theorem inj_onto {n : Nat} {f : Nat → Nat} (hf : ∀ i, i < n → f i < n) (hi : ∀ i j, i < n → j < n → f i = f j → i = j) {y : Nat} (hy : y < n) : ∃ x, x < n ∧ f x = y := by
  by_cases h : ∃ x, x < n ∧ f x = y
  · exact h
  · exfalso
    have h1 : ((List.range n).map f).Nodup := nodup_map List.nodup_range fun x hx z hz => hi x z (by simpa using hx) (by simpa using hz)
    have h2 : (y :: (List.range n).map f).Nodup := by
      rw [List.nodup_cons]
      refine ⟨fun hm => ?_, h1⟩
      obtain ⟨x, hx, e⟩ := List.mem_map.1 hm
      exact h ⟨x, by simpa using hx, e⟩
    have := nodup_lt (n := n) h2 fun x hx => by
      rcases List.mem_cons.1 hx with rfl | hx
      · exact hy
      · obtain ⟨z, hz, rfl⟩ := List.mem_map.1 hx
        exact hf z (by simpa using hz)
    simp at this
    omega

/-- Among more than n numbers below n two are the same. -/
theorem pigeon {n : Nat} {f : Nat → Nat} (hf : ∀ i, i ≤ n → f i < n) : ∃ i j, i < j ∧ j ≤ n ∧ f i = f j := by
  by_cases h : ∃ i j, i < j ∧ j ≤ n ∧ f i = f j
  · exact h
  · exfalso
    have h1 : ((List.range (n + 1)).map f).Nodup := nodup_map List.nodup_range fun x hx z hz e => by
      have hx : x < n + 1 := by simpa using hx
      have hz : z < n + 1 := by simpa using hz
      rcases Nat.lt_trichotomy x z with hlt | he | hlt
      · exact absurd ⟨x, z, hlt, by omega, e⟩ h
      · exact he
      · exact absurd ⟨z, x, hlt, by omega, e.symm⟩ h
    have := nodup_lt (n := n) h1 fun x hx => by
      obtain ⟨z, hz, rfl⟩ := List.mem_map.1 hx
      exact hf z (by have : z < n + 1 := by simpa using hz
                     omega)
    simp at this
    omega

/-- CLASSES of one size: it divides the whole. -/
theorem classes {α : Type} {k : Nat} {r : α → α → Bool} : ∀ (n : Nat) (l : List α), l.length = n → l.Nodup → (∀ x ∈ l, r x x = true) → (∀ x ∈ l, ∀ y ∈ l, r x y = true → r y x = true) →
    (∀ x ∈ l, ∀ y ∈ l, ∀ z ∈ l, r x y = true → r y z = true → r x z = true) → (∀ x ∈ l, (l.filter (r x)).length = k) → k ∣ l.length := by
  intro n
  induction n using Nat.strongRecOn with
  | _ n ih =>
    intro l hn hnd hr hs ht hk
    cases l with
    | nil => exact ⟨0, rfl⟩
    | cons a t =>
      have hsplit : (a :: t).length = ((a :: t).filter (r a)).length + ((a :: t).filter (fun x => !r a x)).length := by
        have := List.length_eq_countP_add_countP (r a) (l := a :: t)
        simp only [List.countP_eq_length_filter] at this
        rw [this]
        congr 3
        funext x
        cases r a x <;> simp
      have hka := hk a (by simp)
      have hmem : ∀ x, x ∈ (a :: t).filter (fun x => !r a x) ↔ x ∈ a :: t ∧ r a x = false := by
        intro x; rw [List.mem_filter]; simp
      have hpos : 0 < ((a :: t).filter (r a)).length := by
        apply List.length_pos_of_mem (a := a)
        rw [List.mem_filter]
        exact ⟨by simp, hr a (by simp)⟩
      have hrec := ih ((a :: t).filter (fun x => !r a x)).length (by omega) _ rfl (hnd.filter _) (fun x hx => hr x ((hmem x).1 hx).1)
        (fun x hx y hy => hs x ((hmem x).1 hx).1 y ((hmem y).1 hy).1)
        (fun x hx y hy z hz => ht x ((hmem x).1 hx).1 y ((hmem y).1 hy).1 z ((hmem z).1 hz).1)
        (fun x hx => by
          obtain ⟨hx1, hx2⟩ := (hmem x).1 hx
          rw [← hk x hx1, List.filter_filter]
          congr 1
          apply List.filter_congr
          intro y hy
          cases hxy : r x y
          · simp
          · have : r a y = false := by
              cases hay : r a y
              · rfl
              · have h1 := hs x hx1 y hy hxy
                have := ht a (by simp) y hy x hx1 hay h1
                rw [hx2] at this; cases this
            simp [this])
      rw [hsplit, hka]
      exact Nat.dvd_add (Nat.dvd_refl k) hrec

/-! ### Groups -/

structure Grp (n : Nat) (f : Nat → Nat → Nat) (e : Nat) : Prop where
  pos : 0 < n
  cl : ∀ a b, a < n → b < n → f a b < n
  el : e < n
  one_l : ∀ a, a < n → f e a = a
  one_r : ∀ a, a < n → f a e = a
  assoc : ∀ a b c, a < n → b < n → c < n → f (f a b) c = f a (f b c)
  inv : ∀ a, a < n → ∃ b, b < n ∧ f a b = e ∧ f b a = e

/-- The inverse. -/
def iv (n : Nat) (f : Nat → Nat → Nat) (e a : Nat) : Nat := (fst' (fun b => decide (f a b = e)) n).getD 0

def pw (f : Nat → Nat → Nat) (e a : Nat) : Nat → Nat
  | 0 => e
  | k + 1 => f (pw f e a k) a

def ord (n : Nat) (f : Nat → Nat → Nat) (e a : Nat) : Nat := (fst' (fun k => decide (1 ≤ k ∧ pw f e a k = e)) (n + 1)).getD 0

section
variable {n : Nat} {f : Nat → Nat → Nat} {e : Nat}

theorem Grp.cancel_l (G : Grp n f e) {a b c : Nat} (ha : a < n) (hb : b < n) (hc : c < n) (h : f a b = f a c) : b = c := by
  obtain ⟨i, hi, _, h2⟩ := G.inv a ha
  have h1 : f i (f a b) = f i (f a c) := by rw [h]
  rwa [← G.assoc i a b hi ha hb, ← G.assoc i a c hi ha hc, h2, G.one_l b hb, G.one_l c hc] at h1
theorem Grp.cancel_r (G : Grp n f e) {a b c : Nat} (ha : a < n) (hb : b < n) (hc : c < n) (h : f b a = f c a) : b = c := by
  obtain ⟨i, hi, h2, _⟩ := G.inv a ha
  have h1 : f (f b a) i = f (f c a) i := by rw [h]
  rwa [G.assoc b a i hb ha hi, G.assoc c a i hc ha hi, h2, G.one_r b hb, G.one_r c hc] at h1

theorem Grp.iv_spec (G : Grp n f e) {a : Nat} (ha : a < n) : iv n f e a < n ∧ f a (iv n f e a) = e ∧ f (iv n f e a) a = e ∧ ∀ b, b < n → (f a b = e ∨ f b a = e) → b = iv n f e a := by
  obtain ⟨b, hb, h1, h2⟩ := G.inv a ha
  have hu : ∀ c, c < n → (f a c = e ∨ f c a = e) → c = b := by
    intro c hc h
    rcases h with h | h
    · exact G.cancel_l ha hc hb (by rw [h, h1])
    · exact G.cancel_r ha hc hb (by rw [h, h2])
  have hfs : fst' (fun b => decide (f a b = e)) n = some b := fst_some hb (by simp [h1]) fun j hj => by
    by_cases hj2 : f a j = e
    · have := hu j (by omega) (.inl hj2); omega
    · simp [hj2]
  have : iv n f e a = b := by unfold iv; rw [hfs]; rfl
  rw [this]
  exact ⟨hb, h1, h2, hu⟩
theorem Grp.iv_lt (G : Grp n f e) {a : Nat} (ha : a < n) : iv n f e a < n := (G.iv_spec ha).1
theorem Grp.mul_iv (G : Grp n f e) {a : Nat} (ha : a < n) : f a (iv n f e a) = e := (G.iv_spec ha).2.1
theorem Grp.iv_mul (G : Grp n f e) {a : Nat} (ha : a < n) : f (iv n f e a) a = e := (G.iv_spec ha).2.2.1
theorem Grp.iv_unique (G : Grp n f e) {a b : Nat} (ha : a < n) (hb : b < n) (h : f a b = e ∨ f b a = e) : b = iv n f e a := (G.iv_spec ha).2.2.2 b hb h
theorem Grp.iv_iv (G : Grp n f e) {a : Nat} (ha : a < n) : iv n f e (iv n f e a) = a := (G.iv_unique (G.iv_lt ha) ha (.inl (G.iv_mul ha))).symm
theorem Grp.iv_prod (G : Grp n f e) {a b : Nat} (ha : a < n) (hb : b < n) : iv n f e (f a b) = f (iv n f e b) (iv n f e a) := by
  have h1 := G.iv_lt ha
  have h2 := G.iv_lt hb
  refine (G.iv_unique (G.cl a b ha hb) (G.cl _ _ h2 h1) (.inl ?_)).symm
  rw [G.assoc a b _ ha hb (G.cl _ _ h2 h1), ← G.assoc b _ _ hb h2 h1, G.mul_iv hb, G.one_l _ h1, G.mul_iv ha]
theorem Grp.iv_one (G : Grp n f e) : iv n f e e = e := (G.iv_unique G.el G.el (.inl (G.one_l e G.el))).symm

/-- Whose square is itself is the one. -/
theorem Grp.idem (G : Grp n f e) {a : Nat} (ha : a < n) : f a a = a ↔ a = e :=
  ⟨fun h => G.cancel_l ha ha G.el (by rw [h, G.one_r a ha]), fun h => by subst h; exact G.one_l _ ha⟩

theorem Grp.pw_lt (G : Grp n f e) {a : Nat} (ha : a < n) : ∀ k, pw f e a k < n
  | 0 => G.el
  | k + 1 => G.cl _ _ (G.pw_lt ha k) ha
theorem Grp.pw_one (G : Grp n f e) {a : Nat} (ha : a < n) : pw f e a 1 = a := G.one_l a ha
theorem Grp.pw_add (G : Grp n f e) {a : Nat} (ha : a < n) (i : Nat) : ∀ j, pw f e a (i + j) = f (pw f e a i) (pw f e a j)
  | 0 => by rw [Nat.add_zero]; exact (G.one_r _ (G.pw_lt ha i)).symm
  | j + 1 => by
    rw [← Nat.add_assoc]
    show f (pw f e a (i + j)) a = f (pw f e a i) (f (pw f e a j) a)
    rw [G.pw_add ha i j, G.assoc _ _ _ (G.pw_lt ha i) (G.pw_lt ha j) ha]
theorem Grp.pw_mul (G : Grp n f e) {a : Nat} (ha : a < n) (i : Nat) : ∀ j, pw f e a (i * j) = pw f e (pw f e a i) j
  | 0 => rfl
  | j + 1 => by rw [Nat.mul_succ, G.pw_add ha, G.pw_mul ha i j]; rfl
theorem Grp.pw_e (G : Grp n f e) : ∀ k, pw f e e k = e
  | 0 => rfl
  | k + 1 => by show f (pw f e e k) e = e; rw [G.pw_e k, G.one_l e G.el]
theorem Grp.pw_succ' (G : Grp n f e) {a : Nat} (ha : a < n) (k : Nat) : pw f e a (k + 1) = f a (pw f e a k) := by
  rw [Nat.add_comm, G.pw_add ha, G.pw_one ha]
theorem Grp.pw_comm (G : Grp n f e) {a : Nat} (ha : a < n) (i j : Nat) : f (pw f e a i) (pw f e a j) = f (pw f e a j) (pw f e a i) := by
  rw [← G.pw_add ha, ← G.pw_add ha, Nat.add_comm]

theorem Grp.ord_spec (G : Grp n f e) {a : Nat} (ha : a < n) : 1 ≤ ord n f e a ∧ ord n f e a ≤ n ∧ pw f e a (ord n f e a) = e ∧ ∀ k, 1 ≤ k → k < ord n f e a → pw f e a k ≠ e := by
  cases h : fst' (fun k => decide (1 ≤ k ∧ pw f e a k = e)) (n + 1) with
  | none =>
    exfalso
    obtain ⟨i, j, hij, hj, he⟩ := pigeon (n := n) (f := pw f e a) fun i _ => G.pw_lt ha i
    have := fst_spec0 h (j - i) (by omega)
    have h2 : pw f e a (j - i) = e := by
      have h3 := G.pw_add ha i (j - i)
      rw [show i + (j - i) = j by omega, ← he] at h3
      exact (G.cancel_l (G.pw_lt ha i) G.el (G.pw_lt ha _) (by rw [← h3, G.one_r _ (G.pw_lt ha i)])).symm
    simp [h2] at this
    omega
  | some k =>
    have e1 : ord n f e a = k := by unfold ord; rw [h]; rfl
    obtain ⟨h1, h2, h3⟩ := fst_spec h
    rw [e1]
    have h2 := of_decide_eq_true h2
    refine ⟨h2.1, by omega, h2.2, fun j hj hjk hje => ?_⟩
    have := of_decide_eq_false (h3 j hjk)
    exact this ⟨hj, hje⟩
theorem Grp.ord_pos (G : Grp n f e) {a : Nat} (ha : a < n) : 1 ≤ ord n f e a := (G.ord_spec ha).1
theorem Grp.pw_ord (G : Grp n f e) {a : Nat} (ha : a < n) : pw f e a (ord n f e a) = e := (G.ord_spec ha).2.2.1
theorem Grp.pw_mod (G : Grp n f e) {a : Nat} (ha : a < n) (k : Nat) : pw f e a (k % ord n f e a) = pw f e a k := by
  conv => rhs; rw [← Nat.div_add_mod k (ord n f e a)]
  rw [G.pw_add ha, G.pw_mul ha, G.pw_ord ha, G.pw_e, G.one_l _ (G.pw_lt ha _)]
theorem Grp.pw_eq_one (G : Grp n f e) {a : Nat} (ha : a < n) (k : Nat) : pw f e a k = e ↔ ord n f e a ∣ k := by
  constructor
  · intro h
    rw [← G.pw_mod ha] at h
    have := (G.ord_spec ha).2.2.2 (k % ord n f e a)
    have h1 := Nat.mod_lt k (G.ord_pos ha)
    apply Nat.dvd_of_mod_eq_zero
    rcases Nat.eq_zero_or_pos (k % ord n f e a) with h0 | h0
    · exact h0
    · exact absurd h (this h0 h1)
  · rintro ⟨m, rfl⟩
    rw [G.pw_mul ha, G.pw_ord ha, G.pw_e]
theorem Grp.ord_eq (G : Grp n f e) {a k : Nat} (ha : a < n) (h : ∀ j, pw f e a j = e ↔ k ∣ j) : ord n f e a = k :=
  Nat.dvd_antisymm ((G.pw_eq_one ha k).1 ((h k).2 (Nat.dvd_refl k))) ((h _).1 (G.pw_ord ha))
theorem Grp.pw_inj (G : Grp n f e) {a : Nat} (ha : a < n) {i j : Nat} (hi : i < ord n f e a) (hj : j < ord n f e a) (h : pw f e a i = pw f e a j) : i = j := by
  have key : ∀ i j, i ≤ j → j < ord n f e a → pw f e a i = pw f e a j → i = j := by
    intro i j hij hj h
    have h3 := G.pw_add ha i (j - i)
    rw [show i + (j - i) = j by omega, ← h] at h3
    have h4 : pw f e a (j - i) = e := (G.cancel_l (G.pw_lt ha i) G.el (G.pw_lt ha _) (by rw [← h3, G.one_r _ (G.pw_lt ha i)])).symm
    rw [G.pw_eq_one ha] at h4
    by_cases h0 : j - i = 0
    · omega
    · have := Nat.le_of_dvd (by omega) h4; omega
  rcases Nat.le_total i j with h1 | h1
  · exact key i j h1 hj h
  · exact (key j i h1 hi h.symm).symm

/-- LAGRANGE: a thing's order divides how many there are. -/
theorem Grp.ord_dvd (G : Grp n f e) {a : Nat} (ha : a < n) : ord n f e a ∣ n := by
  have hr : ∀ x y, decide (∃ k, k < ord n f e a ∧ y = f x (pw f e a k)) = true ↔ ∃ k, k < ord n f e a ∧ y = f x (pw f e a k) := fun x y => by simp
  have o1 := G.ord_pos ha
  have := classes (k := ord n f e a) (r := fun x y => decide (∃ k, k < ord n f e a ∧ y = f x (pw f e a k))) n (List.range n) (by simp) List.nodup_range
    (fun x hx => (hr x x).2 ⟨0, o1, (G.one_r x (by simpa using hx)).symm⟩)
    (fun x hx y hy h => by
      have hx : x < n := by simpa using hx
      obtain ⟨k, hk, e1⟩ := (hr x y).1 h
      refine (hr y x).2 ⟨(ord n f e a - k) % ord n f e a, Nat.mod_lt _ o1, ?_⟩
      rw [G.pw_mod ha, e1, G.assoc _ _ _ hx (G.pw_lt ha _) (G.pw_lt ha _), ← G.pw_add ha, show k + (ord n f e a - k) = ord n f e a by omega, G.pw_ord ha, G.one_r x hx])
    (fun x hx y hy z hz h1 h2 => by
      have hx : x < n := by simpa using hx
      obtain ⟨k, hk, e1⟩ := (hr x y).1 h1
      obtain ⟨l, hl, e2⟩ := (hr y z).1 h2
      refine (hr x z).2 ⟨(k + l) % ord n f e a, Nat.mod_lt _ o1, ?_⟩
      rw [G.pw_mod ha, e2, e1, G.pw_add ha, G.assoc _ _ _ hx (G.pw_lt ha _) (G.pw_lt ha _)])
    (fun x hx => by
      have hx : x < n := by simpa using hx
      have h1 : ((List.range (ord n f e a)).map fun k => f x (pw f e a k)).Nodup := nodup_map List.nodup_range fun i hi j hj h =>
        G.pw_inj ha (by simpa using hi) (by simpa using hj) (G.cancel_l hx (G.pw_lt ha _) (G.pw_lt ha _) h)
      have := same_len (List.nodup_range.filter _) h1 (l1 := (List.range n).filter (fun y => decide (∃ k, k < ord n f e a ∧ y = f x (pw f e a k)))) fun y => by
        rw [List.mem_filter, hr, List.mem_map]
        constructor
        · rintro ⟨_, k, hk, rfl⟩
          exact ⟨k, by simpa using hk, rfl⟩
        · rintro ⟨k, hk, rfl⟩
          exact ⟨by simpa using G.cl _ _ hx (G.pw_lt ha k), k, by simpa using hk, rfl⟩
      simpa using this)
  simpa using this
theorem Grp.pw_n (G : Grp n f e) {a : Nat} (ha : a < n) : pw f e a n = e := (G.pw_eq_one ha n).2 (G.ord_dvd ha)

end

end Go.Proofs.YtjikchbmkodgfaaDoor
