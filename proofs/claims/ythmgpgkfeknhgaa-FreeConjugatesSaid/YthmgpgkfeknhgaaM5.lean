/-
  Roots of words: plain laws, with no program in sight. Conditions: none.
-/
import Derived.Test.YthmgpgkfeknhgaaM4
set_option linter.all false
namespace Go.Proofs.Ythmgpgkfeknhgaa
open Go.Pv

theorem rep_zero (w : List Int) : rep 0 w = [] := rfl
theorem rep_one (w : List Int) : rep 1 w = w := by simp [rep]
theorem rep_nil (n : Nat) : rep n ([] : List Int) = [] := by
  induction n with
  | zero => rfl
  | succ n ih => rw [rep_succ, ih]; rfl
theorem rep_add (a b : Nat) (w : List Int) : rep (a + b) w = rep a w ++ rep b w := by
  induction b with
  | zero => simp [rep_zero]
  | succ b ih => rw [← Nat.add_assoc, rep_succ, rep_succ, ih, List.append_assoc]
theorem rep_mul (a b : Nat) (w : List Int) : rep (a * b) w = rep b (rep a w) := by
  induction b with
  | zero => simp [rep_zero]
  | succ b ih => rw [Nat.mul_succ, rep_add, ih, rep_succ]
theorem rep_get (w : List Int) (hw : 0 < w.length) : ∀ (n i : Nat), i < n * w.length → (rep n w).getD i 0 = w.getD (i % w.length) 0
  | 0, i, h => by simp at h
  | n + 1, i, h => by
    rw [rep_succ]
    by_cases hi : i < n * w.length
    · rw [getD_app1 (by rw [rep_len]; exact hi)]; exact rep_get w hw n i hi
    · rw [getD_app2 (by rw [rep_len]; omega), rep_len]
      congr 1
      have h1 : i = (i - n * w.length) + w.length * n := by have := Nat.mul_comm n w.length; omega
      have h2 : i - n * w.length < w.length := by rw [Nat.add_mul, Nat.one_mul] at h; omega
      conv => rhs; rw [h1, Nat.add_mul_mod_self_left, Nat.mod_eq_of_lt h2]
theorem back_rep (n : Nat) (w : List Int) : back (rep n w) = rep n (back w) := by
  induction n with
  | zero => rfl
  | succ n ih => rw [rep_succ, back_app, ih, rep_succ']

theorem red_iff (w : List Int) : Red w ↔ short w = w := ⟨short_red, fun h => h ▸ red_short w⟩

theorem red_app {a b : List Int} (ha : Red a) (hb : Red b) (h : a ≠ [] → b ≠ [] → a.getD (a.length - 1) 0 ≠ -(b.getD 0 0)) : Red (a ++ b) := by
  intro i hi
  rw [List.length_append] at hi
  by_cases h1 : i + 1 < a.length
  · rw [getD_app1 (by omega), getD_app1 h1]; exact ha i h1
  · by_cases h2 : i < a.length
    · rw [getD_app1 h2, getD_app2 (by omega), show i + 1 - a.length = 0 by omega]
      have := h (by intro e; subst e; simp at h2) (by intro e; subst e; simp at hi; omega)
      rw [show a.length - 1 = i by omega] at this
      exact this
    · rw [getD_app2 (by omega), getD_app2 (by omega), show i + 1 - a.length = (i - a.length) + 1 by omega]
      exact hb _ (by omega)
theorem red_left {a b : List Int} (h : Red (a ++ b)) : Red a := by
  have := h.take a.length
  rwa [List.take_left'  rfl] at this
theorem red_right {a b : List Int} (h : Red (a ++ b)) : Red b := by
  have := red_drop h a.length
  rwa [List.drop_left' rfl] at this
theorem red_join {a b : List Int} (h : Red (a ++ b)) (ha : a ≠ []) (hb : b ≠ []) : a.getD (a.length - 1) 0 ≠ -(b.getD 0 0) := by
  have h1 := List.length_pos_iff.2 ha
  have h2 := List.length_pos_iff.2 hb
  have := h (a.length - 1) (by rw [List.length_append]; omega)
  rwa [getD_app1 (by omega), getD_app2 (by omega), show a.length - 1 + 1 - a.length = 0 by omega] at this

theorem red_back {a : List Int} (h : Red a) : Red (back a) := by
  intro i hi
  rw [back_len] at hi
  rw [back_getD (by omega), back_getD hi]
  have := h (a.length - 1 - (i + 1)) (by omega)
  rw [show a.length - 1 - (i + 1) + 1 = a.length - 1 - i by omega] at this
  intro e
  apply this
  omega

/-- Turned round as often as one likes, no neighbours undo each other. -/
def Cyc (p : List Int) : Prop := p ≠ [] ∧ Red (p ++ p)

theorem Cyc.red {p : List Int} (h : Cyc p) : Red p := red_left h.2
theorem Cyc.pos {p : List Int} (h : Cyc p) : 0 < p.length := List.length_pos_iff.2 h.1
theorem Cyc.ends {p : List Int} (h : Cyc p) : p.getD (p.length - 1) 0 ≠ -(p.getD 0 0) := red_join h.2 h.1 h.1
theorem Cyc.mk' {p : List Int} (h0 : p ≠ []) (h : Red p) (he : p.getD (p.length - 1) 0 ≠ -(p.getD 0 0)) : Cyc p := ⟨h0, red_app h h fun _ _ => he⟩

theorem rep_ends {p : List Int} (hp : p ≠ []) {n : Nat} (hn : 1 ≤ n) : rep n p ≠ [] ∧ (rep n p).getD 0 0 = p.getD 0 0 ∧ (rep n p).getD ((rep n p).length - 1) 0 = p.getD (p.length - 1) 0 := by
  have h0 := List.length_pos_iff.2 hp
  have hl := rep_len n p
  have hge : p.length ≤ n * p.length := Nat.le_mul_of_pos_left _ hn
  refine ⟨fun e => by rw [e] at hl; simp at hl; omega, ?_, ?_⟩
  · rw [rep_get p h0 n 0 (by omega), Nat.zero_mod]
  · rw [hl, rep_get p h0 n _ (by omega)]
    congr 1
    obtain ⟨m, rfl⟩ : ∃ m, n = m + 1 := ⟨n - 1, by omega⟩
    have h1 : (m + 1) * p.length - 1 = (p.length - 1) + p.length * m := by have := Nat.mul_comm m p.length; rw [Nat.add_mul, Nat.one_mul]; omega
    rw [h1, Nat.add_mul_mod_self_left, Nat.mod_eq_of_lt (by omega)]

theorem Cyc.rr {p : List Int} (h : Cyc p) : ∀ n, Red (rep n p)
  | 0 => by intro i hi; simp [rep_zero] at hi
  | n + 1 => by
    rw [rep_succ]
    refine red_app (h.rr n) h.red fun h1 _ => ?_
    have hn : 1 ≤ n := by
      rcases Nat.eq_zero_or_pos n with e | e
      · subst e; exact absurd rfl h1
      · exact e
    rw [(rep_ends h.1 hn).2.2]
    exact h.ends
theorem Cyc.rr' {p : List Int} (h : Cyc p) {n : Nat} (hn : 1 ≤ n) : Cyc (rep n p) := by
  have e := rep_ends h.1 hn
  exact .mk' e.1 (h.rr n) (by rw [e.2.1, e.2.2]; exact h.ends)
theorem Cyc.bk {p : List Int} (h : Cyc p) : Cyc (back p) := by
  have := h.pos
  refine .mk' (fun e => by have := congrArg List.length e; rw [back_len] at this; simp at this; exact h.1 this) (red_back h.red) ?_
  rw [back_len, back_getD (by omega), back_getD (by omega)]
  have := h.ends
  rw [show p.length - 1 - (p.length - 1) = 0 by omega, Nat.sub_zero]
  intro e; apply this; omega

/-- A row that is the same when turned by d. -/
def Per (p : List Int) (d : Nat) : Prop := ∀ i, i < p.length → p.getD ((i + d) % p.length) 0 = p.getD i 0

theorem Per.any {p : List Int} {d : Nat} (h : Per p d) (hp : 0 < p.length) (i : Nat) : p.getD ((i + d) % p.length) 0 = p.getD (i % p.length) 0 := by
  have := h (i % p.length) (Nat.mod_lt _ hp)
  rwa [Nat.mod_add_mod] at this
theorem Per.mul {p : List Int} {d : Nat} (h : Per p d) (hp : 0 < p.length) : ∀ k, Per p (k * d)
  | 0, i, hi => by rw [Nat.zero_mul, Nat.add_zero, Nat.mod_eq_of_lt hi]
  | k + 1, i, hi => by
    rw [Nat.add_mul, Nat.one_mul, ← Nat.add_assoc, h.any hp, ← h.mul hp k i hi]
theorem Per.sub {p : List Int} {a b : Nat} (ha : Per p a) (hb : Per p b) (hp : 0 < p.length) (hab : b ≤ a) : Per p (a - b) := by
  intro i hi
  have h1 := hb.any hp (i + (a - b))
  rw [show i + (a - b) + b = i + a by omega, ha i hi] at h1
  exact h1.symm
theorem Per.gcd {p : List Int} (hp : 0 < p.length) : ∀ (a b : Nat), Per p a → Per p b → Per p (Nat.gcd a b) := by
  intro a
  induction a using Nat.strongRecOn with
  | _ a ih =>
    intro b ha hb
    by_cases h0 : a = 0
    · subst h0; rw [Nat.gcd_zero_left]; exact hb
    · rw [Nat.gcd_rec]
      refine ih (b % a) (Nat.mod_lt _ (by omega)) a ?_ ha
      have e : b % a = b - (b / a) * a := by
        have := Nat.div_add_mod b a
        rw [Nat.mul_comm] at this; omega
      rw [e]
      exact hb.sub (ha.mul hp _) hp (Nat.div_mul_le_self b a)
theorem Per.len (p : List Int) : Per p p.length := by
  intro i hi
  rw [Nat.add_mod_right, Nat.mod_eq_of_lt hi]

/-- A row that is no power of a shorter one. -/
def Prim (p : List Int) : Prop := ∀ d, Per p d → p.length ∣ d

def Rot (p q : List Int) : Prop := q.length = p.length ∧ ∀ i, i < p.length → q.getD i 0 = p.getD ((i + 1) % p.length) 0

theorem rot_cons (a : Int) (t : List Int) : Rot (a :: t) (t ++ [a]) := by
  refine ⟨by simp, fun i hi => ?_⟩
  simp only [List.length_cons] at hi
  by_cases h : i < t.length
  · rw [getD_app1 h, List.length_cons, Nat.mod_eq_of_lt (by omega)]; simp [List.getD]
  · have : i = t.length := by omega
    subst this
    rw [getD_app2 (Nat.le_refl _), List.length_cons, Nat.mod_self, Nat.sub_self]; rfl

theorem Rot.per {p q : List Int} (h : Rot p q) {d : Nat} (hq : Per q d) : Per p d := by
  intro i hi
  have hp : 0 < p.length := by omega
  have h1 : ((i + p.length - 1) % p.length + 1) % p.length = i := by
    rw [Nat.mod_add_mod, show i + p.length - 1 + 1 = i + p.length by omega, Nat.add_mod_right, Nat.mod_eq_of_lt hi]
  have hj : (i + p.length - 1) % p.length < p.length := Nat.mod_lt _ hp
  have h2 := h.2 _ hj
  rw [h1] at h2
  have h3 := hq ((i + p.length - 1) % p.length) (by rw [h.1]; exact hj)
  rw [h.1, h.2 _ (Nat.mod_lt _ hp), h2] at h3
  rw [← h3]
  congr 1
  rw [Nat.mod_add_mod]
  have : (i + p.length - 1) % p.length + d + 1 = ((i + p.length - 1) % p.length + 1) + d := by omega
  rw [this, ← Nat.mod_add_mod ((i + p.length - 1) % p.length + 1), h1]
theorem Rot.unper {p q : List Int} (h : Rot p q) (hp : 0 < p.length) {d : Nat} (hq : Per p d) : Per q d := by
  intro i hi
  rw [h.1] at hi ⊢
  rw [h.2 _ (Nat.mod_lt _ hp), h.2 _ hi, Nat.mod_add_mod, show i + d + 1 = i + 1 + d by omega]
  exact hq.any hp (i + 1)
theorem Rot.prim {p q : List Int} (h : Rot p q) (hp : Prim p) : Prim q := fun d hd => by rw [h.1]; exact hp d (h.per hd)
theorem Rot.prim' {p q : List Int} (h : Rot p q) (h0 : 0 < p.length) (hq : Prim q) : Prim p := fun d hd => by rw [← h.1]; exact hq d (h.unper h0 hd)

theorem rep_cons (a : Int) (t : List Int) : ∀ n, rep n (a :: t) ++ [a] = a :: rep n (t ++ [a])
  | 0 => rfl
  | n + 1 => by
    rw [rep_succ, rep_succ, ← List.cons_append, ← rep_cons a t n]
    simp

theorem cyc_cons {a : Int} {t : List Int} (h : Cyc (a :: t)) : Cyc (t ++ [a]) := by
  refine ⟨by simp, ?_⟩
  have h3 := h.rr 3
  have e : rep 3 (a :: t) = [a] ++ ((t ++ [a]) ++ (t ++ [a])) ++ t := by simp [rep, List.replicate]
  rw [e] at h3
  exact red_right (red_left h3)
theorem cyc_snoc {a : Int} {t : List Int} (h : Cyc (t ++ [a])) : Cyc (a :: t) := by
  refine ⟨by simp, ?_⟩
  have h3 := h.rr 3
  have e : rep 3 (t ++ [a]) = t ++ (((a :: t) ++ (a :: t)) ++ [a]) := by simp [rep, List.replicate]
  rw [e] at h3
  exact red_left (red_right h3)

theorem short_conj (y q : List Int) : short (short y ++ q ++ back (short y)) = short (y ++ q ++ back y) := by
  rw [List.append_assoc, short_left, ← List.append_assoc, ← short_right, short_back, short_right]

/-- What is conjugated, in a reduced form: for all powers at once. -/
theorem conj_form : ∀ (n : Nat) (y p : List Int), y.length = n → Red y → Cyc p → Prim p →
    ∃ y1 p1, Cyc p1 ∧ Prim p1 ∧ p1.length = p.length ∧ ∀ j, 1 ≤ j → short (y ++ rep j p ++ back y) = y1 ++ rep j p1 ++ back y1 := by
  intro n
  induction n with
  | zero =>
    intro y p hy _ hc hp
    rw [List.eq_nil_of_length_eq_zero hy]
    refine ⟨[], p, hc, hp, rfl, fun j _ => ?_⟩
    rw [show back [] = [] from rfl, List.append_nil, List.nil_append]
    exact short_red (hc.rr j)
  | succ n ih =>
    intro y p hy hr hc hp
    have hne : y ≠ [] := by intro h; subst h; simp at hy
    obtain ⟨y', z, rfl⟩ : ∃ y' z, y = y' ++ [z] := ⟨y.dropLast, y.getLast hne, (List.dropLast_concat_getLast hne).symm⟩
    have hy' : y'.length = n := by simpa using hy
    have hb : back (y' ++ [z]) = [-z] ++ back y' := by rw [back_app]; rfl
    by_cases h1 : p.getD 0 0 = -z
    · obtain ⟨a, t, rfl⟩ : ∃ a t, p = a :: t := by
        cases p with
        | nil => exact absurd rfl hc.1
        | cons a t => exact ⟨a, t, rfl⟩
      have h1 : a = -z := by simpa using h1
      subst h1
      obtain ⟨y1, p1, g1, g2, g3, g4⟩ := ih y' (t ++ [-z]) hy' (red_left hr) (cyc_cons hc) ((rot_cons _ _).prim hp)
      refine ⟨y1, p1, g1, g2, by rw [g3]; simp, fun j hj => ?_⟩
      rw [← g4 j hj, hb]
      have e : y' ++ [z] ++ rep j (-z :: t) ++ ([-z] ++ back y') = y' ++ z :: -z :: (rep j (t ++ [-z]) ++ back y') := by
        have := rep_cons (-z) t j
        simp only [List.append_assoc, List.cons_append, List.nil_append]
        rw [← List.singleton_append (l := back y'), ← List.append_assoc (rep j (-z :: t)), this]
        simp
      rw [e, short_cancel, List.append_assoc]
    · by_cases h2 : p.getD (p.length - 1) 0 = z
      · obtain ⟨t, a, rfl⟩ : ∃ t a, p = t ++ [a] := ⟨p.dropLast, p.getLast hc.1, (List.dropLast_concat_getLast hc.1).symm⟩
        have h2 : a = z := by
          rw [getD_app2 (by simp), show (t ++ [a]).length - 1 - t.length = 0 by simp] at h2
          simpa using h2
        subst h2
        obtain ⟨y1, p1, g1, g2, g3, g4⟩ := ih y' (a :: t) hy' (red_left hr) (cyc_snoc hc) ((rot_cons _ _).prim' (by simp) hp)
        refine ⟨y1, p1, g1, g2, by rw [g3]; simp, fun j hj => ?_⟩
        rw [← g4 j hj, hb]
        have e : y' ++ [a] ++ rep j (t ++ [a]) ++ ([-a] ++ back y') = (y' ++ rep j (a :: t)) ++ a :: -a :: back y' := by
          have := rep_cons a t j
          have h3 : [a] ++ rep j (t ++ [a]) = rep j (a :: t) ++ [a] := this.symm
          simp only [List.append_assoc]
          rw [← List.append_assoc [a], h3]
          simp
        rw [e, short_cancel]
      · refine ⟨y' ++ [z], p, hc, hp, rfl, fun j hj => short_red ?_⟩
        have er := rep_ends hc.1 hj
        have hl : (y' ++ [z]).getD ((y' ++ [z]).length - 1) 0 = z := by
          rw [getD_app2 (by simp), show (y' ++ [z]).length - 1 - y'.length = 0 by simp]; rfl
        refine red_app (red_app hr (hc.rr j) fun _ _ => ?_) (red_back hr) fun _ _ => ?_
        · rw [hl, er.2.1]; intro e; apply h1; omega
        · have hrl := List.length_pos_iff.2 er.1
          rw [List.length_append, getD_app2 (by omega), show (y' ++ [z]).length + (rep j p).length - 1 - (y' ++ [z]).length = (rep j p).length - 1 by omega, er.2.2, hb]
          simp only [List.singleton_append, List.getD_cons_zero, Int.neg_neg]
          exact h2

end Go.Proofs.Ythmgpgkfeknhgaa
