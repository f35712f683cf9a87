/-
  Regions that draw their order, by what each operation touches: the law. Conditions: none; a library text.
-/
import Derived.Test.YtllompejbfbabaaDoorPvX
set_option linter.all false
namespace Go.Pv
open Go.RowKit

/-- What an operation touches: nothing; a block that it reads; that it writes; that it makes. -/
inductive Cls where
  | f
  | ld (k : Nat)
  | st (k : Nat)
  | nw (k : Nat)
  | ap (k k' : Nat)

instance : Inhabited Cls := ⟨.f⟩

def Cls.tch : Cls → Nat → Bool
  | .f, _ => false
  | .ld k, b => k == b
  | .st k, b => k == b
  | .nw k, b => k == b
  | .ap k k', b => k == b || k' == b

def Cls.wrt : Cls → Nat → Bool
  | .st k, b => k == b
  | .nw k, b => k == b
  | .ap k k', b => k == b || k' == b
  | _, _ => false

/-- The block that is made. -/
def Cls.mk : Cls → Option Nat
  | .nw k => some k
  | .ap _ k' => some k'
  | _ => none

def confl : Cls → Cls → Bool
  | .f, _ => false
  | _, .f => false
  | .ld _, .ld _ => false
  | .ld a, y => y.tch a
  | .st a, y => y.tch a
  | .nw a, y => y.tch a
  | .ap a a', y => y.tch a || y.tch a'

theorem Cls.wrt_tch {c : Cls} {b : Nat} (h : c.wrt b = true) : c.tch b = true := by
  cases c <;> simp_all [Cls.wrt, Cls.tch]

theorem confl_spec {x y : Cls} (h : confl x y = false) (b : Nat) : ¬ (x.tch b = true ∧ y.wrt b = true) ∧ ¬ (x.wrt b = true ∧ y.tch b = true) := by
  constructor
  · rintro ⟨h1, h2⟩
    cases x <;> cases y <;> simp [confl, Cls.tch, Cls.wrt] at h h1 h2 <;> omega
  · rintro ⟨h1, h2⟩
    cases x <;> cases y <;> simp [confl, Cls.tch, Cls.wrt] at h h1 h2 <;> omega

/-- What an operation comes to: its class; its value; what it writes. -/
structure I2 where
  c : Cls
  av : AV
  b : Blk
  pu : Bool

instance : Inhabited I2 := ⟨⟨.f, .dead, .dead, false⟩⟩

/-- What is marked names no block. -/
def I2.Pu (x : I2) : Prop := x.pu = true → ∀ c, x.b = Blk.own c → ∀ (q : Nat) (h : q < c.length) (κ : Nat), NoRef κ c[q]

def updC (x : I2) (H : Heap) : Heap :=
  match x.c with
  | .st k => hset H k x.b
  | .nw k => hset H k x.b
  | .ap k k' => hset (hset H k .dead) k' x.b
  | _ => H

def nxtH (x : I2) (H : Heap) : Heap :=
  match x.c with
  | .st k => hset H k x.b
  | .nw _ => H ++ [x.b]
  | .ap k _ => hset H k .dead ++ [x.b]
  | _ => H

/-- What is written where. -/
def wv (x : I2) (j : Nat) : Blk :=
  match x.c with
  | .ap _ k' => if k' = j then x.b else .dead
  | _ => x.b

theorem updC_len (x : I2) (H : Heap) : (updC x H).length = H.length := by
  unfold updC; split <;> simp [hset_length]
theorem updC_hget (x : I2) (H : Heap) (j : Nat) : hget (updC x H) j = if x.c.wrt j = true ∧ j < H.length then wv x j else hget H j := by
  obtain ⟨c, av, b, pu⟩ := x
  cases c with
  | f => simp [updC, Cls.wrt]
  | ld k => simp [updC, Cls.wrt]
  | st k =>
    simp only [updC, wv, Cls.wrt, beq_iff_eq]
    rw [hset_hget]
    by_cases h : j = k
    · subst h; simp
    · rw [if_neg (fun hh => h hh.1), if_neg (fun hh => h hh.1.symm)]
  | nw k =>
    simp only [updC, wv, Cls.wrt, beq_iff_eq]
    rw [hset_hget]
    by_cases h : j = k
    · subst h; simp
    · rw [if_neg (fun hh => h hh.1), if_neg (fun hh => h hh.1.symm)]
  | ap k k' =>
    simp only [updC, wv, Cls.wrt, Bool.or_eq_true, beq_iff_eq]
    rw [hset_hget, hset_length, hset_hget]
    by_cases h : j = k'
    · subst h
      by_cases hl : j < H.length
      · rw [if_pos ⟨rfl, hl⟩, if_pos ⟨.inr rfl, hl⟩, if_pos rfl]
      · rw [if_neg (fun hh => hl hh.2), if_neg (show ¬ (j = k ∧ k < H.length) from fun hh => hl (by rw [hh.1]; exact hh.2)), if_neg (show ¬ ((k = j ∨ j = j) ∧ j < H.length) from fun hh => hl hh.2)]
    · rw [if_neg (fun hh => h hh.1)]
      by_cases h2 : j = k
      · subst h2
        simp [Ne.symm h]
      · rw [if_neg (fun hh => h2 hh.1), if_neg (fun hh => by rcases hh.1 with e | e; exact h2 e.symm; exact h e.symm)]

/-- What an operation does hangs on what it touches. -/
def Loc2 (P : Program) (o : Oper) (s : St) (x : I2) : Prop :=
  match x.c with
  | .f => ∀ s2 : St, s2.n = s.n → Agree o s s2 → DoesW P o s2 x.av s2.H
  | .ld k => k < s.H.length ∧ ∀ s2 : St, s2.n = s.n → Agree o s s2 → hget s2.H k = hget s.H k → DoesW P o s2 x.av s2.H
  | .st k => k < s.H.length ∧ ∀ s2 : St, s2.n = s.n → Agree o s s2 → hget s2.H k = hget s.H k → DoesW P o s2 x.av (hset s2.H k x.b)
  | .nw k => k = s.H.length ∧ ∀ s2 : St, s2.n = s.n → Agree o s s2 → s2.H[k]? = some .dead → (∀ t, NoRef k (s2.get t)) → (∀ (j : Nat) (c : List AV), s2.H[j]? = some (Blk.own c) → ∀ (i : Nat) (h : i < c.length), NoRef k c[i]) → DoesW P o s2 x.av (hset s2.H k x.b)
  | .ap q k => (q < s.H.length ∧ k = s.H.length) ∧ ∀ s2 : St, s2.n = s.n → Agree o s s2 → hget s2.H q = hget s.H q → s2.H[k]? = some .dead → (∀ t, NoRef k (s2.get t)) → (∀ (j : Nat) (c : List AV), s2.H[j]? = some (Blk.own c) → ∀ (i : Nat) (h : i < c.length), NoRef k c[i]) → DoesW P o s2 x.av (hset (hset s2.H q .dead) k x.b)

inductive Run2 (P : Program) (all : Array Oper) : List Oper → List I2 → St → St → Prop
  | nil (s : St) : Run2 P all [] [] s s
  | skip {o : Oper} {r : List Oper} {xs : List I2} {s s' : St} (hg : guardA all s o = some false) (hd : ∀ t, o.dst = some t → t < s.n) (hr : Run2 P all r xs (s.put o.dst .dead) s') : Run2 P all (o :: r) (⟨.f, .dead, .dead, false⟩ :: xs) s s'
  | op {o : Oper} {r : List Oper} {x : I2} {xs : List I2} {s s' : St} (hg : guardA all s o = some true) (hd : ∀ t, o.dst = some t → t < s.n) (h : Loc2 P o s x) (hp : x.Pu) (hr : Run2 P all r xs (({ s with H := nxtH x s.H } : St).put o.dst x.av) s') : Run2 P all (o :: r) (x :: xs) s s'

section
variable {P : Program} {ops : Array Oper} {I : Nat → I2} {s : St}

/-- The states in the text's order. -/
def cS (ops : Array Oper) (I : Nat → I2) (s : St) : Nat → St
  | 0 => s
  | k + 1 => ({ cS ops I s k with H := nxtH (I k) (cS ops I s k).H } : St).put (opAt ops k).dst (I k).av

structure Fact2 (P : Program) (ops : Array Oper) (I : Nat → I2) (s : St) (j : Nat) (o : Oper) : Prop where
  pu : (I j).Pu
  dst : ∀ t, o.dst = some t → t < s.n
  how : (guardA ops (cS ops I s j) o = some false ∧ I j = ⟨.f, .dead, .dead, false⟩) ∨ (guardA ops (cS ops I s j) o = some true ∧ Loc2 P o (cS ops I s j) (I j))

theorem cS_n : ∀ k, (cS ops I s k).n = s.n
  | 0 => rfl
  | k + 1 => by simp only [cS]; rw [St.put_n]; exact cS_n k

theorem facts2 {s' : St} : ∀ (l : List Oper) (xs : List I2) (k : Nat), (∀ i, l[i]? = ops[k + i]?) → (∀ i x, xs[i]? = some x → I (k + i) = x) → k + l.length = ops.size →
    Run2 P ops l xs (cS ops I s k) s' → (∀ i o, k ≤ i → ops[i]? = some o → Fact2 P ops I s i o) ∧ s' = cS ops I s ops.size
  | [], xs, k, hl, hx, hk, hr => by
    cases hr
    simp at hk
    subst hk
    refine ⟨fun i o hi ho => ?_, rfl⟩
    have := (Array.getElem?_eq_some_iff.1 ho).1
    omega
  | o :: r, xs, k, hl, hx, hk, hr => by
    have ho : ops[k]? = some o := by have := hl 0; simpa using this.symm
    have hod : opAt ops k = o := opAt_of ho
    have hl' : ∀ i, r[i]? = ops[k + 1 + i]? := fun i => by have := hl (i + 1); simp only [List.getElem?_cons_succ] at this; rw [this]; congr 1; omega
    have hn := cS_n (ops := ops) (I := I) (s := s) k
    cases hr with
    | skip hg hd hr =>
      rename_i xs
      have hIk : I k = ⟨.f, .dead, .dead, false⟩ := by have := hx 0 _ rfl; simpa using this
      have e : cS ops I s (k + 1) = (cS ops I s k).put o.dst .dead := by simp only [cS]; rw [hIk, hod]; rfl
      rw [← e] at hr
      obtain ⟨g1, g2⟩ := facts2 r xs (k + 1) hl' (fun i x h => by have := hx (i + 1) x (by simpa using h); rw [← this]; congr 1; omega) (by simp at hk; omega) hr
      refine ⟨fun i o' hi ho' => ?_, g2⟩
      by_cases hik : i = k
      · subst hik
        rw [ho] at ho'; cases ho'
        exact ⟨by rw [hIk]; intro h; (cases h), fun t ht => by rw [← hn]; exact hd t ht, .inl ⟨hg, hIk⟩⟩
      · exact g1 i o' (by omega) ho'
    | op hg hd h hpu hr =>
      rename_i x xs
      have hIk : I k = x := by have := hx 0 _ rfl; simpa using this
      have e : cS ops I s (k + 1) = ({ cS ops I s k with H := nxtH x (cS ops I s k).H } : St).put o.dst x.av := by simp only [cS]; rw [hIk, hod]
      rw [← e] at hr
      obtain ⟨g1, g2⟩ := facts2 r xs (k + 1) hl' (fun i x h => by have := hx (i + 1) x (by simpa using h); rw [← this]; congr 1; omega) (by simp at hk; omega) hr
      refine ⟨fun i o' hi ho' => ?_, g2⟩
      by_cases hik : i = k
      · subst hik
        rw [ho] at ho'; cases ho'
        exact ⟨by rw [hIk]; exact hpu, fun t ht => by rw [← hn]; exact hd t ht, .inr ⟨hg, by rw [hIk]; exact h⟩⟩
      · exact g1 i o' (by omega) ho'

/-- The state behind those that are in D, over a heap that has room for all that is made. -/
def tD (ops : Array Oper) (I : Nat → I2) (s : St) (L : Nat) (D : Nat → Bool) : Nat → St
  | 0 => { s with H := s.H ++ List.replicate L .dead }
  | k + 1 => if D k then ({ tD ops I s L D k with H := updC (I k) (tD ops I s L D k).H } : St).put (opAt ops k).dst (I k).av else tD ops I s L D k

variable {L : Nat}

theorem tD_n (D : Nat → Bool) : ∀ k, (tD ops I s L D k).n = s.n
  | 0 => rfl
  | k + 1 => by
    simp only [tD]
    split
    · rw [St.put_n]; exact tD_n D k
    · exact tD_n D k
theorem tD_len (D : Nat → Bool) : ∀ k, (tD ops I s L D k).H.length = s.H.length + L
  | 0 => by simp [tD]
  | k + 1 => by
    simp only [tD]
    split
    · rw [St.put_H, updC_len]; exact tD_len D k
    · exact tD_len D k
theorem tD_get (D : Nat → Bool) (k t : Nat) : (tD ops I s L D (k + 1)).get t = if D k = true ∧ (opAt ops k).dst = some t then (I k).av else (tD ops I s L D k).get t := by
  simp only [tD]
  by_cases h : D k = true
  · rw [if_pos h, get_put]
    by_cases hd : (opAt ops k).dst = some t
    · have hr : D k = true ∧ (opAt ops k).dst = some t := ⟨h, hd⟩
      rw [if_pos hd, if_pos hr]
    · have hr : ¬ (D k = true ∧ (opAt ops k).dst = some t) := fun hh => hd hh.2
      rw [if_neg hd, if_neg hr]; rfl
  · have hr : ¬ (D k = true ∧ (opAt ops k).dst = some t) := fun hh => h hh.1
    rw [if_neg h, if_neg hr]
theorem tD_hget (D : Nat → Bool) (k b : Nat) : hget (tD ops I s L D (k + 1)).H b = if D k = true ∧ (I k).c.wrt b = true ∧ b < s.H.length + L then wv (I k) b else hget (tD ops I s L D k).H b := by
  simp only [tD]
  by_cases h : D k = true
  · rw [if_pos h, St.put_H]
    simp only
    rw [updC_hget, tD_len]
    by_cases hd : (I k).c.wrt b = true ∧ b < s.H.length + L
    · rw [if_pos hd, if_pos ⟨h, hd⟩]
    · rw [if_neg hd, if_neg (fun hh => hd hh.2)]
  · rw [if_neg h, if_neg (fun hh => h hh.1)]

theorem tD_get_stay (D : Nat → Bool) (t : Nat) : ∀ k n, k ≤ n → (∀ i, k ≤ i → i < n → D i = true → (opAt ops i).dst ≠ some t) → (tD ops I s L D n).get t = (tD ops I s L D k).get t := by
  intro k n hkn h
  induction n with
  | zero => obtain rfl : k = 0 := by omega
            rfl
  | succ n ih =>
    by_cases hk : k = n + 1
    · rw [hk]
    · rw [tD_get, if_neg (fun hh => h n (by omega) (by omega) hh.1 hh.2)]
      exact ih (by omega) fun i h1 h2 => h i h1 (by omega)
theorem tD_hget_stay (D : Nat → Bool) (b : Nat) : ∀ k n, k ≤ n → (∀ i, k ≤ i → i < n → D i = true → (I i).c.wrt b = false) → hget (tD ops I s L D n).H b = hget (tD ops I s L D k).H b := by
  intro k n hkn h
  induction n with
  | zero => obtain rfl : k = 0 := by omega
            rfl
  | succ n ih =>
    by_cases hk : k = n + 1
    · rw [hk]
    · rw [tD_hget, if_neg (fun hh => by have := h n (by omega) (by omega) hh.1; rw [this] at hh; simp at hh)]
      exact ih (by omega) fun i h1 h2 => h i h1 (by omega)
theorem tD_get_same (D D' : Nat → Bool) (t : Nat) : ∀ k, (∀ i, i < k → (opAt ops i).dst = some t → D i = D' i) → (tD ops I s L D k).get t = (tD ops I s L D' k).get t := by
  intro k h
  induction k with
  | zero => rfl
  | succ k ih =>
    rw [tD_get, tD_get, ih fun i hi => h i (by omega)]
    by_cases hd : (opAt ops k).dst = some t
    · rw [h k (by omega) hd]
    · rw [if_neg (fun hh => hd hh.2), if_neg (fun hh => hd hh.2)]
theorem tD_hget_same (D D' : Nat → Bool) (b : Nat) : ∀ k, (∀ i, i < k → (I i).c.wrt b = true → D i = D' i) → hget (tD ops I s L D k).H b = hget (tD ops I s L D' k).H b := by
  intro k h
  induction k with
  | zero => rfl
  | succ k ih =>
    rw [tD_hget, tD_hget, ih fun i hi => h i (by omega)]
    by_cases hd : (I k).c.wrt b = true
    · rw [h k (by omega) hd]
    · rw [if_neg (fun hh => hd hh.2.1), if_neg (fun hh => hd hh.2.1)]

/-- The classes fit the states. -/
def Fits (I : Nat → I2) (s : St) (ops : Array Oper) (n : Nat) : Prop := ∀ k, k < n → match (I k).c with
  | .ld j => j < (cS ops I s k).H.length
  | .st j => j < (cS ops I s k).H.length
  | .nw j => j = (cS ops I s k).H.length
  | .ap i j => i < (cS ops I s k).H.length ∧ j = (cS ops I s k).H.length
  | .f => True

theorem nxtH_len (x : I2) (H : Heap) : H.length ≤ (nxtH x H).length := by
  unfold nxtH; split <;> simp [hset_length]
theorem cS_len_mono : ∀ {k n : Nat}, k ≤ n → (cS ops I s k).H.length ≤ (cS ops I s n).H.length := by
  intro k n h
  induction n with
  | zero => obtain rfl : k = 0 := by omega
            exact Nat.le_refl _
  | succ n ih =>
    by_cases hk : k = n + 1
    · rw [hk]; exact Nat.le_refl _
    · refine Nat.le_trans (ih (by omega)) ?_
      simp only [cS]
      rw [St.put_H]
      exact nxtH_len _ _

theorem hget_out : ∀ {H : Heap} {j : Nat}, H.length ≤ j → hget H j = .dead
  | [], j, _ => by cases j <;> rfl
  | x :: r, 0, h => by simp at h
  | x :: r, j + 1, h => hget_out (H := r) (by simpa using h)

/-- In the text's order they are the same. -/
theorem tD_all {n : Nat} (hf : Fits I s ops n) (hL : (cS ops I s n).H.length = s.H.length + L) : ∀ k, k ≤ n → (∀ t, (tD ops I s L (fun _ => true) k).get t = (cS ops I s k).get t) ∧ ∀ b, hget (tD ops I s L (fun _ => true) k).H b = hget (cS ops I s k).H b := by
  intro k
  induction k with
  | zero =>
    intro _
    refine ⟨fun t => rfl, fun b => ?_⟩
    simp only [tD, cS]
    by_cases hb : b < s.H.length
    · rw [hget_app1 hb]
    · rw [hget_app2 (by omega), hget_rep, hget_out (by omega)]
  | succ k ih =>
    intro hk
    obtain ⟨ih1, ih2⟩ := ih (by omega)
    have hle := cS_len_mono (ops := ops) (I := I) (s := s) (show k + 1 ≤ n from hk)
    have hlen : (nxtH (I k) (cS ops I s k).H).length ≤ s.H.length + L := by
      rw [← hL]
      refine Nat.le_trans ?_ hle
      simp only [cS]; rw [St.put_H]; exact Nat.le_refl _
    refine ⟨fun t => ?_, fun b => ?_⟩
    · rw [tD_get]
      simp only [cS]
      rw [get_put, ih1]
      by_cases hd : (opAt ops k).dst = some t
      · rw [if_pos ⟨trivial, hd⟩, if_pos hd]
      · rw [if_neg (fun hh => hd hh.2), if_neg hd]; rfl
    · rw [tD_hget, ih2]
      simp only [cS]
      rw [St.put_H]
      simp only
      have hfk := hf k (by omega)
      unfold nxtH at hlen ⊢
      unfold wv
      cases hc : (I k).c with
      | f => simp [Cls.wrt]
      | ld j => simp [Cls.wrt]
      | st j =>
        rw [hc] at hfk
        have hjj := cS_len_mono (ops := ops) (I := I) (s := s) (show k ≤ n by omega)
        simp only [Cls.wrt, beq_iff_eq, true_and]
        rw [hset_hget]
        by_cases hb : b = j
        · subst hb
          rw [if_pos ⟨rfl, by omega⟩, if_pos ⟨rfl, hfk⟩]
        · rw [if_neg (fun hh => hb hh.1.symm), if_neg (fun hh => hb hh.1)]
      | nw j =>
        rw [hc] at hfk hlen
        simp only [List.length_append, List.length_singleton] at hlen
        simp only [Cls.wrt, beq_iff_eq, true_and]
        by_cases hb : b = j
        · subst hb
          rw [if_pos ⟨rfl, by omega⟩, hget_app2 (by omega), hfk, Nat.sub_self]; rfl
        · rw [if_neg (fun hh => hb hh.1.symm)]
          by_cases hlt : b < (cS ops I s k).H.length
          · rw [hget_app1 hlt]
          · rw [hget_out (by omega), hget_out (by simp; omega)]
      | ap i j =>
        rw [hc] at hfk hlen
        obtain ⟨hf1, hf2⟩ := hfk
        simp only [List.length_append, List.length_singleton, hset_length] at hlen
        have hjj := cS_len_mono (ops := ops) (I := I) (s := s) (show k ≤ n by omega)
        simp only [Cls.wrt, Bool.or_eq_true, beq_iff_eq, true_and]
        by_cases hb : b = j
        · subst hb
          rw [if_pos ⟨.inr rfl, by omega⟩, if_pos rfl, hget_app2 (by rw [hset_length]; omega), hset_length, hf2, Nat.sub_self]; rfl
        · by_cases hb2 : b = i
          · subst hb2
            rw [if_pos ⟨.inl rfl, by omega⟩, if_neg (Ne.symm hb), hget_app1 (by rw [hset_length]; exact hf1), hset_hget, if_pos ⟨rfl, hf1⟩]
          · rw [if_neg (fun hh => by rcases hh.1 with e | e; exact hb2 e.symm; exact hb e.symm)]
            by_cases hlt : b < (cS ops I s k).H.length
            · rw [hget_app1 (by rw [hset_length]; exact hlt), hset_hget, if_neg (fun hh => hb2 hh.1)]
            · rw [hget_out (by omega), hget_out (by simp [hset_length]; omega)]

def apart2 (ops : Array Oper) (I : Nat → I2) (i j : Nat) : Bool := (opAt ops i).apart ops (opAt ops j) && !confl (I i).c (I j).c

def blkNr (κ : Nat) : Blk → Bool
  | .own c => c.all (nrA κ)
  | _ => true

/-- THE TEST of a region that draws its order. -/
def draw2OK (ops : Array Oper) (xs : List I2) : Bool :=
  (List.range ops.size).all fun j =>
    ((opAt ops j).after.toList.all fun e => !Region.binds .any e || e.on < j) &&
    ((List.range j).all fun i => apart2 ops (fun i => xs.getD i default) i j || ((anc ops).getD j 0).testBit i) &&
    (match (xs.getD j default).c.mk with
     | some κ => (List.range ops.size).all fun i => i == j || ((anc ops).getD i 0).testBit j || (nrA κ (xs.getD i default).av && ((xs.getD i default).pu || blkNr κ (xs.getD i default).b))
     | none => true)

theorem draw2OK_spec {xs : List I2} (h : draw2OK ops xs = true) : (∀ j o, ops[j]? = some o → ∀ e ∈ o.after.toList, Region.binds .any e = true → e.on < j) ∧
    (∀ i j, i < j → j < ops.size → apart2 ops (fun i => xs.getD i default) i j = false → ((anc ops).getD j 0).testBit i = true) ∧
    (∀ j κ, j < ops.size → (xs.getD j default).c.mk = some κ → ∀ i, i < ops.size → i ≠ j → ((anc ops).getD i 0).testBit j = false → NoRef κ (xs.getD i default).av ∧ ((xs.getD i default).pu = false → ∀ c, (xs.getD i default).b = Blk.own c → ∀ (q : Nat) (h : q < c.length), NoRef κ c[q])) := by
  unfold draw2OK at h
  rw [List.all_eq_true] at h
  refine ⟨?_, ?_, ?_⟩
  · intro j o ho e he hb
    have hj := (Array.getElem?_eq_some_iff.1 ho).1
    have := h j (by simpa using hj)
    rw [Bool.and_eq_true, Bool.and_eq_true] at this
    have h1 := (List.all_eq_true.1 this.1.1) e (by rw [opAt_of ho]; exact he)
    rw [hb] at h1
    simpa using h1
  · intro i j hij hj ha
    have := h j (by simpa using hj)
    rw [Bool.and_eq_true, Bool.and_eq_true] at this
    have h1 := (List.all_eq_true.1 this.1.2) i (by simpa using hij)
    rw [ha, Bool.false_or] at h1
    exact h1
  · intro j κ hj hc i hi hij hb
    have := h j (by simpa using hj)
    rw [Bool.and_eq_true, Bool.and_eq_true] at this
    have h1 := this.2
    rw [hc] at h1
    have h2 := (List.all_eq_true.1 h1) i (by simpa using hi)
    rw [hb] at h2
    have hij' : (i == j) = false := by simpa using hij
    rw [hij', Bool.false_or, Bool.false_or, Bool.and_eq_true] at h2
    refine ⟨nrA_spec h2.1, fun hpu c hc' q hq => ?_⟩
    have h3 := h2.2
    rw [hpu, hc', Bool.false_or] at h3
    exact nrA_spec ((List.all_eq_true.1 h3) _ (List.getElem_mem hq))

end

end Go.Pv
