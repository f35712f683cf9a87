/-
  Regions: one operation behind the other; and in whatever order their edges allow. Conditions: none; a library text.
-/
import Derived.Test.YtllompejbfbabaaDoorPvK
set_option linter.all false
namespace Go.Pv
open Go.RowKit

/-- What an operation does, as the walk asks it. -/
def DoesW (P : Program) (o : Oper) (s : St) (av : AV) (H' : Heap) : Prop :=
  ∀ C m (a : Act) w (K : Act → World → Prop) (Q : Exit → Act → World → Prop), Rel C m s a.tmps w →
    (∀ v m' w', Rel C m' { s with H := H' } a.tmps w' → AVal (Reads (OK C m' H' w') w') m' H' av v → K (a.put o.dst v) w') → o.wp P a w K Q

theorem Does.wp {P : Program} {o : Oper} {s : St} {av : AV} {H' : Heap} (h : Does P o s av H') : DoesW P o s av H' := by
  intro C m a w K Q R hK
  obtain ⟨v, w', m', hy, R', hv⟩ := h C m a w R
  have := hK v m' w' R' hv
  rcases hy with hr | ⟨hr, rfl⟩
  · unfold Oper.wp; rw [hr]; exact this
  · unfold Oper.wp; rw [hr]; exact this

/-- Does it turn the blocks; does it look at them? -/
def isW : Op → Bool
  | .store _ _ _ | .alloc _ | .box _ _ | .makeSlice _ _ _ => true
  | .call { callee := .builtin .append, .. } => true
  | _ => false

def isT : Op → Bool
  | .move _ | .assign _ | .pick _ _ _ | .binOp _ _ _ _ _ | .unOp _ _ _ | .convert _ _ _ | .fieldAddr _ _ _ | .field _ _ _ | .indexAddr _ _ _ | .slice _ _ _ _ _ | .extract _ _ | .build _ _ | .buildSlice _ _ _ => false
  | .call { callee := .builtin .len, .. } => false
  | .call { callee := .builtin .min, .. } => false
  | .call { callee := .builtin .max, .. } => false
  | _ => true

def Agree (o : Oper) (s s2 : St) : Prop := ∀ x ∈ o.op.operands, s2.ev x = s.ev x

/-- What an operation does hangs on what it names alone. -/
structure Loc1 (P : Program) (o : Oper) (s : St) (av : AV) (H' : Heap) : Prop where
  here : ∀ s2 : St, s2.n = s.n → Agree o s s2 → s2.H = s.H → DoesW P o s2 av H'
  free : isT o.op = false → H' = s.H ∧ ∀ s2 : St, s2.n = s.n → Agree o s s2 → DoesW P o s2 av s2.H
  calm : isW o.op = false → H' = s.H

def guardA (all : Array Oper) (s : St) (o : Oper) : Option Bool :=
  match o.guard with
  | none => some true
  | some (j, want) =>
    match (all[j]?).bind (·.dst) with
    | some d => match s.get d with | .p (.bool b) => some (b == want) | _ => none
    | none => none

/-- One operation of a region. -/
inductive Step1 (P : Program) (draw : Bool) (all : Array Oper) (o : Oper) : St → St → Prop
  | skip (s : St) (hg : guardA all s o = some false) (hd : ∀ t, o.dst = some t → t < s.n) : Step1 P draw all o s (s.put o.dst .dead)
  | op (s : St) (av : AV) (H' : Heap) (hg : guardA all s o = some true) (hd : ∀ t, o.dst = some t → t < s.n) (h : DoesW P o s av H') (hl : draw = true → Loc1 P o s av H') : Step1 P draw all o s ({ s with H := H' }.put o.dst av)

inductive Run1 (P : Program) (draw : Bool) (all : Array Oper) : List Oper → St → St → Prop
  | nil (s : St) : Run1 P draw all [] s s
  | cons {o : Oper} {r : List Oper} {s s1 s2 : St} (h : Step1 P draw all o s s1) (hr : Run1 P draw all r s1 s2) : Run1 P draw all (o :: r) s s2

theorem guardA_wanted {P : Program} {all : Array Oper} {C : Ctx} {m : Map} {s : St} {a : Act} {w : World} {o : Oper} {b : Bool} (R : Rel C m s a.tmps w) (h : guardA all s o = some b) : Region.wanted o (yielded all a.tmps) = b := by
  have _ := P
  unfold guardA at h
  unfold Region.wanted
  split at h
  · rename_i e; rw [e]; simpa using h
  · rename_i j want e
    rw [e]
    simp only
    split at h
    · rename_i d hd
      split at h <;> simp only [Option.some.injEq, reduceCtorEq] at h
      rename_i x hx
      have hv := R.slot d
      rw [hx] at hv
      have hv := hv.p_inv.bool_inv
      have hy : yielded all a.tmps j = some x := by
        unfold yielded
        rw [hd]
        have : a.tmps[d]? = some (.bool x) := by
          simp only [Array.getD_eq_getD_getElem?] at hv
          cases e : a.tmps[d]? with
          | none => rw [e] at hv; simp [undef] at hv
          | some v => rw [e] at hv; simpa using hv
        simp [this]
      rw [hy, ← h]
      cases x <;> cases want <;> rfl
    · cases h

theorem put_defers (a : Act) (d : Option Tmp) (v : Value) : (a.put d v).defers = a.defers := by cases d <;> rfl

/-- In the text's order. -/
theorem Run1.sound {P : Program} {all : Array Oper} {Q : Exit → Act → World → Prop} {C : Ctx} : ∀ {ops : List Oper} {s s' : St} {draw : Bool}, Run1 P draw all ops s s' → ∀ {m : Map} {a : Act} {w : World}, Rel C m s a.tmps w → a.defers = [] →
    (∀ m' (a' : Act) w', Rel C m' s' a'.tmps w' → a'.defers = [] → Q .normal a' w') → wpList P all Q ops a w := by
  intro ops
  induction ops with
  | nil =>
    intro s s' draw h m a w R hd hQ
    cases h
    exact hQ m a w R hd
  | cons o r ih =>
    intro s s' draw h m a w R hd hQ
    cases h with
    | cons h hr =>
      cases h with
      | skip hg hlt =>
        have hw := guardA_wanted (P := P) R hg
        refine wpList_skip hw (ih hr (m := m) ?_ (by rw [put_defers]; exact hd) hQ)
        exact R.put hlt (.dead _)
      | op av H' hg hlt h hl =>
        have hw := guardA_wanted (P := P) R hg
        refine wpList_step fun K hK => ?_
        rw [if_pos hw]
        refine h C m a w K Q R fun v m' w' R' hv => hK _ _ (ih hr (m := m') ?_ (by rw [put_defers]; exact hd) hQ)
        exact R'.put hlt hv

/-! ### In whatever order -/

def maskA (acc : List Nat) : List Edge → Nat
  | [] => 0
  | e :: es => (if Region.binds .any e then 2 ^ e.on ||| acc.getD e.on 0 else 0) ||| maskA acc es

def ancGo : List Oper → List Nat → List Nat
  | [], acc => acc
  | o :: r, acc => ancGo r (acc ++ [maskA acc o.after.toList])

/-- Of each operation those that stand ahead of it, in whatever order. -/
def anc (ops : Array Oper) : List Nat := ancGo ops.toList []

def apartB (ops : Array Oper) (x y : Oper) : Bool := x.apart ops y && !(isW x.op && isT y.op) && !(isT x.op && isW y.op)

def opAt (ops : Array Oper) (i : Nat) : Oper := ops.getD i default

theorem opAt_of {ops : Array Oper} {i : Nat} {o : Oper} (h : ops[i]? = some o) : opAt ops i = o := by simp [opAt, Array.getD_eq_getD_getElem?, h]

def drawOK (ops : Array Oper) : Bool :=
  (List.range ops.size).all fun j =>
    ((opAt ops j).after.toList.all fun e => !Region.binds .any e || e.on < j) &&
    (List.range j).all fun i => apartB ops (opAt ops i) (opAt ops j) || ((anc ops).getD j 0).testBit i

theorem maskA_spec {acc : List Nat} {i : Nat} : ∀ {es : List Edge}, (maskA acc es).testBit i = true → ∃ e ∈ es, Region.binds .any e = true ∧ (i = e.on ∨ (acc.getD e.on 0).testBit i = true)
  | [], h => by simp [maskA] at h
  | e :: es, h => by
    simp only [maskA, Nat.testBit_or, Bool.or_eq_true] at h
    rcases h with h | h
    · by_cases hb : Region.binds .any e = true
      · rw [if_pos hb, Nat.testBit_or, Bool.or_eq_true] at h
        refine ⟨e, by simp, hb, ?_⟩
        rcases h with h | h
        · left
          rw [Nat.testBit_two_pow] at h
          exact (of_decide_eq_true h).symm
        · exact .inr h
      · rw [if_neg hb] at h; simp at h
    · obtain ⟨e', he, r⟩ := maskA_spec h
      exact ⟨e', by simp [he], r⟩

theorem ancGo_acc : ∀ (l : List Oper) (acc : List Nat) (j : Nat), j < acc.length → (ancGo l acc).getD j 0 = acc.getD j 0
  | [], acc, j, _ => rfl
  | o :: r, acc, j, h => by
    simp only [ancGo]
    rw [ancGo_acc r _ j (by simp; omega)]
    simp [List.getD, List.getElem?_append_left h]

theorem ancGo_spec : ∀ (l : List Oper) (acc : List Nat) (j : Nat) (o : Oper), l[j]? = some o → (ancGo l acc).getD (acc.length + j) 0 = maskA ((ancGo l acc).take (acc.length + j)) o.after.toList
  | [], acc, j, o, h => by simp at h
  | x :: r, acc, 0, o, h => by
    simp at h; subst h
    have e : (ancGo (x :: r) acc).take acc.length = acc := by
      have hlen : ∀ (l : List Oper) (acc : List Nat), acc.length ≤ (ancGo l acc).length := by
        intro l; induction l with
        | nil => intro acc; simp [ancGo]
        | cons y r ih => intro acc; simp only [ancGo]; have := ih (acc ++ [maskA acc y.after.toList]); simp at this; omega
      apply List.ext_getElem?
      intro k
      rw [List.getElem?_take]
      by_cases hk : k < acc.length
      · rw [if_pos hk]
        have h1 := ancGo_acc (x :: r) acc k hk
        have h2 := hlen (x :: r) acc
        simp only [List.getD] at h1
        rw [List.getElem?_eq_getElem (by omega), List.getElem?_eq_getElem hk] at h1 ⊢
        simpa using h1
      · rw [if_neg hk, List.getElem?_eq_none (by omega)]
    rw [Nat.add_zero, e]
    simp only [ancGo]
    rw [ancGo_acc r _ acc.length (by simp)]
    simp [List.getD]
  | x :: r, acc, j + 1, o, h => by
    simp only [ancGo]
    have := ancGo_spec r (acc ++ [maskA acc x.after.toList]) j o (by simpa using h)
    rw [List.length_append, List.length_singleton] at this
    rw [show acc.length + (j + 1) = acc.length + 1 + j by omega]
    exact this

/-- What stands ahead of an operation whose edges are met has been carried out. -/
theorem anc_in {ops : Array Oper} {D : Nat → Prop} (hcl : ∀ j o, D j → ops[j]? = some o → ∀ e ∈ o.after.toList, Region.binds .any e = true → D e.on) :
    ∀ (n j : Nat) (o : Oper), j ≤ n → ops[j]? = some o → (∀ e ∈ o.after.toList, Region.binds .any e = true → D e.on) → ∀ i, ((anc ops).getD j 0).testBit i = true → D i := by
  intro n
  induction n with
  | zero =>
    intro j o hj ho hal i hi
    have := ancGo_spec ops.toList [] j o (by simpa using ho)
    rw [List.length_nil, Nat.zero_add] at this
    unfold anc at hi
    rw [this] at hi
    obtain ⟨e, he, hb, h⟩ := maskA_spec hi
    rcases h with rfl | h
    · exact hal e he hb
    · obtain rfl : j = 0 := by omega
      simp at h
  | succ n ih =>
    intro j o hj ho hal i hi
    have := ancGo_spec ops.toList [] j o (by simpa using ho)
    rw [List.length_nil, Nat.zero_add] at this
    unfold anc at hi
    rw [this] at hi
    obtain ⟨e, he, hb, h⟩ := maskA_spec hi
    rcases h with rfl | h
    · exact hal e he hb
    · have hD := hal e he hb
      by_cases hlt : e.on < j
      · have hx : ((anc ops).getD e.on 0).testBit i = true := by
          unfold anc
          simp only [List.getD, List.getElem?_take, hlt, if_true] at h ⊢
          exact h
        cases hoe : ops[e.on]? with
        | none =>
          exfalso
          have hl : (anc ops).getD e.on 0 = 0 := by
            have hlen : ∀ (l : List Oper) (acc : List Nat), (ancGo l acc).length = acc.length + l.length := by
              intro l; induction l with
              | nil => intro acc; simp [ancGo]
              | cons y r ih => intro acc; simp only [ancGo]; rw [ih]; simp; omega
            have h1 : ops.size ≤ e.on := by simpa using hoe
            have h2 : (anc ops).length = ops.size := by unfold anc; rw [hlen]; simp
            simp [List.getD, List.getElem?_eq_none (show (anc ops).length ≤ e.on by omega)]
          rw [hl] at hx; simp at hx
        | some o' => exact ih e.on o' (by omega) hoe (fun e' he' hb' => hcl e.on o' hD hoe e' he' hb') i hx
      · simp only [List.getD, List.getElem?_take, hlt, if_false] at h
        simp at h

end Go.Pv
