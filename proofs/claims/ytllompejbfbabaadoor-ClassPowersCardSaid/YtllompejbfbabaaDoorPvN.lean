/-
  A region's evaluation. Conditions: none; a library text.
-/
import Derived.Test.YtllompejbfbabaaDoorPvM
set_option linter.all false
namespace Go.Pv
open Go.RowKit

section
variable {P : Program} {T : TypeId → Option TI}

theorem binA_H {op : BinOp} {t : TypeId} {H : Heap} {x y : AV} {r : OV} (h : binA T op t H x y = some r) : r.H = H ∧ ∀ H2, binA T op t H2 x y = some { r with H := H2 } := by
  unfold binA at h ⊢
  split at h <;> (try split at h) <;> simp only [Option.some.injEq, reduceCtorEq] at h <;> subst h <;> exact ⟨rfl, fun _ => rfl⟩
theorem unA_H {op : UnOp} {H : Heap} {x : AV} {r : OV} (h : unA op H x = some r) : r.H = H ∧ ∀ H2, unA op H2 x = some { r with H := H2 } := by
  unfold unA at h ⊢
  split at h <;> (try split at h) <;> simp only [Option.some.injEq, reduceCtorEq] at h <;> subst h <;> exact ⟨rfl, fun _ => rfl⟩
theorem pickA_H {H : Heap} {a b x : AV} {r : OV} (h : pickA a b H x = some r) : r.H = H ∧ ∀ H2, pickA a b H2 x = some { r with H := H2 } := by
  unfold pickA at h ⊢
  split at h <;> simp only [Option.some.injEq, reduceCtorEq] at h <;> subst h <;> exact ⟨rfl, fun _ => rfl⟩
theorem convA_H {src dst : TypeId} {H : Heap} {x : AV} {r : OV} (h : convA T src dst H x = some r) : r.H = H ∧ ∀ H2, convA T src dst H2 x = some { r with H := H2 } := by
  unfold convA at h ⊢
  split at h <;> (try split at h) <;> simp only [Option.some.injEq, reduceCtorEq] at h <;> subst h <;> exact ⟨rfl, fun _ => by simp_all⟩
theorem fieldAddrA_H {ti : TI} {f : Nat} {H : Heap} {x : AV} {r : OV} (h : fieldAddrA ti f H x = some r) : r.H = H ∧ ∀ H2, fieldAddrA ti f H2 x = some { r with H := H2 } := by
  unfold fieldAddrA at h ⊢
  split at h <;> (try split at h) <;> (try split at h) <;> simp only [Option.some.injEq, reduceCtorEq] at h <;> subst h <;> exact ⟨rfl, fun _ => by simp_all⟩
theorem fieldA_H {ti : TI} {f : Nat} {H : Heap} {x : AV} {r : OV} (h : fieldA T ti f H x = some r) : r.H = H ∧ ∀ H2, fieldA T ti f H2 x = some { r with H := H2 } := by
  unfold fieldA at h ⊢
  split at h
  · split at h
    · split at h
      · rename_i tf htf
        cases hr : isRow tf.kind <;> rw [hr] at h <;> simp only [cond_true, cond_false, Option.some.injEq] at h <;> subst h <;> exact ⟨rfl, fun _ => by simp_all⟩
      · cases h
    · cases h
  · cases h
theorem indexAddrA_H {ti : TI} {H : Heap} {x y : AV} {r : OV} (h : indexAddrA T ti H x y = some r) : r.H = H ∧ ∀ H2, indexAddrA T ti H2 x y = some { r with H := H2 } := by
  unfold indexAddrA at h ⊢
  split at h <;> (try split at h) <;> (try split at h) <;> (try split at h) <;> simp only [Option.some.injEq, reduceCtorEq] at h <;> subst h <;> exact ⟨rfl, fun _ => by simp_all⟩
theorem sliceA_H {ti : TI} {H : Heap} {x : AV} {lo hi : Option AV} {r : OV} (h : sliceA T ti H x lo hi = some r) : r.H = H ∧ ∀ H2, sliceA T ti H2 x lo hi = some { r with H := H2 } := by
  unfold sliceA at h ⊢
  split at h <;> (try split at h) <;> (try split at h) <;> (try split at h) <;> simp only [Option.some.injEq, reduceCtorEq] at h <;> subst h <;> exact ⟨rfl, fun _ => by simp_all⟩
theorem extractA_H {i : Nat} {H : Heap} {x : AV} {r : OV} (h : extractA i H x = some r) : r.H = H ∧ ∀ H2, extractA i H2 x = some { r with H := H2 } := by
  unfold extractA at h ⊢
  split at h <;> simp only [Option.some.injEq, reduceCtorEq] at h <;> subst h <;> exact ⟨rfl, fun _ => rfl⟩
theorem lenA_H {ti : TI} {H : Heap} {x : AV} {r : OV} (h : lenA ti H x = some r) : r.H = H ∧ ∀ H2, lenA ti H2 x = some { r with H := H2 } := by
  unfold lenA at h ⊢
  split at h <;> (try split at h) <;> simp only [Option.some.injEq, reduceCtorEq] at h <;> subst h <;> exact ⟨rfl, fun _ => by simp_all⟩
theorem minmaxA_H {f : Int → Int → Int} {H : Heap} {l : List AV} {r : OV} (h : minmaxA f H l = some r) : r.H = H ∧ ∀ H2, minmaxA f H2 l = some { r with H := H2 } := by
  unfold minmaxA at h ⊢
  split at h <;> simp only [Option.some.injEq, reduceCtorEq] at h <;> subst h <;> exact ⟨rfl, fun _ => rfl⟩
theorem buildA_H {ti : TI} {H : Heap} {l : List (Nat × AV)} {r : OV} (h : buildA T ti H l = some r) : r.H = H ∧ ∀ H2, buildA T ti H2 l = some { r with H := H2 } := by
  unfold buildA at h ⊢
  split at h <;> (try split at h) <;> (try split at h) <;> simp only [Option.some.injEq, reduceCtorEq] at h <;> subst h <;> exact ⟨rfl, fun _ => by simp_all⟩
theorem buildSliceA_H {ti : TI} {n : Nat} {H : Heap} {l : List (Nat × AV)} {r : OV} (h : buildSliceA T ti H n l = some r) : r.H = H ∧ ∀ H2, buildSliceA T ti H2 n l = some { r with H := H2 } := by
  unfold buildSliceA at h ⊢
  split at h <;> (try split at h) <;> (try split at h) <;> simp only [Option.some.injEq, reduceCtorEq] at h <;> subst h <;> exact ⟨rfl, fun _ => by simp_all⟩
theorem loadA_H {ti : TI} {H : Heap} {x : AV} {r : OV} (h : loadA ti H x = some r) : r.H = H := by
  unfold loadA at h
  split at h
  · split at h
    · cases hr : isRow ti.kind <;> rw [hr] at h <;> simp only [cond_true, cond_false, Option.some.injEq] at h <;> subst h <;> rfl
    · cases hr : isRow ti.kind <;> rw [hr] at h <;> simp only [cond_true, cond_false, Option.some.injEq] at h <;> subst h <;> rfl
    · cases h
  · cases hr : isRow ti.kind <;> rw [hr] at h <;> simp only [cond_true, cond_false, Option.some.injEq] at h <;> subst h <;> rfl
  · cases h
theorem makeFuncA_H {f : FuncId} {H : Heap} {l : List AV} {r : OV} (h : makeFuncA f H l = some r) : r.H = H := by
  unfold makeFuncA at h
  split at h <;> simp only [Option.some.injEq, reduceCtorEq] at h
  subst h; rfl

/-- What an operation comes to hangs on its operands and on the blocks. -/
theorem opA_congr {s s2 : St} {op : Op} (h : ∀ x ∈ op.operands, s2.ev x = s.ev x) (hH : s2.H = s.H) : opA T s2 op = opA T s op := by
  have parts : ∀ ps : Array (Nat × Operand), (∀ x ∈ (ps.toList.map (·.2)).toArray, s2.ev x = s.ev x) → (ps.toList.map fun p => (p.1, s2.ev p.2)) = ps.toList.map fun p => (p.1, s.ev p.2) := by
    intro ps hp
    apply List.map_congr_left
    intro q hq
    rw [hp q.2 (by simpa using ⟨q.1, by simpa using hq⟩)]
  have opts : ∀ o : Option Operand, (∀ x ∈ o.toArray, s2.ev x = s.ev x) → o.map s2.ev = o.map s.ev := by
    intro o ho
    cases o with
    | none => rfl
    | some x => simp [ho x (by simp)]
  have lists : ∀ l : Array Operand, (∀ x ∈ l, s2.ev x = s.ev x) → l.toList.map s2.ev = l.toList.map s.ev := by
    intro l hl
    apply List.map_congr_left
    intro x hx
    exact hl x (by simpa using hx)
  cases op <;> simp only [Op.operands] at h
  case call c =>
    obtain ⟨callee, args, ts⟩ := c
    cases callee with
    | builtin b =>
      simp only [opA, hH]
      rw [lists args fun x hx => h x (by simpa [Call.operands] using hx)]
    | _ => simp [opA]
  case slice t x lo hi mx =>
    cases mx with
    | none =>
      simp only [opA, hH]
      rw [h x (by simp), opts lo fun y hy => h y (by simp at hy ⊢; simp [hy]), opts hi fun y hy => h y (by simp at hy ⊢; simp [hy])]
    | some _ => simp [opA]
  case makeFunc fn first caps =>
    cases fn with
    | func f =>
      simp only [opA, hH]
      rw [lists caps fun x hx => h x (by simp [hx])]
    | _ => simp [opA]
  case build t ps => simp only [opA, hH]; rw [parts ps fun x hx => h x hx]
  case buildSlice t n ps => simp only [opA, hH]; rw [parts ps fun x hx => h x hx]
  all_goals simp only [opA, hH]
  all_goals first | rfl | (simp only [List.mem_toArray, List.mem_cons, List.not_mem_nil, or_false, forall_eq_or_imp, forall_eq] at h; simp only [h])

/-- Who looks at no blocks turns none, and comes to the same over others. -/
theorem opA_free {s : St} {op : Op} {r : OV} (hT : isT op = false) (h : opA T s op = some r) : r.H = s.H ∧ ∀ H2, opA T { s with H := H2 } op = some { r with H := H2 } := by
  have hev : ∀ (H2 : Heap) (x : Operand), ({ s with H := H2 } : St).ev x = s.ev x := fun H2 x => by cases x <;> rfl
  have hev' : ∀ (H2 : Heap), ({ s with H := H2 } : St).ev = s.ev := fun H2 => funext (hev H2)
  cases op <;> simp only [isT, Bool.true_eq_false] at hT
  case call c =>
    obtain ⟨callee, args, ts⟩ := c
    cases callee with
    | builtin b =>
      simp only [opA, hev'] at h ⊢
      cases b <;> simp only [Bool.true_eq_false] at hT
      · unfold builtinA at h ⊢
        split at h <;> simp only [reduceCtorEq] at *
        rename_i x t
        split at h
        · exact lenA_H h
        · cases h
      · simp only [builtinA] at h ⊢
        exact minmaxA_H h
      · simp only [builtinA] at h ⊢
        exact minmaxA_H h
    | _ => simp [opA] at h
  all_goals simp only [opA, hev'] at h ⊢
  case move => cases h; exact ⟨rfl, fun _ => rfl⟩
  case assign => cases h; exact ⟨rfl, fun _ => rfl⟩
  case pick => exact pickA_H h
  case binOp => exact binA_H h
  case unOp => exact unA_H h
  case convert => exact convA_H h
  case extract => exact extractA_H h
  case fieldAddr =>
    split at h
    · exact fieldAddrA_H h
    · cases h
  case field =>
    split at h
    · rename_i x _ _ _ _
      cases hl : (s.ev x).isAgg <;> rw [hl] at h
      · cases h
      · simp only [cond_true] at h ⊢; exact fieldA_H h
    · cases h
  case indexAddr =>
    split at h
    · exact indexAddrA_H h
    · cases h
  case slice t x lo hi mx =>
    cases mx with
    | none =>
      simp only at h ⊢
      split at h
      · exact sliceA_H h
      · cases h
    | some _ => simp at h
  case build =>
    split at h
    · exact buildA_H h
    · cases h
  case buildSlice =>
    split at h
    · exact buildSliceA_H h
    · cases h

/-- Who is no writer turns no blocks. -/
theorem opA_calm {s : St} {op : Op} {r : OV} (hW : isW op = false) (h : opA T s op = some r) : r.H = s.H := by
  by_cases hT : isT op = false
  · exact (opA_free hT h).1
  · rw [Bool.not_eq_false] at hT
    cases op <;> simp only [isT, isW, Bool.true_eq_false, Bool.false_eq_true] at hT hW
    case load =>
      simp only [opA] at h
      split at h
      · exact loadA_H h
      · cases h
    case makeFunc fn first caps =>
      cases fn with
      | func f =>
        simp only [opA] at h
        cases hf : first.isEmpty <;> rw [hf] at h
        · cases h
        · exact makeFuncA_H h
      | _ => simp [opA] at h
    case call c =>
      obtain ⟨callee, args, ts⟩ := c
      cases callee with
      | builtin b =>
        simp only [opA] at h
        unfold builtinA at h
        split at h <;> simp_all
      | _ => simp [opA] at h
    all_goals simp [opA] at h

theorem opA_loc (hT : ∀ t ti, T t = some ti → tiOf P t = some ti) {o : Oper} {s : St} {r : OV} (h : opA T s o.op = some r) (hvc : r.vc) : Loc1 P o s r.av r.H := by
  refine ⟨fun s2 hn ha hH => ?_, fun hf => ⟨(opA_free hf h).1, fun s2 hn ha => ?_⟩, fun hw => opA_calm hw h⟩
  · have := opA_congr (T := T) ha hH
    rw [h] at this
    exact (opA_does hT this hvc).wp
  · have h1 := (opA_free hf h).2 s2.H
    have := opA_congr (T := T) (s := { s with H := s2.H }) (s2 := s2) (op := o.op) (fun x hx => by rw [ha x hx]; cases x <;> rfl) rfl
    rw [h1] at this
    exact (opA_does hT this hvc).wp

/-! ### The evaluation -/

inductive X where
  | run (vc : Prop) (s : St)
  | stop (vc : Prop) (rest : List Oper) (s : St)

def dstOk (s : St) : Option Tmp → Prop
  | none => True
  | some t => t < s.n

/-- The state behind an operation. -/
def after (o : Oper) (s : St) (r : OV) : St := ({ s with H := r.H } : St).put o.dst r.av

def xstep (T : TypeId → Option TI) (all : Array Oper) (o : Oper) (rest : List Oper) (vc : Prop) (s : St) : X :=
  match guardA all s o with
  | some true =>
    match opA T s o.op with
    | some r => .run (vc ∧ dstOk s o.dst ∧ r.vc) (after o s r)
    | none => .stop vc (o :: rest) s
  | some false => .run (vc ∧ dstOk s o.dst) (s.put o.dst .dead)
  | none => .stop vc (o :: rest) s

def aops (T : TypeId → Option TI) (all : Array Oper) : List Oper → X → X
  | [], x => x
  | o :: r, .run vc s => aops T all r (xstep T all o r vc s)
  | _ :: _, .stop vc rest s => .stop vc rest s

/-- From here on the region runs to where K holds. -/
def Runs (P : Program) (draw : Bool) (all : Array Oper) (rest : List Oper) (K : St → Prop) (s : St) : Prop := ∃ s', Run1 P draw all rest s s' ∧ K s'

def fin (P : Program) (draw : Bool) (all : Array Oper) (K : St → Prop) : X → Prop
  | .run vc s => vc ∧ K s
  | .stop vc rest s => vc ∧ Runs P draw all rest K s

theorem dstOk_spec {s : St} {d : Option Tmp} (h : dstOk s d) : ∀ t, d = some t → t < s.n := by
  rintro t rfl; exact h

theorem aops_stop (all : Array Oper) (l : List Oper) (vc : Prop) (rest : List Oper) (s : St) : aops T all l (.stop vc rest s) = .stop vc rest s := by cases l <;> rfl

theorem aops_sound (hT : ∀ t ti, T t = some ti → tiOf P t = some ti) {draw : Bool} {all : Array Oper} {K : St → Prop} : ∀ (ops : List Oper) (vc : Prop) (s : St), fin P draw all K (aops T all ops (.run vc s)) → vc ∧ Runs P draw all ops K s
  | [], vc, s, h => ⟨h.1, s, .nil s, h.2⟩
  | o :: r, vc, s, h => by
    simp only [aops, xstep] at h
    split at h
    · rename_i hg
      split at h
      · rename_i ov hov
        obtain ⟨⟨h1, h2, h3⟩, s', hr, hK⟩ := aops_sound hT r _ _ h
        exact ⟨h1, s', .cons (.op s ov.av ov.H hg (dstOk_spec h2) (opA_does hT hov h3).wp fun _ => opA_loc hT hov h3) hr, hK⟩
      · rw [aops_stop] at h; exact h
    · rename_i hg
      obtain ⟨⟨h1, h2⟩, s', hr, hK⟩ := aops_sound hT r _ _ h
      exact ⟨h1, s', .cons (.skip s hg (dstOk_spec h2)) hr, hK⟩
    · rw [aops_stop] at h; exact h

/-- THE WORD OF THE WALK: a region's rest, evaluated. -/
theorem runs_eval (hT : ∀ t ti, T t = some ti → tiOf P t = some ti) {draw : Bool} {all : Array Oper} {rest : List Oper} {K : St → Prop} {s : St} (h : fin P draw all K (aops T all rest (.run True s))) : Runs P draw all rest K s :=
  (aops_sound hT rest True s h).2

end

end Go.Pv
