/-
  Literals; and all operations in one law. Conditions: none; a library text.
-/
import Derived.Test.YtllompejbfbabaaDoorPvJ
set_option linter.all false
namespace Go.Pv
open Go.RowKit

theorem lay_size : ∀ (vs : List (Value × Nat)) (off : Nat) (cs : Array Value), (vs.foldl (fun cs (x : Value × Nat) => cs.setIfInBounds (off + x.2) x.1) cs).size = cs.size
  | [], _, _ => rfl
  | x :: r, off, cs => by simp only [List.foldl_cons]; rw [lay_size r off]; simp

theorem lay_getD : ∀ (vs : List Value) (k off : Nat) (cs : Array Value) (q : Nat), off + k + vs.length ≤ cs.size →
    ((vs.zipIdx k).foldl (fun cs (x : Value × Nat) => cs.setIfInBounds (off + x.2) x.1) cs).getD q undef = if off + k ≤ q ∧ q < off + k + vs.length then vs.getD (q - (off + k)) undef else cs.getD q undef
  | [], k, off, cs, q, _ => by rw [if_neg (by simp)]; rfl
  | x :: r, k, off, cs, q, h => by
    simp only [List.length_cons] at h
    simp only [List.zipIdx_cons, List.foldl_cons]
    rw [lay_getD r (k + 1) off _ q (by simp; omega)]
    by_cases h1 : off + (k + 1) ≤ q ∧ q < off + (k + 1) + r.length
    · rw [if_pos h1, if_pos (by simp only [List.length_cons]; omega)]
      rw [show q - (off + k) = (q - (off + (k + 1))) + 1 by omega]
      simp [List.getD]
    · rw [if_neg h1]
      by_cases h2 : q = off + k
      · subst h2
        rw [if_pos (by simp only [List.length_cons]; omega)]
        simp [Array.getD_eq_getD_getElem?, Array.getElem?_setIfInBounds_self_of_lt (show off + k < cs.size by omega)]
      · rw [if_neg (by simp only [List.length_cons]; omega)]
        simp [Array.getD_eq_getD_getElem?, Array.getElem?_setIfInBounds_ne (Ne.symm h2)]

section
variable {P : Program} {T : TypeId → Option TI} (hT : ∀ t ti, T t = some ti → tiOf P t = some ti) {C : Ctx} {m : Map} {s : St} {a : Act} {w w' : World}

/-- One part is laid. -/
theorem lay_part {ok : Nat → Prop} {c : List AV} {cs : Array Value} {x : AV} {v : Value} {off sz : Nat} (hs : cs.size = c.length) (hc : ∀ j (h : j < c.length), AVal (Reads ok w) m s.H c[j] (cs.getD j undef)) (hv : AVal (Reads ok w) m s.H x v)
    (h1 : x.cells.length = sz) (h2 : off + sz ≤ c.length) (h3 : x.cells.all cellOk = true) :
    ∃ cs', (if v.cells.size ≠ sz || off + v.cells.size > cs.size then none else some (v.cells.zipIdx.foldl (fun cs (x : Value × Nat) => cs.setIfInBounds (off + x.2) x.1) cs)) = some cs' ∧ cs'.size = (setC c off x.cells).length ∧
      ∀ j (h : j < (setC c off x.cells).length), AVal (Reads ok w) m s.H (setC c off x.cells)[j] (cs'.getD j undef) := by
  obtain ⟨v1, v2, v3⟩ := cells_val h3 hv
  have e1 : (decide (v.cells.size ≠ sz) || decide (off + v.cells.size > cs.size)) = false := by
    simp only [Bool.or_eq_false_iff, decide_eq_false_iff_not]; omega
  have hl : (setC c off x.cells).length = c.length := setC_length _ _ _ (by omega)
  refine ⟨v.cells.zipIdx.foldl (fun cs (x : Value × Nat) => cs.setIfInBounds (off + x.2) x.1) cs, by simp only [e1, Bool.false_eq_true, if_false], ?_, ?_⟩
  · rw [← Array.foldl_toList, Array.toList_zipIdx, lay_size, hs, hl]
  · refine setC_val (by omega) (fun j hj hn => ?_) fun j hj => ?_
    · rw [← Array.foldl_toList, Array.toList_zipIdx, lay_getD _ 0 off _ _ (by simp; omega), if_neg (by simp; omega)]
      exact hc j hj
    · rw [← Array.foldl_toList, Array.toList_zipIdx, lay_getD _ 0 off _ _ (by simp; omega), if_pos (by simp; omega)]
      have := v2 j hj
      have e : v.cells.toList.getD (off + j - (off + 0)) undef = v.cells.getD j undef := by
        rw [show off + j - (off + 0) = j by omega]
        simp [List.getD, Array.getD_eq_getD_getElem?]
      rw [e]
      exact this

theorem fillA_run (R : Rel C m s a.tmps w) (place : Nat → Option (Nat × Nat)) : ∀ (parts : List (Nat × Operand)) {c c' : List AV} {cs : Array Value} {p : Prop}, cs.size = c.length → (∀ j (h : j < c.length), AVal (Reads (OK C m s.H w) w) m s.H c[j] (cs.getD j undef)) →
    fillA place c (parts.map fun q => (q.1, s.ev q.2)) = some (p, c') → p → ∃ cs', Instr.fill place cs (parts.map fun q => (q.1, a.eval q.2)) = some cs' ∧ cs'.size = c'.length ∧ ∀ j (h : j < c'.length), AVal (Reads (OK C m s.H w) w) m s.H c'[j] (cs'.getD j undef)
  | [], c, c', cs, p, hs, hc, h, _ => by
    simp only [List.map_nil, fillA, Option.some.injEq, Prod.mk.injEq] at h
    obtain ⟨_, rfl⟩ := h
    exact ⟨cs, rfl, hs, hc⟩
  | (i, x) :: r, c, c', cs, p, hs, hc, h, hp => by
    simp only [List.map_cons, fillA] at h
    split at h
    · rename_i off sz hpl
      split at h <;> simp only [Option.some.injEq, Prod.mk.injEq, reduceCtorEq] at h
      rename_i p2 c2 hf
      obtain ⟨rfl, rfl⟩ := h
      obtain ⟨⟨g1, g2, g3⟩, g4⟩ := hp
      obtain ⟨cs1, e1, e2, e3⟩ := lay_part hs hc (R.ev x) g1 g2 g3
      obtain ⟨cs2, f1, f2, f3⟩ := fillA_run R place r e2 e3 hf g4
      refine ⟨cs2, ?_, f2, f3⟩
      simp only [List.map_cons, Instr.fill, hpl]
      split at e1
      · cases e1
      · rename_i hne
        rw [if_neg (by simpa using hne)]
        simp only [Option.some.injEq] at e1
        subst e1
        exact f1
    · cases h

theorem places_run {fs : Array Field} (h : ∀ f ∈ fs.toList, (P.info? f.type).isSome = true) : (fs.mapM (fun f => do pure (f.offset, ← sizeOf f.type) : Field → Sem (Nat × Nat))).run P w = .ok (fs.map fun f => (f.offset, P.cellsOf f.type)) w := by
  rw [Array.mapM_eq_mapM_toList]
  have key : ∀ l : List Field, (∀ f ∈ l, (P.info? f.type).isSome = true) → (l.mapM (fun f => do pure (f.offset, ← sizeOf f.type) : Field → Sem (Nat × Nat))).run P w = .ok (l.map fun f => (f.offset, P.cellsOf f.type)) w := by
    intro l
    induction l with
    | nil => intro _; rfl
    | cons f r ih =>
      intro h
      obtain ⟨i, hi⟩ := Option.isSome_iff_exists.1 (h f (by simp))
      have := ih (fun g hg => h g (by simp [hg]))
      simp [List.mapM_cons, sizeOf, typeInfo, hi, Program.cellsOf] at this ⊢
      rw [this]
      simp
  rw [Sem.run_map, key _ h]
  simp only [Result.andThen_ok]
  rw [← Array.toList_map, Array.toArray_toList]

include hT in
theorem buildA_does (R : Rel C m s a.tmps w) {o : Oper} {t : TypeId} {parts : Array (Nat × Operand)} (ho : o.op = .build t parts) {ti : TI} (ht : T t = some ti) {r : OV} (h : buildA T ti s.H (parts.toList.map fun q => (q.1, s.ev q.2)) = some r) (hvc : r.vc) :
    r.H = s.H ∧ ∃ v, (execOp a.eval o).run P w = .ok (.value v) w ∧ AVal (Reads (OK C m s.H w) w) m s.H r.av v := by
  obtain ⟨i, d, z, h1, h2, h3, h4, h5, h6, h7, h8⟩ := tiOf_parts (hT _ _ ht)
  have hz : z.cells.size = (ti.zero.map cv).length := by rw [← h6]; simp
  have hc : ∀ j (h : j < (ti.zero.map cv).length), AVal (Reads (OK C m s.H w) w) m s.H (ti.zero.map cv)[j] (z.cells.getD j undef) := by
    intro j hj
    simp only [List.length_map] at hj
    have e : z.cells.getD j undef = ti.zero[j] := by
      have : ti.zero[j]? = z.cells[j]? := by rw [← h6]; simp
      rw [List.getElem?_eq_getElem hj] at this
      simp [Array.getD_eq_getD_getElem?, ← this]
    rw [List.getElem_map, e]
    exact cv_val _
  have hpt : (parts.map fun q => (q.1, a.eval q.2)).toList = parts.toList.map fun q => (q.1, a.eval q.2) := by simp
  unfold buildA at h
  split at h
  · rename_i l hk
    obtain ⟨fs, hu, hfs, hin⟩ := ti_struct (hT _ _ ht) hk
    split at h <;> simp only [Option.some.injEq, reduceCtorEq] at h
    rename_i p c hf
    subst h
    obtain ⟨cs, e1, e2, e3⟩ := fillA_run R _ parts.toList hz hc hf hvc
    have hpl : (fun i => (l[i]?).map fun (f : Nat × TypeId × Nat) => (f.1, f.2.2)) = fun (i : Nat) => (fs.map fun f => (f.offset, P.cellsOf f.type))[i]? := by
      funext i
      subst hfs
      simp only [List.getElem?_map, Array.getElem?_map, Option.map_map, Array.getElem?_toList]
      rfl
    rw [hpl] at e1
    refine ⟨rfl, .agg cs, ?_, mkAgg_val e2 e3⟩
    have hpr := places_run (P := P) (w := w) hin
    simp only [execOp, ho, Instr.build, Sem.run_bind, zeroValue, typeInfo, run_program, Result.andThen_ok, h1, Sem.run_pure, h3, run_underlying hu, hpr, hpt, e1]
  · rename_i n e hk
    have hu := ti_array (hT _ _ ht) hk
    split at h
    · rename_i te hte
      split at h <;> simp only [Option.some.injEq, reduceCtorEq] at h
      rename_i p c hf
      subst h
      obtain ⟨cs, e1, e2, e3⟩ := fillA_run R _ parts.toList hz hc hf hvc
      have hss := ti_size (hT _ _ hte) w
      refine ⟨rfl, .agg cs, ?_, mkAgg_val e2 e3⟩
      simp only [execOp, ho, Instr.build, Sem.run_bind, zeroValue, typeInfo, run_program, Result.andThen_ok, h1, Sem.run_pure, h3, run_underlying hu, hss, hpt, e1]
    · cases h
  · cases h

theorem cells_p (v : PV) : (AV.p v).cells = v.cells.map .p := by cases v <;> rfl

theorem partsA_run (R : Rel C m s a.tmps w) (sz : Nat) : ∀ (parts : List (Nat × Operand)) (n : Nat) {l : List PV} {cs : Array Value} {p : Prop}, partsA sz n (parts.map fun q => (q.1, s.ev q.2)) = some (p, l) → p → (n + l.length) * sz ≤ cs.size →
    (∀ x ∈ l, x.cells.length = sz) ∧ ∃ cs', Instr.fill (fun i => some (i * sz, sz)) cs (parts.map fun q => (q.1, a.eval q.2)) = some cs' ∧ cs'.size = cs.size ∧ (∀ q, q < n * sz → cs'.getD q undef = cs.getD q undef) ∧
      ∀ c (h : c < (flat l).length), Reads (OK C m s.H w) w (flat l)[c] (cs'.getD (n * sz + c) undef)
  | [], n, l, cs, p, h, _, _ => by
    simp only [List.map_nil, partsA, Option.some.injEq, Prod.mk.injEq] at h
    obtain ⟨_, rfl⟩ := h
    exact ⟨by simp, cs, rfl, rfl, fun _ _ => rfl, fun c h => by simp [flat] at h⟩
  | (i, x) :: r, n, l, cs, p, h, hp, hsz => by
    simp only [List.map_cons] at h
    unfold partsA at h
    split at h
    · rename_i e; simp at e
    · rename_i q0 i' v r' e
      simp only [List.cons.injEq, Prod.mk.injEq] at e
      obtain ⟨⟨rfl, hv⟩, rfl⟩ := e
      split at h <;> simp only [Option.some.injEq, Prod.mk.injEq, reduceCtorEq] at h
      rename_i p2 l2 hr
      obtain ⟨rfl, rfl⟩ := h
      obtain ⟨⟨g1, g2, g3⟩, g4⟩ := hp
      subst g1
      have hx := R.ev x
      rw [hv] at hx
      have hok : (AV.p v).cells.all cellOk = true := by
        rw [cells_p, List.all_map]
        exact g3
      obtain ⟨v1, v2, v3⟩ := cells_val hok hx
      rw [cells_p, List.length_map] at v1
      simp only [List.length_cons] at hsz
      have hmul : (i + 1 + l2.length) * sz = i * sz + sz + l2.length * sz := by rw [Nat.add_mul, Nat.add_mul, Nat.one_mul]
      rw [show i + (l2.length + 1) = i + 1 + l2.length by omega] at hsz
      generalize hcs1 : (a.eval x).cells.zipIdx.foldl (fun cs (x : Value × Nat) => cs.setIfInBounds (i * sz + x.2) x.1) cs = cs1
      have hs1 : cs1.size = cs.size := by rw [← hcs1, ← Array.foldl_toList, Array.toList_zipIdx, lay_size]
      have hg1 : ∀ q, cs1.getD q undef = if i * sz ≤ q ∧ q < i * sz + sz then (a.eval x).cells.getD (q - i * sz) undef else cs.getD q undef := by
        intro q
        rw [← hcs1, ← Array.foldl_toList, Array.toList_zipIdx, lay_getD _ 0 _ _ _ (by simp; omega)]
        simp only [Nat.add_zero, Array.length_toList, v1, g2]
        split
        · simp [List.getD, Array.getD_eq_getD_getElem?]
        · rfl
      obtain ⟨k1, cs', k2, k3, k4, k5⟩ := partsA_run R sz r (i + 1) (cs := cs1) hr g4 (by rw [hs1]; exact hsz)
      refine ⟨fun y hy => ?_, cs', ?_, by rw [k3, hs1], fun q hq => ?_, fun c hc => ?_⟩
      · rcases List.mem_cons.1 hy with rfl | hy
        · exact g2
        · exact k1 y hy
      · simp only [List.map_cons, Instr.fill]
        rw [if_neg (by simp only [Bool.or_eq_true, decide_eq_true_eq, ne_eq, not_or, Decidable.not_not]; constructor <;> omega)]
        have : (a.eval x).cells.zipIdx.foldl (fun cs (x : Value × Nat) => match x with | (c, j) => cs.setIfInBounds (i * sz + j) c) cs = cs1 := hcs1
        rw [this]
        exact k2
      · rw [k4 q (by rw [Nat.add_mul]; omega), hg1, if_neg (by omega)]
      · simp only [flat, List.length_append] at hc ⊢
        by_cases hcv : c < v.cells.length
        · rw [k4 _ (by rw [Nat.add_mul]; omega), hg1, if_pos (by omega), List.getElem_append_left hcv, Nat.add_sub_cancel_left]
          have h2 := v2 c (by rw [cells_p, List.length_map]; exact hcv)
          simp only [cells_p, List.getElem_map] at h2
          exact h2.p_inv
        · rw [List.getElem_append_right (by omega)]
          have := k5 (c - v.cells.length) (by omega)
          rwa [show (i + 1) * sz + (c - v.cells.length) = i * sz + c by rw [Nat.add_mul]; omega] at this
    · cases h

include hT in
theorem buildSliceA_does (R : Rel C m s a.tmps w) {o : Oper} {t : TypeId} {n : Nat} {parts : Array (Nat × Operand)} (ho : o.op = .buildSlice t n parts) {ti : TI} (ht : T t = some ti) {r : OV} (h : buildSliceA T ti s.H n (parts.toList.map fun q => (q.1, s.ev q.2)) = some r) (hvc : r.vc) :
    r.H = s.H ∧ ∃ v w', (execOp a.eval o).run P w = .ok (.value v) w' ∧ Below w.heap.size w w' ∧ AVal (Reads (OK C m s.H w') w') m s.H r.av v := by
  unfold buildSliceA at h
  split at h
  · rename_i e hk
    have hu := ti_slice (hT _ _ ht) hk
    split at h
    · rename_i te hte
      obtain ⟨i, d, z, h1, h2, h3, h4, h5, h6, h7, h8⟩ := tiOf_parts (hT _ _ hte)
      split at h <;> simp only [Option.some.injEq, reduceCtorEq] at h
      rename_i p l hp
      subst h
      obtain ⟨g1, g2, g3, g4⟩ := hvc
      have key : ∀ z0 : Array Value, ∃ cs', (∀ x ∈ l, x.cells.length = te.size) ∧ Instr.fill (fun i => some (i * te.size, te.size)) ((Array.range (n * te.size)).map (z0[· % z0.size]!)) (parts.toList.map fun q => (q.1, a.eval q.2)) = some cs' ∧ cs'.size = n * te.size ∧
          ∀ c (h : c < (flat l).length), Reads (OK C m s.H w) w (flat l)[c] (cs'.getD c undef) := by
        intro z0
        obtain ⟨k1, cs', k2, k3, _, k5⟩ := partsA_run R te.size parts.toList 0 (cs := (Array.range (n * te.size)).map (z0[· % z0.size]!)) hp g1 (by simp [g2])
        exact ⟨cs', k1, k2, by rw [k3]; simp, fun c hc => by have := k5 c hc; rwa [Nat.zero_mul, Nat.zero_add] at this⟩
      obtain ⟨cs', k1, k2, k3, k5⟩ := key (if n * te.size = 0 then #[] else z.cells)
      have hss := ti_size (hT _ _ hte) w
      have hfl := flat_length_eq te.size l k1
      refine ⟨rfl, .slice (some ⟨w.heap.size, 0, none⟩) n n, w.alloc (.cells cs' e), ?_, below_alloc _, .p _ _ ?_⟩
      · have hpt : (parts.map fun q => (q.1, a.eval q.2)).toList = parts.toList.map fun q => (q.1, a.eval q.2) := by simp
        have hne : ¬ (n * te.size > 2 ^ 24) := by omega
        by_cases hz : n * te.size = 0
        · rw [if_pos hz] at k2
          simp only [execOp, ho, Instr.buildSlice, Sem.run_bind, run_underlying hu, Result.andThen_ok, hss, Sem.run_ite, hz, if_true, Sem.run_pure, newRow] at k2 ⊢
          simp only [hpt, k2, Sem.run_bind, run_newObj, Result.andThen_ok, Sem.run_pure]
          rfl
        · rw [if_neg hz] at k2
          simp only [execOp, ho, Instr.buildSlice, Sem.run_bind, run_underlying hu, Result.andThen_ok, hss, Sem.run_ite, hne, if_false, hz, zeroValue, typeInfo, run_program, h1, h3, Sem.run_pure, newRow] at k2 ⊢
          simp only [hpt, k2, Sem.run_bind, run_newObj, Result.andThen_ok, Sem.run_pure]
          rfl
      · rw [← g2]
        have hok : OK C m s.H (w.alloc (.cells cs' e)) w.heap.size := by
          refine ⟨.inr R.base, by simp, fun k c l' hkc hl e' => ?_⟩
          rcases R.blk k c hkc with ⟨_, hn⟩ | ⟨l2, cur, e2, hl2, _, hg, _⟩
          · rw [hl] at hn; cases hn
          · rw [hl] at hl2; cases hl2
            have := (Array.getElem?_eq_some_iff.1 hg).1
            omega
        have hb : Below w.heap.size w (w.alloc (.cells cs' e)) := below_alloc _
        refine .nn l w.heap.size 0 te.size (fun c => cs'.getD c undef) hok k1 (fun c hc => ?_) fun c hc => ?_
        · rw [Nat.zero_add]
          exact cell_of (heap_alloc_new w _) (by rw [k3, ← g2, ← hfl]; exact hc)
        · exact (k5 c hc).ext (Rel.okExt hb) (fun b h => hb.block b h.2.1)
    · cases h
  · cases h

theorem minmaxA_does (R : Rel C m s a.tmps w) {o : Oper} {ts : Array TypeId} {xs : Array Operand} {b : Builtin} {f : Int → Int → Int} (hb : (b = .min ∧ f = fun a b => if b < a then b else a) ∨ (b = .max ∧ f = fun a b => if b > a then b else a))
    (ho : o.op = .call { callee := .builtin b, args := xs, argTypes := ts }) {r : OV} (h : minmaxA f s.H (xs.toList.map s.ev) = some r) :
    r.H = s.H ∧ ∃ v, (execOp a.eval o).run P w = .ok (.value v) w ∧ AVal (Reads (OK C m s.H w) w) m s.H r.av v := by
  obtain ⟨dst, op, type, pos, after, guard⟩ := o
  simp only at ho
  subst ho
  unfold minmaxA at h
  split at h <;> simp only [Option.some.injEq, reduceCtorEq] at h
  rename_i p q hpq
  subst h
  obtain ⟨l⟩ := xs
  rcases l with _ | ⟨x, _ | ⟨y, _ | ⟨u, l⟩⟩⟩ <;> simp only [List.map_cons, List.map_nil, List.cons.injEq, and_true, reduceCtorEq, and_false] at hpq
  · have ex := eval_int R hpq.1
    have ey := eval_int R hpq.2
    rcases hb with ⟨rfl, rfl⟩ | ⟨rfl, rfl⟩
    · exact ⟨rfl, .int .i64 (if q < p then q else p), by simp [BigFrame.execOp_builtin, BigFrame.builtin_min, Builtin.min_, Builtin.min2, ex, ey], .p _ _ (.int _ _)⟩
    · exact ⟨rfl, .int .i64 (if q > p then q else p), by simp [BigFrame.execOp_builtin, BigFrame.builtin_max, Builtin.max_, Builtin.max2, ex, ey], .p _ _ (.int _ _)⟩

include hT in
/-- ALL OPERATIONS: what is reckoned is what the model does. -/
theorem opA_does {o : Oper} {r : OV} (h : opA T s o.op = some r) (hvc : r.vc) : Does P o s r.av r.H := by
  intro C m a w R
  have pure : ∀ {r : OV}, (r.H = s.H ∧ ∃ v, (execOp a.eval o).run P w = .ok (.value v) w ∧ AVal (Reads (OK C m s.H w) w) m s.H r.av v) →
      ∃ v w' m', Yields P o a w v w' ∧ Rel C m' { s with H := r.H } a.tmps w' ∧ AVal (Reads (OK C m' r.H w') w') m' r.H r.av v := by
    rintro r ⟨e, v, hr, hv⟩
    rw [e]
    exact still R hr hv
  generalize hop : o.op = op at h
  unfold opA at h
  split at h
  · cases h; exact still R (by simp [execOp, hop]) (R.ev _)
  · cases h; exact still R (by simp [execOp, hop]) (R.ev _)
  · exact pure (pickA_does R hop h)
  · exact pure (binA_does hT R hop h hvc)
  · exact pure (unA_does R hop h hvc)
  · exact pure (convA_does hT R hop h)
  · split at h
    · rename_i ti ht; exact pure (loadA_does hT R hop ht h hvc)
    · cases h
  · split at h
    · rename_i ti ht; exact storeA_does hT R hop ht h hvc
    · cases h
  · split at h
    · rename_i ti ht; exact pure (fieldAddrA_does hT R hop ht h hvc)
    · cases h
  · split at h
    · rename_i ti ht
      cases hl : (s.ev _).isAgg <;> rw [hl] at h
      · cases h
      · exact pure (fieldA_does hT R hop ht hl h hvc)
    · cases h
  · split at h
    · rename_i ti ht; exact pure (indexAddrA_does hT R hop ht h hvc)
    · cases h
  · split at h
    · rename_i ti ht; exact pure (sliceA_does hT R hop ht h hvc)
    · cases h
  · split at h
    · rename_i ti ht; cases h; exact allocA_does hT R hop ht hvc
    · cases h
  · cases h; exact boxA_does R hop hvc
  · split at h
    · rename_i ti ht; exact makeSliceA_does hT R hop ht h hvc
    · cases h
  · split at h
    · rename_i ti ht; exact pure (buildA_does hT R hop ht h hvc)
    · cases h
  · split at h
    · rename_i ti ht
      obtain ⟨e, v, w', hr, hb, hv⟩ := buildSliceA_does hT R hop ht h hvc
      rw [e]
      exact ⟨v, w', m, .inl hr, R.later hb, hv⟩
    · cases h
  · exact pure (extractA_does R hop h hvc)
  · rename_i f first caps
    cases hl : first.isEmpty <;> rw [hl] at h
    · cases h
    · exact pure (makeFuncA_does R hop hl h hvc)
  · rename_i b args ts
    obtain ⟨args⟩ := args
    obtain ⟨ts⟩ := ts
    simp only [builtinA] at h
    split at h
    · rename_i x t hargs
      rcases args with _ | ⟨x', _ | ⟨u, l⟩⟩ <;> simp only [List.map_cons, List.map_nil, List.cons.injEq, and_true, reduceCtorEq, and_false] at hargs
      split at h
      · rename_i ti ht
        rw [← hargs] at h
        exact pure (lenA_does hT R hop ht h)
      · cases h
    · rename_i x y t t' hargs
      rcases args with _ | ⟨x', _ | ⟨y', _ | ⟨u, l⟩⟩⟩ <;> simp only [List.map_cons, List.map_nil, List.cons.injEq, and_true, reduceCtorEq, and_false] at hargs
      split at h
      · rename_i ti ht
        split at h
        · rename_i e
          subst e
          rw [← hargs.1, ← hargs.2] at h
          exact appendA_does hT R hop ht h hvc
        · cases h
      · cases h
    · exact pure (minmaxA_does R (.inl ⟨rfl, rfl⟩) hop h)
    · exact pure (minmaxA_does R (.inr ⟨rfl, rfl⟩) hop h)
    · cases h
  · cases h

end

end Go.Pv
