/-
  Loads, lengths, function values, aggregates. Conditions: none; a library text.
-/
import Derived.Test.YtllompejbfbabaaDoorPvF
set_option linter.all false
namespace Go.Pv
open Go.RowKit

theorem cell_of {w : World} {g : Nat} {cur : Array Value} {e : TypeId} {fr : Nat × Nat} (h : w.heap[g]? = some (.cells cur e fr)) {j : Nat} (hj : j < cur.size) : w.cell? ⟨g, j, none⟩ = some (cur.getD j undef) := by
  simp [World.cell?, h, Array.getD_eq_getD_getElem?, Array.getElem?_eq_getElem hj]

theorem cells_one {p : PV} (h : p.one = true) : p.cells = [p] := by cases p <;> simp_all [PV.one, PV.cells]

section
variable {P : Program} {T : TypeId → Option TI} (hT : ∀ t ti, T t = some ti → tiOf P t = some ti) {C : Ctx} {m : Map} {s : St} {a : Act} {w : World}

include hT in
/-- What a load gives, where the cells are known. -/
theorem load_run {t : TypeId} {ti : TI} (ht : T t = some ti) {b off : Nat} {f : Nat → Value} (hc : ∀ j, j < (if isRow ti.kind then ti.size else 1) → w.cell? ⟨b, off + j, none⟩ = some (f j)) :
    (loadVar t ⟨b, off, none⟩).run P w = .ok (if isRow ti.kind then .agg ((List.range ti.size).map f).toArray else f 0) w := by
  have hag := ti_isAgg (hT _ _ ht) w
  have hss := ti_size (hT _ _ ht) w
  cases hr : isRow ti.kind <;> rw [hr] at hag hc
  · have := hc 0 (by simp)
    rw [Nat.add_zero] at this
    simp [loadVar, hag, run_load, this]
  · have := run_loadCells (P := P) (w := w) ⟨b, off, none⟩ ti.size f (fun j hj => by rw [add_lit]; exact hc j (by simpa using hj))
    simp [loadVar, hag, hss, this]

include hT in
theorem loadA_does (R : Rel C m s a.tmps w) {o : Oper} {t : TypeId} {x : Operand} (ho : o.op = .load t x) {ti : TI} (ht : T t = some ti) {r : OV} (h : loadA ti s.H (s.ev x) = some r) (hvc : r.vc) :
    r.H = s.H ∧ ∃ v, (execOp a.eval o).run P w = .ok (.value v) w ∧ AVal (Reads (OK C m s.H w) w) m s.H r.av v := by
  have hx := R.ev x
  have run : ∀ (b off : Nat) (v : Value), a.eval x = .pointer (some ⟨b, off, none⟩) → (loadVar t ⟨b, off, none⟩).run P w = .ok v w → (execOp a.eval o).run P w = .ok (.value v) w := by
    intro b off v h1 h2
    simp [execOp, ho, h1, Instr.loadAt, Instr.sureAddr, h2]
  unfold loadA at h
  split at h
  · rename_i k i hxe
    rw [hxe] at hx
    generalize hv : a.eval x = v at hx
    cases hx with
    | ptr _ _ _ hk' hp =>
      split at h
      · rename_i c hg
        obtain ⟨l', hm, rfl⟩ := hp
        rcases R.blk k c (hget_mut hg) with ⟨_, hn⟩ | ⟨l, cur, e, hm2, hB, hh, hs1, _, hs2, hcells⟩
        · rw [hm] at hn; cases hn
        · rw [hm] at hm2; cases hm2
          have hcell : ∀ j, i + j < c.length → w.cell? ⟨l'.g, l'.o + i + j, none⟩ = some (cur.getD (l'.o + i + j) undef) := fun j hj => cell_of hh (by omega)
          cases hrow : isRow ti.kind <;> rw [hrow] at h <;> simp only [cond_true, cond_false, Option.some.injEq] at h <;> subst h
          · have hr := load_run (P := P) (w := w) hT ht (b := l'.g) (off := l'.o + i) (f := fun j => cur.getD (l'.o + i + j) undef) (by
              intro j hj
              rw [hrow] at hj
              simp at hj; subst hj
              exact hcell 0 (by simpa using hvc))
            rw [hrow] at hr
            refine ⟨rfl, _, run _ _ _ hv hr, ?_⟩
            have := hcells i hvc
            simpa [List.getD, List.getElem?_eq_getElem (show i < c.length from hvc)] using this
          · simp only at hvc
            have hr := load_run (P := P) (w := w) hT ht (b := l'.g) (off := l'.o + i) (f := fun j => cur.getD (l'.o + i + j) undef) (by
              intro j hj
              rw [hrow] at hj
              simp at hj
              exact hcell j (by omega))
            rw [hrow] at hr
            refine ⟨rfl, _, run _ _ _ hv hr, mkAgg_val ?_ ?_⟩
            · simp only [List.size_toArray, List.length_map, List.length_range, List.length_take, List.length_drop]; omega
            · intro j hj
              simp only [List.length_take, List.length_drop] at hj
              have := hcells (i + j) (by omega)
              simp only [List.getElem_take, List.getElem_drop]
              have e : ((List.range ti.size).map fun j => cur.getD (l'.o + i + j) undef).toArray.getD j undef = cur.getD (l'.o + (i + j)) undef := by
                have : j < ti.size := by omega
                simp [Array.getD_eq_getD_getElem?, List.getElem?_map, List.getElem?_range this, Nat.add_assoc]
              rw [e]
              exact this
      · rename_i c hg
        obtain ⟨l', hm, rfl⟩ := hp
        rcases R.fro k c (hget_fro hg) with ⟨_, hn⟩ | ⟨l, vs, hm2, hB, hl, hcells⟩
        · rw [hm] at hn; cases hn
        · rw [hm] at hm2; cases hm2
          cases hrow : isRow ti.kind <;> rw [hrow] at h <;> simp only [cond_true, cond_false, Option.some.injEq] at h <;> subst h
          · have hr := load_run (P := P) (w := w) hT ht (b := l'.g) (off := l'.o + i) (f := fun j => vs (i + j)) (by
              intro j hj
              rw [hrow] at hj
              simp at hj; subst hj
              exact (hcells i hvc).1)
            rw [hrow] at hr
            refine ⟨rfl, _, run _ _ _ hv hr, .p _ _ ?_⟩
            have := (hcells i hvc).2
            simpa [List.getD, List.getElem?_eq_getElem (show i < c.length from hvc)] using this
          · simp only at hvc
            have hr := load_run (P := P) (w := w) hT ht (b := l'.g) (off := l'.o + i) (f := fun j => vs (i + j)) (by
              intro j hj
              rw [hrow] at hj
              simp at hj
              rw [Nat.add_assoc]
              exact (hcells (i + j) (by omega)).1)
            rw [hrow] at hr
            refine ⟨rfl, _, run _ _ _ hv hr, .p _ _ (.agg _ _ ?_ ?_)⟩
            · simp only [List.size_toArray, List.length_map, List.length_range, List.length_take, List.length_drop]; omega
            · intro j hj
              simp only [List.length_take, List.length_drop] at hj
              have := (hcells (i + j) (by omega)).2
              simp only [List.getElem_take, List.getElem_drop]
              have e : ((List.range ti.size).map fun j => vs (i + j)).toArray.getD j undef = vs (i + j) := by
                have : j < ti.size := by omega
                simp [Array.getD_eq_getD_getElem?, List.getElem?_map, List.getElem?_range this]
              rw [e]
              exact this
      · cases h
  · rename_i c hxe
    rw [hxe] at hx
    obtain ⟨b, ofs, vs, hv, hb, hc, hr'⟩ := hx.p_inv.ptr_inv
    cases hrow : isRow ti.kind <;> rw [hrow] at h <;> simp only [cond_true, cond_false, Option.some.injEq] at h <;> subst h
    · have hr := load_run (P := P) (w := w) hT ht (b := b) (off := ofs) (f := vs) (by
        intro j hj
        rw [hrow] at hj
        simp at hj; subst hj
        exact hc 0 hvc)
      rw [hrow] at hr
      refine ⟨rfl, _, run _ _ _ hv hr, .p _ _ ?_⟩
      have h0 : 0 < c.length := hvc
      have := hr' 0 h0
      cases c with
      | nil => simp at h0
      | cons x r => simpa using this
    · simp only at hvc
      have hr := load_run (P := P) (w := w) hT ht (b := b) (off := ofs) (f := vs) (by
        intro j hj
        rw [hrow] at hj
        simp at hj
        exact hc j (by omega))
      rw [hrow] at hr
      refine ⟨rfl, _, run _ _ _ hv hr, .p _ _ (.agg _ _ ?_ ?_)⟩
      · simp only [List.size_toArray, List.length_map, List.length_range, List.length_take]; omega
      · intro j hj
        simp only [List.length_take] at hj
        have := hr' j (by omega)
        simp only [List.getElem_take]
        have e : ((List.range ti.size).map vs).toArray.getD j undef = vs j := by
          have : j < ti.size := by omega
          simp [Array.getD_eq_getD_getElem?, List.getElem?_map, List.getElem?_range this]
        rw [e]
        exact this
  · cases h

theorem lenS_val {ok : Nat → Prop} {x : AV} {n : Nat} (h : lenS x = some n) {v : Value} (hv : AVal (Reads ok w) m s.H x v) : ∃ ad cap, v = .slice ad n cap := by
  unfold lenS at h
  split at h <;> simp only [Option.some.injEq, reduceCtorEq] at h <;> subst h
  · rename_i k lo len
    cases hv with
    | sl _ _ _ _ hk hs =>
      rcases hs with ⟨rfl, ad, rfl⟩ | ⟨l', cap, hm, rfl, _⟩
      · exact ⟨_, _, rfl⟩
      · exact ⟨_, _, rfl⟩
  · obtain ⟨ad, cap, rfl, _⟩ := hv.p_inv.list_len
    exact ⟨_, _, rfl⟩
  · obtain ⟨ad, cap, rfl, _⟩ := hv.p_inv.nn_len
    exact ⟨_, _, rfl⟩
  · rw [hv.p_inv.nil_inv]
    exact ⟨_, _, rfl⟩
  · obtain ⟨ad, cap, rfl⟩ := hv.p_inv.nz_inv
    exact ⟨_, _, rfl⟩

include hT in
theorem lenA_does (R : Rel C m s a.tmps w) {o : Oper} {t : TypeId} {x : Operand} (ho : o.op = .call { callee := .builtin .len, args := #[x], argTypes := #[t] }) {ti : TI} (ht : T t = some ti) {r : OV} (h : lenA ti s.H (s.ev x) = some r) :
    r.H = s.H ∧ ∃ v, (execOp a.eval o).run P w = .ok (.value v) w ∧ AVal (Reads (OK C m s.H w) w) m s.H r.av v := by
  obtain ⟨dst, op, type, pos, after, guard⟩ := o
  simp only at ho
  subst ho
  have hx := R.ev x
  unfold lenA at h
  split at h
  · rename_i e hk
    have hu := ti_slice (hT _ _ ht) hk
    split at h <;> simp only [Option.some.injEq, reduceCtorEq] at h
    rename_i n hn
    subst h
    obtain ⟨ad, cap, hv⟩ := lenS_val hn hx
    exact ⟨rfl, .int .i64 n, by simp [BigFrame.execOp_builtin, BigFrame.builtin_len, Builtin.len_, hv, run_underlying hu, goInt], .p _ _ (.int _ _)⟩
  · rename_i hk
    have hu := ti_str (hT _ _ ht) hk
    split at h <;> simp only [Option.some.injEq, reduceCtorEq] at h
    rename_i b hb
    subst h
    rw [hb] at hx
    exact ⟨rfl, .int .i64 b.size, by simp [BigFrame.execOp_builtin, BigFrame.builtin_len, Builtin.len_, hx.p_inv.str_inv, run_underlying hu, goInt], .p _ _ (.int _ _)⟩
  · cases h

theorem capA_val (R : Rel C m s a.tmps w) {x : AV} {v : Value} (hv : AVal (Reads (OK C m s.H w) w) m s.H x v) {p : Prop} {pv : PV} (h : capA s.H x = some (p, pv)) (hp : p) : Reads (OK C m s.H w) w pv v := by
  unfold capA at h
  split at h
  · rename_i k i
    split at h <;> simp only [Option.some.injEq, Prod.mk.injEq, reduceCtorEq] at h
    rename_i c hg
    obtain ⟨rfl, rfl⟩ := h
    cases hv with
    | ptr _ _ _ hk' hp' =>
      obtain ⟨l', hm, rfl⟩ := hp'
      rcases R.fro k c (hget_fro hg) with ⟨_, hn⟩ | ⟨l, vs, hm2, hB, hl, hcells⟩
      · rw [hm] at hn; cases hn
      · rw [hm] at hm2; cases hm2
        refine .ptr _ _ _ (fun j => vs (i + j)) hB (fun j hj => ?_) fun j hj => ?_
        · simp only [List.length_drop] at hj
          rw [Nat.add_assoc]; exact (hcells (i + j) (by omega)).1
        · simp only [List.length_drop] at hj
          simp only [List.getElem_drop]
          exact (hcells (i + j) (by omega)).2
  · simp only [Option.some.injEq, Prod.mk.injEq] at h
    obtain ⟨rfl, rfl⟩ := h
    exact hv.p_inv
  · cases h

theorem capsA_val (R : Rel C m s a.tmps w) : ∀ (xs : List Operand) {p : Prop} {pvs : List PV}, capsA s.H (xs.map s.ev) = some (p, pvs) → p →
    pvs.length = xs.length ∧ ∀ c (h : c < pvs.length), Reads (OK C m s.H w) w pvs[c] ((xs.map a.eval).toArray.getD c undef)
  | [], p, pvs, h, _ => by
    simp only [List.map_nil, capsA, Option.some.injEq, Prod.mk.injEq] at h
    obtain ⟨_, rfl⟩ := h
    exact ⟨rfl, fun c h => by simp at h⟩
  | x :: r, p, pvs, h, hp => by
    simp only [List.map_cons, capsA] at h
    split at h <;> simp only [Option.some.injEq, Prod.mk.injEq, reduceCtorEq] at h
    rename_i p1 v1 q1 l1 h1 h2
    obtain ⟨rfl, rfl⟩ := h
    obtain ⟨hl, hr⟩ := capsA_val R r h2 hp.2
    refine ⟨by simp [hl], fun c hc => ?_⟩
    cases c with
    | zero => simpa using capA_val R (R.ev x) h1 hp.1
    | succ c => simpa using hr c (by simpa using hc)

theorem makeFuncA_does (R : Rel C m s a.tmps w) {o : Oper} {f : FuncId} {first caps : Array Operand} (ho : o.op = .makeFunc (.func f) first caps) (hfirst : first.isEmpty = true) {r : OV} (h : makeFuncA f s.H (caps.toList.map s.ev) = some r) (hvc : r.vc) :
    r.H = s.H ∧ ∃ v, (execOp a.eval o).run P w = .ok (.value v) w ∧ AVal (Reads (OK C m s.H w) w) m s.H r.av v := by
  unfold makeFuncA at h
  split at h <;> simp only [Option.some.injEq, reduceCtorEq] at h
  rename_i p l hl
  subst h
  obtain ⟨h1, h2⟩ := capsA_val R caps.toList hl hvc
  have hf : first = #[] := by simpa using hfirst
  refine ⟨rfl, .func (.func f) #[] (caps.map a.eval), by simp [execOp, ho, hf, Instr.makeFunc], .p _ _ (.fn _ _ _ (by simp [h1]) fun c hc => ?_)⟩
  have := h2 c hc
  have e : (caps.toList.map a.eval).toArray = caps.map a.eval := by rw [← Array.toList_map, Array.toArray_toList]
  rwa [e] at this

end

end Go.Pv
