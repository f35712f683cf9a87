/-
  The operations that turn no memory, second part. Conditions: none; a library text.
-/
import Derived.Test.YtllompejbfbabaaDoorPvD
set_option linter.all false
namespace Go.Pv
open Go.RowKit

theorem hget_some : ∀ {H : Heap} {k : Nat} {b : Blk}, hget H k = b → b ≠ .dead → H[k]? = some b
  | [], k, b, h, hb => by simp [hget] at h; exact absurd h.symm hb
  | x :: r, 0, b, h, _ => by simp [hget] at h; simp [h]
  | x :: r, k + 1, b, h, hb => by simpa using hget_some (H := r) h hb

theorem hget_mut {H : Heap} {k : Nat} {c : List AV} (h : hget H k = .own c) : H[k]? = some (.own c) := hget_some h (by simp)
theorem hget_fro {H : Heap} {k : Nat} {c : List PV} (h : hget H k = .fro c) : H[k]? = some (.fro c) := hget_some h (by simp)

/-- A struct's value, cell by cell. -/
theorem AVal.agg_inv {rd : PV → Value → Prop} {ok : Nat → Prop} {w : World} (hrd : rd = Reads ok w) {m : Map} {H : Heap} {x : AV} {v : Value} (h : AVal rd m H x v) (hx : x.isAgg = true) :
    ∃ vs, v = .agg vs ∧ vs.size = x.cells.length ∧ ∀ c (hc : c < x.cells.length), AVal rd m H x.cells[c] (vs.getD c undef) := by
  subst hrd
  cases h with
  | p pv v h =>
    cases h with
    | agg l vs hl hr =>
      refine ⟨vs, rfl, by simpa [AV.cells] using hl, fun c hc => ?_⟩
      simp only [AV.cells, List.length_map] at hc
      simp only [AV.cells, List.getElem_map]
      exact .p _ _ (hr c hc)
    | _ => simp [AV.isAgg] at hx
  | agg l vs hl hr => exact ⟨vs, rfl, hl, hr⟩
  | _ => simp [AV.isAgg] at hx

theorem allP_some : ∀ {l : List AV} {ps : List PV}, allP l = some ps → l = ps.map .p
  | [], ps, h => by simp [allP] at h; subst h; rfl
  | .p v :: r, ps, h => by
    simp only [allP, Option.map_eq_some_iff] at h
    obtain ⟨q, hq, rfl⟩ := h
    rw [allP_some hq]; rfl
  | .dead :: r, ps, h => by simp [allP] at h
  | .sl _ _ _ :: r, ps, h => by simp [allP] at h
  | .ptr _ _ :: r, ps, h => by simp [allP] at h
  | .agg _ :: r, ps, h => by simp [allP] at h
  | .tup _ :: r, ps, h => by simp [allP] at h

theorem mkAgg_val {ok : Nat → Prop} {w : World} {m : Map} {H : Heap} {l : List AV} {vs : Array Value} (hl : vs.size = l.length)
    (hr : ∀ c (h : c < l.length), AVal (Reads ok w) m H l[c] (vs.getD c undef)) : AVal (Reads ok w) m H (mkAgg l) (.agg vs) := by
  unfold mkAgg
  split
  · rename_i ps hps
    have e := allP_some hps
    subst e
    refine .p _ _ (.agg _ _ (by simpa using hl) fun c hc => ?_)
    have := hr c (by simpa using hc)
    simp only [List.getElem_map] at this
    exact this.p_inv
  · exact .agg _ _ hl hr

theorem field_at {fs : Array Field} {P : Program} {l : List (Nat × TypeId × Nat)} (h : l = fs.toList.map fun f => (f.offset, f.type, P.cellsOf f.type)) {i : Nat} {x : Nat × TypeId × Nat} (hx : l[i]? = some x) :
    ∃ f, fs[i]? = some f ∧ f.offset = x.1 ∧ f.type = x.2.1 ∧ P.cellsOf f.type = x.2.2 := by
  subst h
  simp only [List.getElem?_map, Option.map_eq_some_iff] at hx
  obtain ⟨f, hf, rfl⟩ := hx
  exact ⟨f, by simpa using hf, rfl, rfl, rfl⟩

section
variable {P : Program} {T : TypeId → Option TI} (hT : ∀ t ti, T t = some ti → tiOf P t = some ti) {C : Ctx} {m : Map} {s : St} {a : Act} {w : World}

theorem unA_does (R : Rel C m s a.tmps w) {o : Oper} {op : UnOp} {t : TypeId} {x : Operand} (ho : o.op = .unOp op t x) {r : OV} (h : unA op s.H (s.ev x) = some r) (hvc : r.vc) :
    r.H = s.H ∧ ∃ v, (execOp a.eval o).run P w = .ok (.value v) w ∧ AVal (Reads (OK C m s.H w) w) m s.H r.av v := by
  have hx := R.ev x
  unfold unA at h
  split at h
  · rename_i k i hxe
    rw [hxe] at hx
    have ex := hx.p_inv.int_inv
    split at h <;> simp only [Option.some.injEq, reduceCtorEq] at h <;> subst h
    · exact ⟨rfl, .int k (k.wrap (0 - i)), by simp [execOp, ho, ex, Op.unary, Op.intArith], .p _ _ (arith_reads hvc)⟩
    · exact ⟨rfl, _, by simp [execOp, ho, ex, Op.unary, Op.intBits], .p _ _ (.int _ _)⟩
  · rename_i b hxe
    rw [hxe] at hx
    have ex := hx.p_inv.bool_inv
    split at h <;> simp only [Option.some.injEq, reduceCtorEq] at h <;> subst h
    exact ⟨rfl, _, by simp [execOp, ho, ex, Op.unary], .p _ _ (.bool _)⟩
  · cases h

theorem pickA_does (R : Rel C m s a.tmps w) {o : Oper} {c x y : Operand} (ho : o.op = .pick c x y) {r : OV} (h : pickA (s.ev x) (s.ev y) s.H (s.ev c) = some r) :
    r.H = s.H ∧ ∃ v, (execOp a.eval o).run P w = .ok (.value v) w ∧ AVal (Reads (OK C m s.H w) w) m s.H r.av v := by
  have hc := R.ev c
  unfold pickA at h
  split at h <;> simp only [Option.some.injEq, reduceCtorEq] at h
  · rename_i e
    rw [e] at hc
    subst h
    exact ⟨rfl, _, by simp [execOp, ho, hc.p_inv.bool_inv, asBool], R.ev x⟩
  · rename_i e
    rw [e] at hc
    subst h
    exact ⟨rfl, _, by simp [execOp, ho, hc.p_inv.bool_inv, asBool], R.ev y⟩

include hT in
theorem convA_does (R : Rel C m s a.tmps w) {o : Oper} {src dst : TypeId} {x : Operand} (ho : o.op = .convert src dst x) {r : OV} (h : convA T src dst s.H (s.ev x) = some r) :
    r.H = s.H ∧ ∃ v, (execOp a.eval o).run P w = .ok (.value v) w ∧ AVal (Reads (OK C m s.H w) w) m s.H r.av v := by
  have hx := R.ev x
  unfold convA at h
  split at h
  · rename_i k i hxe
    rw [hxe] at hx
    have ex := hx.p_inv.int_inv
    split at h <;> simp only [Option.some.injEq, reduceCtorEq] at h
    rename_i k1 k2 hk1 hk2
    subst h
    obtain ⟨ti, ht, hk⟩ := kind_of hk1
    obtain ⟨ti', ht', hk'⟩ := kind_of hk2
    have hu := ti_int (hT _ _ ht) hk
    have hu' := ti_int (hT _ _ ht') hk'
    exact ⟨rfl, _, by simp [execOp, ho, ex, convert, run_underlying hu, run_underlying hu', Conv.intToInt], .p _ _ (.int _ _)⟩
  · cases h

theorem extractA_does (R : Rel C m s a.tmps w) {o : Oper} {x : Operand} {i : Nat} (ho : o.op = .extract x i) {r : OV} (h : extractA i s.H (s.ev x) = some r) (hvc : r.vc) :
    r.H = s.H ∧ ∃ v, (execOp a.eval o).run P w = .ok (.value v) w ∧ AVal (Reads (OK C m s.H w) w) m s.H r.av v := by
  have hx := R.ev x
  unfold extractA at h
  split at h <;> simp only [Option.some.injEq, reduceCtorEq] at h <;> subst h
  · rename_i l hxe
    rw [hxe] at hx
    generalize hv : a.eval x = v at hx
    have hx := hx.p_inv
    cases hx with
    | tup _ vs hl hr =>
      have hi : i < vs.size := by rw [hl]; exact hvc
      refine ⟨rfl, vs.getD i undef, ?_, .p _ _ ?_⟩
      · simp [execOp, ho, hv, Instr.extract, Array.getD_eq_getD_getElem?, Array.getElem?_eq_getElem hi]
      · have := hr i hvc
        simpa [List.getD, List.getElem?_eq_getElem hvc] using this
  · rename_i l hxe
    rw [hxe] at hx
    generalize hv : a.eval x = v at hx
    cases hx with
    | tup _ vs hl hr =>
      have hi : i < vs.size := by rw [hl]; exact hvc
      refine ⟨rfl, vs.getD i undef, ?_, ?_⟩
      · simp [execOp, ho, hv, Instr.extract, Array.getD_eq_getD_getElem?, Array.getElem?_eq_getElem hi]
      · have := hr i hvc
        simpa [List.getD, List.getElem?_eq_getElem hvc] using this

include hT in
theorem fieldA_does (R : Rel C m s a.tmps w) {o : Oper} {t : TypeId} {x : Operand} {i : Nat} (ho : o.op = .field t x i) {ti : TI} (ht : T t = some ti) (hag : (s.ev x).isAgg = true) {r : OV} (h : fieldA T ti i s.H (s.ev x) = some r) (hvc : r.vc) :
    r.H = s.H ∧ ∃ v, (execOp a.eval o).run P w = .ok (.value v) w ∧ AVal (Reads (OK C m s.H w) w) m s.H r.av v := by
  obtain ⟨vs, ev, hsz, hcs⟩ := (R.ev x).agg_inv rfl hag
  unfold fieldA at h
  split at h
  · rename_i l hk
    obtain ⟨fs, hu, hfs, _⟩ := ti_struct (hT _ _ ht) hk
    split at h
    · rename_i off ft sz hl
      obtain ⟨f, hf, e1, e2, e3⟩ := field_at hfs hl
      simp only at e1 e2 e3
      split at h
      · rename_i tf htf
        have hag' := ti_isAgg (hT _ _ htf)
        have hss := ti_size (hT _ _ htf)
        cases hrow : isRow tf.kind <;> rw [hrow] at h hag' <;> simp only [cond_true, cond_false, Option.some.injEq] at h <;> subst h
        · have hlt : off < vs.size := by rw [hsz]; exact hvc
          refine ⟨rfl, vs.getD off undef, ?_, ?_⟩
          · simp [execOp, ho, ev, Instr.field, run_underlying hu, hf, asAgg, part, e1, e2, hag', Array.getD_eq_getD_getElem?, Array.getElem?_eq_getElem hlt]
          · have := hcs off hvc
            simpa [List.getD, List.getElem?_eq_getElem hvc] using this
        · refine ⟨rfl, .agg (vs.extract off (off + tf.size)), ?_, mkAgg_val ?_ ?_⟩
          · simp [execOp, ho, ev, Instr.field, run_underlying hu, hf, asAgg, part, e1, e2, hag', hss]
          · simp only at hvc
            simp only [Array.size_extract, List.length_take, List.length_drop, hsz]
            omega
          · intro c hc
            simp only at hvc
            simp only [List.length_take, List.length_drop] at hc
            have := hcs (off + c) (by omega)
            simp only [List.getElem_take, List.getElem_drop]
            have e : (vs.extract off (off + tf.size)).getD c undef = vs.getD (off + c) undef := by
              simp only [Array.getD_eq_getD_getElem?]
              rw [Array.getElem?_extract, if_pos (by omega)]
            rw [e]
            exact this
      · cases h
    · cases h
  · cases h

theorem add_lit (b o n : Nat) : (⟨b, o, none⟩ : Addr).add n = ⟨b, o + n, none⟩ := by
  unfold Addr.add
  split
  · subst_vars; rfl
  · rfl

theorem Reads.ptr_inv {ok : Nat → Prop} {w : World} {l : List PV} {v : Value} (h : Reads ok w (.ptr l) v) : ∃ b off, ∃ vs : Nat → Value, v = .pointer (some ⟨b, off, none⟩) ∧ ok b ∧
    (∀ c, c < l.length → w.cell? ⟨b, off + c, none⟩ = some (vs c)) ∧ ∀ c (h : c < l.length), Reads ok w l[c] (vs c) := by
  cases h with
  | ptr _ b off vs hb hc hr => exact ⟨b, off, vs, rfl, hb, hc, hr⟩

include hT in
theorem fieldAddrA_does (R : Rel C m s a.tmps w) {o : Oper} {t : TypeId} {x : Operand} {i : Nat} (ho : o.op = .fieldAddr t x i) {ti : TI} (ht : T t = some ti) {r : OV} (h : fieldAddrA ti i s.H (s.ev x) = some r) (hvc : r.vc) :
    r.H = s.H ∧ ∃ v, (execOp a.eval o).run P w = .ok (.value v) w ∧ AVal (Reads (OK C m s.H w) w) m s.H r.av v := by
  have hx := R.ev x
  unfold fieldAddrA at h
  split at h
  · rename_i l hk
    obtain ⟨fs, hu, hfs, _⟩ := ti_struct (hT _ _ ht) hk
    split at h
    · rename_i off ft sz hl
      obtain ⟨f, hf, e1, e2, e3⟩ := field_at hfs hl
      simp only at e1 e2 e3
      have hsz : sz ≠ 0 → ∃ i, P.info? f.type = some i ∧ i.size = sz := by
        intro hne
        unfold Program.cellsOf at e3
        cases hi : P.info? f.type with
        | none => simp [hi] at e3; omega
        | some i => simp [hi] at e3; exact ⟨i, rfl, e3⟩
      split at h <;> simp only [Option.some.injEq, reduceCtorEq] at h <;> subst h
      · rename_i k j hxe
        rw [hxe] at hx
        generalize hv : a.eval x = v at hx
        cases hx with
        | ptr _ _ _ hk' hp =>
          obtain ⟨l', hm, rfl⟩ := hp
          obtain ⟨ii, hii, hs⟩ := hsz hvc
          have hne : ¬ ii.size = 0 := by rw [hs]; exact hvc
          refine ⟨rfl, .pointer (some ⟨l'.g, l'.o + j + off, none⟩), ?_, .ptr _ _ _ hk' ⟨l', hm, by rw [Nat.add_assoc]⟩⟩
          simp [execOp, ho, hv, Instr.fieldAt, run_underlying hu, hf, Instr.sureAddr, fieldPlace, sizeOf, typeInfo, hii, hne, e1, add_lit]
      · rename_i c hxe
        rw [hxe] at hx
        obtain ⟨b, ofs, vs, hv, hb, hc, hr⟩ := hx.p_inv.ptr_inv
        obtain ⟨ii, hii, hs⟩ := hsz hvc.1
        have hne : ¬ ii.size = 0 := by rw [hs]; exact hvc.1
        refine ⟨rfl, .pointer (some ⟨b, ofs + off, none⟩), ?_, .p _ _ ?_⟩
        · simp [execOp, ho, hv, Instr.fieldAt, run_underlying hu, hf, Instr.sureAddr, fieldPlace, sizeOf, typeInfo, hii, hne, e1, add_lit]
        · refine .ptr _ b (ofs + off) (fun c => vs (off + c)) hb (fun j hj => ?_) fun j hj => ?_
          · simp only [List.length_drop] at hj
            rw [Nat.add_assoc]; exact hc (off + j) (by omega)
          · simp only [List.length_drop] at hj
            simp only [List.getElem_drop]
            exact hr (off + j) (by omega)
    · cases h
  · cases h

end

end Go.Pv
