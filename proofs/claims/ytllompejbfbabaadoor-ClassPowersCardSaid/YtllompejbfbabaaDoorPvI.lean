/-
  Stores, new variables, slices that are made. Conditions: none; a library text.
-/
import Derived.Test.YtllompejbfbabaaDoorPvH
set_option linter.all false
namespace Go.Pv
open Go.RowKit

section
variable {P : Program} {T : TypeId → Option TI} (hT : ∀ t ti, T t = some ti → tiOf P t = some ti) {C : Ctx} {m : Map} {s : St} {a : Act} {w w' : World}

/-- A cell that may be stored is one cell. -/
theorem cellOk_one {ok : Nat → Prop} {x : AV} {v : Value} (h : cellOk x = true) (hv : AVal (Reads ok w) m s.H x v) : v.oneCell' = true ∧ v.cells = #[v] := by
  cases hv with
  | p pv v hr => exact hr.one h
  | sl k lo len v hk hs =>
    rcases hs with ⟨_, ad, rfl⟩ | ⟨l, cap, _, rfl, _⟩ <;> exact ⟨rfl, rfl⟩
  | ptr k i v hk hs =>
    obtain ⟨l, _, rfl⟩ := hs
    exact ⟨rfl, rfl⟩
  | _ => simp [cellOk] at h

/-- The cells of what may be stored, cell by cell. -/
theorem cells_val {ok : Nat → Prop} {x : AV} {v : Value} (h : x.cells.all cellOk = true) (hv : AVal (Reads ok w) m s.H x v) :
    v.cells.size = x.cells.length ∧ (∀ j (h : j < x.cells.length), AVal (Reads ok w) m s.H x.cells[j] (v.cells.getD j undef)) ∧ ∀ u ∈ v.cells.toList, u.oneCell' = true := by
  have key : ∀ vs : Array Value, v.cells = vs → vs.size = x.cells.length → (∀ j (h : j < x.cells.length), AVal (Reads ok w) m s.H x.cells[j] (vs.getD j undef)) →
      v.cells.size = x.cells.length ∧ (∀ j (h : j < x.cells.length), AVal (Reads ok w) m s.H x.cells[j] (v.cells.getD j undef)) ∧ ∀ u ∈ v.cells.toList, u.oneCell' = true := by
    intro vs e hs hj
    rw [e]
    refine ⟨hs, hj, fun u hu => ?_⟩
    obtain ⟨j, hj', rfl⟩ := List.getElem_of_mem hu
    have hlt : j < x.cells.length := by simpa [hs] using hj'
    have h1 := hj j hlt
    have h2 := (List.all_eq_true.1 h) x.cells[j] (List.getElem_mem hlt)
    have e : vs.getD j undef = vs.toList[j] := by simp [Array.getD_eq_getD_getElem?, Array.getElem?_eq_getElem (show j < vs.size by omega)]
    rw [e] at h1
    exact (cellOk_one h2 h1).1
  by_cases hx : x.isAgg = true
  · obtain ⟨vs, rfl, hs, hj⟩ := hv.agg_inv rfl hx
    exact key vs rfl hs hj
  · have e : x.cells = [x] := by
      cases x with
      | p pv => cases pv <;> simp_all [AV.isAgg, AV.cells]
      | agg l => simp [AV.isAgg] at hx
      | _ => rfl
    rw [e] at h key
    have h1 : cellOk x = true := by simpa using h
    have h2 := cellOk_one h1 hv
    rw [e]
    refine key #[v] h2.2 rfl fun j hj => ?_
    have : j = 0 := by simpa using hj
    subst this
    exact hv

theorem setC_length (c : List AV) (i : Nat) (xs : List AV) (h : i + xs.length ≤ c.length) : (setC c i xs).length = c.length := by
  unfold setC
  split
  · simp
  · simp only [List.length_append, List.length_take, List.length_drop]; omega

theorem setC_get (c : List AV) (i : Nat) (xs : List AV) (h : i + xs.length ≤ c.length) (j : Nat) : (setC c i xs)[j]? = if i ≤ j ∧ j < i + xs.length then xs[j - i]? else c[j]? := by
  unfold setC
  split
  · rename_i x
    simp only [List.length_cons, List.length_nil] at h ⊢
    rw [List.getElem?_set]
    by_cases e : i = j
    · subst e; rw [if_pos rfl, if_pos (by omega), if_pos (by omega)]; simp
    · rw [if_neg e, if_neg (by omega)]
  · by_cases h1 : j < i
    · rw [if_neg (by omega), List.append_assoc, List.getElem?_append_left (by simp only [List.length_take]; omega), List.getElem?_take, if_pos h1]
    · rw [List.append_assoc, List.getElem?_append_right (by simp only [List.length_take]; omega)]
      simp only [List.length_take, Nat.min_eq_left (show i ≤ c.length by omega)]
      by_cases h2 : j < i + xs.length
      · rw [if_pos (by omega), List.getElem?_append_left (by omega)]
      · rw [if_neg (by omega), List.getElem?_append_right (by omega), List.getElem?_drop]
        congr 1; omega

theorem setC_val {ok : Nat → Prop} {c xs : List AV} {i : Nat} (h : i + xs.length ≤ c.length) {f : Nat → Value} (h1 : ∀ j (hj : j < c.length), ¬ (i ≤ j ∧ j < i + xs.length) → AVal (Reads ok w) m s.H c[j] (f j))
    (h2 : ∀ j (hj : j < xs.length), AVal (Reads ok w) m s.H xs[j] (f (i + j))) : ∀ j (hj : j < (setC c i xs).length), AVal (Reads ok w) m s.H (setC c i xs)[j] (f j) := by
  intro j hj
  have hl := setC_length c i xs h
  have e := setC_get c i xs h j
  rw [List.getElem?_eq_getElem hj] at e
  by_cases hb : i ≤ j ∧ j < i + xs.length
  · rw [if_pos hb, List.getElem?_eq_getElem (by omega)] at e
    rw [Option.some.inj e]
    have := h2 (j - i) (by omega)
    rwa [show i + (j - i) = j by omega] at this
  · rw [if_neg hb, List.getElem?_eq_getElem (by omega)] at e
    rw [Option.some.inj e]
    exact h1 j (by omega) hb

theorem getD_parts {x y z : List Value} {j : Nat} : ((x ++ y ++ z).toArray).getD j undef = if j < x.length then x.getD j undef else if j < x.length + y.length then y.getD (j - x.length) undef else z.getD (j - x.length - y.length) undef := by
  simp only [Array.getD_eq_getD_getElem?, List.getElem?_toArray, List.getD]
  by_cases h1 : j < x.length
  · rw [if_pos h1, List.append_assoc, List.getElem?_append_left h1]
  · rw [if_neg h1, List.append_assoc, List.getElem?_append_right (by omega)]
    by_cases h2 : j < x.length + y.length
    · rw [if_pos h2, List.getElem?_append_left (by omega)]
    · rw [if_neg h2, List.getElem?_append_right (by omega)]

/-- The cells of a row behind a store. -/
theorem stored_getD {cur : Array Value} {vs : List Value} {o j : Nat} (h : o + vs.length ≤ cur.size) :
    ((cur.toList.take o ++ vs ++ cur.toList.drop (o + vs.length)).toArray).getD j undef = if o ≤ j ∧ j < o + vs.length then vs.getD (j - o) undef else cur.getD j undef := by
  rw [getD_parts]
  have hl : (cur.toList.take o).length = o := by simp only [List.length_take, Array.length_toList]; omega
  rw [hl]
  by_cases h1 : j < o
  · rw [if_pos h1, if_neg (by omega)]
    simp only [List.getD, List.getElem?_take, h1, if_true, Array.getD_eq_getD_getElem?, Array.getElem?_toList]
  · rw [if_neg h1]
    by_cases h2 : j < o + vs.length
    · rw [if_pos h2, if_pos (by omega)]
    · rw [if_neg h2, if_neg (by omega)]
      simp only [List.getD, List.getElem?_drop, Array.getD_eq_getD_getElem?, Array.getElem?_toList]
      congr 2; omega

include hT in
theorem storeA_does (R : Rel C m s a.tmps w) {o : Oper} {t : TypeId} {x y : Operand} (ho : o.op = .store t x y) {ti : TI} (ht : T t = some ti) {r : OV} (h : storeA ti s.H (s.ev y) (s.ev x) = some r) (hvc : r.vc) :
    ∃ v w' m', Yields P o a w v w' ∧ Rel C m' { s with H := r.H } a.tmps w' ∧ AVal (Reads (OK C m' r.H w') w') m' r.H r.av v := by
  have hx := R.ev x
  have hy := R.ev y
  unfold storeA at h
  split at h
  · rename_i k i hxe
    rw [hxe] at hx
    generalize hv : a.eval x = v at hx
    cases hx with
    | ptr _ _ _ hk' hp =>
      split at h <;> simp only [Option.some.injEq, reduceCtorEq] at h
      rename_i c hg
      subst h
      obtain ⟨g1, g2, g3⟩ := hvc
      obtain ⟨l, hm, rfl⟩ := hp
      rcases R.blk k c (hget_mut hg) with ⟨_, hn⟩ | ⟨l', cur, e, hm2, hB, hh, hs1, hs3, hs2, hcells⟩
      · rw [hm] at hn; cases hn
      · rw [hm] at hm2; cases hm2
        obtain ⟨v1, v2, v3⟩ := cells_val g2 hy
        have hlen : (a.eval y).cells.toList.length = (s.ev y).cells.length := by simpa using v1
        have hst := run_storeCells_at P l.g (l.o + i) e (a.eval y).cells.toList 0 cur w hh (by omega) v3
        simp only [Nat.add_zero] at hst
        have hrun : (execOp a.eval o).run P w = .ok .skip (w.setRow l.g (cur.toList.take (l.o + i) ++ (a.eval y).cells.toList ++ cur.toList.drop (l.o + i + (a.eval y).cells.toList.length)).toArray) := by
          have hsz := ti_size (hT _ _ ht) w
          have hne : ¬ ((a.eval y).cells.size ≠ ti.size) := by simp [v1, g1]
          simp only [execOp, ho, Instr.storeAt, hv, Instr.sureAddr, storeVar, Sem.run_bind, Sem.run_pure, Result.andThen_ok, hsz, hne, if_false, hst]
        refine ⟨undef, _, m, .inr ⟨hrun, rfl⟩, ?_, .dead _⟩
        refine R.setBlk (hget_mut hg) hm ?_ ?_ (setRow_heap w l.g cur _ e _ hh) ?_ ?_ ?_
        · exact ⟨rfl, rfl, rfl, by simp [World.setRow], fun b hb => setRow_other w l.g b _ (by omega)⟩
        · exact fun b hb => setRow_other w l.g b _ hb
        · simp only [List.size_toArray, List.length_append, List.length_take, List.length_drop, Array.length_toList] at hlen ⊢
          omega
        · rw [setC_length _ _ _ g3]; exact hs2
        · refine setC_val g3 (fun j hj hn => ?_) fun j hj => ?_
          · rw [stored_getD (by omega), if_neg (by omega)]
            exact hcells j hj
          · rw [stored_getD (by omega), if_pos (by omega)]
            have := v2 j hj
            have e2 : (a.eval y).cells.toList.getD (l.o + (i + j) - (l.o + i)) undef = (a.eval y).cells.getD j undef := by
              rw [show l.o + (i + j) - (l.o + i) = j by omega]
              simp [List.getD, Array.getD_eq_getD_getElem?]
            rw [e2]
            exact this
  · cases h

theorem ptr_new {H : Heap} {c : List AV} {n : Nat} : AVal (Reads (OK C (mput m H.length (some ⟨w.heap.size, 0, n⟩)) (H ++ [.own c]) w') w') (mput m H.length (some ⟨w.heap.size, 0, n⟩)) (H ++ [.own c]) (.ptr H.length 0) (.pointer (some ⟨w.heap.size, 0, none⟩)) :=
  .ptr _ _ _ (by simp) ⟨⟨w.heap.size, 0, n⟩, by simp [mput], rfl⟩

theorem below_alloc (o : Obj) : Below w.heap.size w (w.alloc o) := (Below.refl _ _).alloc (Nat.le_refl _) o

include hT in
theorem allocA_does (R : Rel C m s a.tmps w) {o : Oper} {t : TypeId} (ho : o.op = .alloc t) {ti : TI} (ht : T t = some ti) (hvc : (allocA ti s.H).vc) :
    ∃ v w' m', Yields P o a w v w' ∧ Rel C m' { s with H := (allocA ti s.H).H } a.tmps w' ∧ AVal (Reads (OK C m' (allocA ti s.H).H w') w') m' (allocA ti s.H).H (allocA ti s.H).av v := by
  obtain ⟨i, d, z, h1, h2, h3, h4, h5, h6, h7, h8⟩ := tiOf_parts (hT _ _ ht)
  have hvc : ti.zero.length ≤ 1000000 := hvc
  have hz : z.cells.size = ti.zero.length := by rw [← h6]; simp
  refine ⟨.pointer (some ⟨w.heap.size, 0, none⟩), w.alloc (.cells z.cells t), _, .inl ?_, R.newBlk (below_alloc _) (cur := z.cells) (e := t) (heap_alloc_new w _) (by unfold maxLen; omega) (c := ti.zero.map cv) (by simp [hz]) ?_, ptr_new⟩
  · simp [execOp, ho, Instr.alloc, zeroValue, typeInfo, h1, h3, newVar, newRow]
  · intro j hj
    simp only [List.length_map] at hj
    have e : z.cells.getD j undef = ti.zero[j] := by
      have : ti.zero[j]? = z.cells[j]? := by rw [← h6]; simp
      rw [List.getElem?_eq_getElem hj] at this
      simp [Array.getD_eq_getD_getElem?, ← this]
    rw [List.getElem_map, e]
    exact cv_val _

theorem boxA_does (R : Rel C m s a.tmps w) {o : Oper} {t : TypeId} {x : Operand} (ho : o.op = .box t x) (hvc : (boxA s.H (s.ev x)).vc) :
    ∃ v w' m', Yields P o a w v w' ∧ Rel C m' { s with H := (boxA s.H (s.ev x)).H } a.tmps w' ∧ AVal (Reads (OK C m' (boxA s.H (s.ev x)).H w') w') m' (boxA s.H (s.ev x)).H (boxA s.H (s.ev x)).av v := by
  obtain ⟨g1, g2⟩ := hvc
  obtain ⟨v1, v2, v3⟩ := cells_val g1 (R.ev x)
  refine ⟨.pointer (some ⟨w.heap.size, 0, none⟩), w.alloc (.cells (a.eval x).cells t), _, .inl ?_, R.newBlk (below_alloc _) (cur := (a.eval x).cells) (e := t) (heap_alloc_new w _) (by unfold maxLen; omega) (c := (s.ev x).cells) (by omega) v2, ptr_new⟩
  simp [execOp, ho, Instr.box, newVar, newRow]

include hT in
theorem makeSliceA_does (R : Rel C m s a.tmps w) {o : Oper} {t : TypeId} {x y : Operand} (ho : o.op = .makeSlice t x y) {ti : TI} (ht : T t = some ti) {r : OV} (h : makeSliceA T ti s.H (s.ev x) (s.ev y) = some r) (hvc : r.vc) :
    ∃ v w' m', Yields P o a w v w' ∧ Rel C m' { s with H := r.H } a.tmps w' ∧ AVal (Reads (OK C m' r.H w') w') m' r.H r.av v := by
  unfold makeSliceA at h
  split at h
  · rename_i e k1 n k2 c hk hx hy
    have ex := eval_int R hx
    have ey := eval_int R hy
    have hu := ti_slice (hT _ _ ht) hk
    split at h
    · rename_i te hte
      split at h <;> simp only [Option.some.injEq, reduceCtorEq] at h
      rename_i z hz
      subst h
      obtain ⟨g1, g2, g3, g4, g5⟩ := hvc
      obtain ⟨i, d, z', h1, h2, h3, h4, h5, h6, h7, h8⟩ := tiOf_parts (hT _ _ hte)
      have hzc : z'.cells = #[z] := by
        rw [hz] at h6
        have := congrArg List.toArray h6
        simpa using this
      have hr := run_make (P := P) w t e i z' hu h1 h3 k1 k2 n c g2 g3 (by rw [h5, Int.mul_comm]; omega) (by omega)
      rw [h4, g1, Nat.mul_one, hzc] at hr
      have hms : (madeCells #[z] c.toNat).size = c.toNat := size_madeCells _ _
      have hrel := R.newBlk (below_alloc _) (cur := madeCells #[z] c.toNat) (e := e) (heap_alloc_new w _) (by unfold maxLen; omega) (c := List.replicate n.toNat (cv z)) (by simp [hms]; omega) (by
        intro j hj
        simp only [List.length_replicate] at hj
        have : (madeCells #[z] c.toNat).getD j undef = z := by
          have := toList_madeCells_one z c.toNat
          have e : (madeCells #[z] c.toNat)[j]? = some z := by
            rw [← Array.getElem?_toList, this, List.getElem?_replicate, if_pos (by omega)]
          simp [Array.getD_eq_getD_getElem?, e]
        rw [this, List.getElem_replicate]
        exact cv_val _)
      refine ⟨_, _, _, .inl (by simp only [execOp, ho, ex, ey, Sem.run_bind, hr, Result.andThen_ok, Sem.run_pure]), hrel, .sl _ _ _ _ (by simp) <| .inr ⟨⟨w.heap.size, 0, (madeCells #[z] c.toNat).size⟩, c.toNat, by simp [mput], rfl, by omega, by simp [hms]⟩⟩
    · cases h
  · cases h

end

end Go.Pv
