
/-
  Walks: words of free groups. Conditions: none.
-/
import Derived.Test.YtpafmpcecgpfbaaFA1
set_option linter.all false
namespace Go.Proofs.Ytpafmpcecgpfbaa
open Go.Pv


theorem chk_sm : ∀ (w : List Int) (i : Nat), (chk i w).1 = 0 → Sm w
  | [], _, _ => fun x hx => by simp at hx
  | x :: r, i, h => by
    unfold chk at h
    split at h
    · simp at h
    · rename_i hn
      intro y hy
      rcases List.mem_cons.1 hy with rfl | hy
      · omega
      · exact chk_sm r (i + 1) h y hy
theorem check_sm {w : List Int} (h : (check w).1 = 0) : Sm w ∧ w.length ≤ 2000 := by
  unfold check at h
  split at h
  · simp at h
  · exact ⟨chk_sm w 0 h, by omega⟩
theorem chk_nz : ∀ (w : List Int) (i : Nat), (chk i w).1 = 0 → chk i w = (0, 0)
  | [], _, _ => rfl
  | x :: r, i, h => by
    unfold chk at h ⊢
    split at h
    · simp at h
    · rename_i hn; rw [if_neg hn]; exact chk_nz r (i + 1) h
theorem check_zero {w : List Int} (h : (check w).1 = 0) : check w = (0, 0) := by
  unfold check at h ⊢
  split at h
  · simp at h
  · rename_i hn; rw [if_neg hn]; exact chk_nz w 0 h
theorem Sm.app {v w : List Int} (hv : Sm v) (hw : Sm w) : Sm (v ++ w) := by
  intro x hx
  rcases List.mem_append.1 hx with h | h
  · exact hv x h
  · exact hw x h
theorem push_sm {o : List Int} {x : Int} (ho : Sm o) (hx : -26 ≤ x ∧ x ≤ 26) : Sm (push o x) := by
  unfold push
  split
  · exact fun y hy => ho y (List.mem_of_mem_take hy)
  · exact ho.app (fun y hy => by simp at hy; subst hy; exact hx)
theorem short_sm {w : List Int} (hw : Sm w) : Sm (short w) := by
  have : ∀ (w o : List Int), Sm w → Sm o → Sm (w.foldl push o) := by
    intro w
    induction w with
    | nil => intro o _ ho; exact ho
    | cons x r ih => intro o hw ho; exact ih (push o x) (fun y hy => hw y (by simp [hy])) (push_sm ho (hw x (by simp)))
  exact this w [] hw (fun y hy => by simp at hy)
theorem back_sm {w : List Int} (hw : Sm w) : Sm (back w) := by
  intro x hx
  obtain ⟨y, hy, rfl⟩ := List.mem_map.1 hx
  have := hw y (List.mem_reverse.1 hy)
  omega

theorem cat2 (v w : List Int) : [v, w].flatten = v ++ w := by simp



/-- No two neighbours cancel. -/
def Red (o : List Int) : Prop := ∀ i, i + 1 < o.length → o.getD i 0 ≠ -(o.getD (i + 1) 0)

theorem getD_take {o : List Int} {n i : Nat} (h : i < n) : (o.take n).getD i 0 = o.getD i 0 := by
  simp [List.getD, List.getElem?_take, h]
theorem getD_app1 {a b : List Int} {i : Nat} (h : i < a.length) : (a ++ b).getD i 0 = a.getD i 0 := by
  simp [List.getD, List.getElem?_append_left h]
theorem getD_app2 {a b : List Int} {i : Nat} (h : a.length ≤ i) : (a ++ b).getD i 0 = b.getD (i - a.length) 0 := by
  simp [List.getD, List.getElem?_append_right h]
theorem getD_drop (o : List Int) (n i : Nat) : (o.drop n).getD i 0 = o.getD (n + i) 0 := by
  simp [List.getD, List.getElem?_drop]

theorem Red.take {o : List Int} (h : Red o) (n : Nat) : Red (o.take n) := by
  intro i hi
  rw [List.length_take] at hi
  rw [getD_take (by omega), getD_take (by omega)]
  exact h i (by omega)

theorem red_push {o : List Int} {x : Int} (h : Red o) : Red (push o x) := by
  unfold push
  split
  · exact h.take _
  · rename_i hn
    intro i hi
    simp only [List.length_append, List.length_cons, List.length_nil] at hi
    by_cases hl : i + 1 < o.length
    · rw [getD_app1 (by omega), getD_app1 hl]; exact h i hl
    · have e : i = o.length - 1 := by omega
      rw [getD_app1 (by omega), getD_app2 (by omega), e]
      intro hc
      apply hn
      refine ⟨by omega, ?_⟩
      rw [hc]
      have : o.length - 1 + 1 - o.length = 0 := by omega
      rw [this]; rfl

theorem red_short (w : List Int) : Red (short w) := by
  have : ∀ (w o : List Int), Red o → Red (w.foldl push o) := by
    intro w
    induction w with
    | nil => intro o h; exact h
    | cons x r ih => intro o h; exact ih _ (red_push h)
  exact this w [] (fun i hi => by simp at hi)

theorem take_last {o : List Int} (h : 0 < o.length) : o.take (o.length - 1) ++ [o.getD (o.length - 1) 0] = o := by
  have : o.length - 1 < o.length := by omega
  have e := List.take_succ_eq_append_getElem this
  rw [show o.length - 1 + 1 = o.length by omega, List.take_length] at e
  simp [List.getD, List.getElem?_eq_getElem this, ← e]

theorem push_cancel {o : List Int} (x : Int) (h : Red o) : push (push o x) (-x) = o := by
  by_cases hc : 0 < o.length ∧ o.getD (o.length - 1) 0 = -x
  · have e1 : push o x = o.take (o.length - 1) := by rw [push, if_pos hc]
    rw [e1]
    have hl : (o.take (o.length - 1)).length = o.length - 1 := by simp
    rw [push, hl, if_neg ?_]
    · have := take_last hc.1
      rw [hc.2] at this; exact this
    · rintro ⟨h1, h2⟩
      rw [getD_take (by omega), Int.neg_neg] at h2
      have := h (o.length - 1 - 1) (by omega)
      rw [show o.length - 1 - 1 + 1 = o.length - 1 by omega, hc.2, h2] at this
      simp at this
  · have e1 : push o x = o ++ [x] := by rw [push, if_neg hc]
    rw [e1, push, if_pos]
    · simp
    · simp [List.getD]

theorem short_app (a b : List Int) : short (a ++ b) = b.foldl push (short a) := by simp [short, List.foldl_append]

theorem short_cancel (a r : List Int) (x : Int) : short (a ++ x :: -x :: r) = short (a ++ r) := by
  rw [short_app, short_app]
  simp only [List.foldl_cons]
  rw [push_cancel x (red_short a)]

theorem short_red {w : List Int} (h : Red w) : short w = w := by
  have key : ∀ n, n ≤ w.length → short (w.take n) = w.take n := by
    intro n
    induction n with
    | zero => intro _; rfl
    | succ n ih =>
      intro hn
      rw [short_snoc w n hn, ih (by omega), push, if_neg ?_]
      · rw [List.take_succ_eq_append_getElem hn]
        simp [List.getD, List.getElem?_eq_getElem hn]
      · rintro ⟨h1, h2⟩
        rw [List.length_take, Nat.min_eq_left (by omega)] at h1 h2
        rw [getD_take (by omega)] at h2
        have := h (n - 1) (by omega)
        rw [show n - 1 + 1 = n by omega] at this
        exact this h2
  have := key w.length (Nat.le_refl _)
  rwa [List.take_length] at this

theorem short_short (w : List Int) : short (short w) = short w := short_red (red_short w)

theorem splice {w : List Int} {i : Nat} (h : i + 1 < w.length) : w = w.take i ++ w.getD i 0 :: w.getD (i + 1) 0 :: w.drop (i + 2) := by
  have h0 : i < w.length := by omega
  have e1 := List.drop_eq_getElem_cons h0
  have e2 := List.drop_eq_getElem_cons h
  have := List.take_append_drop i w
  rw [e1, e2] at this
  simp [List.getD, List.getElem?_eq_getElem h0, List.getElem?_eq_getElem h, this]



theorem f_c (c a : Int) : FnC Try.prog 10 [.int .i64 c, .int .i64 a] (.agg [.int .i64 c, .int .i64 a]) := by
  refine fnc_of tab_ok Try.func10 rfl (by kernel_rfl) (by rw [Try.ntmps10]; exact Nat.le_add_left 2 _) ?_; rw [Try.ntmps10]; repeat (first | refine qa ?_ | refine qb ?_ | refine qc ?_ | refine qd ?_ | refine qe ?_ | refine qf ?_ | refine qg rfl ?_ | refine qh ?_ | refine qi ?_ | refine qj ?_ | refine qk ?_ | refine ql ?_ | refine qm ?_)
  (refine hk_region fun K hK => runs_eval tab_ok ?_); simp only [ev0, aops, xstep, guardA, opA, tab, binA, binInt, arith, unA, pickA, convA, allocA, boxA, loadA, storeA, fieldAddrA, fieldA, indexAddrA, lenA, lenS, sliceA, boundA, makeSliceA, elemsA, appendA, buildA, fillA, buildSliceA, partsA, extractA, builtinA, minmaxA, AV.cells, AV.isAgg, allP, mkAgg, hget, hset, isRow, cellOk, setC, after, dstOk, St.put, St.get, lk, St.ev, cv, PV.one, Int.reduceToNat, entry, ent, Nat.reduceAdd, Nat.reduceLT, Nat.reduceBEq, Nat.reduceEqDiff, Nat.reduceLeDiff, Nat.reduceMul, Nat.reduceSub, Int.cast_ofNat_Int, decide_true, decide_false, reduceCtorEq, BEq.rfl, beq_self_eq_true, bne_self_eq_false, ite_true, ite_false, if_true, if_false, reduceIte]; refine fin_run trivial (hK _ ?_) <;> clear hK <;> clear K; repeat (first | refine qa ?_ | refine qb ?_ | refine qc ?_ | refine qd ?_ | refine qe ?_ | refine qf ?_ | refine qg rfl ?_ | refine qh ?_ | refine qi ?_ | refine qj ?_ | refine qk ?_ | refine ql ?_ | refine qm ?_)
  (refine hk_region fun K hK => runs_eval tab_ok ?_); simp only [ev0, aops, xstep, guardA, opA, tab, binA, binInt, arith, unA, pickA, convA, allocA, boxA, loadA, storeA, fieldAddrA, fieldA, indexAddrA, lenA, lenS, sliceA, boundA, makeSliceA, elemsA, appendA, buildA, fillA, buildSliceA, partsA, extractA, builtinA, minmaxA, AV.cells, AV.isAgg, allP, mkAgg, hget, hset, isRow, cellOk, setC, after, dstOk, St.put, St.get, lk, St.ev, cv, PV.one, Int.reduceToNat, entry, ent, Nat.reduceAdd, Nat.reduceLT, Nat.reduceBEq, Nat.reduceEqDiff, Nat.reduceLeDiff, Nat.reduceMul, Nat.reduceSub, Int.cast_ofNat_Int, decide_true, decide_false, reduceCtorEq, BEq.rfl, beq_self_eq_true, bne_self_eq_false, ite_true, ite_false, if_true, if_false, reduceIte]; refine fin_run trivial (hK _ ?_) <;> clear hK <;> clear K; repeat (first | refine qa ?_ | refine qb ?_ | refine qc ?_ | refine qd ?_ | refine qe ?_ | refine qf ?_ | refine qg rfl ?_ | refine qh ?_ | refine qi ?_ | refine qj ?_ | refine qk ?_ | refine ql ?_ | refine qm ?_)
  simp only [Try.results10, Post, endA, rvsA, rvA, mkTup, peekA, peekG, peekS, peekList, PV.norm, PV.norm1, PV.norm0, PV.list.injEq, PV.tup.injEq, PV.agg.injEq, PV.int.injEq, PV.bool.injEq, List.cons.injEq, ev0, aops, xstep, guardA, opA, tab, binA, binInt, arith, unA, pickA, convA, allocA, boxA, loadA, storeA, fieldAddrA, fieldA, indexAddrA, lenA, lenS, sliceA, boundA, makeSliceA, elemsA, appendA, buildA, fillA, buildSliceA, partsA, extractA, builtinA, minmaxA, AV.cells, AV.isAgg, allP, mkAgg, hget, hset, isRow, cellOk, setC, after, dstOk, St.put, St.get, lk, St.ev, cv, PV.one, Int.reduceToNat, entry, ent, Nat.reduceAdd, Nat.reduceLT, Nat.reduceBEq, Nat.reduceEqDiff, Nat.reduceLeDiff, Nat.reduceMul, Nat.reduceSub, Int.cast_ofNat_Int, decide_true, decide_false, reduceCtorEq, BEq.rfl, beq_self_eq_true, bne_self_eq_false, ite_true, ite_false, if_true, if_false, reduceIte]

theorem wordFault_c (w : List Int) : FnC Try.prog 8 [.list (il w)] (fl (check w)) := by
  refine fnc_of tab_ok Try.func8 rfl (by kernel_rfl) (by rw [Try.ntmps8]; exact Nat.le_add_left 1 _) ?_; rw [Try.ntmps8]; repeat (first | refine qa ?_ | refine qb ?_ | refine qc ?_ | refine qd ?_ | refine qe ?_ | refine qf ?_ | refine qg rfl ?_ | refine qh ?_ | refine qi ?_ | refine qj ?_ | refine qk ?_ | refine ql ?_ | refine qm ?_)
  (refine hk_region fun K hK => runs_eval tab_ok ?_); simp only [ev0, aops, xstep, guardA, opA, tab, binA, binInt, arith, unA, pickA, convA, allocA, boxA, loadA, storeA, fieldAddrA, fieldA, indexAddrA, lenA, lenS, sliceA, boundA, makeSliceA, elemsA, appendA, buildA, fillA, buildSliceA, partsA, extractA, builtinA, minmaxA, AV.cells, AV.isAgg, allP, mkAgg, hget, hset, isRow, cellOk, setC, after, dstOk, St.put, St.get, lk, St.ev, cv, PV.one, Int.reduceToNat, entry, ent, Nat.reduceAdd, Nat.reduceLT, Nat.reduceBEq, Nat.reduceEqDiff, Nat.reduceLeDiff, Nat.reduceMul, Nat.reduceSub, Int.cast_ofNat_Int, decide_true, decide_false, reduceCtorEq, BEq.rfl, beq_self_eq_true, bne_self_eq_false, ite_true, ite_false, if_true, if_false, reduceIte]; refine fin_run trivial (hK _ ?_) <;> clear hK <;> clear K; repeat (first | refine qa ?_ | refine qb ?_ | refine qc ?_ | refine qd ?_ | refine qe ?_ | refine qf ?_ | refine qg rfl ?_ | refine qh ?_ | refine qi ?_ | refine qj ?_ | refine qk ?_ | refine ql ?_ | refine qm ?_)
  (refine hk_region fun K hK => runs_eval tab_ok ?_); simp only [ev0, aops, xstep, guardA, opA, tab, binA, binInt, arith, unA, pickA, convA, allocA, boxA, loadA, storeA, fieldAddrA, fieldA, indexAddrA, lenA, lenS, sliceA, boundA, makeSliceA, elemsA, appendA, buildA, fillA, buildSliceA, partsA, extractA, builtinA, minmaxA, AV.cells, AV.isAgg, allP, mkAgg, hget, hset, isRow, cellOk, setC, after, dstOk, St.put, St.get, lk, St.ev, cv, PV.one, Int.reduceToNat, entry, ent, Nat.reduceAdd, Nat.reduceLT, Nat.reduceBEq, Nat.reduceEqDiff, Nat.reduceLeDiff, Nat.reduceMul, Nat.reduceSub, Int.cast_ofNat_Int, decide_true, decide_false, reduceCtorEq, BEq.rfl, beq_self_eq_true, bne_self_eq_false, ite_true, ite_false, if_true, if_false, reduceIte]; refine fin_run trivial (hK _ ?_) <;> clear hK <;> clear K; repeat (first | refine qa ?_ | refine qb ?_ | refine qc ?_ | refine qd ?_ | refine qe ?_ | refine qf ?_ | refine qg rfl ?_ | refine qh ?_ | refine qi ?_ | refine qj ?_ | refine qk ?_ | refine ql ?_ | refine qm ?_)
  refine hk_cond rfl (fun h => ?_) (fun h => ?_)
  · repeat (first | refine qa ?_ | refine qb ?_ | refine qc ?_ | refine qd ?_ | refine qe ?_ | refine qf ?_ | refine qg rfl ?_ | refine qh ?_ | refine qi ?_ | refine qj ?_ | refine qk ?_ | refine ql ?_ | refine qm ?_)
    refine hk_region fun K hK => runs_eval tab_ok ?_
    simp only [ev0, aops, xstep, guardA, opA, tab, binA, binInt, arith, unA, pickA, convA, allocA, boxA, loadA, storeA, fieldAddrA, fieldA, indexAddrA, lenA, lenS, sliceA, boundA, makeSliceA, elemsA, appendA, buildA, fillA, buildSliceA, partsA, extractA, builtinA, minmaxA, AV.cells, AV.isAgg, allP, mkAgg, hget, hset, isRow, cellOk, setC, after, dstOk, St.put, St.get, lk, St.ev, cv, PV.one, Int.reduceToNat, entry, ent, Nat.reduceAdd, Nat.reduceLT, Nat.reduceBEq, Nat.reduceEqDiff, Nat.reduceLeDiff, Nat.reduceMul, Nat.reduceSub, Int.cast_ofNat_Int, decide_true, decide_false, reduceCtorEq, BEq.rfl, beq_self_eq_true, bne_self_eq_false, ite_true, ite_false, if_true, if_false, reduceIte]
    refine fin_stop trivial (runs_call (f_c 2 0) rfl rfl rfl (by simp only [dstOk, Nat.reduceLT]) (by repeat (first | exact trivial | constructor)) (runs_eval tab_ok ?_))
    simp only [ev0, aops, xstep, guardA, opA, tab, binA, binInt, arith, unA, pickA, convA, allocA, boxA, loadA, storeA, fieldAddrA, fieldA, indexAddrA, lenA, lenS, sliceA, boundA, makeSliceA, elemsA, appendA, buildA, fillA, buildSliceA, partsA, extractA, builtinA, minmaxA, AV.cells, AV.isAgg, allP, mkAgg, hget, hset, isRow, cellOk, setC, after, dstOk, St.put, St.get, lk, St.ev, cv, PV.one, Int.reduceToNat, entry, ent, Nat.reduceAdd, Nat.reduceLT, Nat.reduceBEq, Nat.reduceEqDiff, Nat.reduceLeDiff, Nat.reduceMul, Nat.reduceSub, Int.cast_ofNat_Int, decide_true, decide_false, reduceCtorEq, BEq.rfl, beq_self_eq_true, bne_self_eq_false, ite_true, ite_false, if_true, if_false, reduceIte]
    refine fin_run trivial (hK _ ?_) <;> clear hK <;> clear K
    repeat (first | refine qa ?_ | refine qb ?_ | refine qc ?_ | refine qd ?_ | refine qe ?_ | refine qf ?_ | refine qg rfl ?_ | refine qh ?_ | refine qi ?_ | refine qj ?_ | refine qk ?_ | refine ql ?_ | refine qm ?_)
    simp only [Try.results8, Post, endA, rvsA, rvA, mkTup, peekA, peekG, peekS, peekList, PV.norm, PV.norm1, PV.norm0, PV.list.injEq, PV.tup.injEq, PV.agg.injEq, PV.int.injEq, PV.bool.injEq, List.cons.injEq, ev0, aops, xstep, guardA, opA, tab, binA, binInt, arith, unA, pickA, convA, allocA, boxA, loadA, storeA, fieldAddrA, fieldA, indexAddrA, lenA, lenS, sliceA, boundA, makeSliceA, elemsA, appendA, buildA, fillA, buildSliceA, partsA, extractA, builtinA, minmaxA, AV.cells, AV.isAgg, allP, mkAgg, hget, hset, isRow, cellOk, setC, after, dstOk, St.put, St.get, lk, St.ev, cv, PV.one, Int.reduceToNat, entry, ent, Nat.reduceAdd, Nat.reduceLT, Nat.reduceBEq, Nat.reduceEqDiff, Nat.reduceLeDiff, Nat.reduceMul, Nat.reduceSub, Int.cast_ofNat_Int, decide_true, decide_false, reduceCtorEq, BEq.rfl, beq_self_eq_true, bne_self_eq_false, ite_true, ite_false, if_true, if_false, reduceIte]
    simp [check, fl, of_decide_eq_true h]
  · have hw : w.length ≤ 2000 := by have := of_decide_eq_false h; omega
    repeat (first | refine qa ?_ | refine qb ?_ | refine qc ?_ | refine qd ?_ | refine qe ?_ | refine qf ?_ | refine qg rfl ?_ | refine qh ?_ | refine qi ?_ | refine qj ?_ | refine qk ?_ | refine ql ?_ | refine qm ?_)
    (refine hk_region fun K hK => runs_eval tab_ok ?_); simp only [ev0, aops, xstep, guardA, opA, tab, binA, binInt, arith, unA, pickA, convA, allocA, boxA, loadA, storeA, fieldAddrA, fieldA, indexAddrA, lenA, lenS, sliceA, boundA, makeSliceA, elemsA, appendA, buildA, fillA, buildSliceA, partsA, extractA, builtinA, minmaxA, AV.cells, AV.isAgg, allP, mkAgg, hget, hset, isRow, cellOk, setC, after, dstOk, St.put, St.get, lk, St.ev, cv, PV.one, Int.reduceToNat, entry, ent, Nat.reduceAdd, Nat.reduceLT, Nat.reduceBEq, Nat.reduceEqDiff, Nat.reduceLeDiff, Nat.reduceMul, Nat.reduceSub, Int.cast_ofNat_Int, decide_true, decide_false, reduceCtorEq, BEq.rfl, beq_self_eq_true, bne_self_eq_false, ite_true, ite_false, if_true, if_false, reduceIte]; refine fin_run trivial (hK _ ?_) <;> clear hK <;> clear K; repeat (first | refine qa ?_ | refine qb ?_ | refine qc ?_ | refine qd ?_ | refine qe ?_ | refine qf ?_ | refine qg rfl ?_ | refine qh ?_ | refine qi ?_ | refine qj ?_ | refine qk ?_ | refine ql ?_ | refine qm ?_)
    refine hk_loop (ι := Nat) (fun i => ⟨36, [(0, .p (.list (il w))), (2, .ptr 0 0), (3, .p (.int .i64 i))], [.own [.p (.int .i64 0), .p (.int .i64 0)]]⟩) (fun i => i ≤ w.length ∧ chk i (w.drop i) = chk 0 w) (fun i => w.length - i) 0 ⟨Nat.zero_le _, rfl⟩ [0] (by simp only [AV.p.injEq, AV.sl.injEq, AV.ptr.injEq, Blk.own.injEq, PV.int.injEq, PV.bool.injEq, PV.list.injEq, Nat.sub_zero, Int.natCast_add, List.length_append, take_take_len, take_app1, take_app2, Le, LeH, LeS, LeB, ren, ren1, scA, sc1, List.nodup_cons, List.nodup_nil, List.mem_cons, List.not_mem_nil, or_false, not_false_eq_true, ev0, aops, xstep, guardA, opA, tab, binA, binInt, arith, unA, pickA, convA, allocA, boxA, loadA, storeA, fieldAddrA, fieldA, indexAddrA, lenA, lenS, sliceA, boundA, makeSliceA, elemsA, appendA, buildA, fillA, buildSliceA, partsA, extractA, builtinA, minmaxA, AV.cells, AV.isAgg, allP, mkAgg, hget, hset, isRow, cellOk, setC, after, dstOk, St.put, St.get, lk, St.ev, cv, PV.one, Int.reduceToNat, entry, ent, Nat.reduceAdd, Nat.reduceLT, Nat.reduceBEq, Nat.reduceEqDiff, Nat.reduceLeDiff, Nat.reduceMul, Nat.reduceSub, Int.cast_ofNat_Int, decide_true, decide_false, reduceCtorEq, BEq.rfl, beq_self_eq_true, bne_self_eq_false, ite_true, ite_false, if_true, if_false, reduceIte] <;> trivial) fun i hi => ?_
    repeat (first | refine qa ?_ | refine qb ?_ | refine qc ?_ | refine qd ?_ | refine qe ?_ | refine qf ?_ | refine qg rfl ?_ | refine qh ?_ | refine qi ?_ | refine qj ?_ | refine qk ?_ | refine ql ?_ | refine qm ?_)
    (refine hk_region fun K hK => runs_eval tab_ok ?_); simp only [ev0, aops, xstep, guardA, opA, tab, binA, binInt, arith, unA, pickA, convA, allocA, boxA, loadA, storeA, fieldAddrA, fieldA, indexAddrA, lenA, lenS, sliceA, boundA, makeSliceA, elemsA, appendA, buildA, fillA, buildSliceA, partsA, extractA, builtinA, minmaxA, AV.cells, AV.isAgg, allP, mkAgg, hget, hset, isRow, cellOk, setC, after, dstOk, St.put, St.get, lk, St.ev, cv, PV.one, Int.reduceToNat, entry, ent, Nat.reduceAdd, Nat.reduceLT, Nat.reduceBEq, Nat.reduceEqDiff, Nat.reduceLeDiff, Nat.reduceMul, Nat.reduceSub, Int.cast_ofNat_Int, decide_true, decide_false, reduceCtorEq, BEq.rfl, beq_self_eq_true, bne_self_eq_false, ite_true, ite_false, if_true, if_false, reduceIte]; refine fin_run trivial (hK _ ?_) <;> clear hK <;> clear K; repeat (first | refine qa ?_ | refine qb ?_ | refine qc ?_ | refine qd ?_ | refine qe ?_ | refine qf ?_ | refine qg rfl ?_ | refine qh ?_ | refine qi ?_ | refine qj ?_ | refine qk ?_ | refine ql ?_ | refine qm ?_)
    refine hk_cond rfl (fun hlt => ?_) (fun hlt => ?_)
    · repeat (first | refine qa ?_ | refine qb ?_ | refine qc ?_ | refine qd ?_ | refine qe ?_ | refine qf ?_ | refine qg rfl ?_ | refine qh ?_ | refine qi ?_ | refine qj ?_ | refine qk ?_ | refine ql ?_ | refine qm ?_)
      have hlt : i < w.length := by have := of_decide_eq_true hlt; omega
      obtain ⟨hi1, hi2⟩ := hi
      have hdrop : w.drop i = w.getD i 0 :: w.drop (i + 1) := by
        rw [List.drop_eq_getElem_cons hlt]; simp [List.getD, List.getElem?_eq_getElem hlt]
      have next : ¬ (w.getD i 0 = 0 ∨ w.getD i 0 < -26 ∨ w.getD i 0 > 26) → chk (i + 1) (w.drop (i + 1)) = chk 0 w := by
        intro hn
        rw [hdrop, chk, if_neg hn] at hi2; exact hi2
      have last : (w.getD i 0 = 0 ∨ w.getD i 0 < -26 ∨ w.getD i 0 > 26) → chk 0 w = (3, (i : Int)) := by
        intro hn
        rw [hdrop, chk, if_pos hn] at hi2; exact hi2.symm
      have hg := il_get hlt
      refine hk_cut ⟨36, [(32, .p (.bool (decide (w.getD i 0 = 0 ∨ w.getD i 0 < -26 ∨ w.getD i 0 > 26)))), (0, .p (.list (il w))), (2, .ptr 0 0), (3, .p (.int .i64 i))], [.own [.p (.int .i64 0), .p (.int .i64 0)]]⟩ ?_ ?_
      · generalize w.getD i 0 = x at *
        cases e1 : (x == 0)
        · cases e2 : decide (x > 26)
          · refine hk_region fun K hK => runs_eval tab_ok ?_
            simp only [ev0, aops, xstep, guardA, opA, tab, binA, binInt, arith, unA, pickA, convA, allocA, boxA, loadA, storeA, fieldAddrA, fieldA, indexAddrA, lenA, lenS, sliceA, boundA, makeSliceA, elemsA, appendA, buildA, fillA, buildSliceA, partsA, extractA, builtinA, minmaxA, AV.cells, AV.isAgg, allP, mkAgg, hget, hset, isRow, cellOk, setC, after, dstOk, St.put, St.get, lk, St.ev, cv, PV.one, Int.reduceToNat, entry, ent, Nat.reduceAdd, Nat.reduceLT, Nat.reduceBEq, Nat.reduceEqDiff, Nat.reduceLeDiff, Nat.reduceMul, Nat.reduceSub, Int.cast_ofNat_Int, decide_true, decide_false, reduceCtorEq, BEq.rfl, beq_self_eq_true, bne_self_eq_false, ite_true, ite_false, if_true, if_false, reduceIte, hg, e1, e2]
            refine fin_run ?_ (hK _ ?_) <;> clear hK <;> clear K
            · omega
            refine ⟨rfl, [0], ?_⟩; simp only [AV.p.injEq, AV.sl.injEq, AV.ptr.injEq, Blk.own.injEq, PV.int.injEq, PV.bool.injEq, PV.list.injEq, Nat.sub_zero, Int.natCast_add, List.length_append, take_take_len, take_app1, take_app2, Le, LeH, LeS, LeB, ren, ren1, scA, sc1, List.nodup_cons, List.nodup_nil, List.mem_cons, List.not_mem_nil, or_false, not_false_eq_true, ev0, aops, xstep, guardA, opA, tab, binA, binInt, arith, unA, pickA, convA, allocA, boxA, loadA, storeA, fieldAddrA, fieldA, indexAddrA, lenA, lenS, sliceA, boundA, makeSliceA, elemsA, appendA, buildA, fillA, buildSliceA, partsA, extractA, builtinA, minmaxA, AV.cells, AV.isAgg, allP, mkAgg, hget, hset, isRow, cellOk, setC, after, dstOk, St.put, St.get, lk, St.ev, cv, PV.one, Int.reduceToNat, entry, ent, Nat.reduceAdd, Nat.reduceLT, Nat.reduceBEq, Nat.reduceEqDiff, Nat.reduceLeDiff, Nat.reduceMul, Nat.reduceSub, Int.cast_ofNat_Int, decide_true, decide_false, reduceCtorEq, BEq.rfl, beq_self_eq_true, bne_self_eq_false, ite_true, ite_false, if_true, if_false, reduceIte]; (first | exact trivial | omega | (simp only [In64] at *; omega) | (rw [Bool.eq_iff_iff]; simp; done) | (rw [Bool.eq_iff_iff]; simp; omega) | (simp [In64] at *; omega) | (simp_all; done) | (simp_all [In64] <;> omega) | skip)
          · refine hk_region fun K hK => runs_eval tab_ok ?_
            simp only [ev0, aops, xstep, guardA, opA, tab, binA, binInt, arith, unA, pickA, convA, allocA, boxA, loadA, storeA, fieldAddrA, fieldA, indexAddrA, lenA, lenS, sliceA, boundA, makeSliceA, elemsA, appendA, buildA, fillA, buildSliceA, partsA, extractA, builtinA, minmaxA, AV.cells, AV.isAgg, allP, mkAgg, hget, hset, isRow, cellOk, setC, after, dstOk, St.put, St.get, lk, St.ev, cv, PV.one, Int.reduceToNat, entry, ent, Nat.reduceAdd, Nat.reduceLT, Nat.reduceBEq, Nat.reduceEqDiff, Nat.reduceLeDiff, Nat.reduceMul, Nat.reduceSub, Int.cast_ofNat_Int, decide_true, decide_false, reduceCtorEq, BEq.rfl, beq_self_eq_true, bne_self_eq_false, ite_true, ite_false, if_true, if_false, reduceIte, hg, e1, e2]
            refine fin_run ?_ (hK _ ?_) <;> clear hK <;> clear K
            · omega
            refine ⟨rfl, [0], ?_⟩; simp only [AV.p.injEq, AV.sl.injEq, AV.ptr.injEq, Blk.own.injEq, PV.int.injEq, PV.bool.injEq, PV.list.injEq, Nat.sub_zero, Int.natCast_add, List.length_append, take_take_len, take_app1, take_app2, Le, LeH, LeS, LeB, ren, ren1, scA, sc1, List.nodup_cons, List.nodup_nil, List.mem_cons, List.not_mem_nil, or_false, not_false_eq_true, ev0, aops, xstep, guardA, opA, tab, binA, binInt, arith, unA, pickA, convA, allocA, boxA, loadA, storeA, fieldAddrA, fieldA, indexAddrA, lenA, lenS, sliceA, boundA, makeSliceA, elemsA, appendA, buildA, fillA, buildSliceA, partsA, extractA, builtinA, minmaxA, AV.cells, AV.isAgg, allP, mkAgg, hget, hset, isRow, cellOk, setC, after, dstOk, St.put, St.get, lk, St.ev, cv, PV.one, Int.reduceToNat, entry, ent, Nat.reduceAdd, Nat.reduceLT, Nat.reduceBEq, Nat.reduceEqDiff, Nat.reduceLeDiff, Nat.reduceMul, Nat.reduceSub, Int.cast_ofNat_Int, decide_true, decide_false, reduceCtorEq, BEq.rfl, beq_self_eq_true, bne_self_eq_false, ite_true, ite_false, if_true, if_false, reduceIte]; (first | exact trivial | omega | (simp only [In64] at *; omega) | (rw [Bool.eq_iff_iff]; simp; done) | (rw [Bool.eq_iff_iff]; simp; omega) | (simp [In64] at *; omega) | (simp_all; done) | (simp_all [In64] <;> omega) | skip)
        · refine hk_region fun K hK => runs_eval tab_ok ?_
          simp only [ev0, aops, xstep, guardA, opA, tab, binA, binInt, arith, unA, pickA, convA, allocA, boxA, loadA, storeA, fieldAddrA, fieldA, indexAddrA, lenA, lenS, sliceA, boundA, makeSliceA, elemsA, appendA, buildA, fillA, buildSliceA, partsA, extractA, builtinA, minmaxA, AV.cells, AV.isAgg, allP, mkAgg, hget, hset, isRow, cellOk, setC, after, dstOk, St.put, St.get, lk, St.ev, cv, PV.one, Int.reduceToNat, entry, ent, Nat.reduceAdd, Nat.reduceLT, Nat.reduceBEq, Nat.reduceEqDiff, Nat.reduceLeDiff, Nat.reduceMul, Nat.reduceSub, Int.cast_ofNat_Int, decide_true, decide_false, reduceCtorEq, BEq.rfl, beq_self_eq_true, bne_self_eq_false, ite_true, ite_false, if_true, if_false, reduceIte, hg, e1]
          refine fin_run ?_ (hK _ ?_) <;> clear hK <;> clear K
          · omega
          refine ⟨rfl, [0], ?_⟩; simp only [AV.p.injEq, AV.sl.injEq, AV.ptr.injEq, Blk.own.injEq, PV.int.injEq, PV.bool.injEq, PV.list.injEq, Nat.sub_zero, Int.natCast_add, List.length_append, take_take_len, take_app1, take_app2, Le, LeH, LeS, LeB, ren, ren1, scA, sc1, List.nodup_cons, List.nodup_nil, List.mem_cons, List.not_mem_nil, or_false, not_false_eq_true, ev0, aops, xstep, guardA, opA, tab, binA, binInt, arith, unA, pickA, convA, allocA, boxA, loadA, storeA, fieldAddrA, fieldA, indexAddrA, lenA, lenS, sliceA, boundA, makeSliceA, elemsA, appendA, buildA, fillA, buildSliceA, partsA, extractA, builtinA, minmaxA, AV.cells, AV.isAgg, allP, mkAgg, hget, hset, isRow, cellOk, setC, after, dstOk, St.put, St.get, lk, St.ev, cv, PV.one, Int.reduceToNat, entry, ent, Nat.reduceAdd, Nat.reduceLT, Nat.reduceBEq, Nat.reduceEqDiff, Nat.reduceLeDiff, Nat.reduceMul, Nat.reduceSub, Int.cast_ofNat_Int, decide_true, decide_false, reduceCtorEq, BEq.rfl, beq_self_eq_true, bne_self_eq_false, ite_true, ite_false, if_true, if_false, reduceIte]; (first | exact trivial | omega | (simp only [In64] at *; omega) | (rw [Bool.eq_iff_iff]; simp; done) | (rw [Bool.eq_iff_iff]; simp; omega) | (simp [In64] at *; omega) | (simp_all; done) | (simp_all [In64] <;> omega) | skip)
      · refine hk_cond rfl (fun hc => ?_) (fun hc => ?_)
        · repeat (first | refine qa ?_ | refine qb ?_ | refine qc ?_ | refine qd ?_ | refine qe ?_ | refine qf ?_ | refine qg rfl ?_ | refine qh ?_ | refine qi ?_ | refine qj ?_ | refine qk ?_ | refine ql ?_ | refine qm ?_)
          refine hk_region fun K hK => runs_eval tab_ok ?_
          simp only [ev0, aops, xstep, guardA, opA, tab, binA, binInt, arith, unA, pickA, convA, allocA, boxA, loadA, storeA, fieldAddrA, fieldA, indexAddrA, lenA, lenS, sliceA, boundA, makeSliceA, elemsA, appendA, buildA, fillA, buildSliceA, partsA, extractA, builtinA, minmaxA, AV.cells, AV.isAgg, allP, mkAgg, hget, hset, isRow, cellOk, setC, after, dstOk, St.put, St.get, lk, St.ev, cv, PV.one, Int.reduceToNat, entry, ent, Nat.reduceAdd, Nat.reduceLT, Nat.reduceBEq, Nat.reduceEqDiff, Nat.reduceLeDiff, Nat.reduceMul, Nat.reduceSub, Int.cast_ofNat_Int, decide_true, decide_false, reduceCtorEq, BEq.rfl, beq_self_eq_true, bne_self_eq_false, ite_true, ite_false, if_true, if_false, reduceIte]
          refine fin_stop trivial (runs_call (f_c 3 i) rfl rfl rfl (by simp only [dstOk, Nat.reduceLT]) (by repeat (first | exact trivial | constructor)) (runs_eval tab_ok ?_))
          simp only [ev0, aops, xstep, guardA, opA, tab, binA, binInt, arith, unA, pickA, convA, allocA, boxA, loadA, storeA, fieldAddrA, fieldA, indexAddrA, lenA, lenS, sliceA, boundA, makeSliceA, elemsA, appendA, buildA, fillA, buildSliceA, partsA, extractA, builtinA, minmaxA, AV.cells, AV.isAgg, allP, mkAgg, hget, hset, isRow, cellOk, setC, after, dstOk, St.put, St.get, lk, St.ev, cv, PV.one, Int.reduceToNat, entry, ent, Nat.reduceAdd, Nat.reduceLT, Nat.reduceBEq, Nat.reduceEqDiff, Nat.reduceLeDiff, Nat.reduceMul, Nat.reduceSub, Int.cast_ofNat_Int, decide_true, decide_false, reduceCtorEq, BEq.rfl, beq_self_eq_true, bne_self_eq_false, ite_true, ite_false, if_true, if_false, reduceIte]
          refine fin_run trivial (hK _ ?_) <;> clear hK <;> clear K
          repeat (first | refine qa ?_ | refine qb ?_ | refine qc ?_ | refine qd ?_ | refine qe ?_ | refine qf ?_ | refine qg rfl ?_ | refine qh ?_ | refine qi ?_ | refine qj ?_ | refine qk ?_ | refine ql ?_ | refine qm ?_)
          simp only [Try.results8, Post, endA, rvsA, rvA, mkTup, peekA, peekG, peekS, peekList, PV.norm, PV.norm1, PV.norm0, PV.list.injEq, PV.tup.injEq, PV.agg.injEq, PV.int.injEq, PV.bool.injEq, List.cons.injEq, ev0, aops, xstep, guardA, opA, tab, binA, binInt, arith, unA, pickA, convA, allocA, boxA, loadA, storeA, fieldAddrA, fieldA, indexAddrA, lenA, lenS, sliceA, boundA, makeSliceA, elemsA, appendA, buildA, fillA, buildSliceA, partsA, extractA, builtinA, minmaxA, AV.cells, AV.isAgg, allP, mkAgg, hget, hset, isRow, cellOk, setC, after, dstOk, St.put, St.get, lk, St.ev, cv, PV.one, Int.reduceToNat, entry, ent, Nat.reduceAdd, Nat.reduceLT, Nat.reduceBEq, Nat.reduceEqDiff, Nat.reduceLeDiff, Nat.reduceMul, Nat.reduceSub, Int.cast_ofNat_Int, decide_true, decide_false, reduceCtorEq, BEq.rfl, beq_self_eq_true, bne_self_eq_false, ite_true, ite_false, if_true, if_false, reduceIte]
          rw [check, if_neg (by omega), last (of_decide_eq_true hc)]; rfl
        · repeat (first | refine qa ?_ | refine qb ?_ | refine qc ?_ | refine qd ?_ | refine qe ?_ | refine qf ?_ | refine qg rfl ?_ | refine qh ?_ | refine qi ?_ | refine qj ?_ | refine qk ?_ | refine ql ?_ | refine qm ?_)
          refine hk_region fun K hK => runs_eval tab_ok ?_
          simp only [ev0, aops, xstep, guardA, opA, tab, binA, binInt, arith, unA, pickA, convA, allocA, boxA, loadA, storeA, fieldAddrA, fieldA, indexAddrA, lenA, lenS, sliceA, boundA, makeSliceA, elemsA, appendA, buildA, fillA, buildSliceA, partsA, extractA, builtinA, minmaxA, AV.cells, AV.isAgg, allP, mkAgg, hget, hset, isRow, cellOk, setC, after, dstOk, St.put, St.get, lk, St.ev, cv, PV.one, Int.reduceToNat, entry, ent, Nat.reduceAdd, Nat.reduceLT, Nat.reduceBEq, Nat.reduceEqDiff, Nat.reduceLeDiff, Nat.reduceMul, Nat.reduceSub, Int.cast_ofNat_Int, decide_true, decide_false, reduceCtorEq, BEq.rfl, beq_self_eq_true, bne_self_eq_false, ite_true, ite_false, if_true, if_false, reduceIte]
          refine fin_run ?_ (hK _ ?_) <;> clear hK <;> clear K
          · (first | exact trivial | omega | (simp only [In64] at *; omega) | (rw [Bool.eq_iff_iff]; simp; done) | (rw [Bool.eq_iff_iff]; simp; omega) | (simp [In64] at *; omega) | (simp_all; done) | (simp_all [In64] <;> omega) | skip)
          repeat (first | refine qa ?_ | refine qb ?_ | refine qc ?_ | refine qd ?_ | refine qe ?_ | refine qf ?_ | refine qg rfl ?_ | refine qh ?_ | refine qi ?_ | refine qj ?_ | refine qk ?_ | refine ql ?_ | refine qm ?_)
          refine ⟨i + 1, [0], ⟨by omega, next (of_decide_eq_false hc)⟩, by omega, ?_⟩
          simp only [AV.p.injEq, AV.sl.injEq, AV.ptr.injEq, Blk.own.injEq, PV.int.injEq, PV.bool.injEq, PV.list.injEq, Nat.sub_zero, Int.natCast_add, List.length_append, take_take_len, take_app1, take_app2, Le, LeH, LeS, LeB, ren, ren1, scA, sc1, List.nodup_cons, List.nodup_nil, List.mem_cons, List.not_mem_nil, or_false, not_false_eq_true, ev0, aops, xstep, guardA, opA, tab, binA, binInt, arith, unA, pickA, convA, allocA, boxA, loadA, storeA, fieldAddrA, fieldA, indexAddrA, lenA, lenS, sliceA, boundA, makeSliceA, elemsA, appendA, buildA, fillA, buildSliceA, partsA, extractA, builtinA, minmaxA, AV.cells, AV.isAgg, allP, mkAgg, hget, hset, isRow, cellOk, setC, after, dstOk, St.put, St.get, lk, St.ev, cv, PV.one, Int.reduceToNat, entry, ent, Nat.reduceAdd, Nat.reduceLT, Nat.reduceBEq, Nat.reduceEqDiff, Nat.reduceLeDiff, Nat.reduceMul, Nat.reduceSub, Int.cast_ofNat_Int, decide_true, decide_false, reduceCtorEq, BEq.rfl, beq_self_eq_true, bne_self_eq_false, ite_true, ite_false, if_true, if_false, reduceIte] <;> (first | exact trivial | omega | (simp only [In64] at *; omega) | (rw [Bool.eq_iff_iff]; simp; done) | (rw [Bool.eq_iff_iff]; simp; omega) | (simp [In64] at *; omega) | (simp_all; done) | (simp_all [In64] <;> omega) | skip)
    · repeat (first | refine qa ?_ | refine qb ?_ | refine qc ?_ | refine qd ?_ | refine qe ?_ | refine qf ?_ | refine qg rfl ?_ | refine qh ?_ | refine qi ?_ | refine qj ?_ | refine qk ?_ | refine ql ?_ | refine qm ?_)
      (refine hk_region fun K hK => runs_eval tab_ok ?_); simp only [ev0, aops, xstep, guardA, opA, tab, binA, binInt, arith, unA, pickA, convA, allocA, boxA, loadA, storeA, fieldAddrA, fieldA, indexAddrA, lenA, lenS, sliceA, boundA, makeSliceA, elemsA, appendA, buildA, fillA, buildSliceA, partsA, extractA, builtinA, minmaxA, AV.cells, AV.isAgg, allP, mkAgg, hget, hset, isRow, cellOk, setC, after, dstOk, St.put, St.get, lk, St.ev, cv, PV.one, Int.reduceToNat, entry, ent, Nat.reduceAdd, Nat.reduceLT, Nat.reduceBEq, Nat.reduceEqDiff, Nat.reduceLeDiff, Nat.reduceMul, Nat.reduceSub, Int.cast_ofNat_Int, decide_true, decide_false, reduceCtorEq, BEq.rfl, beq_self_eq_true, bne_self_eq_false, ite_true, ite_false, if_true, if_false, reduceIte]; refine fin_run trivial (hK _ ?_) <;> clear hK <;> clear K; repeat (first | refine qa ?_ | refine qb ?_ | refine qc ?_ | refine qd ?_ | refine qe ?_ | refine qf ?_ | refine qg rfl ?_ | refine qh ?_ | refine qi ?_ | refine qj ?_ | refine qk ?_ | refine ql ?_ | refine qm ?_)
      simp only [Try.results8, Post, endA, rvsA, rvA, mkTup, peekA, peekG, peekS, peekList, PV.norm, PV.norm1, PV.norm0, PV.list.injEq, PV.tup.injEq, PV.agg.injEq, PV.int.injEq, PV.bool.injEq, List.cons.injEq, ev0, aops, xstep, guardA, opA, tab, binA, binInt, arith, unA, pickA, convA, allocA, boxA, loadA, storeA, fieldAddrA, fieldA, indexAddrA, lenA, lenS, sliceA, boundA, makeSliceA, elemsA, appendA, buildA, fillA, buildSliceA, partsA, extractA, builtinA, minmaxA, AV.cells, AV.isAgg, allP, mkAgg, hget, hset, isRow, cellOk, setC, after, dstOk, St.put, St.get, lk, St.ev, cv, PV.one, Int.reduceToNat, entry, ent, Nat.reduceAdd, Nat.reduceLT, Nat.reduceBEq, Nat.reduceEqDiff, Nat.reduceLeDiff, Nat.reduceMul, Nat.reduceSub, Int.cast_ofNat_Int, decide_true, decide_false, reduceCtorEq, BEq.rfl, beq_self_eq_true, bne_self_eq_false, ite_true, ite_false, if_true, if_false, reduceIte]
      have : i = w.length := by have := of_decide_eq_false hlt; omega
      rw [check, if_neg (by omega), ← hi.2, this, List.drop_length]; rfl



theorem ints_c (v w : List Int) (hl : v.length ≤ 1000000000) : FnC Try.prog 9 [.list (il v), .list (il w)] (.bool (decide (v = w))) := by
  refine fnc_of tab_ok Try.func9 rfl (by kernel_rfl) (by rw [Try.ntmps9]; exact Nat.le_add_left 2 _) ?_; rw [Try.ntmps9]; repeat (first | refine qa ?_ | refine qb ?_ | refine qc ?_ | refine qd ?_ | refine qe ?_ | refine qf ?_ | refine qg rfl ?_ | refine qh ?_ | refine qi ?_ | refine qj ?_ | refine qk ?_ | refine ql ?_ | refine qm ?_)
  (refine hk_region fun K hK => runs_eval tab_ok ?_); simp only [ev0, aops, xstep, guardA, opA, tab, binA, binInt, arith, unA, pickA, convA, allocA, boxA, loadA, storeA, fieldAddrA, fieldA, indexAddrA, lenA, lenS, sliceA, boundA, makeSliceA, elemsA, appendA, buildA, fillA, buildSliceA, partsA, extractA, builtinA, minmaxA, AV.cells, AV.isAgg, allP, mkAgg, hget, hset, isRow, cellOk, setC, after, dstOk, St.put, St.get, lk, St.ev, cv, PV.one, Int.reduceToNat, entry, ent, Nat.reduceAdd, Nat.reduceLT, Nat.reduceBEq, Nat.reduceEqDiff, Nat.reduceLeDiff, Nat.reduceMul, Nat.reduceSub, Int.cast_ofNat_Int, decide_true, decide_false, reduceCtorEq, BEq.rfl, beq_self_eq_true, bne_self_eq_false, ite_true, ite_false, if_true, if_false, reduceIte]; refine fin_run trivial (hK _ ?_) <;> clear hK <;> clear K; repeat (first | refine qa ?_ | refine qb ?_ | refine qc ?_ | refine qd ?_ | refine qe ?_ | refine qf ?_ | refine qg rfl ?_ | refine qh ?_ | refine qi ?_ | refine qj ?_ | refine qk ?_ | refine ql ?_ | refine qm ?_)
  (refine hk_region fun K hK => runs_eval tab_ok ?_); simp only [ev0, aops, xstep, guardA, opA, tab, binA, binInt, arith, unA, pickA, convA, allocA, boxA, loadA, storeA, fieldAddrA, fieldA, indexAddrA, lenA, lenS, sliceA, boundA, makeSliceA, elemsA, appendA, buildA, fillA, buildSliceA, partsA, extractA, builtinA, minmaxA, AV.cells, AV.isAgg, allP, mkAgg, hget, hset, isRow, cellOk, setC, after, dstOk, St.put, St.get, lk, St.ev, cv, PV.one, Int.reduceToNat, entry, ent, Nat.reduceAdd, Nat.reduceLT, Nat.reduceBEq, Nat.reduceEqDiff, Nat.reduceLeDiff, Nat.reduceMul, Nat.reduceSub, Int.cast_ofNat_Int, decide_true, decide_false, reduceCtorEq, BEq.rfl, beq_self_eq_true, bne_self_eq_false, ite_true, ite_false, if_true, if_false, reduceIte]; refine fin_run trivial (hK _ ?_) <;> clear hK <;> clear K; repeat (first | refine qa ?_ | refine qb ?_ | refine qc ?_ | refine qd ?_ | refine qe ?_ | refine qf ?_ | refine qg rfl ?_ | refine qh ?_ | refine qi ?_ | refine qj ?_ | refine qk ?_ | refine ql ?_ | refine qm ?_)
  refine hk_cond rfl (fun hn => ?_) (fun hn => ?_)
  · repeat (first | refine qa ?_ | refine qb ?_ | refine qc ?_ | refine qd ?_ | refine qe ?_ | refine qf ?_ | refine qg rfl ?_ | refine qh ?_ | refine qi ?_ | refine qj ?_ | refine qk ?_ | refine ql ?_ | refine qm ?_)
    (refine hk_region fun K hK => runs_eval tab_ok ?_); simp only [ev0, aops, xstep, guardA, opA, tab, binA, binInt, arith, unA, pickA, convA, allocA, boxA, loadA, storeA, fieldAddrA, fieldA, indexAddrA, lenA, lenS, sliceA, boundA, makeSliceA, elemsA, appendA, buildA, fillA, buildSliceA, partsA, extractA, builtinA, minmaxA, AV.cells, AV.isAgg, allP, mkAgg, hget, hset, isRow, cellOk, setC, after, dstOk, St.put, St.get, lk, St.ev, cv, PV.one, Int.reduceToNat, entry, ent, Nat.reduceAdd, Nat.reduceLT, Nat.reduceBEq, Nat.reduceEqDiff, Nat.reduceLeDiff, Nat.reduceMul, Nat.reduceSub, Int.cast_ofNat_Int, decide_true, decide_false, reduceCtorEq, BEq.rfl, beq_self_eq_true, bne_self_eq_false, ite_true, ite_false, if_true, if_false, reduceIte]; refine fin_run trivial (hK _ ?_) <;> clear hK <;> clear K; repeat (first | refine qa ?_ | refine qb ?_ | refine qc ?_ | refine qd ?_ | refine qe ?_ | refine qf ?_ | refine qg rfl ?_ | refine qh ?_ | refine qi ?_ | refine qj ?_ | refine qk ?_ | refine ql ?_ | refine qm ?_)
    simp only [Try.results9, Post, endA, rvsA, rvA, mkTup, peekA, peekG, peekS, peekList, PV.norm, PV.norm1, PV.norm0, PV.list.injEq, PV.tup.injEq, PV.agg.injEq, PV.int.injEq, PV.bool.injEq, List.cons.injEq, ev0, aops, xstep, guardA, opA, tab, binA, binInt, arith, unA, pickA, convA, allocA, boxA, loadA, storeA, fieldAddrA, fieldA, indexAddrA, lenA, lenS, sliceA, boundA, makeSliceA, elemsA, appendA, buildA, fillA, buildSliceA, partsA, extractA, builtinA, minmaxA, AV.cells, AV.isAgg, allP, mkAgg, hget, hset, isRow, cellOk, setC, after, dstOk, St.put, St.get, lk, St.ev, cv, PV.one, Int.reduceToNat, entry, ent, Nat.reduceAdd, Nat.reduceLT, Nat.reduceBEq, Nat.reduceEqDiff, Nat.reduceLeDiff, Nat.reduceMul, Nat.reduceSub, Int.cast_ofNat_Int, decide_true, decide_false, reduceCtorEq, BEq.rfl, beq_self_eq_true, bne_self_eq_false, ite_true, ite_false, if_true, if_false, reduceIte]
    have : v ≠ w := by intro h; subst h; simp at hn
    simp [this]
  · have hn : v.length = w.length := by simp at hn; omega
    repeat (first | refine qa ?_ | refine qb ?_ | refine qc ?_ | refine qd ?_ | refine qe ?_ | refine qf ?_ | refine qg rfl ?_ | refine qh ?_ | refine qi ?_ | refine qj ?_ | refine qk ?_ | refine ql ?_ | refine qm ?_)
    (refine hk_region fun K hK => runs_eval tab_ok ?_); simp only [ev0, aops, xstep, guardA, opA, tab, binA, binInt, arith, unA, pickA, convA, allocA, boxA, loadA, storeA, fieldAddrA, fieldA, indexAddrA, lenA, lenS, sliceA, boundA, makeSliceA, elemsA, appendA, buildA, fillA, buildSliceA, partsA, extractA, builtinA, minmaxA, AV.cells, AV.isAgg, allP, mkAgg, hget, hset, isRow, cellOk, setC, after, dstOk, St.put, St.get, lk, St.ev, cv, PV.one, Int.reduceToNat, entry, ent, Nat.reduceAdd, Nat.reduceLT, Nat.reduceBEq, Nat.reduceEqDiff, Nat.reduceLeDiff, Nat.reduceMul, Nat.reduceSub, Int.cast_ofNat_Int, decide_true, decide_false, reduceCtorEq, BEq.rfl, beq_self_eq_true, bne_self_eq_false, ite_true, ite_false, if_true, if_false, reduceIte]; refine fin_run trivial (hK _ ?_) <;> clear hK <;> clear K; repeat (first | refine qa ?_ | refine qb ?_ | refine qc ?_ | refine qd ?_ | refine qe ?_ | refine qf ?_ | refine qg rfl ?_ | refine qh ?_ | refine qi ?_ | refine qj ?_ | refine qk ?_ | refine ql ?_ | refine qm ?_)
    refine hk_loop (ι := Nat) (fun i => ⟨26, [(0, .p (.list (il v))), (1, .p (.list (il w))), (5, .p (.int .i64 i))], []⟩) (fun i => i ≤ v.length ∧ v.take i = w.take i) (fun i => v.length - i) 0 ⟨Nat.zero_le _, rfl⟩ [] (by simp only [AV.p.injEq, AV.sl.injEq, AV.ptr.injEq, Blk.own.injEq, PV.int.injEq, PV.bool.injEq, PV.list.injEq, Nat.sub_zero, Int.natCast_add, List.length_append, take_take_len, take_app1, take_app2, Le, LeH, LeS, LeB, ren, ren1, scA, sc1, List.nodup_cons, List.nodup_nil, List.mem_cons, List.not_mem_nil, or_false, not_false_eq_true, ev0, aops, xstep, guardA, opA, tab, binA, binInt, arith, unA, pickA, convA, allocA, boxA, loadA, storeA, fieldAddrA, fieldA, indexAddrA, lenA, lenS, sliceA, boundA, makeSliceA, elemsA, appendA, buildA, fillA, buildSliceA, partsA, extractA, builtinA, minmaxA, AV.cells, AV.isAgg, allP, mkAgg, hget, hset, isRow, cellOk, setC, after, dstOk, St.put, St.get, lk, St.ev, cv, PV.one, Int.reduceToNat, entry, ent, Nat.reduceAdd, Nat.reduceLT, Nat.reduceBEq, Nat.reduceEqDiff, Nat.reduceLeDiff, Nat.reduceMul, Nat.reduceSub, Int.cast_ofNat_Int, decide_true, decide_false, reduceCtorEq, BEq.rfl, beq_self_eq_true, bne_self_eq_false, ite_true, ite_false, if_true, if_false, reduceIte] <;> trivial) fun i hi => ?_
    obtain ⟨hi1, hi2⟩ := hi
    repeat (first | refine qa ?_ | refine qb ?_ | refine qc ?_ | refine qd ?_ | refine qe ?_ | refine qf ?_ | refine qg rfl ?_ | refine qh ?_ | refine qi ?_ | refine qj ?_ | refine qk ?_ | refine ql ?_ | refine qm ?_)
    (refine hk_region fun K hK => runs_eval tab_ok ?_); simp only [ev0, aops, xstep, guardA, opA, tab, binA, binInt, arith, unA, pickA, convA, allocA, boxA, loadA, storeA, fieldAddrA, fieldA, indexAddrA, lenA, lenS, sliceA, boundA, makeSliceA, elemsA, appendA, buildA, fillA, buildSliceA, partsA, extractA, builtinA, minmaxA, AV.cells, AV.isAgg, allP, mkAgg, hget, hset, isRow, cellOk, setC, after, dstOk, St.put, St.get, lk, St.ev, cv, PV.one, Int.reduceToNat, entry, ent, Nat.reduceAdd, Nat.reduceLT, Nat.reduceBEq, Nat.reduceEqDiff, Nat.reduceLeDiff, Nat.reduceMul, Nat.reduceSub, Int.cast_ofNat_Int, decide_true, decide_false, reduceCtorEq, BEq.rfl, beq_self_eq_true, bne_self_eq_false, ite_true, ite_false, if_true, if_false, reduceIte]; refine fin_run trivial (hK _ ?_) <;> clear hK <;> clear K; repeat (first | refine qa ?_ | refine qb ?_ | refine qc ?_ | refine qd ?_ | refine qe ?_ | refine qf ?_ | refine qg rfl ?_ | refine qh ?_ | refine qi ?_ | refine qj ?_ | refine qk ?_ | refine ql ?_ | refine qm ?_)
    refine hk_cond rfl (fun hlt => ?_) (fun hlt => ?_)
    · have hlt : i < v.length := by have := of_decide_eq_true hlt; omega
      repeat (first | refine qa ?_ | refine qb ?_ | refine qc ?_ | refine qd ?_ | refine qe ?_ | refine qf ?_ | refine qg rfl ?_ | refine qh ?_ | refine qi ?_ | refine qj ?_ | refine qk ?_ | refine ql ?_ | refine qm ?_)
      refine hk_draw mixed (by kernel_rfl) fun K hK => runs_eval tab_ok ?_
      simp only [ev0, aops, xstep, guardA, opA, tab, binA, binInt, arith, unA, pickA, convA, allocA, boxA, loadA, storeA, fieldAddrA, fieldA, indexAddrA, lenA, lenS, sliceA, boundA, makeSliceA, elemsA, appendA, buildA, fillA, buildSliceA, partsA, extractA, builtinA, minmaxA, AV.cells, AV.isAgg, allP, mkAgg, hget, hset, isRow, cellOk, setC, after, dstOk, St.put, St.get, lk, St.ev, cv, PV.one, Int.reduceToNat, entry, ent, Nat.reduceAdd, Nat.reduceLT, Nat.reduceBEq, Nat.reduceEqDiff, Nat.reduceLeDiff, Nat.reduceMul, Nat.reduceSub, Int.cast_ofNat_Int, decide_true, decide_false, reduceCtorEq, BEq.rfl, beq_self_eq_true, bne_self_eq_false, ite_true, ite_false, if_true, if_false, reduceIte, il_get hlt, il_get (show i < w.length by omega)]
      refine fin_run ?_ (hK _ ?_) <;> clear hK <;> clear K
      · omega
      repeat (first | refine qa ?_ | refine qb ?_ | refine qc ?_ | refine qd ?_ | refine qe ?_ | refine qf ?_ | refine qg rfl ?_ | refine qh ?_ | refine qi ?_ | refine qj ?_ | refine qk ?_ | refine ql ?_ | refine qm ?_)
      refine hk_cond rfl (fun hc => ?_) (fun hc => ?_)
      · repeat (first | refine qa ?_ | refine qb ?_ | refine qc ?_ | refine qd ?_ | refine qe ?_ | refine qf ?_ | refine qg rfl ?_ | refine qh ?_ | refine qi ?_ | refine qj ?_ | refine qk ?_ | refine ql ?_ | refine qm ?_)
        (refine hk_region fun K hK => runs_eval tab_ok ?_); simp only [ev0, aops, xstep, guardA, opA, tab, binA, binInt, arith, unA, pickA, convA, allocA, boxA, loadA, storeA, fieldAddrA, fieldA, indexAddrA, lenA, lenS, sliceA, boundA, makeSliceA, elemsA, appendA, buildA, fillA, buildSliceA, partsA, extractA, builtinA, minmaxA, AV.cells, AV.isAgg, allP, mkAgg, hget, hset, isRow, cellOk, setC, after, dstOk, St.put, St.get, lk, St.ev, cv, PV.one, Int.reduceToNat, entry, ent, Nat.reduceAdd, Nat.reduceLT, Nat.reduceBEq, Nat.reduceEqDiff, Nat.reduceLeDiff, Nat.reduceMul, Nat.reduceSub, Int.cast_ofNat_Int, decide_true, decide_false, reduceCtorEq, BEq.rfl, beq_self_eq_true, bne_self_eq_false, ite_true, ite_false, if_true, if_false, reduceIte]; refine fin_run trivial (hK _ ?_) <;> clear hK <;> clear K; repeat (first | refine qa ?_ | refine qb ?_ | refine qc ?_ | refine qd ?_ | refine qe ?_ | refine qf ?_ | refine qg rfl ?_ | refine qh ?_ | refine qi ?_ | refine qj ?_ | refine qk ?_ | refine ql ?_ | refine qm ?_)
        simp only [Try.results9, Post, endA, rvsA, rvA, mkTup, peekA, peekG, peekS, peekList, PV.norm, PV.norm1, PV.norm0, PV.list.injEq, PV.tup.injEq, PV.agg.injEq, PV.int.injEq, PV.bool.injEq, List.cons.injEq, ev0, aops, xstep, guardA, opA, tab, binA, binInt, arith, unA, pickA, convA, allocA, boxA, loadA, storeA, fieldAddrA, fieldA, indexAddrA, lenA, lenS, sliceA, boundA, makeSliceA, elemsA, appendA, buildA, fillA, buildSliceA, partsA, extractA, builtinA, minmaxA, AV.cells, AV.isAgg, allP, mkAgg, hget, hset, isRow, cellOk, setC, after, dstOk, St.put, St.get, lk, St.ev, cv, PV.one, Int.reduceToNat, entry, ent, Nat.reduceAdd, Nat.reduceLT, Nat.reduceBEq, Nat.reduceEqDiff, Nat.reduceLeDiff, Nat.reduceMul, Nat.reduceSub, Int.cast_ofNat_Int, decide_true, decide_false, reduceCtorEq, BEq.rfl, beq_self_eq_true, bne_self_eq_false, ite_true, ite_false, if_true, if_false, reduceIte]
        have : v ≠ w := by intro h; subst h; simp at hc
        simp [this]
      · repeat (first | refine qa ?_ | refine qb ?_ | refine qc ?_ | refine qd ?_ | refine qe ?_ | refine qf ?_ | refine qg rfl ?_ | refine qh ?_ | refine qi ?_ | refine qj ?_ | refine qk ?_ | refine ql ?_ | refine qm ?_)
        refine hk_region fun K hK => runs_eval tab_ok ?_
        simp only [ev0, aops, xstep, guardA, opA, tab, binA, binInt, arith, unA, pickA, convA, allocA, boxA, loadA, storeA, fieldAddrA, fieldA, indexAddrA, lenA, lenS, sliceA, boundA, makeSliceA, elemsA, appendA, buildA, fillA, buildSliceA, partsA, extractA, builtinA, minmaxA, AV.cells, AV.isAgg, allP, mkAgg, hget, hset, isRow, cellOk, setC, after, dstOk, St.put, St.get, lk, St.ev, cv, PV.one, Int.reduceToNat, entry, ent, Nat.reduceAdd, Nat.reduceLT, Nat.reduceBEq, Nat.reduceEqDiff, Nat.reduceLeDiff, Nat.reduceMul, Nat.reduceSub, Int.cast_ofNat_Int, decide_true, decide_false, reduceCtorEq, BEq.rfl, beq_self_eq_true, bne_self_eq_false, ite_true, ite_false, if_true, if_false, reduceIte]
        refine fin_run ?_ (hK _ ?_) <;> clear hK <;> clear K
        · (first | exact trivial | omega | (simp only [In64] at *; omega) | (rw [Bool.eq_iff_iff]; simp; done) | (rw [Bool.eq_iff_iff]; simp; omega) | (simp [In64] at *; omega) | (simp_all; done) | (simp_all [In64] <;> omega) | skip)
        repeat (first | refine qa ?_ | refine qb ?_ | refine qc ?_ | refine qd ?_ | refine qe ?_ | refine qf ?_ | refine qg rfl ?_ | refine qh ?_ | refine qi ?_ | refine qj ?_ | refine qk ?_ | refine ql ?_ | refine qm ?_)
        have hx : v.getD i 0 = w.getD i 0 := by simpa using hc
        refine ⟨i + 1, [], ⟨by omega, ?_⟩, by omega, ?_⟩
        · rw [List.take_succ_eq_append_getElem hlt, List.take_succ_eq_append_getElem (show i < w.length by omega), hi2]
          simp [List.getD, List.getElem?_eq_getElem hlt, List.getElem?_eq_getElem (show i < w.length by omega)] at hx
          rw [hx]
        · simp only [AV.p.injEq, AV.sl.injEq, AV.ptr.injEq, Blk.own.injEq, PV.int.injEq, PV.bool.injEq, PV.list.injEq, Nat.sub_zero, Int.natCast_add, List.length_append, take_take_len, take_app1, take_app2, Le, LeH, LeS, LeB, ren, ren1, scA, sc1, List.nodup_cons, List.nodup_nil, List.mem_cons, List.not_mem_nil, or_false, not_false_eq_true, ev0, aops, xstep, guardA, opA, tab, binA, binInt, arith, unA, pickA, convA, allocA, boxA, loadA, storeA, fieldAddrA, fieldA, indexAddrA, lenA, lenS, sliceA, boundA, makeSliceA, elemsA, appendA, buildA, fillA, buildSliceA, partsA, extractA, builtinA, minmaxA, AV.cells, AV.isAgg, allP, mkAgg, hget, hset, isRow, cellOk, setC, after, dstOk, St.put, St.get, lk, St.ev, cv, PV.one, Int.reduceToNat, entry, ent, Nat.reduceAdd, Nat.reduceLT, Nat.reduceBEq, Nat.reduceEqDiff, Nat.reduceLeDiff, Nat.reduceMul, Nat.reduceSub, Int.cast_ofNat_Int, decide_true, decide_false, reduceCtorEq, BEq.rfl, beq_self_eq_true, bne_self_eq_false, ite_true, ite_false, if_true, if_false, reduceIte] <;> (first | exact trivial | omega | (simp only [In64] at *; omega) | (rw [Bool.eq_iff_iff]; simp; done) | (rw [Bool.eq_iff_iff]; simp; omega) | (simp [In64] at *; omega) | (simp_all; done) | (simp_all [In64] <;> omega) | skip)
    · repeat (first | refine qa ?_ | refine qb ?_ | refine qc ?_ | refine qd ?_ | refine qe ?_ | refine qf ?_ | refine qg rfl ?_ | refine qh ?_ | refine qi ?_ | refine qj ?_ | refine qk ?_ | refine ql ?_ | refine qm ?_)
      (refine hk_region fun K hK => runs_eval tab_ok ?_); simp only [ev0, aops, xstep, guardA, opA, tab, binA, binInt, arith, unA, pickA, convA, allocA, boxA, loadA, storeA, fieldAddrA, fieldA, indexAddrA, lenA, lenS, sliceA, boundA, makeSliceA, elemsA, appendA, buildA, fillA, buildSliceA, partsA, extractA, builtinA, minmaxA, AV.cells, AV.isAgg, allP, mkAgg, hget, hset, isRow, cellOk, setC, after, dstOk, St.put, St.get, lk, St.ev, cv, PV.one, Int.reduceToNat, entry, ent, Nat.reduceAdd, Nat.reduceLT, Nat.reduceBEq, Nat.reduceEqDiff, Nat.reduceLeDiff, Nat.reduceMul, Nat.reduceSub, Int.cast_ofNat_Int, decide_true, decide_false, reduceCtorEq, BEq.rfl, beq_self_eq_true, bne_self_eq_false, ite_true, ite_false, if_true, if_false, reduceIte]; refine fin_run trivial (hK _ ?_) <;> clear hK <;> clear K; repeat (first | refine qa ?_ | refine qb ?_ | refine qc ?_ | refine qd ?_ | refine qe ?_ | refine qf ?_ | refine qg rfl ?_ | refine qh ?_ | refine qi ?_ | refine qj ?_ | refine qk ?_ | refine ql ?_ | refine qm ?_)
      simp only [Try.results9, Post, endA, rvsA, rvA, mkTup, peekA, peekG, peekS, peekList, PV.norm, PV.norm1, PV.norm0, PV.list.injEq, PV.tup.injEq, PV.agg.injEq, PV.int.injEq, PV.bool.injEq, List.cons.injEq, ev0, aops, xstep, guardA, opA, tab, binA, binInt, arith, unA, pickA, convA, allocA, boxA, loadA, storeA, fieldAddrA, fieldA, indexAddrA, lenA, lenS, sliceA, boundA, makeSliceA, elemsA, appendA, buildA, fillA, buildSliceA, partsA, extractA, builtinA, minmaxA, AV.cells, AV.isAgg, allP, mkAgg, hget, hset, isRow, cellOk, setC, after, dstOk, St.put, St.get, lk, St.ev, cv, PV.one, Int.reduceToNat, entry, ent, Nat.reduceAdd, Nat.reduceLT, Nat.reduceBEq, Nat.reduceEqDiff, Nat.reduceLeDiff, Nat.reduceMul, Nat.reduceSub, Int.cast_ofNat_Int, decide_true, decide_false, reduceCtorEq, BEq.rfl, beq_self_eq_true, bne_self_eq_false, ite_true, ite_false, if_true, if_false, reduceIte]
      have : i = v.length := by have := of_decide_eq_false hlt; omega
      subst this
      rw [List.take_length, List.take_of_length_le (by omega)] at hi2
      simp [hi2]

def rep (n : Nat) (w : List Int) : List Int := (List.replicate n w).flatten

theorem rep_succ (n : Nat) (w : List Int) : rep (n + 1) w = rep n w ++ w := by
  simp [rep, List.replicate_succ']
theorem rep_len (n : Nat) (w : List Int) : (rep n w).length = n * w.length := by
  induction n with
  | zero => simp [rep]
  | succ n ih => rw [rep_succ, List.length_append, ih, Nat.add_mul, Nat.one_mul]
theorem rep_sm {n : Nat} {w : List Int} (h : Sm w) : Sm (rep n w) := by
  induction n with
  | zero => intro x hx; simp [rep] at hx
  | succ n ih => rw [rep_succ]; exact ih.app h



def cut (c : List Int) (k : Nat) : List Int := (c.drop k).take (c.length - k - k)

theorem cut_len {c : List Int} {k : Nat} : (cut c k).length = c.length - k - k := by simp [cut]
theorem cut_get {c : List Int} {k i : Nat} (h : i < c.length - k - k) : (cut c k).getD i 0 = c.getD (k + i) 0 := by
  rw [cut, getD_take h, getD_drop]
theorem cut_zero (c : List Int) : cut c 0 = c := by simp [cut]
theorem cut_succ {c : List Int} {k : Nat} : ((cut c k).drop 1).take (c.length - k - k - 1 - 1) = cut c (k + 1) := by
  unfold cut
  rw [List.drop_take, List.drop_drop, List.take_take]
  congr 1
  omega
theorem cut_sm {c : List Int} {k : Nat} (h : Sm c) : Sm (cut c k) := fun x hx => h x (List.mem_of_mem_drop (List.mem_of_mem_take hx))
theorem coreN_le (c : List Int) : ∀ k, 2 * k ≤ c.length → 2 * coreN c k ≤ c.length := by
  intro k
  induction hm : c.length - k using Nat.strongRecOn generalizing k with
  | _ n ih =>
    intro h
    unfold coreN
    split
    · rename_i hc
      exact ih (c.length - (k + 1)) (by omega) (k + 1) rfl (by omega)
    · exact h



/-- The least step that a row repeats with. -/
def rootN (c : List Int) (i : Nat) : Nat :=
  if c.length % i = 0 ∧ c.drop i = c.take (c.length - i) then i else if i < c.length then rootN c (i + 1) else i
termination_by c.length - i
decreasing_by omega

def rootS (w : List Int) : List Int × Int × (Int × Int) :=
  if (check w).1 ≠ 0 then ([], 0, check w)
  else if cut (short w) (coreN (short w) 0) = [] then ([], 0, (6, 0))
  else (short ((short w).take (coreN (short w) 0) ++ (cut (short w) (coreN (short w) 0)).take (rootN (cut (short w) (coreN (short w) 0)) 1) ++ back ((short w).take (coreN (short w) 0))), ((cut (short w) (coreN (short w) 0)).length / rootN (cut (short w) (coreN (short w) 0)) 1 : Nat), (0, 0))

theorem cat3 (u v w : List Int) : [u, v, w].flatten = u ++ v ++ w := by simp

theorem root_c (w : List Int) : FnC Try.prog 11 [.list (il w)] (.tup [.list (il (rootS w).1), .int .i64 (rootS w).2.1, fl (rootS w).2.2]) := by
  refine fnc_of tab_ok Try.func11 rfl (by kernel_rfl) (by rw [Try.ntmps11]; exact Nat.le_add_left 1 _) ?_; rw [Try.ntmps11]; repeat (first | refine qa ?_ | refine qb ?_ | refine qc ?_ | refine qd ?_ | refine qe ?_ | refine qf ?_ | refine qg rfl ?_ | refine qh ?_ | refine qi ?_ | refine qj ?_ | refine qk ?_ | refine ql ?_ | refine qm ?_)
  (refine hk_region fun K hK => runs_eval tab_ok ?_); simp only [ev0, aops, xstep, guardA, opA, tab, binA, binInt, arith, unA, pickA, convA, allocA, boxA, loadA, storeA, fieldAddrA, fieldA, indexAddrA, lenA, lenS, sliceA, boundA, makeSliceA, elemsA, appendA, buildA, fillA, buildSliceA, partsA, extractA, builtinA, minmaxA, AV.cells, AV.isAgg, allP, mkAgg, hget, hset, isRow, cellOk, setC, after, dstOk, St.put, St.get, lk, St.ev, cv, PV.one, Int.reduceToNat, entry, ent, Nat.reduceAdd, Nat.reduceLT, Nat.reduceBEq, Nat.reduceEqDiff, Nat.reduceLeDiff, Nat.reduceMul, Nat.reduceSub, Int.cast_ofNat_Int, decide_true, decide_false, reduceCtorEq, BEq.rfl, beq_self_eq_true, bne_self_eq_false, ite_true, ite_false, if_true, if_false, reduceIte]; refine fin_run trivial (hK _ ?_) <;> clear hK <;> clear K; repeat (first | refine qa ?_ | refine qb ?_ | refine qc ?_ | refine qd ?_ | refine qe ?_ | refine qf ?_ | refine qg rfl ?_ | refine qh ?_ | refine qi ?_ | refine qj ?_ | refine qk ?_ | refine ql ?_ | refine qm ?_)
  refine hk_region fun K hK => runs_eval tab_ok ?_
  simp only [ev0, aops, xstep, guardA, opA, tab, binA, binInt, arith, unA, pickA, convA, allocA, boxA, loadA, storeA, fieldAddrA, fieldA, indexAddrA, lenA, lenS, sliceA, boundA, makeSliceA, elemsA, appendA, buildA, fillA, buildSliceA, partsA, extractA, builtinA, minmaxA, AV.cells, AV.isAgg, allP, mkAgg, hget, hset, isRow, cellOk, setC, after, dstOk, St.put, St.get, lk, St.ev, cv, PV.one, Int.reduceToNat, entry, ent, Nat.reduceAdd, Nat.reduceLT, Nat.reduceBEq, Nat.reduceEqDiff, Nat.reduceLeDiff, Nat.reduceMul, Nat.reduceSub, Int.cast_ofNat_Int, decide_true, decide_false, reduceCtorEq, BEq.rfl, beq_self_eq_true, bne_self_eq_false, ite_true, ite_false, if_true, if_false, reduceIte]
  refine fin_stop trivial (runs_call (check_c w) rfl rfl rfl (by simp only [dstOk, Nat.reduceLT]) (by repeat (first | exact trivial | constructor)) (runs_eval tab_ok ?_))
  simp only [ev0, aops, xstep, guardA, opA, tab, binA, binInt, arith, unA, pickA, convA, allocA, boxA, loadA, storeA, fieldAddrA, fieldA, indexAddrA, lenA, lenS, sliceA, boundA, makeSliceA, elemsA, appendA, buildA, fillA, buildSliceA, partsA, extractA, builtinA, minmaxA, AV.cells, AV.isAgg, allP, mkAgg, hget, hset, isRow, cellOk, setC, after, dstOk, St.put, St.get, lk, St.ev, cv, PV.one, Int.reduceToNat, entry, ent, Nat.reduceAdd, Nat.reduceLT, Nat.reduceBEq, Nat.reduceEqDiff, Nat.reduceLeDiff, Nat.reduceMul, Nat.reduceSub, Int.cast_ofNat_Int, decide_true, decide_false, reduceCtorEq, BEq.rfl, beq_self_eq_true, bne_self_eq_false, ite_true, ite_false, if_true, if_false, reduceIte, fl]
  refine fin_run trivial (hK _ ?_) <;> clear hK <;> clear K
  repeat (first | refine qa ?_ | refine qb ?_ | refine qc ?_ | refine qd ?_ | refine qe ?_ | refine qf ?_ | refine qg rfl ?_ | refine qh ?_ | refine qi ?_ | refine qj ?_ | refine qk ?_ | refine ql ?_ | refine qm ?_)
  (refine hk_region fun K hK => runs_eval tab_ok ?_); simp only [ev0, aops, xstep, guardA, opA, tab, binA, binInt, arith, unA, pickA, convA, allocA, boxA, loadA, storeA, fieldAddrA, fieldA, indexAddrA, lenA, lenS, sliceA, boundA, makeSliceA, elemsA, appendA, buildA, fillA, buildSliceA, partsA, extractA, builtinA, minmaxA, AV.cells, AV.isAgg, allP, mkAgg, hget, hset, isRow, cellOk, setC, after, dstOk, St.put, St.get, lk, St.ev, cv, PV.one, Int.reduceToNat, entry, ent, Nat.reduceAdd, Nat.reduceLT, Nat.reduceBEq, Nat.reduceEqDiff, Nat.reduceLeDiff, Nat.reduceMul, Nat.reduceSub, Int.cast_ofNat_Int, decide_true, decide_false, reduceCtorEq, BEq.rfl, beq_self_eq_true, bne_self_eq_false, ite_true, ite_false, if_true, if_false, reduceIte]; refine fin_run trivial (hK _ ?_) <;> clear hK <;> clear K; repeat (first | refine qa ?_ | refine qb ?_ | refine qc ?_ | refine qd ?_ | refine qe ?_ | refine qf ?_ | refine qg rfl ?_ | refine qh ?_ | refine qi ?_ | refine qj ?_ | refine qk ?_ | refine ql ?_ | refine qm ?_)
  refine hk_cond rfl (fun hc => ?_) (fun hc => ?_)
  · have hc : (check w).1 ≠ 0 := by simpa using hc
    repeat (first | refine qa ?_ | refine qb ?_ | refine qc ?_ | refine qd ?_ | refine qe ?_ | refine qf ?_ | refine qg rfl ?_ | refine qh ?_ | refine qi ?_ | refine qj ?_ | refine qk ?_ | refine ql ?_ | refine qm ?_)
    refine hk_draw mixed (by kernel_rfl) fun K hK => runs_eval tab_ok ?_
    simp only [ev0, aops, xstep, guardA, opA, tab, binA, binInt, arith, unA, pickA, convA, allocA, boxA, loadA, storeA, fieldAddrA, fieldA, indexAddrA, lenA, lenS, sliceA, boundA, makeSliceA, elemsA, appendA, buildA, fillA, buildSliceA, partsA, extractA, builtinA, minmaxA, AV.cells, AV.isAgg, allP, mkAgg, hget, hset, isRow, cellOk, setC, after, dstOk, St.put, St.get, lk, St.ev, cv, PV.one, Int.reduceToNat, entry, ent, Nat.reduceAdd, Nat.reduceLT, Nat.reduceBEq, Nat.reduceEqDiff, Nat.reduceLeDiff, Nat.reduceMul, Nat.reduceSub, Int.cast_ofNat_Int, decide_true, decide_false, reduceCtorEq, BEq.rfl, beq_self_eq_true, bne_self_eq_false, ite_true, ite_false, if_true, if_false, reduceIte]
    refine fin_run trivial (hK _ ?_) <;> clear hK <;> clear K
    repeat (first | refine qa ?_ | refine qb ?_ | refine qc ?_ | refine qd ?_ | refine qe ?_ | refine qf ?_ | refine qg rfl ?_ | refine qh ?_ | refine qi ?_ | refine qj ?_ | refine qk ?_ | refine ql ?_ | refine qm ?_)
    simp only [Try.results11, Post, endA, rvsA, rvA, mkTup, peekA, peekG, peekS, peekList, PV.norm, PV.norm1, PV.norm0, PV.list.injEq, PV.tup.injEq, PV.agg.injEq, PV.int.injEq, PV.bool.injEq, List.cons.injEq, ev0, aops, xstep, guardA, opA, tab, binA, binInt, arith, unA, pickA, convA, allocA, boxA, loadA, storeA, fieldAddrA, fieldA, indexAddrA, lenA, lenS, sliceA, boundA, makeSliceA, elemsA, appendA, buildA, fillA, buildSliceA, partsA, extractA, builtinA, minmaxA, AV.cells, AV.isAgg, allP, mkAgg, hget, hset, isRow, cellOk, setC, after, dstOk, St.put, St.get, lk, St.ev, cv, PV.one, Int.reduceToNat, entry, ent, Nat.reduceAdd, Nat.reduceLT, Nat.reduceBEq, Nat.reduceEqDiff, Nat.reduceLeDiff, Nat.reduceMul, Nat.reduceSub, Int.cast_ofNat_Int, decide_true, decide_false, reduceCtorEq, BEq.rfl, beq_self_eq_true, bne_self_eq_false, ite_true, ite_false, if_true, if_false, reduceIte]
    rw [rootS, if_pos hc]
    (first | exact rfl | exact ⟨rfl, rfl⟩ | exact ⟨rfl, rfl, rfl⟩ | exact ⟨trivial, rfl⟩ | exact ⟨Nat.le_refl _, rfl⟩ | trivial)
  · have hc : (check w).1 = 0 := by simpa using hc
    obtain ⟨h1, h2⟩ := check_sm hc
    rw [rootS, if_neg (by simp [hc])]
    have hlc := short_len w
    have hsc := short_sm h1
    repeat (first | refine qa ?_ | refine qb ?_ | refine qc ?_ | refine qd ?_ | refine qe ?_ | refine qf ?_ | refine qg rfl ?_ | refine qh ?_ | refine qi ?_ | refine qj ?_ | refine qk ?_ | refine ql ?_ | refine qm ?_)
    refine hk_region fun K hK => runs_eval tab_ok ?_
    simp only [ev0, aops, xstep, guardA, opA, tab, binA, binInt, arith, unA, pickA, convA, allocA, boxA, loadA, storeA, fieldAddrA, fieldA, indexAddrA, lenA, lenS, sliceA, boundA, makeSliceA, elemsA, appendA, buildA, fillA, buildSliceA, partsA, extractA, builtinA, minmaxA, AV.cells, AV.isAgg, allP, mkAgg, hget, hset, isRow, cellOk, setC, after, dstOk, St.put, St.get, lk, St.ev, cv, PV.one, Int.reduceToNat, entry, ent, Nat.reduceAdd, Nat.reduceLT, Nat.reduceBEq, Nat.reduceEqDiff, Nat.reduceLeDiff, Nat.reduceMul, Nat.reduceSub, Int.cast_ofNat_Int, decide_true, decide_false, reduceCtorEq, BEq.rfl, beq_self_eq_true, bne_self_eq_false, ite_true, ite_false, if_true, if_false, reduceIte]
    refine fin_stop trivial (runs_call (short_c w (by omega) h1) rfl rfl rfl (by simp only [dstOk, Nat.reduceLT]) (by repeat (first | exact trivial | constructor)) (runs_eval tab_ok ?_))
    generalize short w = s at *
    simp only [ev0, aops, xstep, guardA, opA, tab, binA, binInt, arith, unA, pickA, convA, allocA, boxA, loadA, storeA, fieldAddrA, fieldA, indexAddrA, lenA, lenS, sliceA, boundA, makeSliceA, elemsA, appendA, buildA, fillA, buildSliceA, partsA, extractA, builtinA, minmaxA, AV.cells, AV.isAgg, allP, mkAgg, hget, hset, isRow, cellOk, setC, after, dstOk, St.put, St.get, lk, St.ev, cv, PV.one, Int.reduceToNat, entry, ent, Nat.reduceAdd, Nat.reduceLT, Nat.reduceBEq, Nat.reduceEqDiff, Nat.reduceLeDiff, Nat.reduceMul, Nat.reduceSub, Int.cast_ofNat_Int, decide_true, decide_false, reduceCtorEq, BEq.rfl, beq_self_eq_true, bne_self_eq_false, ite_true, ite_false, if_true, if_false, reduceIte]
    refine fin_stop trivial (runs_call (core_c s (by omega) hsc) rfl rfl rfl (by simp only [dstOk, Nat.reduceLT]) (by repeat (first | exact trivial | constructor)) (runs_eval tab_ok ?_))
    simp only [ev0, aops, xstep, guardA, opA, tab, binA, binInt, arith, unA, pickA, convA, allocA, boxA, loadA, storeA, fieldAddrA, fieldA, indexAddrA, lenA, lenS, sliceA, boundA, makeSliceA, elemsA, appendA, buildA, fillA, buildSliceA, partsA, extractA, builtinA, minmaxA, AV.cells, AV.isAgg, allP, mkAgg, hget, hset, isRow, cellOk, setC, after, dstOk, St.put, St.get, lk, St.ev, cv, PV.one, Int.reduceToNat, entry, ent, Nat.reduceAdd, Nat.reduceLT, Nat.reduceBEq, Nat.reduceEqDiff, Nat.reduceLeDiff, Nat.reduceMul, Nat.reduceSub, Int.cast_ofNat_Int, decide_true, decide_false, reduceCtorEq, BEq.rfl, beq_self_eq_true, bne_self_eq_false, ite_true, ite_false, if_true, if_false, reduceIte]
    refine fin_run trivial (hK _ ?_) <;> clear hK <;> clear K
    have hu := Sm.app (v := s.take (coreN s 0)) (w := []) (fun x hx => hsc x (List.mem_of_mem_take hx)) (fun x hx => by simp at hx)
    rw [List.append_nil] at hu
    have hul : (s.take (coreN s 0)).length ≤ 2000 := by simp; omega
    have hcc : ((s.drop (coreN s 0)).take (s.length - coreN s 0 - coreN s 0)) = cut s (coreN s 0) := rfl
    have hcs : Sm (cut s (coreN s 0)) := cut_sm hsc
    have hcl : (cut s (coreN s 0)).length ≤ 2000 := by rw [cut_len]; omega
    rw [hcc]
    generalize cut s (coreN s 0) = c at *
    generalize s.take (coreN s 0) = u at *
    repeat (first | refine qa ?_ | refine qb ?_ | refine qc ?_ | refine qd ?_ | refine qe ?_ | refine qf ?_ | refine qg rfl ?_ | refine qh ?_ | refine qi ?_ | refine qj ?_ | refine qk ?_ | refine ql ?_ | refine qm ?_)
    (refine hk_region fun K hK => runs_eval tab_ok ?_); simp only [ev0, aops, xstep, guardA, opA, tab, binA, binInt, arith, unA, pickA, convA, allocA, boxA, loadA, storeA, fieldAddrA, fieldA, indexAddrA, lenA, lenS, sliceA, boundA, makeSliceA, elemsA, appendA, buildA, fillA, buildSliceA, partsA, extractA, builtinA, minmaxA, AV.cells, AV.isAgg, allP, mkAgg, hget, hset, isRow, cellOk, setC, after, dstOk, St.put, St.get, lk, St.ev, cv, PV.one, Int.reduceToNat, entry, ent, Nat.reduceAdd, Nat.reduceLT, Nat.reduceBEq, Nat.reduceEqDiff, Nat.reduceLeDiff, Nat.reduceMul, Nat.reduceSub, Int.cast_ofNat_Int, decide_true, decide_false, reduceCtorEq, BEq.rfl, beq_self_eq_true, bne_self_eq_false, ite_true, ite_false, if_true, if_false, reduceIte]; refine fin_run trivial (hK _ ?_) <;> clear hK <;> clear K; repeat (first | refine qa ?_ | refine qb ?_ | refine qc ?_ | refine qd ?_ | refine qe ?_ | refine qf ?_ | refine qg rfl ?_ | refine qh ?_ | refine qi ?_ | refine qj ?_ | refine qk ?_ | refine ql ?_ | refine qm ?_)
    refine hk_cond rfl (fun hz => ?_) (fun hz => ?_)
    · have hz : c = [] := by simpa using hz
      rw [if_pos hz]
      repeat (first | refine qa ?_ | refine qb ?_ | refine qc ?_ | refine qd ?_ | refine qe ?_ | refine qf ?_ | refine qg rfl ?_ | refine qh ?_ | refine qi ?_ | refine qj ?_ | refine qk ?_ | refine ql ?_ | refine qm ?_)
      refine hk_region fun K hK => runs_eval tab_ok ?_
      simp only [ev0, aops, xstep, guardA, opA, tab, binA, binInt, arith, unA, pickA, convA, allocA, boxA, loadA, storeA, fieldAddrA, fieldA, indexAddrA, lenA, lenS, sliceA, boundA, makeSliceA, elemsA, appendA, buildA, fillA, buildSliceA, partsA, extractA, builtinA, minmaxA, AV.cells, AV.isAgg, allP, mkAgg, hget, hset, isRow, cellOk, setC, after, dstOk, St.put, St.get, lk, St.ev, cv, PV.one, Int.reduceToNat, entry, ent, Nat.reduceAdd, Nat.reduceLT, Nat.reduceBEq, Nat.reduceEqDiff, Nat.reduceLeDiff, Nat.reduceMul, Nat.reduceSub, Int.cast_ofNat_Int, decide_true, decide_false, reduceCtorEq, BEq.rfl, beq_self_eq_true, bne_self_eq_false, ite_true, ite_false, if_true, if_false, reduceIte]
      refine fin_stop trivial (runs_call (fault_c 6 0) rfl rfl rfl (by simp only [dstOk, Nat.reduceLT]) (by repeat (first | exact trivial | constructor)) (runs_eval tab_ok ?_))
      simp only [ev0, aops, xstep, guardA, opA, tab, binA, binInt, arith, unA, pickA, convA, allocA, boxA, loadA, storeA, fieldAddrA, fieldA, indexAddrA, lenA, lenS, sliceA, boundA, makeSliceA, elemsA, appendA, buildA, fillA, buildSliceA, partsA, extractA, builtinA, minmaxA, AV.cells, AV.isAgg, allP, mkAgg, hget, hset, isRow, cellOk, setC, after, dstOk, St.put, St.get, lk, St.ev, cv, PV.one, Int.reduceToNat, entry, ent, Nat.reduceAdd, Nat.reduceLT, Nat.reduceBEq, Nat.reduceEqDiff, Nat.reduceLeDiff, Nat.reduceMul, Nat.reduceSub, Int.cast_ofNat_Int, decide_true, decide_false, reduceCtorEq, BEq.rfl, beq_self_eq_true, bne_self_eq_false, ite_true, ite_false, if_true, if_false, reduceIte]
      refine fin_run trivial (hK _ ?_) <;> clear hK <;> clear K
      repeat (first | refine qa ?_ | refine qb ?_ | refine qc ?_ | refine qd ?_ | refine qe ?_ | refine qf ?_ | refine qg rfl ?_ | refine qh ?_ | refine qi ?_ | refine qj ?_ | refine qk ?_ | refine ql ?_ | refine qm ?_)
      simp only [Try.results11, Post, endA, rvsA, rvA, mkTup, peekA, peekG, peekS, peekList, PV.norm, PV.norm1, PV.norm0, PV.list.injEq, PV.tup.injEq, PV.agg.injEq, PV.int.injEq, PV.bool.injEq, List.cons.injEq, ev0, aops, xstep, guardA, opA, tab, binA, binInt, arith, unA, pickA, convA, allocA, boxA, loadA, storeA, fieldAddrA, fieldA, indexAddrA, lenA, lenS, sliceA, boundA, makeSliceA, elemsA, appendA, buildA, fillA, buildSliceA, partsA, extractA, builtinA, minmaxA, AV.cells, AV.isAgg, allP, mkAgg, hget, hset, isRow, cellOk, setC, after, dstOk, St.put, St.get, lk, St.ev, cv, PV.one, Int.reduceToNat, entry, ent, Nat.reduceAdd, Nat.reduceLT, Nat.reduceBEq, Nat.reduceEqDiff, Nat.reduceLeDiff, Nat.reduceMul, Nat.reduceSub, Int.cast_ofNat_Int, decide_true, decide_false, reduceCtorEq, BEq.rfl, beq_self_eq_true, bne_self_eq_false, ite_true, ite_false, if_true, if_false, reduceIte]
      (first | exact rfl | exact ⟨rfl, rfl⟩ | exact ⟨rfl, rfl, rfl⟩ | exact ⟨trivial, rfl⟩ | exact ⟨Nat.le_refl _, rfl⟩ | trivial)
    · have hz : c ≠ [] := by simpa using hz
      have hcp : 0 < c.length := List.length_pos_iff.2 hz
      rw [if_neg hz]
      repeat (first | refine qa ?_ | refine qb ?_ | refine qc ?_ | refine qd ?_ | refine qe ?_ | refine qf ?_ | refine qg rfl ?_ | refine qh ?_ | refine qi ?_ | refine qj ?_ | refine qk ?_ | refine ql ?_ | refine qm ?_)
      (refine hk_region fun K hK => runs_eval tab_ok ?_); simp only [ev0, aops, xstep, guardA, opA, tab, binA, binInt, arith, unA, pickA, convA, allocA, boxA, loadA, storeA, fieldAddrA, fieldA, indexAddrA, lenA, lenS, sliceA, boundA, makeSliceA, elemsA, appendA, buildA, fillA, buildSliceA, partsA, extractA, builtinA, minmaxA, AV.cells, AV.isAgg, allP, mkAgg, hget, hset, isRow, cellOk, setC, after, dstOk, St.put, St.get, lk, St.ev, cv, PV.one, Int.reduceToNat, entry, ent, Nat.reduceAdd, Nat.reduceLT, Nat.reduceBEq, Nat.reduceEqDiff, Nat.reduceLeDiff, Nat.reduceMul, Nat.reduceSub, Int.cast_ofNat_Int, decide_true, decide_false, reduceCtorEq, BEq.rfl, beq_self_eq_true, bne_self_eq_false, ite_true, ite_false, if_true, if_false, reduceIte]; refine fin_run trivial (hK _ ?_) <;> clear hK <;> clear K; repeat (first | refine qa ?_ | refine qb ?_ | refine qc ?_ | refine qd ?_ | refine qe ?_ | refine qf ?_ | refine qg rfl ?_ | refine qh ?_ | refine qi ?_ | refine qj ?_ | refine qk ?_ | refine ql ?_ | refine qm ?_)
      refine hk_loop (ι := Nat) (fun i => ⟨56, [(4, .ptr 0 0), (6, .p (.list (il u))), (7, .p (.list (il c))), (8, .p (.int .i64 i))], [.own [.p (.int .i64 0), .p (.int .i64 0)]]⟩) (fun i => 1 ≤ i ∧ i ≤ c.length ∧ rootN c i = rootN c 1) (fun i => c.length - i) 1 ⟨by omega, by omega, rfl⟩ [0] (by simp only [AV.p.injEq, AV.sl.injEq, AV.ptr.injEq, Blk.own.injEq, PV.int.injEq, PV.bool.injEq, PV.list.injEq, Nat.sub_zero, Int.natCast_add, List.length_append, take_take_len, take_app1, take_app2, Le, LeH, LeS, LeB, ren, ren1, scA, sc1, List.nodup_cons, List.nodup_nil, List.mem_cons, List.not_mem_nil, or_false, not_false_eq_true, ev0, aops, xstep, guardA, opA, tab, binA, binInt, arith, unA, pickA, convA, allocA, boxA, loadA, storeA, fieldAddrA, fieldA, indexAddrA, lenA, lenS, sliceA, boundA, makeSliceA, elemsA, appendA, buildA, fillA, buildSliceA, partsA, extractA, builtinA, minmaxA, AV.cells, AV.isAgg, allP, mkAgg, hget, hset, isRow, cellOk, setC, after, dstOk, St.put, St.get, lk, St.ev, cv, PV.one, Int.reduceToNat, entry, ent, Nat.reduceAdd, Nat.reduceLT, Nat.reduceBEq, Nat.reduceEqDiff, Nat.reduceLeDiff, Nat.reduceMul, Nat.reduceSub, Int.cast_ofNat_Int, decide_true, decide_false, reduceCtorEq, BEq.rfl, beq_self_eq_true, bne_self_eq_false, ite_true, ite_false, if_true, if_false, reduceIte] <;> trivial) fun i hi => ?_
      obtain ⟨hi1, hi2, hi3⟩ := hi
      have hlast : i = c.length → c.length % i = 0 ∧ c.drop i = c.take (c.length - i) := by
        intro h; subst h; simp
      repeat (first | refine qa ?_ | refine qb ?_ | refine qc ?_ | refine qd ?_ | refine qe ?_ | refine qf ?_ | refine qg rfl ?_ | refine qh ?_ | refine qi ?_ | refine qj ?_ | refine qk ?_ | refine ql ?_ | refine qm ?_)
      refine hk_region fun K hK => runs_eval tab_ok ?_
      simp only [ev0, aops, xstep, guardA, opA, tab, binA, binInt, arith, unA, pickA, convA, allocA, boxA, loadA, storeA, fieldAddrA, fieldA, indexAddrA, lenA, lenS, sliceA, boundA, makeSliceA, elemsA, appendA, buildA, fillA, buildSliceA, partsA, extractA, builtinA, minmaxA, AV.cells, AV.isAgg, allP, mkAgg, hget, hset, isRow, cellOk, setC, after, dstOk, St.put, St.get, lk, St.ev, cv, PV.one, Int.reduceToNat, entry, ent, Nat.reduceAdd, Nat.reduceLT, Nat.reduceBEq, Nat.reduceEqDiff, Nat.reduceLeDiff, Nat.reduceMul, Nat.reduceSub, Int.cast_ofNat_Int, decide_true, decide_false, reduceCtorEq, BEq.rfl, beq_self_eq_true, bne_self_eq_false, ite_true, ite_false, if_true, if_false, reduceIte]
      refine fin_run ?_ (hK _ ?_) <;> clear hK <;> clear K
      · omega
      repeat (first | refine qa ?_ | refine qb ?_ | refine qc ?_ | refine qd ?_ | refine qe ?_ | refine qf ?_ | refine qg rfl ?_ | refine qh ?_ | refine qi ?_ | refine qj ?_ | refine qk ?_ | refine ql ?_ | refine qm ?_)
      refine hk_cond rfl (fun hm => ?_) (fun hm => ?_)
      · have hm : ¬ c.length % i = 0 := by
          intro h; rw [h] at hm; simp at hm
        have hne : i ≠ c.length := fun h => hm (hlast h).1
        have hstep : rootN c (i + 1) = rootN c 1 := by
          rw [← hi3, rootN.eq_def c i, if_neg (fun h => hm h.1), if_pos (by omega)]
        repeat (first | refine qa ?_ | refine qb ?_ | refine qc ?_ | refine qd ?_ | refine qe ?_ | refine qf ?_ | refine qg rfl ?_ | refine qh ?_ | refine qi ?_ | refine qj ?_ | refine qk ?_ | refine ql ?_ | refine qm ?_)
        refine hk_region fun K hK => runs_eval tab_ok ?_
        simp only [ev0, aops, xstep, guardA, opA, tab, binA, binInt, arith, unA, pickA, convA, allocA, boxA, loadA, storeA, fieldAddrA, fieldA, indexAddrA, lenA, lenS, sliceA, boundA, makeSliceA, elemsA, appendA, buildA, fillA, buildSliceA, partsA, extractA, builtinA, minmaxA, AV.cells, AV.isAgg, allP, mkAgg, hget, hset, isRow, cellOk, setC, after, dstOk, St.put, St.get, lk, St.ev, cv, PV.one, Int.reduceToNat, entry, ent, Nat.reduceAdd, Nat.reduceLT, Nat.reduceBEq, Nat.reduceEqDiff, Nat.reduceLeDiff, Nat.reduceMul, Nat.reduceSub, Int.cast_ofNat_Int, decide_true, decide_false, reduceCtorEq, BEq.rfl, beq_self_eq_true, bne_self_eq_false, ite_true, ite_false, if_true, if_false, reduceIte]
        refine fin_run ?_ (hK _ ?_) <;> clear hK <;> clear K
        · simp only [In64]; omega
        repeat (first | refine qa ?_ | refine qb ?_ | refine qc ?_ | refine qd ?_ | refine qe ?_ | refine qf ?_ | refine qg rfl ?_ | refine qh ?_ | refine qi ?_ | refine qj ?_ | refine qk ?_ | refine ql ?_ | refine qm ?_)
        refine ⟨i + 1, [0], ⟨by omega, by omega, hstep⟩, by omega, ?_⟩
        simp only [AV.p.injEq, AV.sl.injEq, AV.ptr.injEq, Blk.own.injEq, PV.int.injEq, PV.bool.injEq, PV.list.injEq, Nat.sub_zero, Int.natCast_add, List.length_append, take_take_len, take_app1, take_app2, Le, LeH, LeS, LeB, ren, ren1, scA, sc1, List.nodup_cons, List.nodup_nil, List.mem_cons, List.not_mem_nil, or_false, not_false_eq_true, ev0, aops, xstep, guardA, opA, tab, binA, binInt, arith, unA, pickA, convA, allocA, boxA, loadA, storeA, fieldAddrA, fieldA, indexAddrA, lenA, lenS, sliceA, boundA, makeSliceA, elemsA, appendA, buildA, fillA, buildSliceA, partsA, extractA, builtinA, minmaxA, AV.cells, AV.isAgg, allP, mkAgg, hget, hset, isRow, cellOk, setC, after, dstOk, St.put, St.get, lk, St.ev, cv, PV.one, Int.reduceToNat, entry, ent, Nat.reduceAdd, Nat.reduceLT, Nat.reduceBEq, Nat.reduceEqDiff, Nat.reduceLeDiff, Nat.reduceMul, Nat.reduceSub, Int.cast_ofNat_Int, decide_true, decide_false, reduceCtorEq, BEq.rfl, beq_self_eq_true, bne_self_eq_false, ite_true, ite_false, if_true, if_false, reduceIte] <;> omega
      · have hm : c.length % i = 0 := by
          have := hm; simp at this; omega
        repeat (first | refine qa ?_ | refine qb ?_ | refine qc ?_ | refine qd ?_ | refine qe ?_ | refine qf ?_ | refine qg rfl ?_ | refine qh ?_ | refine qi ?_ | refine qj ?_ | refine qk ?_ | refine ql ?_ | refine qm ?_)
        refine hk_draw mixed (by kernel_rfl) fun K hK => runs_eval tab_ok ?_
        simp only [ev0, aops, xstep, guardA, opA, tab, binA, binInt, arith, unA, pickA, convA, allocA, boxA, loadA, storeA, fieldAddrA, fieldA, indexAddrA, lenA, lenS, sliceA, boundA, makeSliceA, elemsA, appendA, buildA, fillA, buildSliceA, partsA, extractA, builtinA, minmaxA, AV.cells, AV.isAgg, allP, mkAgg, hget, hset, isRow, cellOk, setC, after, dstOk, St.put, St.get, lk, St.ev, cv, PV.one, Int.reduceToNat, entry, ent, Nat.reduceAdd, Nat.reduceLT, Nat.reduceBEq, Nat.reduceEqDiff, Nat.reduceLeDiff, Nat.reduceMul, Nat.reduceSub, Int.cast_ofNat_Int, decide_true, decide_false, reduceCtorEq, BEq.rfl, beq_self_eq_true, bne_self_eq_false, ite_true, ite_false, if_true, if_false, reduceIte]
        refine fin_stop ?_ (runs_call (equal_c (c.drop i) (c.take (c.length - i)) (by simp; omega)) rfl rfl rfl (by simp only [dstOk, Nat.reduceLT]) (by repeat (first | exact trivial | constructor)) (runs_eval tab_ok ?_))
        · simp only [In64]; omega
        simp only [ev0, aops, xstep, guardA, opA, tab, binA, binInt, arith, unA, pickA, convA, allocA, boxA, loadA, storeA, fieldAddrA, fieldA, indexAddrA, lenA, lenS, sliceA, boundA, makeSliceA, elemsA, appendA, buildA, fillA, buildSliceA, partsA, extractA, builtinA, minmaxA, AV.cells, AV.isAgg, allP, mkAgg, hget, hset, isRow, cellOk, setC, after, dstOk, St.put, St.get, lk, St.ev, cv, PV.one, Int.reduceToNat, entry, ent, Nat.reduceAdd, Nat.reduceLT, Nat.reduceBEq, Nat.reduceEqDiff, Nat.reduceLeDiff, Nat.reduceMul, Nat.reduceSub, Int.cast_ofNat_Int, decide_true, decide_false, reduceCtorEq, BEq.rfl, beq_self_eq_true, bne_self_eq_false, ite_true, ite_false, if_true, if_false, reduceIte]
        refine fin_run trivial (hK _ ?_) <;> clear hK <;> clear K
        repeat (first | refine qa ?_ | refine qb ?_ | refine qc ?_ | refine qd ?_ | refine qe ?_ | refine qf ?_ | refine qg rfl ?_ | refine qh ?_ | refine qi ?_ | refine qj ?_ | refine qk ?_ | refine ql ?_ | refine qm ?_)
        refine hk_cond rfl (fun he => ?_) (fun he => ?_)
        · have he := of_decide_eq_true he
          have hr : rootN c 1 = i := by rw [← hi3, rootN.eq_def c i, if_pos ⟨hm, he⟩]
          have hsm : Sm (u ++ c.take i ++ back u) := (hu.app (fun x hx => hcs x (List.mem_of_mem_take hx))).app (back_sm hu)
          have hln : (u ++ c.take i ++ back u).length ≤ 1000000000 := by simp [back]; omega
          have hdiv : c.length / i ≤ c.length := Nat.div_le_self _ _
          rw [hr]
          repeat (first | refine qa ?_ | refine qb ?_ | refine qc ?_ | refine qd ?_ | refine qe ?_ | refine qf ?_ | refine qg rfl ?_ | refine qh ?_ | refine qi ?_ | refine qj ?_ | refine qk ?_ | refine ql ?_ | refine qm ?_)
          refine hk_draw mixed (by kernel_rfl) fun K hK => runs_eval tab_ok ?_
          simp only [ev0, aops, xstep, guardA, opA, tab, binA, binInt, arith, unA, pickA, convA, allocA, boxA, loadA, storeA, fieldAddrA, fieldA, indexAddrA, lenA, lenS, sliceA, boundA, makeSliceA, elemsA, appendA, buildA, fillA, buildSliceA, partsA, extractA, builtinA, minmaxA, AV.cells, AV.isAgg, allP, mkAgg, hget, hset, isRow, cellOk, setC, after, dstOk, St.put, St.get, lk, St.ev, cv, PV.one, Int.reduceToNat, entry, ent, Nat.reduceAdd, Nat.reduceLT, Nat.reduceBEq, Nat.reduceEqDiff, Nat.reduceLeDiff, Nat.reduceMul, Nat.reduceSub, Int.cast_ofNat_Int, decide_true, decide_false, reduceCtorEq, BEq.rfl, beq_self_eq_true, bne_self_eq_false, ite_true, ite_false, if_true, if_false, reduceIte]
          refine fin_stop ?_ (runs_call (back_c u (by omega) hu) rfl rfl rfl (by simp only [dstOk, Nat.reduceLT]) (by repeat (first | exact trivial | constructor)) (runs_eval tab_ok ?_))
          · omega
          simp only [ev0, aops, xstep, guardA, opA, tab, binA, binInt, arith, unA, pickA, convA, allocA, boxA, loadA, storeA, fieldAddrA, fieldA, indexAddrA, lenA, lenS, sliceA, boundA, makeSliceA, elemsA, appendA, buildA, fillA, buildSliceA, partsA, extractA, builtinA, minmaxA, AV.cells, AV.isAgg, allP, mkAgg, hget, hset, isRow, cellOk, setC, after, dstOk, St.put, St.get, lk, St.ev, cv, PV.one, Int.reduceToNat, entry, ent, Nat.reduceAdd, Nat.reduceLT, Nat.reduceBEq, Nat.reduceEqDiff, Nat.reduceLeDiff, Nat.reduceMul, Nat.reduceSub, Int.cast_ofNat_Int, decide_true, decide_false, reduceCtorEq, BEq.rfl, beq_self_eq_true, bne_self_eq_false, ite_true, ite_false, if_true, if_false, reduceIte]
          refine fin_stop trivial (runs_call (concat_c [u, c.take i, back u] (by rw [cat3]; exact hln) (by simp)) rfl rfl rfl (by simp only [dstOk, Nat.reduceLT]) (by repeat (first | exact trivial | constructor)) (runs_eval tab_ok ?_))
          rw [cat3]
          simp only [ev0, aops, xstep, guardA, opA, tab, binA, binInt, arith, unA, pickA, convA, allocA, boxA, loadA, storeA, fieldAddrA, fieldA, indexAddrA, lenA, lenS, sliceA, boundA, makeSliceA, elemsA, appendA, buildA, fillA, buildSliceA, partsA, extractA, builtinA, minmaxA, AV.cells, AV.isAgg, allP, mkAgg, hget, hset, isRow, cellOk, setC, after, dstOk, St.put, St.get, lk, St.ev, cv, PV.one, Int.reduceToNat, entry, ent, Nat.reduceAdd, Nat.reduceLT, Nat.reduceBEq, Nat.reduceEqDiff, Nat.reduceLeDiff, Nat.reduceMul, Nat.reduceSub, Int.cast_ofNat_Int, decide_true, decide_false, reduceCtorEq, BEq.rfl, beq_self_eq_true, bne_self_eq_false, ite_true, ite_false, if_true, if_false, reduceIte]
          refine fin_stop trivial (runs_call (short_c (u ++ c.take i ++ back u) hln hsm) rfl rfl rfl (by simp only [dstOk, Nat.reduceLT]) (by repeat (first | exact trivial | constructor)) (runs_eval tab_ok ?_))
          simp only [ev0, aops, xstep, guardA, opA, tab, binA, binInt, arith, unA, pickA, convA, allocA, boxA, loadA, storeA, fieldAddrA, fieldA, indexAddrA, lenA, lenS, sliceA, boundA, makeSliceA, elemsA, appendA, buildA, fillA, buildSliceA, partsA, extractA, builtinA, minmaxA, AV.cells, AV.isAgg, allP, mkAgg, hget, hset, isRow, cellOk, setC, after, dstOk, St.put, St.get, lk, St.ev, cv, PV.one, Int.reduceToNat, entry, ent, Nat.reduceAdd, Nat.reduceLT, Nat.reduceBEq, Nat.reduceEqDiff, Nat.reduceLeDiff, Nat.reduceMul, Nat.reduceSub, Int.cast_ofNat_Int, decide_true, decide_false, reduceCtorEq, BEq.rfl, beq_self_eq_true, bne_self_eq_false, ite_true, ite_false, if_true, if_false, reduceIte]
          refine fin_run ?_ (hK _ ?_) <;> clear hK <;> clear K
          · generalize c.length / i = q at *
            simp only [In64]; omega
          repeat (first | refine qa ?_ | refine qb ?_ | refine qc ?_ | refine qd ?_ | refine qe ?_ | refine qf ?_ | refine qg rfl ?_ | refine qh ?_ | refine qi ?_ | refine qj ?_ | refine qk ?_ | refine ql ?_ | refine qm ?_)
          simp only [Try.results11, Post, endA, rvsA, rvA, mkTup, peekA, peekG, peekS, peekList, PV.norm, PV.norm1, PV.norm0, PV.list.injEq, PV.tup.injEq, PV.agg.injEq, PV.int.injEq, PV.bool.injEq, List.cons.injEq, ev0, aops, xstep, guardA, opA, tab, binA, binInt, arith, unA, pickA, convA, allocA, boxA, loadA, storeA, fieldAddrA, fieldA, indexAddrA, lenA, lenS, sliceA, boundA, makeSliceA, elemsA, appendA, buildA, fillA, buildSliceA, partsA, extractA, builtinA, minmaxA, AV.cells, AV.isAgg, allP, mkAgg, hget, hset, isRow, cellOk, setC, after, dstOk, St.put, St.get, lk, St.ev, cv, PV.one, Int.reduceToNat, entry, ent, Nat.reduceAdd, Nat.reduceLT, Nat.reduceBEq, Nat.reduceEqDiff, Nat.reduceLeDiff, Nat.reduceMul, Nat.reduceSub, Int.cast_ofNat_Int, decide_true, decide_false, reduceCtorEq, BEq.rfl, beq_self_eq_true, bne_self_eq_false, ite_true, ite_false, if_true, if_false, reduceIte]
          (first | exact rfl | exact ⟨rfl, rfl⟩ | exact ⟨rfl, rfl, rfl⟩ | exact ⟨trivial, rfl⟩ | exact ⟨Nat.le_refl _, rfl⟩ | trivial)
        · have he := of_decide_eq_false he
          have hne : i ≠ c.length := fun h => he (hlast h).2
          have hstep : rootN c (i + 1) = rootN c 1 := by
            rw [← hi3, rootN.eq_def c i, if_neg (fun h => he h.2), if_pos (by omega)]
          repeat (first | refine qa ?_ | refine qb ?_ | refine qc ?_ | refine qd ?_ | refine qe ?_ | refine qf ?_ | refine qg rfl ?_ | refine qh ?_ | refine qi ?_ | refine qj ?_ | refine qk ?_ | refine ql ?_ | refine qm ?_)
          refine hk_region fun K hK => runs_eval tab_ok ?_
          simp only [ev0, aops, xstep, guardA, opA, tab, binA, binInt, arith, unA, pickA, convA, allocA, boxA, loadA, storeA, fieldAddrA, fieldA, indexAddrA, lenA, lenS, sliceA, boundA, makeSliceA, elemsA, appendA, buildA, fillA, buildSliceA, partsA, extractA, builtinA, minmaxA, AV.cells, AV.isAgg, allP, mkAgg, hget, hset, isRow, cellOk, setC, after, dstOk, St.put, St.get, lk, St.ev, cv, PV.one, Int.reduceToNat, entry, ent, Nat.reduceAdd, Nat.reduceLT, Nat.reduceBEq, Nat.reduceEqDiff, Nat.reduceLeDiff, Nat.reduceMul, Nat.reduceSub, Int.cast_ofNat_Int, decide_true, decide_false, reduceCtorEq, BEq.rfl, beq_self_eq_true, bne_self_eq_false, ite_true, ite_false, if_true, if_false, reduceIte]
          refine fin_run ?_ (hK _ ?_) <;> clear hK <;> clear K
          · simp only [In64]; omega
          repeat (first | refine qa ?_ | refine qb ?_ | refine qc ?_ | refine qd ?_ | refine qe ?_ | refine qf ?_ | refine qg rfl ?_ | refine qh ?_ | refine qi ?_ | refine qj ?_ | refine qk ?_ | refine ql ?_ | refine qm ?_)
          refine ⟨i + 1, [0], ⟨by omega, by omega, hstep⟩, by omega, ?_⟩
          simp only [AV.p.injEq, AV.sl.injEq, AV.ptr.injEq, Blk.own.injEq, PV.int.injEq, PV.bool.injEq, PV.list.injEq, Nat.sub_zero, Int.natCast_add, List.length_append, take_take_len, take_app1, take_app2, Le, LeH, LeS, LeB, ren, ren1, scA, sc1, List.nodup_cons, List.nodup_nil, List.mem_cons, List.not_mem_nil, or_false, not_false_eq_true, ev0, aops, xstep, guardA, opA, tab, binA, binInt, arith, unA, pickA, convA, allocA, boxA, loadA, storeA, fieldAddrA, fieldA, indexAddrA, lenA, lenS, sliceA, boundA, makeSliceA, elemsA, appendA, buildA, fillA, buildSliceA, partsA, extractA, builtinA, minmaxA, AV.cells, AV.isAgg, allP, mkAgg, hget, hset, isRow, cellOk, setC, after, dstOk, St.put, St.get, lk, St.ev, cv, PV.one, Int.reduceToNat, entry, ent, Nat.reduceAdd, Nat.reduceLT, Nat.reduceBEq, Nat.reduceEqDiff, Nat.reduceLeDiff, Nat.reduceMul, Nat.reduceSub, Int.cast_ofNat_Int, decide_true, decide_false, reduceCtorEq, BEq.rfl, beq_self_eq_true, bne_self_eq_false, ite_true, ite_false, if_true, if_false, reduceIte] <;> omega



theorem coreN_0 : coreN [1, 2, 1, 2] 0 = 0 := by unfold coreN; simp
theorem rootN_0 : rootN [1, 2, 1, 2] 1 = 2 := by
  rw [rootN]; simp
  rw [rootN]; simp
theorem root_0 : rootS [1, 2, 1, 2] = ([1, 2], 2, (0, 0)) := by
  have h1 : short [1, 2, 1, 2] = [1, 2, 1, 2] := by decide
  have h2 : cut [1, 2, 1, 2] 0 = [1, 2, 1, 2] := by decide
  unfold rootS
  rw [h1, coreN_0, h2, rootN_0]
  decide

theorem begun_c : FnC Try.prog 4 [] (.bool true) := by
  refine fnc_of tab_ok Try.func4 rfl (by kernel_rfl) (by rw [Try.ntmps4]; exact Nat.le_add_left 0 _) ?_; rw [Try.ntmps4]; repeat (first | refine qa ?_ | refine qb ?_ | refine qc ?_ | refine qd ?_ | refine qe ?_ | refine qf ?_ | refine qg rfl ?_ | refine qh ?_ | refine qi ?_ | refine qj ?_ | refine qk ?_ | refine ql ?_ | refine qm ?_)
  (refine hk_region fun K hK => runs_eval tab_ok ?_); simp only [ev0, aops, xstep, guardA, opA, tab, binA, binInt, arith, unA, pickA, convA, allocA, boxA, loadA, storeA, fieldAddrA, fieldA, indexAddrA, lenA, lenS, sliceA, boundA, makeSliceA, elemsA, appendA, buildA, fillA, buildSliceA, partsA, extractA, builtinA, minmaxA, AV.cells, AV.isAgg, allP, mkAgg, hget, hset, isRow, cellOk, setC, after, dstOk, St.put, St.get, lk, St.ev, cv, PV.one, Int.reduceToNat, entry, ent, Nat.reduceAdd, Nat.reduceLT, Nat.reduceBEq, Nat.reduceEqDiff, Nat.reduceLeDiff, Nat.reduceMul, Nat.reduceSub, Int.cast_ofNat_Int, decide_true, decide_false, reduceCtorEq, BEq.rfl, beq_self_eq_true, bne_self_eq_false, ite_true, ite_false, if_true, if_false, reduceIte]; refine fin_run trivial (hK _ ?_) <;> clear hK <;> clear K; repeat (first | refine qa ?_ | refine qb ?_ | refine qc ?_ | refine qd ?_ | refine qe ?_ | refine qf ?_ | refine qg rfl ?_ | refine qh ?_ | refine qi ?_ | refine qj ?_ | refine qk ?_ | refine ql ?_ | refine qm ?_)
  refine hk_region fun K hK => runs_eval tab_ok ?_
  simp only [ev0, aops, xstep, guardA, opA, tab, binA, binInt, arith, unA, pickA, convA, allocA, boxA, loadA, storeA, fieldAddrA, fieldA, indexAddrA, lenA, lenS, sliceA, boundA, makeSliceA, elemsA, appendA, buildA, fillA, buildSliceA, partsA, extractA, builtinA, minmaxA, AV.cells, AV.isAgg, allP, mkAgg, hget, hset, isRow, cellOk, setC, after, dstOk, St.put, St.get, lk, St.ev, cv, PV.one, Int.reduceToNat, entry, ent, Nat.reduceAdd, Nat.reduceLT, Nat.reduceBEq, Nat.reduceEqDiff, Nat.reduceLeDiff, Nat.reduceMul, Nat.reduceSub, Int.cast_ofNat_Int, decide_true, decide_false, reduceCtorEq, BEq.rfl, beq_self_eq_true, bne_self_eq_false, ite_true, ite_false, if_true, if_false, reduceIte]
  refine fin_stop trivial (runs_call (FnC.sub (args' := [.nn (il [1, 2, 1, 2])]) (root_c [1, 2, 1, 2]) (And.intro (.nn _) trivial)) rfl rfl rfl (by simp only [dstOk, Nat.reduceLT]) (by repeat (first | exact trivial | constructor)) (runs_eval tab_ok ?_))
  rw [root_0]
  simp only [ev0, aops, xstep, guardA, opA, tab, binA, binInt, arith, unA, pickA, convA, allocA, boxA, loadA, storeA, fieldAddrA, fieldA, indexAddrA, lenA, lenS, sliceA, boundA, makeSliceA, elemsA, appendA, buildA, fillA, buildSliceA, partsA, extractA, builtinA, minmaxA, AV.cells, AV.isAgg, allP, mkAgg, hget, hset, isRow, cellOk, setC, after, dstOk, St.put, St.get, lk, St.ev, cv, PV.one, Int.reduceToNat, entry, ent, Nat.reduceAdd, Nat.reduceLT, Nat.reduceBEq, Nat.reduceEqDiff, Nat.reduceLeDiff, Nat.reduceMul, Nat.reduceSub, Int.cast_ofNat_Int, decide_true, decide_false, reduceCtorEq, BEq.rfl, beq_self_eq_true, bne_self_eq_false, ite_true, ite_false, if_true, if_false, reduceIte, fl]
  refine fin_run trivial (hK _ ?_) <;> clear hK <;> clear K
  repeat (first | refine qa ?_ | refine qb ?_ | refine qc ?_ | refine qd ?_ | refine qe ?_ | refine qf ?_ | refine qg rfl ?_ | refine qh ?_ | refine qi ?_ | refine qj ?_ | refine qk ?_ | refine ql ?_ | refine qm ?_)
  refine hk_region fun K hK => runs_eval tab_ok ?_
  simp only [ev0, aops, xstep, guardA, opA, tab, binA, binInt, arith, unA, pickA, convA, allocA, boxA, loadA, storeA, fieldAddrA, fieldA, indexAddrA, lenA, lenS, sliceA, boundA, makeSliceA, elemsA, appendA, buildA, fillA, buildSliceA, partsA, extractA, builtinA, minmaxA, AV.cells, AV.isAgg, allP, mkAgg, hget, hset, isRow, cellOk, setC, after, dstOk, St.put, St.get, lk, St.ev, cv, PV.one, Int.reduceToNat, entry, ent, Nat.reduceAdd, Nat.reduceLT, Nat.reduceBEq, Nat.reduceEqDiff, Nat.reduceLeDiff, Nat.reduceMul, Nat.reduceSub, Int.cast_ofNat_Int, decide_true, decide_false, reduceCtorEq, BEq.rfl, beq_self_eq_true, bne_self_eq_false, ite_true, ite_false, if_true, if_false, reduceIte]
  refine fin_stop trivial (runs_call (FnC.sub (args' := [.list (il [1, 2]), .nn (il [1, 2])]) (ints_c [1, 2] [1, 2] (by decide)) (And.intro (.same _) (And.intro (.nn _) trivial))) rfl rfl rfl (by simp only [dstOk, Nat.reduceLT]) (by repeat (first | exact trivial | constructor)) (runs_eval tab_ok ?_))
  simp only [ev0, aops, xstep, guardA, opA, tab, binA, binInt, arith, unA, pickA, convA, allocA, boxA, loadA, storeA, fieldAddrA, fieldA, indexAddrA, lenA, lenS, sliceA, boundA, makeSliceA, elemsA, appendA, buildA, fillA, buildSliceA, partsA, extractA, builtinA, minmaxA, AV.cells, AV.isAgg, allP, mkAgg, hget, hset, isRow, cellOk, setC, after, dstOk, St.put, St.get, lk, St.ev, cv, PV.one, Int.reduceToNat, entry, ent, Nat.reduceAdd, Nat.reduceLT, Nat.reduceBEq, Nat.reduceEqDiff, Nat.reduceLeDiff, Nat.reduceMul, Nat.reduceSub, Int.cast_ofNat_Int, decide_true, decide_false, reduceCtorEq, BEq.rfl, beq_self_eq_true, bne_self_eq_false, ite_true, ite_false, if_true, if_false, reduceIte]
  refine fin_run trivial (hK _ ?_) <;> clear hK <;> clear K
  repeat (first | refine qa ?_ | refine qb ?_ | refine qc ?_ | refine qd ?_ | refine qe ?_ | refine qf ?_ | refine qg rfl ?_ | refine qh ?_ | refine qi ?_ | refine qj ?_ | refine qk ?_ | refine ql ?_ | refine qm ?_)
  simp only [Try.results4, Post, endA, rvsA, rvA, mkTup, peekA, peekG, peekS, peekList, PV.norm, PV.norm1, PV.norm0, PV.list.injEq, PV.tup.injEq, PV.agg.injEq, PV.int.injEq, PV.bool.injEq, List.cons.injEq, ev0, aops, xstep, guardA, opA, tab, binA, binInt, arith, unA, pickA, convA, allocA, boxA, loadA, storeA, fieldAddrA, fieldA, indexAddrA, lenA, lenS, sliceA, boundA, makeSliceA, elemsA, appendA, buildA, fillA, buildSliceA, partsA, extractA, builtinA, minmaxA, AV.cells, AV.isAgg, allP, mkAgg, hget, hset, isRow, cellOk, setC, after, dstOk, St.put, St.get, lk, St.ev, cv, PV.one, Int.reduceToNat, entry, ent, Nat.reduceAdd, Nat.reduceLT, Nat.reduceBEq, Nat.reduceEqDiff, Nat.reduceLeDiff, Nat.reduceMul, Nat.reduceSub, Int.cast_ofNat_Int, decide_true, decide_false, reduceCtorEq, BEq.rfl, beq_self_eq_true, bne_self_eq_false, ite_true, ite_false, if_true, if_false, reduceIte]

end Go.Proofs.Ytpafmpcecgpfbaa
