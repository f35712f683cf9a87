/-
  Walks. Conditions: none.
-/
import Derived.Test.YthmgpgkfeknhgaaW4
set_option linter.all false
namespace Go.Proofs.Ythmgpgkfeknhgaa
open Go.Pv

theorem chk_sm : ∀ (w : List Int) (i : Nat), (chk i w).1 = 0 → Sm w
  | [], _, _ => fun x hx => by simp at hx
  | x :: r, i, h => by
    unfold chk at h
    split at h
    · simp at h
    · rename_i hn
      intro y hy
      rcases List.mem_cons.1 hy with rfl | hy
      · omega
      · exact chk_sm r (i + 1) h y hy
theorem check_sm {w : List Int} (h : (check w).1 = 0) : Sm w ∧ w.length ≤ 2000 := by
  unfold check at h
  split at h
  · simp at h
  · exact ⟨chk_sm w 0 h, by omega⟩
theorem allS_sm : ∀ {ls : List (List Int)}, (allS ls).1 = 0 → ∀ w ∈ ls, Sm w ∧ w.length ≤ 2000
  | [], _, w, hw => by simp at hw
  | v :: r, h, w, hw => by
    unfold allS at h
    split at h
    · rename_i hn; exact absurd h hn
    · rename_i hn
      rcases List.mem_cons.1 hw with rfl | hw
      · exact check_sm (by simpa using hn)
      · exact allS_sm h w hw
theorem chk_nz : ∀ (w : List Int) (i : Nat), (chk i w).1 = 0 → chk i w = (0, 0)
  | [], _, _ => rfl
  | x :: r, i, h => by
    unfold chk at h ⊢
    split at h
    · simp at h
    · rename_i hn; rw [if_neg hn]; exact chk_nz r (i + 1) h
theorem check_zero {w : List Int} (h : (check w).1 = 0) : check w = (0, 0) := by
  unfold check at h ⊢
  split at h
  · simp at h
  · rename_i hn; rw [if_neg hn]; exact chk_nz w 0 h
theorem Sm.app {v w : List Int} (hv : Sm v) (hw : Sm w) : Sm (v ++ w) := by
  intro x hx
  rcases List.mem_append.1 hx with h | h
  · exact hv x h
  · exact hw x h
theorem push_sm {o : List Int} {x : Int} (ho : Sm o) (hx : -26 ≤ x ∧ x ≤ 26) : Sm (push o x) := by
  unfold push
  split
  · exact fun y hy => ho y (List.mem_of_mem_take hy)
  · exact ho.app (fun y hy => by simp at hy; subst hy; exact hx)
theorem short_sm {w : List Int} (hw : Sm w) : Sm (short w) := by
  have : ∀ (w o : List Int), Sm w → Sm o → Sm (w.foldl push o) := by
    intro w
    induction w with
    | nil => intro o _ ho; exact ho
    | cons x r ih => intro o hw ho; exact ih (push o x) (fun y hy => hw y (by simp [hy])) (push_sm ho (hw x (by simp)))
  exact this w [] hw (fun y hy => by simp at hy)
theorem back_sm {w : List Int} (hw : Sm w) : Sm (back w) := by
  intro x hx
  obtain ⟨y, hy, rfl⟩ := List.mem_map.1 hx
  have := hw y (List.mem_reverse.1 hy)
  omega

def reduceS (w : List Int) : List Int × (Int × Int) := if (check w).1 ≠ 0 then ([], check w) else (short w, (0, 0))

theorem reduce_c (w : List Int) : FnC Try.prog 28 [.list (il w)] (.tup [.list (il (reduceS w).1), fl (reduceS w).2]) := by
  refine fnc_of tab_ok Try.func28 rfl (by kernel_rfl) (by rw [Try.ntmps28]; exact Nat.le_add_left 1 _) ?_; rw [Try.ntmps28]; repeat (first | refine thn_n ?_ | refine thn_r ?_ | refine thn_x ?_ | refine inb_n ?_ | refine inb_r ?_ | refine inb_x ?_ | refine inb_y rfl ?_ | refine hk_skip ?_ | refine hk_label ?_ | refine hk_exit ?_ | refine hk_ret ?_ | refine hk_block ?_ | refine hk_seq ?_)
  (refine hk_region fun K hK => runs_eval tab_ok ?_); simp only [ev0, aops, xstep, guardA, opA, tab, binA, binInt, arith, unA, pickA, convA, allocA, boxA, loadA, storeA, fieldAddrA, fieldA, indexAddrA, lenA, lenS, sliceA, boundA, makeSliceA, elemsA, appendA, buildA, fillA, buildSliceA, partsA, extractA, builtinA, minmaxA, AV.cells, AV.isAgg, allP, mkAgg, hget, hset, isRow, cellOk, setC, after, dstOk, St.put, St.get, lk, St.ev, cv, PV.one, Int.reduceToNat, entry, ent, Nat.reduceAdd, Nat.reduceLT, Nat.reduceBEq, Nat.reduceEqDiff, Nat.reduceLeDiff, Nat.reduceMul, Nat.reduceSub, Int.cast_ofNat_Int, decide_true, decide_false, reduceCtorEq, BEq.rfl, beq_self_eq_true, bne_self_eq_false, ite_true, ite_false, if_true, if_false, reduceIte]; refine fin_run trivial (hK _ ?_) <;> clear hK <;> clear K; repeat (first | refine thn_n ?_ | refine thn_r ?_ | refine thn_x ?_ | refine inb_n ?_ | refine inb_r ?_ | refine inb_x ?_ | refine inb_y rfl ?_ | refine hk_skip ?_ | refine hk_label ?_ | refine hk_exit ?_ | refine hk_ret ?_ | refine hk_block ?_ | refine hk_seq ?_)
  refine hk_region fun K hK => runs_eval tab_ok ?_
  simp only [ev0, aops, xstep, guardA, opA, tab, binA, binInt, arith, unA, pickA, convA, allocA, boxA, loadA, storeA, fieldAddrA, fieldA, indexAddrA, lenA, lenS, sliceA, boundA, makeSliceA, elemsA, appendA, buildA, fillA, buildSliceA, partsA, extractA, builtinA, minmaxA, AV.cells, AV.isAgg, allP, mkAgg, hget, hset, isRow, cellOk, setC, after, dstOk, St.put, St.get, lk, St.ev, cv, PV.one, Int.reduceToNat, entry, ent, Nat.reduceAdd, Nat.reduceLT, Nat.reduceBEq, Nat.reduceEqDiff, Nat.reduceLeDiff, Nat.reduceMul, Nat.reduceSub, Int.cast_ofNat_Int, decide_true, decide_false, reduceCtorEq, BEq.rfl, beq_self_eq_true, bne_self_eq_false, ite_true, ite_false, if_true, if_false, reduceIte]
  refine fin_stop trivial (runs_call (check_c w) rfl rfl rfl (by simp only [dstOk, Nat.reduceLT]) (by repeat (first | exact trivial | constructor)) (runs_eval tab_ok ?_))
  simp only [ev0, aops, xstep, guardA, opA, tab, binA, binInt, arith, unA, pickA, convA, allocA, boxA, loadA, storeA, fieldAddrA, fieldA, indexAddrA, lenA, lenS, sliceA, boundA, makeSliceA, elemsA, appendA, buildA, fillA, buildSliceA, partsA, extractA, builtinA, minmaxA, AV.cells, AV.isAgg, allP, mkAgg, hget, hset, isRow, cellOk, setC, after, dstOk, St.put, St.get, lk, St.ev, cv, PV.one, Int.reduceToNat, entry, ent, Nat.reduceAdd, Nat.reduceLT, Nat.reduceBEq, Nat.reduceEqDiff, Nat.reduceLeDiff, Nat.reduceMul, Nat.reduceSub, Int.cast_ofNat_Int, decide_true, decide_false, reduceCtorEq, BEq.rfl, beq_self_eq_true, bne_self_eq_false, ite_true, ite_false, if_true, if_false, reduceIte, fl]
  refine fin_run trivial (hK _ ?_) <;> clear hK <;> clear K
  repeat (first | refine thn_n ?_ | refine thn_r ?_ | refine thn_x ?_ | refine inb_n ?_ | refine inb_r ?_ | refine inb_x ?_ | refine inb_y rfl ?_ | refine hk_skip ?_ | refine hk_label ?_ | refine hk_exit ?_ | refine hk_ret ?_ | refine hk_block ?_ | refine hk_seq ?_)
  (refine hk_region fun K hK => runs_eval tab_ok ?_); simp only [ev0, aops, xstep, guardA, opA, tab, binA, binInt, arith, unA, pickA, convA, allocA, boxA, loadA, storeA, fieldAddrA, fieldA, indexAddrA, lenA, lenS, sliceA, boundA, makeSliceA, elemsA, appendA, buildA, fillA, buildSliceA, partsA, extractA, builtinA, minmaxA, AV.cells, AV.isAgg, allP, mkAgg, hget, hset, isRow, cellOk, setC, after, dstOk, St.put, St.get, lk, St.ev, cv, PV.one, Int.reduceToNat, entry, ent, Nat.reduceAdd, Nat.reduceLT, Nat.reduceBEq, Nat.reduceEqDiff, Nat.reduceLeDiff, Nat.reduceMul, Nat.reduceSub, Int.cast_ofNat_Int, decide_true, decide_false, reduceCtorEq, BEq.rfl, beq_self_eq_true, bne_self_eq_false, ite_true, ite_false, if_true, if_false, reduceIte]; refine fin_run trivial (hK _ ?_) <;> clear hK <;> clear K; repeat (first | refine thn_n ?_ | refine thn_r ?_ | refine thn_x ?_ | refine inb_n ?_ | refine inb_r ?_ | refine inb_x ?_ | refine inb_y rfl ?_ | refine hk_skip ?_ | refine hk_label ?_ | refine hk_exit ?_ | refine hk_ret ?_ | refine hk_block ?_ | refine hk_seq ?_)
  refine hk_cond rfl (fun hc => ?_) (fun hc => ?_)
  · have hc : (check w).1 ≠ 0 := by simpa using hc
    repeat (first | refine thn_n ?_ | refine thn_r ?_ | refine thn_x ?_ | refine inb_n ?_ | refine inb_r ?_ | refine inb_x ?_ | refine inb_y rfl ?_ | refine hk_skip ?_ | refine hk_label ?_ | refine hk_exit ?_ | refine hk_ret ?_ | refine hk_block ?_ | refine hk_seq ?_)
    refine hk_draw mixed (by kernel_rfl) fun K hK => runs_eval tab_ok ?_
    simp only [ev0, aops, xstep, guardA, opA, tab, binA, binInt, arith, unA, pickA, convA, allocA, boxA, loadA, storeA, fieldAddrA, fieldA, indexAddrA, lenA, lenS, sliceA, boundA, makeSliceA, elemsA, appendA, buildA, fillA, buildSliceA, partsA, extractA, builtinA, minmaxA, AV.cells, AV.isAgg, allP, mkAgg, hget, hset, isRow, cellOk, setC, after, dstOk, St.put, St.get, lk, St.ev, cv, PV.one, Int.reduceToNat, entry, ent, Nat.reduceAdd, Nat.reduceLT, Nat.reduceBEq, Nat.reduceEqDiff, Nat.reduceLeDiff, Nat.reduceMul, Nat.reduceSub, Int.cast_ofNat_Int, decide_true, decide_false, reduceCtorEq, BEq.rfl, beq_self_eq_true, bne_self_eq_false, ite_true, ite_false, if_true, if_false, reduceIte]
    refine fin_run trivial (hK _ ?_) <;> clear hK <;> clear K
    repeat (first | refine thn_n ?_ | refine thn_r ?_ | refine thn_x ?_ | refine inb_n ?_ | refine inb_r ?_ | refine inb_x ?_ | refine inb_y rfl ?_ | refine hk_skip ?_ | refine hk_label ?_ | refine hk_exit ?_ | refine hk_ret ?_ | refine hk_block ?_ | refine hk_seq ?_)
    simp only [Try.results28, Post, endA, rvsA, rvA, mkTup, peekA, peekG, peekS, peekList, PV.norm, PV.norm1, PV.norm0, PV.list.injEq, PV.tup.injEq, PV.agg.injEq, PV.int.injEq, PV.bool.injEq, List.cons.injEq, ev0, aops, xstep, guardA, opA, tab, binA, binInt, arith, unA, pickA, convA, allocA, boxA, loadA, storeA, fieldAddrA, fieldA, indexAddrA, lenA, lenS, sliceA, boundA, makeSliceA, elemsA, appendA, buildA, fillA, buildSliceA, partsA, extractA, builtinA, minmaxA, AV.cells, AV.isAgg, allP, mkAgg, hget, hset, isRow, cellOk, setC, after, dstOk, St.put, St.get, lk, St.ev, cv, PV.one, Int.reduceToNat, entry, ent, Nat.reduceAdd, Nat.reduceLT, Nat.reduceBEq, Nat.reduceEqDiff, Nat.reduceLeDiff, Nat.reduceMul, Nat.reduceSub, Int.cast_ofNat_Int, decide_true, decide_false, reduceCtorEq, BEq.rfl, beq_self_eq_true, bne_self_eq_false, ite_true, ite_false, if_true, if_false, reduceIte]
    rw [reduceS, if_pos hc]
    exact ⟨rfl, rfl⟩
  · have hc : (check w).1 = 0 := by simpa using hc
    obtain ⟨h1, h2⟩ := check_sm hc
    repeat (first | refine thn_n ?_ | refine thn_r ?_ | refine thn_x ?_ | refine inb_n ?_ | refine inb_r ?_ | refine inb_x ?_ | refine inb_y rfl ?_ | refine hk_skip ?_ | refine hk_label ?_ | refine hk_exit ?_ | refine hk_ret ?_ | refine hk_block ?_ | refine hk_seq ?_)
    refine hk_region fun K hK => runs_eval tab_ok ?_
    simp only [ev0, aops, xstep, guardA, opA, tab, binA, binInt, arith, unA, pickA, convA, allocA, boxA, loadA, storeA, fieldAddrA, fieldA, indexAddrA, lenA, lenS, sliceA, boundA, makeSliceA, elemsA, appendA, buildA, fillA, buildSliceA, partsA, extractA, builtinA, minmaxA, AV.cells, AV.isAgg, allP, mkAgg, hget, hset, isRow, cellOk, setC, after, dstOk, St.put, St.get, lk, St.ev, cv, PV.one, Int.reduceToNat, entry, ent, Nat.reduceAdd, Nat.reduceLT, Nat.reduceBEq, Nat.reduceEqDiff, Nat.reduceLeDiff, Nat.reduceMul, Nat.reduceSub, Int.cast_ofNat_Int, decide_true, decide_false, reduceCtorEq, BEq.rfl, beq_self_eq_true, bne_self_eq_false, ite_true, ite_false, if_true, if_false, reduceIte]
    refine fin_stop trivial (runs_call (short_c w (by omega) h1) rfl rfl rfl (by simp only [dstOk, Nat.reduceLT]) (by repeat (first | exact trivial | constructor)) (runs_eval tab_ok ?_))
    simp only [ev0, aops, xstep, guardA, opA, tab, binA, binInt, arith, unA, pickA, convA, allocA, boxA, loadA, storeA, fieldAddrA, fieldA, indexAddrA, lenA, lenS, sliceA, boundA, makeSliceA, elemsA, appendA, buildA, fillA, buildSliceA, partsA, extractA, builtinA, minmaxA, AV.cells, AV.isAgg, allP, mkAgg, hget, hset, isRow, cellOk, setC, after, dstOk, St.put, St.get, lk, St.ev, cv, PV.one, Int.reduceToNat, entry, ent, Nat.reduceAdd, Nat.reduceLT, Nat.reduceBEq, Nat.reduceEqDiff, Nat.reduceLeDiff, Nat.reduceMul, Nat.reduceSub, Int.cast_ofNat_Int, decide_true, decide_false, reduceCtorEq, BEq.rfl, beq_self_eq_true, bne_self_eq_false, ite_true, ite_false, if_true, if_false, reduceIte]
    refine fin_run trivial (hK _ ?_) <;> clear hK <;> clear K
    repeat (first | refine thn_n ?_ | refine thn_r ?_ | refine thn_x ?_ | refine inb_n ?_ | refine inb_r ?_ | refine inb_x ?_ | refine inb_y rfl ?_ | refine hk_skip ?_ | refine hk_label ?_ | refine hk_exit ?_ | refine hk_ret ?_ | refine hk_block ?_ | refine hk_seq ?_)
    simp only [Try.results28, Post, endA, rvsA, rvA, mkTup, peekA, peekG, peekS, peekList, PV.norm, PV.norm1, PV.norm0, PV.list.injEq, PV.tup.injEq, PV.agg.injEq, PV.int.injEq, PV.bool.injEq, List.cons.injEq, ev0, aops, xstep, guardA, opA, tab, binA, binInt, arith, unA, pickA, convA, allocA, boxA, loadA, storeA, fieldAddrA, fieldA, indexAddrA, lenA, lenS, sliceA, boundA, makeSliceA, elemsA, appendA, buildA, fillA, buildSliceA, partsA, extractA, builtinA, minmaxA, AV.cells, AV.isAgg, allP, mkAgg, hget, hset, isRow, cellOk, setC, after, dstOk, St.put, St.get, lk, St.ev, cv, PV.one, Int.reduceToNat, entry, ent, Nat.reduceAdd, Nat.reduceLT, Nat.reduceBEq, Nat.reduceEqDiff, Nat.reduceLeDiff, Nat.reduceMul, Nat.reduceSub, Int.cast_ofNat_Int, decide_true, decide_false, reduceCtorEq, BEq.rfl, beq_self_eq_true, bne_self_eq_false, ite_true, ite_false, if_true, if_false, reduceIte]
    rw [reduceS, if_neg (by simp [hc])]
    exact ⟨rfl, rfl⟩

def invS (w : List Int) : List Int × (Int × Int) := if (check w).1 ≠ 0 then ([], check w) else (short (back w), (0, 0))

theorem inv_c (w : List Int) : FnC Try.prog 25 [.list (il w)] (.tup [.list (il (invS w).1), fl (invS w).2]) := by
  refine fnc_of tab_ok Try.func25 rfl (by kernel_rfl) (by rw [Try.ntmps25]; exact Nat.le_add_left 1 _) ?_; rw [Try.ntmps25]; repeat (first | refine thn_n ?_ | refine thn_r ?_ | refine thn_x ?_ | refine inb_n ?_ | refine inb_r ?_ | refine inb_x ?_ | refine inb_y rfl ?_ | refine hk_skip ?_ | refine hk_label ?_ | refine hk_exit ?_ | refine hk_ret ?_ | refine hk_block ?_ | refine hk_seq ?_)
  (refine hk_region fun K hK => runs_eval tab_ok ?_); simp only [ev0, aops, xstep, guardA, opA, tab, binA, binInt, arith, unA, pickA, convA, allocA, boxA, loadA, storeA, fieldAddrA, fieldA, indexAddrA, lenA, lenS, sliceA, boundA, makeSliceA, elemsA, appendA, buildA, fillA, buildSliceA, partsA, extractA, builtinA, minmaxA, AV.cells, AV.isAgg, allP, mkAgg, hget, hset, isRow, cellOk, setC, after, dstOk, St.put, St.get, lk, St.ev, cv, PV.one, Int.reduceToNat, entry, ent, Nat.reduceAdd, Nat.reduceLT, Nat.reduceBEq, Nat.reduceEqDiff, Nat.reduceLeDiff, Nat.reduceMul, Nat.reduceSub, Int.cast_ofNat_Int, decide_true, decide_false, reduceCtorEq, BEq.rfl, beq_self_eq_true, bne_self_eq_false, ite_true, ite_false, if_true, if_false, reduceIte]; refine fin_run trivial (hK _ ?_) <;> clear hK <;> clear K; repeat (first | refine thn_n ?_ | refine thn_r ?_ | refine thn_x ?_ | refine inb_n ?_ | refine inb_r ?_ | refine inb_x ?_ | refine inb_y rfl ?_ | refine hk_skip ?_ | refine hk_label ?_ | refine hk_exit ?_ | refine hk_ret ?_ | refine hk_block ?_ | refine hk_seq ?_)
  refine hk_region fun K hK => runs_eval tab_ok ?_
  simp only [ev0, aops, xstep, guardA, opA, tab, binA, binInt, arith, unA, pickA, convA, allocA, boxA, loadA, storeA, fieldAddrA, fieldA, indexAddrA, lenA, lenS, sliceA, boundA, makeSliceA, elemsA, appendA, buildA, fillA, buildSliceA, partsA, extractA, builtinA, minmaxA, AV.cells, AV.isAgg, allP, mkAgg, hget, hset, isRow, cellOk, setC, after, dstOk, St.put, St.get, lk, St.ev, cv, PV.one, Int.reduceToNat, entry, ent, Nat.reduceAdd, Nat.reduceLT, Nat.reduceBEq, Nat.reduceEqDiff, Nat.reduceLeDiff, Nat.reduceMul, Nat.reduceSub, Int.cast_ofNat_Int, decide_true, decide_false, reduceCtorEq, BEq.rfl, beq_self_eq_true, bne_self_eq_false, ite_true, ite_false, if_true, if_false, reduceIte]
  refine fin_stop trivial (runs_call (check_c w) rfl rfl rfl (by simp only [dstOk, Nat.reduceLT]) (by repeat (first | exact trivial | constructor)) (runs_eval tab_ok ?_))
  simp only [ev0, aops, xstep, guardA, opA, tab, binA, binInt, arith, unA, pickA, convA, allocA, boxA, loadA, storeA, fieldAddrA, fieldA, indexAddrA, lenA, lenS, sliceA, boundA, makeSliceA, elemsA, appendA, buildA, fillA, buildSliceA, partsA, extractA, builtinA, minmaxA, AV.cells, AV.isAgg, allP, mkAgg, hget, hset, isRow, cellOk, setC, after, dstOk, St.put, St.get, lk, St.ev, cv, PV.one, Int.reduceToNat, entry, ent, Nat.reduceAdd, Nat.reduceLT, Nat.reduceBEq, Nat.reduceEqDiff, Nat.reduceLeDiff, Nat.reduceMul, Nat.reduceSub, Int.cast_ofNat_Int, decide_true, decide_false, reduceCtorEq, BEq.rfl, beq_self_eq_true, bne_self_eq_false, ite_true, ite_false, if_true, if_false, reduceIte, fl]
  refine fin_run trivial (hK _ ?_) <;> clear hK <;> clear K
  repeat (first | refine thn_n ?_ | refine thn_r ?_ | refine thn_x ?_ | refine inb_n ?_ | refine inb_r ?_ | refine inb_x ?_ | refine inb_y rfl ?_ | refine hk_skip ?_ | refine hk_label ?_ | refine hk_exit ?_ | refine hk_ret ?_ | refine hk_block ?_ | refine hk_seq ?_)
  (refine hk_region fun K hK => runs_eval tab_ok ?_); simp only [ev0, aops, xstep, guardA, opA, tab, binA, binInt, arith, unA, pickA, convA, allocA, boxA, loadA, storeA, fieldAddrA, fieldA, indexAddrA, lenA, lenS, sliceA, boundA, makeSliceA, elemsA, appendA, buildA, fillA, buildSliceA, partsA, extractA, builtinA, minmaxA, AV.cells, AV.isAgg, allP, mkAgg, hget, hset, isRow, cellOk, setC, after, dstOk, St.put, St.get, lk, St.ev, cv, PV.one, Int.reduceToNat, entry, ent, Nat.reduceAdd, Nat.reduceLT, Nat.reduceBEq, Nat.reduceEqDiff, Nat.reduceLeDiff, Nat.reduceMul, Nat.reduceSub, Int.cast_ofNat_Int, decide_true, decide_false, reduceCtorEq, BEq.rfl, beq_self_eq_true, bne_self_eq_false, ite_true, ite_false, if_true, if_false, reduceIte]; refine fin_run trivial (hK _ ?_) <;> clear hK <;> clear K; repeat (first | refine thn_n ?_ | refine thn_r ?_ | refine thn_x ?_ | refine inb_n ?_ | refine inb_r ?_ | refine inb_x ?_ | refine inb_y rfl ?_ | refine hk_skip ?_ | refine hk_label ?_ | refine hk_exit ?_ | refine hk_ret ?_ | refine hk_block ?_ | refine hk_seq ?_)
  refine hk_cond rfl (fun hc => ?_) (fun hc => ?_)
  · have hc : (check w).1 ≠ 0 := by simpa using hc
    repeat (first | refine thn_n ?_ | refine thn_r ?_ | refine thn_x ?_ | refine inb_n ?_ | refine inb_r ?_ | refine inb_x ?_ | refine inb_y rfl ?_ | refine hk_skip ?_ | refine hk_label ?_ | refine hk_exit ?_ | refine hk_ret ?_ | refine hk_block ?_ | refine hk_seq ?_)
    refine hk_draw mixed (by kernel_rfl) fun K hK => runs_eval tab_ok ?_
    simp only [ev0, aops, xstep, guardA, opA, tab, binA, binInt, arith, unA, pickA, convA, allocA, boxA, loadA, storeA, fieldAddrA, fieldA, indexAddrA, lenA, lenS, sliceA, boundA, makeSliceA, elemsA, appendA, buildA, fillA, buildSliceA, partsA, extractA, builtinA, minmaxA, AV.cells, AV.isAgg, allP, mkAgg, hget, hset, isRow, cellOk, setC, after, dstOk, St.put, St.get, lk, St.ev, cv, PV.one, Int.reduceToNat, entry, ent, Nat.reduceAdd, Nat.reduceLT, Nat.reduceBEq, Nat.reduceEqDiff, Nat.reduceLeDiff, Nat.reduceMul, Nat.reduceSub, Int.cast_ofNat_Int, decide_true, decide_false, reduceCtorEq, BEq.rfl, beq_self_eq_true, bne_self_eq_false, ite_true, ite_false, if_true, if_false, reduceIte]
    refine fin_run trivial (hK _ ?_) <;> clear hK <;> clear K
    repeat (first | refine thn_n ?_ | refine thn_r ?_ | refine thn_x ?_ | refine inb_n ?_ | refine inb_r ?_ | refine inb_x ?_ | refine inb_y rfl ?_ | refine hk_skip ?_ | refine hk_label ?_ | refine hk_exit ?_ | refine hk_ret ?_ | refine hk_block ?_ | refine hk_seq ?_)
    simp only [Try.results25, Post, endA, rvsA, rvA, mkTup, peekA, peekG, peekS, peekList, PV.norm, PV.norm1, PV.norm0, PV.list.injEq, PV.tup.injEq, PV.agg.injEq, PV.int.injEq, PV.bool.injEq, List.cons.injEq, ev0, aops, xstep, guardA, opA, tab, binA, binInt, arith, unA, pickA, convA, allocA, boxA, loadA, storeA, fieldAddrA, fieldA, indexAddrA, lenA, lenS, sliceA, boundA, makeSliceA, elemsA, appendA, buildA, fillA, buildSliceA, partsA, extractA, builtinA, minmaxA, AV.cells, AV.isAgg, allP, mkAgg, hget, hset, isRow, cellOk, setC, after, dstOk, St.put, St.get, lk, St.ev, cv, PV.one, Int.reduceToNat, entry, ent, Nat.reduceAdd, Nat.reduceLT, Nat.reduceBEq, Nat.reduceEqDiff, Nat.reduceLeDiff, Nat.reduceMul, Nat.reduceSub, Int.cast_ofNat_Int, decide_true, decide_false, reduceCtorEq, BEq.rfl, beq_self_eq_true, bne_self_eq_false, ite_true, ite_false, if_true, if_false, reduceIte]
    rw [invS, if_pos hc]
    exact ⟨rfl, rfl⟩
  · have hc : (check w).1 = 0 := by simpa using hc
    obtain ⟨h1, h2⟩ := check_sm hc
    repeat (first | refine thn_n ?_ | refine thn_r ?_ | refine thn_x ?_ | refine inb_n ?_ | refine inb_r ?_ | refine inb_x ?_ | refine inb_y rfl ?_ | refine hk_skip ?_ | refine hk_label ?_ | refine hk_exit ?_ | refine hk_ret ?_ | refine hk_block ?_ | refine hk_seq ?_)
    refine hk_region fun K hK => runs_eval tab_ok ?_
    simp only [ev0, aops, xstep, guardA, opA, tab, binA, binInt, arith, unA, pickA, convA, allocA, boxA, loadA, storeA, fieldAddrA, fieldA, indexAddrA, lenA, lenS, sliceA, boundA, makeSliceA, elemsA, appendA, buildA, fillA, buildSliceA, partsA, extractA, builtinA, minmaxA, AV.cells, AV.isAgg, allP, mkAgg, hget, hset, isRow, cellOk, setC, after, dstOk, St.put, St.get, lk, St.ev, cv, PV.one, Int.reduceToNat, entry, ent, Nat.reduceAdd, Nat.reduceLT, Nat.reduceBEq, Nat.reduceEqDiff, Nat.reduceLeDiff, Nat.reduceMul, Nat.reduceSub, Int.cast_ofNat_Int, decide_true, decide_false, reduceCtorEq, BEq.rfl, beq_self_eq_true, bne_self_eq_false, ite_true, ite_false, if_true, if_false, reduceIte]
    refine fin_stop trivial (runs_call (back_c w (by omega) h1) rfl rfl rfl (by simp only [dstOk, Nat.reduceLT]) (by repeat (first | exact trivial | constructor)) (runs_eval tab_ok ?_))
    simp only [ev0, aops, xstep, guardA, opA, tab, binA, binInt, arith, unA, pickA, convA, allocA, boxA, loadA, storeA, fieldAddrA, fieldA, indexAddrA, lenA, lenS, sliceA, boundA, makeSliceA, elemsA, appendA, buildA, fillA, buildSliceA, partsA, extractA, builtinA, minmaxA, AV.cells, AV.isAgg, allP, mkAgg, hget, hset, isRow, cellOk, setC, after, dstOk, St.put, St.get, lk, St.ev, cv, PV.one, Int.reduceToNat, entry, ent, Nat.reduceAdd, Nat.reduceLT, Nat.reduceBEq, Nat.reduceEqDiff, Nat.reduceLeDiff, Nat.reduceMul, Nat.reduceSub, Int.cast_ofNat_Int, decide_true, decide_false, reduceCtorEq, BEq.rfl, beq_self_eq_true, bne_self_eq_false, ite_true, ite_false, if_true, if_false, reduceIte]
    refine fin_stop trivial (runs_call (short_c (back w) (by simp [back]; omega) (back_sm h1)) rfl rfl rfl (by simp only [dstOk, Nat.reduceLT]) (by repeat (first | exact trivial | constructor)) (runs_eval tab_ok ?_))
    simp only [ev0, aops, xstep, guardA, opA, tab, binA, binInt, arith, unA, pickA, convA, allocA, boxA, loadA, storeA, fieldAddrA, fieldA, indexAddrA, lenA, lenS, sliceA, boundA, makeSliceA, elemsA, appendA, buildA, fillA, buildSliceA, partsA, extractA, builtinA, minmaxA, AV.cells, AV.isAgg, allP, mkAgg, hget, hset, isRow, cellOk, setC, after, dstOk, St.put, St.get, lk, St.ev, cv, PV.one, Int.reduceToNat, entry, ent, Nat.reduceAdd, Nat.reduceLT, Nat.reduceBEq, Nat.reduceEqDiff, Nat.reduceLeDiff, Nat.reduceMul, Nat.reduceSub, Int.cast_ofNat_Int, decide_true, decide_false, reduceCtorEq, BEq.rfl, beq_self_eq_true, bne_self_eq_false, ite_true, ite_false, if_true, if_false, reduceIte]
    refine fin_run trivial (hK _ ?_) <;> clear hK <;> clear K
    repeat (first | refine thn_n ?_ | refine thn_r ?_ | refine thn_x ?_ | refine inb_n ?_ | refine inb_r ?_ | refine inb_x ?_ | refine inb_y rfl ?_ | refine hk_skip ?_ | refine hk_label ?_ | refine hk_exit ?_ | refine hk_ret ?_ | refine hk_block ?_ | refine hk_seq ?_)
    simp only [Try.results25, Post, endA, rvsA, rvA, mkTup, peekA, peekG, peekS, peekList, PV.norm, PV.norm1, PV.norm0, PV.list.injEq, PV.tup.injEq, PV.agg.injEq, PV.int.injEq, PV.bool.injEq, List.cons.injEq, ev0, aops, xstep, guardA, opA, tab, binA, binInt, arith, unA, pickA, convA, allocA, boxA, loadA, storeA, fieldAddrA, fieldA, indexAddrA, lenA, lenS, sliceA, boundA, makeSliceA, elemsA, appendA, buildA, fillA, buildSliceA, partsA, extractA, builtinA, minmaxA, AV.cells, AV.isAgg, allP, mkAgg, hget, hset, isRow, cellOk, setC, after, dstOk, St.put, St.get, lk, St.ev, cv, PV.one, Int.reduceToNat, entry, ent, Nat.reduceAdd, Nat.reduceLT, Nat.reduceBEq, Nat.reduceEqDiff, Nat.reduceLeDiff, Nat.reduceMul, Nat.reduceSub, Int.cast_ofNat_Int, decide_true, decide_false, reduceCtorEq, BEq.rfl, beq_self_eq_true, bne_self_eq_false, ite_true, ite_false, if_true, if_false, reduceIte]
    rw [invS, if_neg (by simp [hc])]
    exact ⟨rfl, rfl⟩

def mulS (v w : List Int) : List Int × (Int × Int) := if (allS [v, w]).1 ≠ 0 then ([], allS [v, w]) else (short (v ++ w), (0, 0))

theorem cat2 (v w : List Int) : [v, w].flatten = v ++ w := by simp

theorem mul_c (v w : List Int) : FnC Try.prog 27 [.list (il v), .list (il w)] (.tup [.list (il (mulS v w).1), fl (mulS v w).2]) := by
  refine fnc_of tab_ok Try.func27 rfl (by kernel_rfl) (by rw [Try.ntmps27]; exact Nat.le_add_left 2 _) ?_; rw [Try.ntmps27]; repeat (first | refine thn_n ?_ | refine thn_r ?_ | refine thn_x ?_ | refine inb_n ?_ | refine inb_r ?_ | refine inb_x ?_ | refine inb_y rfl ?_ | refine hk_skip ?_ | refine hk_label ?_ | refine hk_exit ?_ | refine hk_ret ?_ | refine hk_block ?_ | refine hk_seq ?_)
  (refine hk_region fun K hK => runs_eval tab_ok ?_); simp only [ev0, aops, xstep, guardA, opA, tab, binA, binInt, arith, unA, pickA, convA, allocA, boxA, loadA, storeA, fieldAddrA, fieldA, indexAddrA, lenA, lenS, sliceA, boundA, makeSliceA, elemsA, appendA, buildA, fillA, buildSliceA, partsA, extractA, builtinA, minmaxA, AV.cells, AV.isAgg, allP, mkAgg, hget, hset, isRow, cellOk, setC, after, dstOk, St.put, St.get, lk, St.ev, cv, PV.one, Int.reduceToNat, entry, ent, Nat.reduceAdd, Nat.reduceLT, Nat.reduceBEq, Nat.reduceEqDiff, Nat.reduceLeDiff, Nat.reduceMul, Nat.reduceSub, Int.cast_ofNat_Int, decide_true, decide_false, reduceCtorEq, BEq.rfl, beq_self_eq_true, bne_self_eq_false, ite_true, ite_false, if_true, if_false, reduceIte]; refine fin_run trivial (hK _ ?_) <;> clear hK <;> clear K; repeat (first | refine thn_n ?_ | refine thn_r ?_ | refine thn_x ?_ | refine inb_n ?_ | refine inb_r ?_ | refine inb_x ?_ | refine inb_y rfl ?_ | refine hk_skip ?_ | refine hk_label ?_ | refine hk_exit ?_ | refine hk_ret ?_ | refine hk_block ?_ | refine hk_seq ?_)
  refine hk_region fun K hK => runs_eval tab_ok ?_
  simp only [ev0, aops, xstep, guardA, opA, tab, binA, binInt, arith, unA, pickA, convA, allocA, boxA, loadA, storeA, fieldAddrA, fieldA, indexAddrA, lenA, lenS, sliceA, boundA, makeSliceA, elemsA, appendA, buildA, fillA, buildSliceA, partsA, extractA, builtinA, minmaxA, AV.cells, AV.isAgg, allP, mkAgg, hget, hset, isRow, cellOk, setC, after, dstOk, St.put, St.get, lk, St.ev, cv, PV.one, Int.reduceToNat, entry, ent, Nat.reduceAdd, Nat.reduceLT, Nat.reduceBEq, Nat.reduceEqDiff, Nat.reduceLeDiff, Nat.reduceMul, Nat.reduceSub, Int.cast_ofNat_Int, decide_true, decide_false, reduceCtorEq, BEq.rfl, beq_self_eq_true, bne_self_eq_false, ite_true, ite_false, if_true, if_false, reduceIte]
  refine fin_stop trivial (runs_call (all_c [v, w] (by simp)) rfl rfl rfl (by simp only [dstOk, Nat.reduceLT]) (by repeat (first | exact trivial | constructor)) (runs_eval tab_ok ?_))
  simp only [ev0, aops, xstep, guardA, opA, tab, binA, binInt, arith, unA, pickA, convA, allocA, boxA, loadA, storeA, fieldAddrA, fieldA, indexAddrA, lenA, lenS, sliceA, boundA, makeSliceA, elemsA, appendA, buildA, fillA, buildSliceA, partsA, extractA, builtinA, minmaxA, AV.cells, AV.isAgg, allP, mkAgg, hget, hset, isRow, cellOk, setC, after, dstOk, St.put, St.get, lk, St.ev, cv, PV.one, Int.reduceToNat, entry, ent, Nat.reduceAdd, Nat.reduceLT, Nat.reduceBEq, Nat.reduceEqDiff, Nat.reduceLeDiff, Nat.reduceMul, Nat.reduceSub, Int.cast_ofNat_Int, decide_true, decide_false, reduceCtorEq, BEq.rfl, beq_self_eq_true, bne_self_eq_false, ite_true, ite_false, if_true, if_false, reduceIte, fl]
  refine fin_run trivial (hK _ ?_) <;> clear hK <;> clear K
  repeat (first | refine thn_n ?_ | refine thn_r ?_ | refine thn_x ?_ | refine inb_n ?_ | refine inb_r ?_ | refine inb_x ?_ | refine inb_y rfl ?_ | refine hk_skip ?_ | refine hk_label ?_ | refine hk_exit ?_ | refine hk_ret ?_ | refine hk_block ?_ | refine hk_seq ?_)
  (refine hk_region fun K hK => runs_eval tab_ok ?_); simp only [ev0, aops, xstep, guardA, opA, tab, binA, binInt, arith, unA, pickA, convA, allocA, boxA, loadA, storeA, fieldAddrA, fieldA, indexAddrA, lenA, lenS, sliceA, boundA, makeSliceA, elemsA, appendA, buildA, fillA, buildSliceA, partsA, extractA, builtinA, minmaxA, AV.cells, AV.isAgg, allP, mkAgg, hget, hset, isRow, cellOk, setC, after, dstOk, St.put, St.get, lk, St.ev, cv, PV.one, Int.reduceToNat, entry, ent, Nat.reduceAdd, Nat.reduceLT, Nat.reduceBEq, Nat.reduceEqDiff, Nat.reduceLeDiff, Nat.reduceMul, Nat.reduceSub, Int.cast_ofNat_Int, decide_true, decide_false, reduceCtorEq, BEq.rfl, beq_self_eq_true, bne_self_eq_false, ite_true, ite_false, if_true, if_false, reduceIte]; refine fin_run trivial (hK _ ?_) <;> clear hK <;> clear K; repeat (first | refine thn_n ?_ | refine thn_r ?_ | refine thn_x ?_ | refine inb_n ?_ | refine inb_r ?_ | refine inb_x ?_ | refine inb_y rfl ?_ | refine hk_skip ?_ | refine hk_label ?_ | refine hk_exit ?_ | refine hk_ret ?_ | refine hk_block ?_ | refine hk_seq ?_)
  refine hk_cond rfl (fun hc => ?_) (fun hc => ?_)
  · have hc : (allS [v, w]).1 ≠ 0 := by simpa using hc
    repeat (first | refine thn_n ?_ | refine thn_r ?_ | refine thn_x ?_ | refine inb_n ?_ | refine inb_r ?_ | refine inb_x ?_ | refine inb_y rfl ?_ | refine hk_skip ?_ | refine hk_label ?_ | refine hk_exit ?_ | refine hk_ret ?_ | refine hk_block ?_ | refine hk_seq ?_)
    refine hk_draw mixed (by kernel_rfl) fun K hK => runs_eval tab_ok ?_
    simp only [ev0, aops, xstep, guardA, opA, tab, binA, binInt, arith, unA, pickA, convA, allocA, boxA, loadA, storeA, fieldAddrA, fieldA, indexAddrA, lenA, lenS, sliceA, boundA, makeSliceA, elemsA, appendA, buildA, fillA, buildSliceA, partsA, extractA, builtinA, minmaxA, AV.cells, AV.isAgg, allP, mkAgg, hget, hset, isRow, cellOk, setC, after, dstOk, St.put, St.get, lk, St.ev, cv, PV.one, Int.reduceToNat, entry, ent, Nat.reduceAdd, Nat.reduceLT, Nat.reduceBEq, Nat.reduceEqDiff, Nat.reduceLeDiff, Nat.reduceMul, Nat.reduceSub, Int.cast_ofNat_Int, decide_true, decide_false, reduceCtorEq, BEq.rfl, beq_self_eq_true, bne_self_eq_false, ite_true, ite_false, if_true, if_false, reduceIte]
    refine fin_run trivial (hK _ ?_) <;> clear hK <;> clear K
    repeat (first | refine thn_n ?_ | refine thn_r ?_ | refine thn_x ?_ | refine inb_n ?_ | refine inb_r ?_ | refine inb_x ?_ | refine inb_y rfl ?_ | refine hk_skip ?_ | refine hk_label ?_ | refine hk_exit ?_ | refine hk_ret ?_ | refine hk_block ?_ | refine hk_seq ?_)
    simp only [Try.results27, Post, endA, rvsA, rvA, mkTup, peekA, peekG, peekS, peekList, PV.norm, PV.norm1, PV.norm0, PV.list.injEq, PV.tup.injEq, PV.agg.injEq, PV.int.injEq, PV.bool.injEq, List.cons.injEq, ev0, aops, xstep, guardA, opA, tab, binA, binInt, arith, unA, pickA, convA, allocA, boxA, loadA, storeA, fieldAddrA, fieldA, indexAddrA, lenA, lenS, sliceA, boundA, makeSliceA, elemsA, appendA, buildA, fillA, buildSliceA, partsA, extractA, builtinA, minmaxA, AV.cells, AV.isAgg, allP, mkAgg, hget, hset, isRow, cellOk, setC, after, dstOk, St.put, St.get, lk, St.ev, cv, PV.one, Int.reduceToNat, entry, ent, Nat.reduceAdd, Nat.reduceLT, Nat.reduceBEq, Nat.reduceEqDiff, Nat.reduceLeDiff, Nat.reduceMul, Nat.reduceSub, Int.cast_ofNat_Int, decide_true, decide_false, reduceCtorEq, BEq.rfl, beq_self_eq_true, bne_self_eq_false, ite_true, ite_false, if_true, if_false, reduceIte]
    rw [mulS, if_pos hc]
    exact ⟨rfl, rfl⟩
  · have hc : (allS [v, w]).1 = 0 := by simpa using hc
    obtain ⟨h1, h2⟩ := allS_sm hc v (by simp)
    obtain ⟨h3, h4⟩ := allS_sm hc w (by simp)
    repeat (first | refine thn_n ?_ | refine thn_r ?_ | refine thn_x ?_ | refine inb_n ?_ | refine inb_r ?_ | refine inb_x ?_ | refine inb_y rfl ?_ | refine hk_skip ?_ | refine hk_label ?_ | refine hk_exit ?_ | refine hk_ret ?_ | refine hk_block ?_ | refine hk_seq ?_)
    refine hk_region fun K hK => runs_eval tab_ok ?_
    simp only [ev0, aops, xstep, guardA, opA, tab, binA, binInt, arith, unA, pickA, convA, allocA, boxA, loadA, storeA, fieldAddrA, fieldA, indexAddrA, lenA, lenS, sliceA, boundA, makeSliceA, elemsA, appendA, buildA, fillA, buildSliceA, partsA, extractA, builtinA, minmaxA, AV.cells, AV.isAgg, allP, mkAgg, hget, hset, isRow, cellOk, setC, after, dstOk, St.put, St.get, lk, St.ev, cv, PV.one, Int.reduceToNat, entry, ent, Nat.reduceAdd, Nat.reduceLT, Nat.reduceBEq, Nat.reduceEqDiff, Nat.reduceLeDiff, Nat.reduceMul, Nat.reduceSub, Int.cast_ofNat_Int, decide_true, decide_false, reduceCtorEq, BEq.rfl, beq_self_eq_true, bne_self_eq_false, ite_true, ite_false, if_true, if_false, reduceIte]
    refine fin_stop trivial (runs_call (concat_c [v, w] (by rw [cat2]; simp; omega) (by simp)) rfl rfl rfl (by simp only [dstOk, Nat.reduceLT]) (by repeat (first | exact trivial | constructor)) (runs_eval tab_ok ?_))
    rw [cat2]
    simp only [ev0, aops, xstep, guardA, opA, tab, binA, binInt, arith, unA, pickA, convA, allocA, boxA, loadA, storeA, fieldAddrA, fieldA, indexAddrA, lenA, lenS, sliceA, boundA, makeSliceA, elemsA, appendA, buildA, fillA, buildSliceA, partsA, extractA, builtinA, minmaxA, AV.cells, AV.isAgg, allP, mkAgg, hget, hset, isRow, cellOk, setC, after, dstOk, St.put, St.get, lk, St.ev, cv, PV.one, Int.reduceToNat, entry, ent, Nat.reduceAdd, Nat.reduceLT, Nat.reduceBEq, Nat.reduceEqDiff, Nat.reduceLeDiff, Nat.reduceMul, Nat.reduceSub, Int.cast_ofNat_Int, decide_true, decide_false, reduceCtorEq, BEq.rfl, beq_self_eq_true, bne_self_eq_false, ite_true, ite_false, if_true, if_false, reduceIte]
    refine fin_stop trivial (runs_call (short_c (v ++ w) (by simp; omega) (h1.app h3)) rfl rfl rfl (by simp only [dstOk, Nat.reduceLT]) (by repeat (first | exact trivial | constructor)) (runs_eval tab_ok ?_))
    simp only [ev0, aops, xstep, guardA, opA, tab, binA, binInt, arith, unA, pickA, convA, allocA, boxA, loadA, storeA, fieldAddrA, fieldA, indexAddrA, lenA, lenS, sliceA, boundA, makeSliceA, elemsA, appendA, buildA, fillA, buildSliceA, partsA, extractA, builtinA, minmaxA, AV.cells, AV.isAgg, allP, mkAgg, hget, hset, isRow, cellOk, setC, after, dstOk, St.put, St.get, lk, St.ev, cv, PV.one, Int.reduceToNat, entry, ent, Nat.reduceAdd, Nat.reduceLT, Nat.reduceBEq, Nat.reduceEqDiff, Nat.reduceLeDiff, Nat.reduceMul, Nat.reduceSub, Int.cast_ofNat_Int, decide_true, decide_false, reduceCtorEq, BEq.rfl, beq_self_eq_true, bne_self_eq_false, ite_true, ite_false, if_true, if_false, reduceIte]
    refine fin_run trivial (hK _ ?_) <;> clear hK <;> clear K
    repeat (first | refine thn_n ?_ | refine thn_r ?_ | refine thn_x ?_ | refine inb_n ?_ | refine inb_r ?_ | refine inb_x ?_ | refine inb_y rfl ?_ | refine hk_skip ?_ | refine hk_label ?_ | refine hk_exit ?_ | refine hk_ret ?_ | refine hk_block ?_ | refine hk_seq ?_)
    simp only [Try.results27, Post, endA, rvsA, rvA, mkTup, peekA, peekG, peekS, peekList, PV.norm, PV.norm1, PV.norm0, PV.list.injEq, PV.tup.injEq, PV.agg.injEq, PV.int.injEq, PV.bool.injEq, List.cons.injEq, ev0, aops, xstep, guardA, opA, tab, binA, binInt, arith, unA, pickA, convA, allocA, boxA, loadA, storeA, fieldAddrA, fieldA, indexAddrA, lenA, lenS, sliceA, boundA, makeSliceA, elemsA, appendA, buildA, fillA, buildSliceA, partsA, extractA, builtinA, minmaxA, AV.cells, AV.isAgg, allP, mkAgg, hget, hset, isRow, cellOk, setC, after, dstOk, St.put, St.get, lk, St.ev, cv, PV.one, Int.reduceToNat, entry, ent, Nat.reduceAdd, Nat.reduceLT, Nat.reduceBEq, Nat.reduceEqDiff, Nat.reduceLeDiff, Nat.reduceMul, Nat.reduceSub, Int.cast_ofNat_Int, decide_true, decide_false, reduceCtorEq, BEq.rfl, beq_self_eq_true, bne_self_eq_false, ite_true, ite_false, if_true, if_false, reduceIte]
    rw [mulS, if_neg (by simp [hc])]
    exact ⟨rfl, rfl⟩
end Go.Proofs.Ythmgpgkfeknhgaa
